/- Texts of the proof, laid together: Am22, Am23, Am24, Am25, Am26, Am27, Am28, Am29, Am30, Am31, AmX, AmS, AmW. -/
import Derived.Below
import Derived.ChangeSlices
import Derived.Carry
import GoSem.Extern.Table
import Derived.Laws.World
import Derived.Test.YthlhdniejglcnaaGreatDoorlawPR3
set_option linter.all false
section
/- The abstract machine,part 22: results,calls;a call that ends well here ends well in the model. -/
set_option linter.unusedSimpArgs false
set_option linter.unusedVariables false
set_option maxHeartbeats 1000000
namespace Go.Am
variable {h h':aA} {μ μ':Mu} {w w':World} {P:Program} {M M':Mem}
variable {gl:Nat→Option PV} {nt:Nat} {M0:Mem} {h0:aA} {μ0:Mu} {e:List (Nat × AV)} {x:Esc} {a:Act}
def SE (P:Program):List ARes→List ResultVar→Bool
 | [],[]=>true
 | .t n::r,.tmp m::s=>n==m&&SE P r s
 | .cell n sh::r,.cell m t::s=>n==m&&lB P t==some sh&&SE P r s
 | _,_=>false
def kR (tmps:Array Value):ResultVar→Sem Value
 | .tmp t=>pure (tmps.getD t undef)
 | .cell a t=>do loadVar t (←asAddr (tmps.getD a undef))
theorem z55 {s:St}(H:HeapRel s.h μ w)(he:∀ t,RAV (imm s.h μ w) s.h μ (eA s.env t) (a.tmps.getD t undef)):∀{rs:List ARes} {qs:List ResultVar} {vs:List AV},SE P rs qs=true→qF s rs=some vs →
 ∃us,(qs.mapM (kR a.tmps)).run P w = .ok us w∧vs.length=us.length∧∀(j:Nat) (y:AV) (v:Value),vs[j]?=some y→us[j]?=some v→RAV (imm s.h μ w) s.h μ y v
 | [],[],vs,_,hv=>by
  simp [qF]at hv;subst hv;exact⟨[],by simp,rfl,fun j y v h1 h2=>by simp at h1⟩
 | [],_::_,_,hc,_=>by simp [SE]at hc
 | .t n::r,[],_,hc,_=>by simp [SE]at hc
 | .cell n sh::r,[],_,hc,_=>by simp [SE]at hc
 | .t n::r,.cell _ _::q,_,hc,_=>by simp [SE]at hc
 | .cell n sh::r,.tmp _::q,_,hc,_=>by simp [SE]at hc
 | .t n::r,.tmp m::q,vs,hc,hv=>by
  simp only[SE,Bool.and_eq_true,beq_iff_eq]at hc;obtain⟨rfl,hc⟩:=hc;simp only[qF,ares]at hv;simp only[Option.map_eq_some_iff]at hv;obtain⟨l,hl,rfl⟩:=hv;obtain⟨us,h1,h2,h3⟩:=z55 H he hc hl;refine⟨a.tmps.getD n undef::us,by simp [kR,h1],by simp [h2],fun j y v hy hv=>?_⟩
  cases j with
  | zero=>simp at hy hv;subst hy;subst hv;simpa using he n
  | succ j=>exact h3 j y v (by simpa using hy) (by simpa using hv)
 | .cell n sh::r,.cell m t::q,vs,hc,hv=>by
  simp only[SE,Bool.and_eq_true,beq_iff_eq]at hc;obtain⟨⟨rfl,hs⟩,hc⟩:=hc;simp only[qF]at hv;split at hv
  ·rename_i u hu
   simp only[Option.map_eq_some_iff]at hv;obtain⟨l,hl,rfl⟩:=hv;obtain⟨us,h1,h2,h3⟩:=z55 H he hc hl;simp only[ares]at hu;split at hu
   ·rename_i id off hr
    split at hu
    ·rename_i cs ho
     have hR:=he n
     rw[hr]at hR;generalize hz:a.tmps.getD n undef=z at hR;cases hR with|ref _ _ b k cs' ho' hm=>
     obtain⟨b',c,hm',hb,hcell⟩:=H.obj _ _ _ ho hm;injection hm' with hm'
     injection hm' with e1 e2
     subst e1;obtain⟨c1,c2⟩:=XR (M:=imm s.h μ w) (h:=s.h) (μ:=μ) (f:=fun j=>(c[j]?).getD undef) hu (fun j x hx=>by obtain⟨_,v,q1,q2⟩:=hcell j x hx;simpa [q1] using q2)
     have hload:(loadVar t ⟨b,off,none⟩).run P w = .ok (zD sh fun j=>(c[off+j]?).getD undef) w:=by
      refine zbj hs (fun j hj=>?_)
      rw[ZD hb];have hlt:off+j<c.size:=by rw[hb.1];have:=c1;omega
      simp [hlt]
     refine⟨(zD sh fun j=>(c[off+j]?).getD undef)::us,?_,by simp [h2],fun j y v hy hv=>?_⟩
     ·simp only[List.mapM_cons,Sem.run_bind,kR,hz,asAddr]
      simp [hload,h1]
     ·cases j with
      | zero=>simp at hy hv;subst hy;subst hv;exact c2
      | succ j=>exact h3 j y v (by simpa using hy) (by simpa using hv)
    ·cases hu
   ·cases hu
  ·cases hv
theorem zoa {fn:Func}{s:St}(H:HeapRel s.h μ w)(he:∀ t,RAV (imm s.h μ w) s.h μ (eA s.env t) (a.tmps.getD t undef)){rs:List ARes}{vs:List AV}(hc:SE P rs fn.results.toList=true)(hv:qF s rs=some vs) :
 ∃u,(results fn a.tmps).run P w = .ok u w∧RAV (imm s.h μ w) s.h μ (DB vs) u:=by
 obtain⟨us,h1,h2,h3⟩:=z55 H he hc hv;have hm:(fn.results.mapM (kR a.tmps)).run P w = .ok us.toArray w:=by
  rw[Array.mapM_eq_mapM_toList];simp [h1]
 refine⟨if hz:us.toArray.size=1 then us.toArray[0] else .tuple us.toArray,?_,?_⟩
 ·unfold results
  rw[Sem.run_bind];show(Sem.run P (fn.results.mapM (kR a.tmps)) w).andThen _=_
  rw[hm];rfl
 ·match vs,us,h2,h3 with
  | [v],[u],_,h3=>exact h3 0 v u rfl rfl
  | [],[],_,h3=>exact .tup [] [] rfl (fun j y v h1 h2=>by simp at h1)
  | a::b::r,c::d::q,h2,h3=>exact .tup _ (c::d::q) h2 h3
theorem za5 (H:HeapRel h μ w){n:Nat}(L:(imm h μ w).le (imm (h.take n) (μ.take n) w)){id g off len:Nat}{x:Value}{sh:Sh}{xs:List PV}(R:RAV (imm h μ w) h μ (.own id g off len) x)(hr:rd h (.own id g off len)=some (sh,xs))
 (hn:n≤id):RPV (imm (h.take n) (μ.take n) w) (.sl sh xs) x:=by
 obtain⟨ys,fz,ho,hc1,hc2,hr⟩:=z5z hr;obtain⟨_,g2,a,cap,rfl,g3,g4⟩:=zG H R ho hc1;have hlen:xs.length=len:=by rw[hr];exact SX hc2
 by_cases hne:xs=[]
 ·have hl0:len=0:=by rw[←hlen,hne];rfl
  rw[hne,hl0];exact .nils _ _ _
 ·have hpos:0<xs.length:=List.length_pos_iff.2 hne
  obtain⟨b,m,c,hm,ha,hB,hn1,hn2,hcells⟩:=g4 (by omega)
  have he:∀x∈xs,x.cells.length=gA sh:=fun x hx=>CC (g2 x (CI (hr ▸ hx)))
  have hcell:∀(j:Nat) (y:PV),(xs.flatMap PV.cells)[j]?=some y→∃v,c[off*gA sh+j]?=some v∧RPV (imm h μ w) y v:=by
   intro j y hy;obtain⟨x,h5,h6,h8,h7⟩:=WG he hy;rw[hr]at h5;have h9:=RX h5
   have h10:=hcells _ _ x y h9.2 h6
   rw[show(off+j / gA sh)*gA sh+j%gA sh=off*gA sh+j by rw[Nat.add_mul];omega]at h10
   exact h10
  subst ha;have key:RPV (imm (h.take n) (μ.take n) w) (.sl sh xs) (.slice (some ⟨b,off*gA sh,none⟩) xs.length cap):=by
   refine .sl sh xs b (off*gA sh) cap (fun j=>(c[off*gA sh+j]?).getD undef) hne (by omega) (fun x hx=>g2 x (CI (hr ▸ hx))) (fun j y hy=>?_) (fun j y hy=>?_)
   ·obtain⟨v,h5,h6⟩:=hcell j y hy
    refine FE.2 ⟨?_,by rw[ZD hB,h5];simp [h5]⟩
    rintro⟨i,n',h8,h9⟩
    rw[List.getElem?_take]at h8;split at h8
    ·have:=H.distinct i id b n' m h8 hm
     omega
    ·cases h8
   ·obtain⟨v,h5,h6⟩:=hcell j y hy
    have:(c[off*gA sh+j]?).getD undef=v:=by simp [h5]
    simp only[this];exact h6.mono L
  rwa [hlen]at key
theorem zaN (H:HeapRel h μ w){n:Nat}(L:(imm h μ w).le (imm (h.take n) (μ.take n) w)):∀(cs:List AV) {vs:List PV},(∀x∈cs,x.sc=true)→fR n h cs=some vs →
 vs.length=cs.length∧(∀x∈vs,x.sc=true)∧∀(j:Nat) (y:AV) (z:PV) (v:Value),cs[j]?=some y→vs[j]?=some z→RAV (imm h μ w) h μ y v→RPV (imm (h.take n) (μ.take n) w) z v
 | [],vs,_,e=>by
  simp [fR]at e;subst e;exact⟨rfl,by simp,fun j y z v hy=>by simp at hy⟩
 | a::r,vs,hs,e=>by
  simp only[fR]at e;split at e;case h_2=>cases e
  rename_i x hx;simp only[Option.map_eq_some_iff]at e;obtain⟨xs,h1,rfl⟩:=e;obtain⟨q1,q2,q3⟩:=zaN H L r (fun x hx=>hs x (by simp [hx])) h1
  have hsa:=hs a (by simp)
  have key:x.sc=true∧∀v,RAV (imm h μ w) h μ a v→RPV (imm (h.take n) (μ.take n) w) x v:=by
   unfold rd0 at hx;split at hx
   ·injection hx with hx;subst hx;exact⟨hsa,fun v R=>R.p_inv.mono L⟩
   ·injection hx with hx;subst hx;exact⟨rfl,fun v R=>by obtain⟨a,rfl⟩:=BN R;exact .nils _ _ _⟩
   ·injection hx with hx;subst hx;exact⟨rfl,fun v R=>by cases R;exact .nilp⟩
   ·split at hx
    ·rename_i hn
     simp only[Option.map_eq_some_iff]at hx;obtain⟨⟨sh,ys⟩,h1,rfl⟩:=hx;exact⟨rfl,fun v R=>za5 H L R h1 hn⟩
    ·cases hx
   ·cases hx
  refine⟨by simp [q1],fun y hy=>?_,fun j y z v hy hz R=>?_⟩
  ·rcases List.mem_cons.1 hy with rfl|hy
   ·exact key.1
   ·exact q2 y hy
  ·cases j with
   | zero=>simp at hy hz;subst hy;subst hz;exact key.2 v R
   | succ j=>exact q3 j y z v (by simpa using hy) (by simpa using hz) R
theorem zd3 (H:HeapRel h μ w){n:Nat}(L:(imm h μ w).le (imm (h.take n) (μ.take n) w)){t id g:Nat}{x:Value}{u:AV}(R:RAV (imm h μ w) h μ (.bt 3 t id g) x)(hr:rdA n h id g=some u)
 (hn:n≤id):RAV (imm (h.take n) (μ.take n) w) (h.take n) (μ.take n) u x:=by
 unfold rdA at hr;split at hr;case h_2=>cases hr
 rename_i sh cs ho;split at hr;case isFalse=>cases hr
 rename_i hg;simp only[Option.map_eq_some_iff]at hr;obtain⟨vs,h1,rfl⟩:=hr;cases R with|bt3 _ _ _ a cap o m hl ho' hm hv=>
 rw[ho]at ho';injection ho' with ho'
 obtain⟨hv1,hv2⟩:=hv sh cs ho'.symm;have hO:=hv2 hg
 obtain⟨k1,k2⟩:=H.obj id _ m ho hm;obtain⟨q1,q2,q3⟩:=zaN H L cs k1 h1;obtain⟨s1,s2,s3⟩:=z7V (sh:=sh) (g:=g) (vs:=vs) (by rw[q1,hg]) q2
 by_cases hz:g=0
 ·subst hz
  have hxs:mD sh 0 vs=[]:=List.length_eq_zero_iff.1 s1
  rw[hxs];exact .p _ _ (.nils _ _ _)
 ·have hm2:∃b k c,m=some (b,k)∧a=some ⟨b,0,none⟩∧iB w b k c∧∀(j:Nat) (x:AV),cs[j]?=some x→∃v,c[j]?=some v∧RAV (imm h μ w) h μ x v:=by
   cases m with
   | none=>simp [pF]at hO;omega
   | some m=>
    obtain⟨b,k⟩:=m;obtain⟨c,c1,c2,c3⟩:=k2;rcases hO with q|q
    ·omega
    ·exact⟨b,k,c,rfl,by rw[q.1,Nat.zero_mul],c1,c3⟩
  obtain⟨b,k,c,rfl,rfl,hB,hcells⟩:=hm2;have he:∀x∈mD sh g vs,x.cells.length=gA sh:=fun x hx=>CC (s2 x hx)
  have hcell:∀(j:Nat) (y:PV),((mD sh g vs).flatMap PV.cells)[j]?=some y→∃v,c[j]?=some v∧RPV (imm (h.take n) (μ.take n) w) y v:=by
   intro j y hy;obtain⟨x,h5,h6,h8,h7⟩:=WG he hy;have h9:=s3 _ _ x y h5 h6
   have hj:j / gA sh*gA sh+j%gA sh=j:=Nat.div_add_mod' j (gA sh)
   rw[hj]at h9;have hlt:j<cs.length:=by have:=JA h9;omega
   obtain⟨v,v1,v2⟩:=hcells j cs[j] (List.getElem?_eq_getElem hlt);exact⟨v,v1,q3 j cs[j] y v (List.getElem?_eq_getElem hlt) h9 v2⟩
  have key:RPV (imm (h.take n) (μ.take n) w) (.sl sh (mD sh g vs)) (.slice (some ⟨b,0,none⟩) (mD sh g vs).length cap):=by
   refine .sl sh _ b 0 cap (fun j=>(c[j]?).getD undef) (fun e=>hz (by rw[←s1,e];rfl)) (by rw[s1];exact hl) s2 (fun j y hy=>?_) (fun j y hy=>?_)
   ·obtain⟨v,h5,h6⟩:=hcell j y hy
    refine FE.2 ⟨?_,by rw[ZD hB,Nat.zero_add,h5];simp [h5]⟩
    rintro⟨i,n',h8,h9⟩
    rw[List.getElem?_take]at h8;split at h8
    ·have:=H.distinct i id b n' k h8 hm
     omega
    ·cases h8
   ·obtain⟨v,h5,h6⟩:=hcell j y hy
    have:(c[j]?).getD undef=v:=by simp [h5]
    simp only[this];exact h6
  rw[s1]at key;exact .p _ _ key
mutual
theorem zaR (H:HeapRel h μ w){n:Nat}(L:(imm h μ w).le (imm (h.take n) (μ.take n) w)):∀(v:AV) {u:AV} {x:Value},RAV (imm h μ w) h μ v x→qB n h v=some u→u.top≤n→RAV (imm (h.take n) (μ.take n) w) (h.take n) (μ.take n) u x
 | .own id g off len,u,x,R,hr,ht=>by
  simp only[qB]at hr;split at hr
  ·rename_i hn
   simp only[Option.map_eq_some_iff]at hr;obtain⟨⟨sh,xs⟩,h1,rfl⟩:=hr;exact .p _ _ (za5 H L R h1 hn)
  ·injection hr with hr;subst hr;exact R.take L ht
 | .sl0 sh,u,x,R,hr,ht=>by
  simp only[qB]at hr;injection hr with hr
  subst hr;obtain⟨a,rfl⟩:=BN R;exact .p _ _ (.nils _ _ _)
 | .agg cs,u,x,R,hr,ht=>by
  simp only[qB,Option.map_eq_some_iff]at hr;obtain⟨us,h1,rfl⟩:=hr;cases R with|agg _ xs hl hrr=>
  have htop:AV.tops us≤n:=by
   unfold mkA at ht;split at ht
   ·rename_i ps hp
    have:=KN hp;subst this;rw[zck];omega
   ·simpa [AV.top] using ht
  obtain⟨q1,q2⟩:=z50 H L cs hl hrr h1 htop;exact z3m q1 q2
 | .tup cs,u,x,R,hr,ht=>by
  simp only[qB,Option.map_eq_some_iff]at hr;obtain⟨us,h1,rfl⟩:=hr;cases R with|tup _ xs hl hrr=>
  obtain⟨q1,q2⟩:=z50 H L cs hl hrr h1 (by simpa [AV.top] using ht)
  exact .tup us xs q1 q2
 | .p v,u,x,R,hr,ht=>by simp only[qB]at hr;injection hr with hr;subst hr;exact R.take L ht
 | .ref _ _,u,x,R,hr,ht=>by simp only[qB]at hr;injection hr with hr;subst hr;exact R.take L ht
 | .rref _ _ _ _,u,x,R,hr,ht=>by simp only[qB]at hr;injection hr with hr;subst hr;exact R.take L ht
 | .vp _,u,x,R,hr,ht=>by simp only[qB]at hr;injection hr with hr;subst hr;exact R.take L ht
 | .nilp,u,x,R,hr,ht=>by simp only[qB]at hr;injection hr with hr;subst hr;exact R.take L ht
 | .nilm,u,x,R,hr,ht=>by simp only[qB]at hr;injection hr with hr;subst hr;exact R.take L ht
 | .nilf,u,x,R,hr,ht=>by simp only[qB]at hr;injection hr with hr;subst hr;exact R.take L ht
 | .nili,u,x,R,hr,ht=>by simp only[qB]at hr;injection hr with hr;subst hr;exact R.take L ht
 | .ifc,u,x,R,hr,ht=>by simp only[qB]at hr;injection hr with hr;subst hr;exact R.take L ht
 | .mp _,u,x,R,hr,ht=>by simp only[qB]at hr;injection hr with hr;subst hr;exact R.take L ht
 | .it _,u,x,R,hr,ht=>by simp only[qB]at hr;injection hr with hr;subst hr;exact R.take L ht
 | .fn _ _,u,x,R,hr,ht=>by simp only[qB]at hr;injection hr with hr;subst hr;exact R.take L ht
 | .anyb,u,x,R,hr,ht=>by simp only[qB]at hr;injection hr with hr;subst hr;exact R.take L ht
 | .skp,u,x,R,hr,ht=>by simp only[qB]at hr;injection hr with hr;subst hr;exact R.take L ht
 | .und,u,x,R,hr,ht=>by simp only[qB]at hr;injection hr with hr;subst hr;exact R.take L ht
 | .anyp,u,x,R,hr,ht=>by simp only[qB]at hr;injection hr with hr;subst hr;exact R.take L ht
 | .bt k t id g,u,x,R,hr,ht=>by
  simp only[qB]at hr;cases hk:(Nat.beq k 3&&decide (n≤id)) with
  | false=>rw[hk]at hr;injection hr with hr;subst hr;exact R.take L ht
  | true=>
   rw[hk]at hr;simp only[Bool.and_eq_true,decide_eq_true_eq]at hk;have hk1:=Nat.eq_of_beq_eq_true hk.1
   subst hk1;exact zd3 H L R hr hk.2
theorem z50 (H:HeapRel h μ w){n:Nat}(L:(imm h μ w).le (imm (h.take n) (μ.take n) w)):∀(cs:List AV) {us:List AV} {xs:List Value},cs.length=xs.length →
 (∀(j:Nat) (y:AV) (v:Value),cs[j]?=some y→xs[j]?=some v→RAV (imm h μ w) h μ y v)→ZF n h cs=some us→AV.tops us≤n →
 us.length=xs.length∧∀(j:Nat) (y:AV) (v:Value),us[j]?=some y→xs[j]?=some v→RAV (imm (h.take n) (μ.take n) w) (h.take n) (μ.take n) y v
 | [],us,xs,hl,hr,e,ht=>by
  simp only[ZF]at e;injection e with e
  subst e;exact⟨hl,fun j y v h1 _=>by simp at h1⟩
 | c::r,us,xs,hl,hr,e,ht=>by
  cases xs with
  | nil=>simp at hl
  | cons x xs=>
   simp only[ZF]at e;split at e
   ·rename_i u hu
    simp only[Option.map_eq_some_iff]at e;obtain⟨l,h1,rfl⟩:=e;simp only[AV.tops]at ht;have k1:=zaR H L c (hr 0 c x rfl rfl) hu (by omega)
    obtain⟨k2,k3⟩:=z50 H L r (xs:=xs) (by simpa using hl) (fun j y v h1 h2=>hr (j+1) y v (by simpa using h1) (by simpa using h2)) h1 (by omega)
    refine⟨by simp [k2],fun j y v hy hv=>?_⟩
    cases j with
    | zero=>simp at hy hv;subst hy;subst hv;exact k1
    | succ j=>exact k3 j y v (by simpa using hy) (by simpa using hv)
   ·cases e
end
theorem VW:∀ (asv:List AV) {h:aA} {vs:List Value} {asv':List AV} {h1:aA},HeapRel h μ w→asv.length=vs.length →
 (∀(j:Nat) (y:AV) (v:Value),asv[j]?=some y→vs[j]?=some v→RAV (imm h μ w) h μ y v)→oA h asv=some (asv',h1) →
 HF h μ w h1∧asv'.length=vs.length∧∀(j:Nat) (y:AV) (v:Value),asv'[j]?=some y→vs[j]?=some v→RAV (imm h1 μ w) h1 μ y v
 | [],h,vs,asv',h1,H,hl,hr,e=>by
  simp only[oA,Option.some.injEq,Prod.mk.injEq]at e;obtain⟨rfl,rfl⟩:=e;exact⟨⟨H,Evo.refl _ _ _,vA.refl _ _⟩,hl,fun j y v hy=>by simp at hy⟩
 | a::r,h,vs,asv',h1,H,hl,hr,e=>by
  cases vs with
  | nil=>simp at hl
  | cons x vs=>
   have step:∀{h2:aA} {u:AV},HF h μ w h2→RAV (imm h2 μ w) h2 μ u x→(oA h2 r).map (fun y=>(u::y.1,y.2))=some (asv',h1) →
    HF h μ w h1∧asv'.length=(x::vs).length∧∀(j:Nat) (y:AV) (v:Value),asv'[j]?=some y→(x::vs)[j]?=some v→RAV (imm h1 μ w) h1 μ y v:=by
    intro h2 u ⟨a1,a2,a3⟩ hu e;simp only[Option.map_eq_some_iff,Prod.mk.injEq]at e;obtain⟨⟨l,h3⟩,hp,rfl,rfl⟩:=e;obtain⟨⟨b1,b2,b3⟩,b4,b5⟩:=VW r a1 (vs:=vs) (by simpa using hl) (fun j y v hy hv=>(hr (j+1) y v (by simpa using hy) (by simpa using hv)).evo a2) hp
    refine⟨⟨b1,a2.trans b2,by simpa using vA.trans a3 b3⟩,by simp [b4],fun j y v hy hv=>?_⟩
    cases j with
    | zero=>simp at hy hv;subst hy;subst hv;exact hu.evo b2
    | succ j=>exact b5 j y v (by simpa using hy) (by simpa using hv)
   have h0:=hr 0 a x rfl rfl
   cases a;case own id g off len=>
    simp only[oA]at e;split at e
    ·rename_i z hz
     obtain⟨sh,xs⟩:=z;obtain⟨k1,k2,k3,k4⟩:=NQ H h0 hz;exact step ⟨k1,k2,k3⟩ (.p _ _ k4) e
    ·cases e
   case agg cs=>
    simp only[oA]at e;split at e
    ·rename_i pv h2 hp
     obtain⟨k1,k2⟩:=UW _ H h0 hp;exact step k1 (.p _ _ k2) e
    ·cases e
   case sl0 sh=>
    simp only[oA]at e;obtain⟨b,rfl⟩:=BN h0;exact step ⟨H,Evo.refl _ _ _,vA.refl _ _⟩ (.p _ _ (.nils _ _ _)) e
   all_goals
    simp only[oA]at e;exact step ⟨H,Evo.refl _ _ _,vA.refl _ _⟩ h0 e
end Go.Am
end
section
/- The abstract machine,part 23: a call that ends well here ends well in the model. -/
set_option linter.unusedSimpArgs false
set_option linter.unusedVariables false
set_option maxHeartbeats 1000000
namespace Go.Am
variable {h h':aA} {μ μ':Mu} {w w':World} {P:Program} {M M':Mem}
variable {gl:Nat→Option PV} {nt:Nat} {M0:Mem} {h0:aA} {μ0:Mu} {e:List (Nat × AV)} {x:Esc} {a:Act}
theorem z9f {F:AFun}{fn:Func}{s:St}{K:kA}(R:Rel gl nt M0 h0 μ0 s.env s.h s.esc a w μ)(Hs:∀ id,eG h0 id≤h0.length)(hc:SE P F.results fn.results.toList=true)(H:fin F h0.length s K) :
 ∃u,(results fn a.tmps).run P w = .ok u w∧∃v h' x μ',K v h' x∧RAV (imm h' μ' w) h' μ' v u∧HeapRel h' μ' w∧Evo M0 h0 μ0 (imm h' μ' w) h' μ'∧vA h0 h' x:=by
 unfold fin at H;split at H
 ·rename_i vs hvs
  obtain⟨u,hu,hR⟩:=zoa R.heap R.env hc hvs;refine⟨u,hu,?_⟩;split at H
  ·dsimp only at H
   split at H
   ·rename_i hcl
    have hn:=SR s.esc.length s.esc (max h0.length (DB vs).top)
    generalize RB s.esc.length s.esc (max h0.length (DB vs).top)=n at H hcl hn;obtain⟨q1,q2,q3,q4⟩:=z6i Hs R.heap R.evo R.esc (by omega) hcl
    exact⟨_,_,_,μ.take n,H,hR.take q2 (by omega),q1,q3,q4⟩
   ·exact⟨_,_,_,μ,H,hR,R.heap,R.evo,R.esc⟩
  ·split at H
   ·rename_i v0 hv0
    dsimp only at H;split at H
    ·rename_i hcl
     have hn:=SR s.esc.length s.esc (max h0.length v0.top)
     generalize RB s.esc.length s.esc (max h0.length v0.top)=n at H hcl hn;split at H
     ·rename_i v hv
      obtain⟨q1,q2,q3,q4⟩:=z6i Hs R.heap R.evo R.esc (by omega) hcl
      exact⟨_,_,_,μ.take n,H.2,zaR R.heap q2 _ hR hv H.1,q1,q3,q4⟩
     ·exact H.elim
    ·exact⟨_,_,_,μ,H,hR,R.heap,R.evo,R.esc⟩
   ·exact H.elim
 ·exact H.elim
def z03 (P:Program)(f:Nat)(F:AFun):Bool:=match P.funcs[f]? with
 | some fn=>match fn.body with
  | some c=>oC P fn.ntmps F.body c&&SE P F.results fn.results.toList&&fn.name != "runtime.NumGoroutine"
  | none=>false
 | none=>false
theorem z2I {f:Nat}{fn:Func}{c:Code}(hf:P.funcs[f]?=some fn)(hb:fn.body=some c)(hn:fn.name ≠ "runtime.NumGoroutine")(args:Array Value)(w:World):(callFunc f args).run P w = .ok (.enter f args) w:=by
 unfold callFunc;simp [hf,hb,hn]
theorem zko {asv:List AV}{t:Nat}:eA (enter asv) t=(asv[t]?).getD .und:=by
 have key:∀(l:List AV) (k t:Nat),eA ((l.zipIdx k).map fun y=>(y.2,y.1)) t=if t<k then .und else(l[t-k]?).getD .und:=by
  intro l;induction l with
  | nil=>intro k t;simp [eA]
  | cons v r ih=>
   intro k t;simp only[List.zipIdx_cons,List.map_cons,eA];by_cases hk:k=t
   ·subst hk;simp
   ·rw[if_neg hk,ih]
    by_cases h1:t<k
    ·rw[if_pos h1,if_pos (by omega)]
    ·rw[if_neg h1,if_neg (by omega),show t-k=(t-(k+1))+1 by omega]
     simp
 have:=key asv 0 t;simpa [enter] using this
def nH (M:Mem)(w w':World):Mem:=⟨fun b o=>if b<w.heap.size then M.c b o else w'.cell? ⟨b,o,none⟩,fun _=>none,some (zed w'),fun _=>none⟩
def z6C (P:Program)(f:Nat)(vs:List PV)(r:PV):Prop:=∀(M:Mem) (w:World) (us:List Value),(∀b o v,M.c b o=some v→w.cell? ⟨b,o,none⟩=some v)→vs.length=us.length →
 (∀(j:Nat) (y:PV) (v:Value),vs[j]?=some y→us[j]?=some v→RPV M y v) →
 ∃x w',(callFunc f us.toArray).run P w = .ok (.value x) w'∧WExt w w'∧RPV (nH M w w') r x
structure Fits (P:Program) (X:Ctx):Prop where
 mixed:P.follows .mixedOrders=true
 fn:∀f F,X.fn f=some F→z03 P f F=true
 ext:∀f vs r,X.fn f=none→X.ext f vs=some r→z6C P f vs r
 ex2:∀f asv h v h' x,X.fn f=none→X.ex2 f asv h=some (v,h',x)→TC P X.gl f asv h fun v1 h1 x1=>v1=v∧h1=h'∧x1=x
theorem zpR {X:Ctx}(HX:Fits P X){f:Nat}{asv:List AV}{h:aA}{K:kA}(H:FC X (TC P X.gl) f asv h K):TC P X.gl f asv h K:=by
 intro μ w vs Hh Hg hl hr;unfold FC at H;split at H
 ·rename_i F hF
  have H:=zkD (TC.mono P X.gl) H
  have hck:=HX.fn f F hF
  unfold z03 at hck;split at hck
  ·rename_i fn hfn
   split at hck
   ·rename_i c hb
    simp only[Bool.and_eq_true,bne_iff_ne,ne_eq]at hck;obtain⟨⟨c1,c2⟩,c3⟩:=hck;refine .inl ⟨fun w=>z2I hfn hb c3 _ w,calls_of_wp hfn hb ?_⟩
    unfold kD at H;have body:∀{asv':List AV} {h1:aA},HF h μ w h1→asv'.length=vs.length→(∀(j:Nat) (y:AV) (v:Value),asv'[j]?=some y→vs[j]?=some v→RAV (imm h1 μ w) h1 μ y v) →
     (asv'.length=F.nparams∧AW (TC P X.gl) X.gl F.body ⟨enter asv',h1,[]⟩ fun e s=>match e with
      | .exit _=>False
      | _=>fin F h.length s K)→Code.wp P c (bodyPost P fn fun
       | .returned r,w'=>∃v h' x μ',K v h' x∧RAV (imm h' μ' w') h' μ' v r∧HeapRel h' μ' w'∧Evo (imm h μ w) h μ (imm h' μ' w') h' μ'∧vA h h' x
       | _,_=>False) { tmps:=vs.toArray++Array.replicate (fn.ntmps-vs.toArray.size) undef,defers:=[] } w:=by
     intro asv' h1 ⟨a1,a2,a3⟩ hl' hr' ⟨_,hA⟩;refine uE HX.mixed (nt:=fn.ntmps) (M0:=imm h μ w) (h0:=h) (μ0:=μ) (μ:=μ) (fun _ _ _ _ h=>h) F.body c1 hA ⟨a1,fun t=>?_,Hg.mono a2.le,a2,a3,?_,rfl⟩ (fun ex s' a' w' μ' hk R'=>?_)
     ·dsimp only
      rw[zko];cases ht:asv'[t]? with
      | none=>exact .und _
      | some y=>
       have hlt:t<vs.length:=by rw[←hl'];exact JA ht
       have:(vs.toArray++Array.replicate (fn.ntmps-vs.toArray.size) undef).getD t undef=vs[t]:=by
        simp [Array.getD,hlt];intro hh;omega
       rw[this];exact hr' t y _ ht (List.getElem?_eq_getElem hlt)
     ·simp;omega
     ·cases ex with
      | normal=>
       obtain⟨u,q1,q2⟩:=z9f R' (fun id=>z6k Hh id) c2 hk
       exact⟨R'.defers,u,q1,q2⟩
      | exit i=>exact hk.elim
      | ret=>
       obtain⟨u,q1,q2⟩:=z9f R' (fun id=>z6k Hh id) c2 hk
       exact⟨R'.defers,u,q1,q2⟩
    split at H
    ·rename_i asv' h1 hp
     split at hp
     ·injection hp with hp
      injection hp with e1 e2
      subst e1;subst e2
      exact body ⟨Hh,Evo.refl _ _ _,vA.refl _ _⟩ hl hr H
     ·obtain⟨q1,q2,q3⟩:=VW asv Hh hl hr hp
      exact body q1 q2 q3 H
    ·exact H.elim
   ·cases hck
  ·cases hck
 ·rename_i hF
  split at H
  ·rename_i hx2
   exact TC.mono P X.gl _ _ _ _ _ (fun v1 h1' x1 hv=>by obtain⟨rfl,rfl,rfl⟩:=hv;exact H) (HX.ex2 f asv h _ _ _ hF hx2) μ w vs Hh Hg hl hr
  ·rename_i hx2
   split at H
   ·rename_i asv' h1 hp
    split at H
    ·rename_i ps hps
     split at H
     ·rename_i r hrr
      obtain⟨q1,q2,q3⟩:=VW asv Hh hl hr hp;have hm:=KN hps
      subst hm;obtain⟨u,w',k1,g1,g2⟩:=HX.ext f ps r hF hrr (imm h1 μ w) w vs (fun b o v hv=>(FE.1 hv).2) (by simpa using q2) (fun j y v hy hv=>(q3 j (.p y) v (by simp [hy]) hv).p_inv)
      obtain⟨n1,n2⟩:=q1.1.ext g1;have L:(nH (imm h1 μ w) w w').le (imm h1 μ w'):=by
       refine⟨fun b o v hv=>?_,fun b o hv=>?_,rfl,fun _ _ h=>by cases h⟩
       ·dsimp only[nH]at hv
        split at hv
        ·exact n2.le.c _ _ _ hv
        ·rename_i hb
         exact FE.2 ⟨fun hO=>hb (z3s q1.1 hO),hv⟩
       ·dsimp only[nH]at hv
        cases hv
      exact .inr ⟨_,_,_,_,_,μ,k1,H,.p _ _ (g2.mono L),n1,q1.2.1.trans n2,q1.2.2⟩
     ·exact H.elim
    ·exact H.elim
   ·exact H.elim
theorem zfY {X:Ctx}(HX:Fits P X){f:Nat}{asv:List AV}{h:aA}{K:kA}(H:bA X f asv h K):TC P X.gl f asv h K:=
 H (TC P X.gl) (TC.mono P X.gl) (fun f a h K hs=>zpR HX hs)
end Go.Am
end
section
/- The abstract machine,part 24: rules by which its code is computed on what is only partly known. -/
set_option linter.unusedSimpArgs false
set_option linter.unusedVariables false
namespace Go.Am
def GJ (o:Option (AV × aA × Esc))(f:AV→aA→Esc→Prop):Prop:=match o with
 | some y=>f y.1 y.2.1 y.2.2
 | none=>False
def eO (v:AV)(A B:Prop):Prop:=match v with
 | .p (.bool t)=>match t with
  | true=>A
  | false=>B
 | .anyb=>A∧B
 | _=>False
def jB (v:AV)(A B:Prop):Prop:=match v with
 | .p (.bool t)=>match t with
  | true=>A
  | false=>B
 | _=>False
def nF (v:AV)(b:Bool)(A B:Prop):Prop:=match v with
 | .p (.bool c)=>match c==b with
  | true=>A
  | false=>B
 | .skp=>B
 | _=>False
def finK (F:AFun)(b:Nat)(K:kA)(e:Ex)(s:St):Prop:=match e with
 | .exit _=>False
 | _=>fin F b s K
def zbT (n:Nat)(x:Esc)(K:Ex→St→Prop)(e:Ex)(s:St):Prop:=K e (KE n x s)
def AO.plain:AO→Bool
 | .call _ _ | .callv _ _ | .mnext _ _=>false
 | .mv _=>true
 | .pick _ _ _=>true
 | .alloc _=>true
 | .box _=>true
 | .build _ _=>true
 | .bsl _ _ _ _ _=>true
 | .load _ _=>true
 | .store _ _ _=>true
 | .nilchk _=>true
 | .bin _ _ _=>true
 | .eqa _ _ _ _=>true
 | .isnil _ _ _=>true
 | .mkif _=>true
 | .un _ _=>true
 | .conv _ _=>true
 | .mkfn _ _=>true
 | .mkmap=>true
 | .mksl _ _ _ _=>true
 | .slice _ _ _ _ _=>true
 | .slstr _ _ _=>true
 | .faddr _ _ _=>true
 | .field _ _ _=>true
 | .iaddr _ _ _=>true
 | .iaddra _ _ _ _=>true
 | .idxa _ _ _ _=>true
 | .idxs _ _=>true
 | .look _ _ _ _ _=>true
 | .mupd _ _ _ _=>true
 | .ment _ _ _ _=>true
 | .estore _ _ _=>true
 | .mdel _ _ _=>true
 | .ext _ _=>true
 | .len _=>true
 | .lens _=>true
 | .lenm _=>true
 | .app _ _ _=>true
 | .copy _ _ _=>true
 | .uns _ _ _=>true
 | .clr _ _ _=>true
 | .mx _=>true
 | .mn _=>true
 | .mrange _=>true
 | .mentry _=>true
 | .new0 _=>true
variable {C:Hd} {gl:Nat→Option PV} {e:List (Nat × AV)} {h:aA} {x:Esc} {K:Ex→St→Prop} {L:List (Nat × AV)→aA→Esc→Prop} {s:St}
theorem zbU {n:Nat}{y:Esc}{ex:Ex}:zbT n y K ex s=K ex (KE n y s):=(rfl)
def vK (C:Hd)(gl:Nat→Option PV)(r:List AOp)(d:Option Nat)(e:List (Nat × AV))(x:Esc)(L:List (Nat × AV)→aA→Esc→Prop)(v:AV)(h':aA)(x':Esc):Prop:=mB C gl r (put d v e) h' (x'++x) L
theorem zcG {d:Option Nat}{op:AO}{r:List AOp}(hp:op.plain=true):mB C gl (⟨d,none,op⟩::r) e h x L=GJ (aop op (Opd.ev gl e) h) (vK C gl r d e x L):=by
 cases op <;> first|(cases hp;done)|(simp only[mB,wanted,GJ,vK];split <;> simp_all)
theorem z64 {d:Option Nat}{f:Nat}{args:List Opd}{r:List AOp}:mB C gl (⟨d,none,.call f args⟩::r) e h x L=C f (args.map (Opd.ev gl e)) h (vK C gl r d e x L):=(rfl)
theorem zcI {d:Option Nat}{g:Option (Nat × Bool)}{op:AO}{r:List AOp}(hw:wanted g e=some true):mB C gl (⟨d,g,op⟩::r) e h x L=mB C gl (⟨d,none,op⟩::r) e h x L:=by
 rw[mB,mB];have h2:wanted none e=some true:=(rfl)
 simp only[hw,h2]
theorem z66 {d:Option Nat}{g:Option (Nat × Bool)}{op:AO}{r:List AOp}(hw:wanted g e=some false):mB C gl (⟨d,g,op⟩::r) e h x L=mB C gl r (put d .skp e) h x L:=by
 rw[mB];simp only[hw]
theorem zcH {d:Option Nat}{g:Option (Nat × Bool)}{op:AO}{r:List AOp}(hw:wanted g e=none):mB C gl (⟨d,g,op⟩::r) e h x L=False:=by
 rw[mB];simp only[hw]
theorem z67 {d:Option Nat}{t:Nat}{b:Bool}{op:AO}{r:List AOp}:mB C gl (⟨d,some (t,b),op⟩::r) e h x L=nF (eA e t) b (mB C gl (⟨d,none,op⟩::r) e h x L) (mB C gl r (put d .skp e) h x L):=by
 have key:∀v,eA e t=v→mB C gl (⟨d,some (t,b),op⟩::r) e h x L=nF v b (mB C gl (⟨d,none,op⟩::r) e h x L) (mB C gl r (put d .skp e) h x L):=by
  intro v hv;unfold nF;split
  ·rename_i c
   split
   ·rename_i hcb;exact zcI (by simp [wanted,hv,hcb])
   ·rename_i hcb;exact z66 (by simp [wanted,hv,hcb])
  ·exact z66 (by simp [wanted,hv])
  ·rename_i h1 h2
   refine zcH ?_;simp only[wanted,hv]
 exact key _ rfl
theorem z8g {t:Bool}{A B:Prop}:jB (.p (.bool t)) A B=if t=true then A else B:=by cases t <;> simp [jB]
theorem z8i {A B:Prop}:jB (.p (.bool true)) A B=A:=(rfl)
theorem z8h {A B:Prop}:jB (.p (.bool false)) A B=B:=(rfl)
theorem zqB {t:Bool}{A B:Prop}:nF (.p (.bool t)) true A B=if t=true then A else B:=by cases t <;> simp [nF]
theorem zqA {t:Bool}{A B:Prop}:nF (.p (.bool t)) false A B=if t=true then B else A:=by cases t <;> simp [nF]
theorem zgv {v v':AV}{A B:Prop}(hv:v=v'):jB v A B=jB v' A B:=by rw[hv]
theorem z6V {X:Ctx}{f:Nat}{F:AFun}{a:List AV}{h:aA}{P:kA}(hf:X.fn f=some F)(hd:F.isDet=false):bA X f a h P=kD (bA X) X.gl F a h P:=by
 rw[propext z6z];unfold FC;rw[hf];simp only[CE,hd]
theorem zdh {X:Ctx}{f:Nat}{F:AFun}{a:List AV}{h:aA}{P:kA}(hf:X.fn f=some F)(hd:F.isDet=true):bA X f a h P = ∃v h' x,P v h' x∧kD (bA X) X.gl F a h fun v1 h1 x1=>v1=v∧h1=h'∧x1=x:=by
 rw[propext z6z];unfold FC;rw[hf];simp only[CE,hd]
theorem fU {A B:AV→aA→Esc→Prop}(h:∀ v h' x,A v h' x=B v h' x):(∃v h' x,A v h' x) = ∃v h' x,B v h' x:=by
 simp only[h]
theorem z7a {F:AFun}{a asv:List AV}{h h1:aA}{P:kA}(hr:F.byref=false)(hp:oA h a=some (asv,h1))(hl:asv.length=F.nparams) :
 kD C gl F a h P=AW C gl F.body ⟨enter asv,h1,[]⟩ (finK F h.length P):=by
 unfold kD;rw[hr];simp only[Bool.false_eq_true,if_false,hp,hl,true_and];congr 1
theorem zdn {F:AFun}{asv:List AV}{h:aA}{P:kA}(hr:F.byref=true)(hl:asv.length=F.nparams) :
 kD C gl F asv h P=AW C gl F.body ⟨enter asv,h,[]⟩ (finK F h.length P):=by
 unfold kD;rw[hr];simp only[if_true,hl,true_and];congr 1
def doK (C:Hd)(gl:Nat→Option PV)(o:AOp)(e:List (Nat × AV))(h:aA)(R:AV→aA→Esc→Prop):Prop:=∃v h' y,ADo C gl o e h v h' y∧R v h' y
def lC (C:Hd)(f:Nat)(a:List AV)(h:aA)(R:AV→aA→Esc→Prop):Prop:=∃v h' y,C f a h (fun v1 h1 x1=>v1=v∧h1=h'∧x1=y)∧R v h' y
def PT (C:Hd)(gl:Nat→Option PV)(o:DOp)(r:List DOp)(dn:jD)(hs:List aA)(e:List (Nat × AV))(h:aA)(x:Esc)(L:List (Nat × AV)→aA→Esc→Prop)(v:AV)(h':aA)(y:Esc):Prop:=
 (o.eff=false→h'=h∧y=[])∧(∀k∈o.early,∃g,hs[k]?=some g∧ADo C gl o.op (SA (some o.rd) e) g v g []) ∧
  (∀j∈o.again,∃q,dn[j]?=some q∧ADo C gl q.1 q.2.1 h' q.2.2 h' [])∧VD C gl r (dn++[(o.op,SA (some o.rd) e,v)]) (hs++[h]) (put o.op.dst v e) h' (y++x) L
theorem z60 {o:DOp}{r:List DOp}{dn:jD}{hs:List aA}:VD C gl (o::r) dn hs e h x L=doK C gl o.op (SA (some o.rd) e) h (PT C gl o r dn hs e h x L):=(rfl)
variable {R:AV→aA→Esc→Prop}
theorem ex3 {v0:AV}{h0:aA}{y0:Esc}:(∃v h y,(v=v0∧h=h0∧y=y0)∧R v h y)=R v0 h0 y0:=
 propext ⟨fun⟨_,_,_,⟨h1,h2,h3⟩,r⟩=>by subst h1;subst h2;subst h3;exact r,fun r=>⟨_,_,_,⟨rfl,rfl,rfl⟩,r⟩⟩
theorem ex3' {v0:AV}{h0:aA}{y0:Esc}:(∃v h y,(v0=v∧h0=h∧y0=y)∧R v h y)=R v0 h0 y0:=
 propext ⟨fun⟨_,_,_,⟨h1,h2,h3⟩,r⟩=>by subst h1;subst h2;subst h3;exact r,fun r=>⟨_,_,_,⟨rfl,rfl,rfl⟩,r⟩⟩
theorem zgD {d:Option Nat}{op:AO}(hp:op.plain=true):doK C gl ⟨d,none,op⟩ e h R=GJ (aop op (Opd.ev gl e) h) R:=by
 have key:∀o:Option (AV×aA×Esc),(∃v h' y,o=some (v,h',y)∧R v h' y)=GJ o R:=by
  intro o;cases o with
  | none=>simp [GJ]
  | some z=>obtain⟨v,h',y⟩:=z;simp only[Option.some.injEq,Prod.mk.injEq,ex3'];rfl
 rw[←key];unfold doK ADo;cases op <;> first|(cases hp;done)|rfl
theorem z8t {d:Option Nat}{f:Nat}{args:List Opd}:doK C gl ⟨d,none,.call f args⟩ e h R=lC C f (args.map (Opd.ev gl e)) h R:=(rfl)
theorem z8v {d:Option Nat}{t:Nat}{b:Bool}{op:AO}:doK C gl ⟨d,some (t,b),op⟩ e h R=nF (eA e t) b (doK C gl ⟨d,none,op⟩ e h R) (R .skp h []):=by
 have h2:wanted none e=some true:=(rfl)
 have key:∀v,eA e t=v→doK C gl ⟨d,some (t,b),op⟩ e h R=nF v b (doK C gl ⟨d,none,op⟩ e h R) (R .skp h []):=by
  intro v hv;unfold nF;split
  ·rename_i c
   split
   ·rename_i hcb
    have hw:wanted (some (t,b)) e=some true:=by simp [wanted,hv,hcb]
    unfold doK ADo;simp only[hw,h2]
   ·rename_i hcb
    have hw:wanted (some (t,b)) e=some false:=by simp [wanted,hv,hcb]
    unfold doK ADo;simp only[hw,ex3]
  ·have hw:wanted (some (t,b)) e=some false:=by simp [wanted,hv]
   unfold doK ADo;simp only[hw,ex3]
  ·rename_i h3 h4
   have hw:wanted (some (t,b)) e=none:=by
    simp only[wanted,hv]
   unfold doK ADo;simp only[hw];simp
 exact key _ rfl
theorem zfW {f:Nat}{a a':List AV}{h h':aA}(ha:a=a')(hh:h=h'):lC C f a h R=lC C f a' h' R:=by rw[ha,hh]
theorem zc7 {X:Ctx}{f:Nat}{a a':List AV}{h h':aA}{K:kA}(ha:a=a')(hh:h=h'):bA X f a h K=bA X f a' h' K:=by rw[ha,hh]
theorem zgF {o:DOp}{r:List DOp}{dn:jD}{hs:List aA}{v:AV}{h':aA}{y:Esc}:PT C gl o r dn hs e h x L v h' y=((o.eff=false→h'=h∧y=[])∧(∀k∈o.early,∃g,hs[k]?=some g∧ADo C gl o.op (SA (some o.rd) e) g v g []) ∧
 (∀j∈o.again,∃q,dn[j]?=some q∧ADo C gl q.1 q.2.1 h' q.2.2 h' [])∧VD C gl r (dn++[(o.op,SA (some o.rd) e,v)]) (hs++[h]) (put o.op.dst v e) h' (y++x) L):=(rfl)
end Go.Am
end
section
/- The abstract machine,part 25: from a call that ends well here tov the model's call on a whole world. -/
set_option linter.unusedSimpArgs false
set_option linter.unusedVariables false
namespace Go.Am
variable {P:Program}
theorem zlb (W:World):HeapRel [] [] W:=⟨rfl,fun id o m h=>by simp at h,fun i j b n n' h=>by simp at h,fun i b n h=>by simp at h⟩
theorem z9M {W:World}{b:Nat}{o:Go.Obj}(hb:W.heap[b]?=some o):(imm [] [] W).b b=some o:=yQ.2 ⟨fun⟨id,n,h⟩=>by simp at h,hb⟩
theorem z9N {W:World}{b o:Nat}{v:Value}(hb:W.cell? ⟨b,o,none⟩=some v):(imm [] [] W).c b o=some v:=FE.2 ⟨fun⟨id,n,h,_⟩=>by simp at h,hb⟩
theorem zdJ {W W':World}{h:aA}{μ:Mu}(E:(imm [] [] W).le (imm h μ W')):RowKit.Below W.heap.size W W':=by
 have hz:zed W'=zed W:=Option.some.inj E.z
 have hb:∀b,b<W.heap.size→W'.heap[b]?=W.heap[b]?:=fun b hb=>by
  have h1:=Array.getElem?_eq_getElem hb
  rw[h1];exact(yQ.1 (E.b b _ (z9M h1))).2
 refine⟨(congrArg World.os hz:(zed W').os=(zed W).os),(congrArg World.tape hz:(zed W').tape=(zed W).tape),(congrArg World.output hz:(zed W').output=(zed W).output),?_,hb⟩;rcases Nat.eq_zero_or_pos W.heap.size with h0|h0
 ·omega
 ·have h1:=hb (W.heap.size-1) (by omega)
  rw[Array.getElem?_eq_getElem (show W.heap.size-1<W.heap.size by omega)]at h1
  have:=(Array.getElem?_eq_some_iff.1 h1).1;omega
theorem zfX {X:Ctx}(HX:Fits P X){f:Nat}{F:AFun}(hF:X.fn f=some F)(args:Array Value)(w:World):(callFunc f args).run P w = .ok (.enter f args) w:=by
 have hck:=HX.fn f F hF
 unfold z03 at hck;split at hck
 ·rename_i fn hfn
  split at hck
  ·rename_i c hb
   simp only[Bool.and_eq_true,bne_iff_ne,ne_eq]at hck;exact z2I hfn hb hck.2 _ w
  ·cases hck
 ·cases hck
theorem z7M {X:Ctx}(HX:Fits P X){f:Nat}{F:AFun}(hF:X.fn f=some F){asv:List AV}{K:kA}(H:bA X f asv [] K){W:World}{vs:List Value}(hG:FF X.gl (imm [] [] W))(hl:asv.length=vs.length)
 (hr:∀(j:Nat) (y:AV) (v:Value),asv[j]?=some y→vs[j]?=some v→RAV (imm [] [] W) [] [] y v) :
 Calls P f vs.toArray W fun
  | .returned r,W'=>(∃v h x μ,K v h x∧RAV (imm h μ W') h μ v r)∧RowKit.Below W.heap.size W W'
  | _,_=>False:=by
 rcases zfY HX H [] W vs (zlb W) hG hl hr with⟨_,q⟩|⟨r,w',_,_,_,_,q,_⟩
 case inr=>rw[zfX HX hF]at q;cases q
 refine q.mono fun e W' he=>?_
 cases e with
 | returned r=>
  obtain⟨v,h',x,μ',k1,k2,k3,k4,k5⟩:=he;exact⟨⟨v,h',x,μ',k1,k2⟩,zdJ k4.le⟩
 | panicked _=>exact he
 | outgrown=>exact he
def SW (zs:List Int):AV:=.p (.sl none (zs.map fun n=>.int .i64 n))
theorem zgc (W:World):RAV (imm [] [] W) [] [] (SW []) (.slice none 0 0):=.p _ _ (.nils _ _ _)
theorem zgb {W:World}{a:Addr}{len cap:Nat}{zs:List Int}(hs:a.spot=none)(hl:len≤cap)(hz:len≤zs.length)(hc:∀ i,i<zs.length→W.cell? (a.add i)=some (.int .i64 (zs.getD i 0))) :
 RAV (imm [] [] W) [] [] (SW (zs.take len)) (.slice (some a) len cap):=by
 obtain⟨b,o,s⟩:=a;simp only at hs;subst hs;refine .p _ _ ?_;have hlen:((zs.take len).map fun n=>PV.int .i64 n).length=len:=by simp [hz]
 have hfl:((zs.take len).map fun n=>PV.int .i64 n).flatMap PV.cells=(zs.take len).map fun n=>PV.int .i64 n:=by
  generalize zs.take len=l;induction l with
  | nil=>rfl
  | cons n r ih=>simp only[List.map_cons,List.flatMap_cons,ih];rfl
 by_cases h0:len=0
 ·subst h0
  simp;exact .nils _ _ _
 ·have key:=RPV.sl (M:=imm [] [] W) none ((zs.take len).map fun n=>PV.int .i64 n) b o cap (fun j=>.int .i64 (zs.getD j 0)) (fun hh=>by rw[hh]at hlen;simp at hlen;omega) (by rw[hlen];exact hl)
   (fun x hx=>by obtain⟨n,_,rfl⟩:=List.mem_map.1 hx;rfl)
   (fun j y hy=>by
    rw[hfl]at hy;have hj:j<len:=by have:=JA hy;rw[hlen]at this;exact this
    have:=hc j (by omega)
    rw[GC]at this;exact z9N this)
   (fun j y hy=>by
    rw[hfl]at hy;have hj:j<len:=by have:=JA hy;rw[hlen]at this;exact this
    have hjz:j<zs.length:=by omega
    simp [List.getElem?_take,hj,hjz]at hy;subst hy;have:zs.getD j 0=zs[j]:=by simp [List.getD,hjz]
    rw[this];exact .int _ _)
  rwa [hlen]at key
end Go.Am
end
section
/- The abstract machine,part 26: iC calls are computed. -/
set_option linter.unusedSimpArgs false
set_option linter.unusedVariables false
namespace Go.Am
mutual
def PV.same:PV→PV→Bool
 | .int k a,.int k' b=>decide (k=k')&&decide (a=b)
 | .bool a,.bool b=>decide (a=b)
 | .str a,.str b=>decide (a=b)
 | .sl s xs,.sl t ys=>decide (s=t)&&PV.sames xs ys
 | .agg xs,.agg ys=>PV.sames xs ys
 | .nilp,.nilp=>true
 | _,_=>false
def PV.sames:List PV→List PV→Bool
 | [],[]=>true
 | a::asv,b::bs=>PV.same a b&&PV.sames asv bs
 | _,_=>false
end
mutual
theorem PV.same_eq:∀ (a b:PV),PV.same a b=true→a=b
 | .int k a,b,h=>by
  cases b <;> simp [PV.same]at h
  obtain⟨h1,h2⟩:=h;subst h1;subst h2;rfl
 | .bool a,b,h=>by cases b <;> simp [PV.same]at h;subst h;rfl
 | .str a,b,h=>by cases b <;> simp [PV.same]at h;subst h;rfl
 | .sl s xs,b,h=>by
  cases b <;> simp [PV.same]at h
  obtain⟨h1,h2⟩:=h;subst h1;rw[PV.sames_eq _ _ h2]
 | .agg xs,b,h=>by
  cases b <;> simp [PV.same]at h
  rw[PV.sames_eq _ _ h]
 | .nilp,b,h=>by cases b <;> simp [PV.same]at h;rfl
theorem PV.sames_eq:∀ (a b:List PV),PV.sames a b=true→a=b
 | [],b,h=>by cases b <;> simp [PV.sames]at h;rfl
 | x::xs,b,h=>by
  cases b <;> simp [PV.sames]at h
  rw[PV.same_eq _ _ h.1,PV.sames_eq _ _ h.2]
end
mutual
def AV.same:AV→AV→Bool
 | .p a,.p b=>PV.same a b
 | .own a b c d,.own a' b' c' d'=>decide (a=a')&&decide (b=b')&&decide (c=c')&&decide (d=d')
 | .sl0 a,.sl0 b=>decide (a=b)
 | .ref a b,.ref a' b'=>decide (a=a')&&decide (b=b')
 | .rref a b c d,.rref a' b' c' d'=>decide (a=a')&&decide (b=b')&&decide (c=c')&&decide (d=d')
 | .vp a,.vp b=>PV.same a b
 | .nilp,.nilp=>true
 | .nilm,.nilm=>true
 | .nilf,.nilf=>true
 | .nili,.nili=>true
 | .ifc,.ifc=>true
 | .mp a,.mp b=>decide (a=b)
 | .it a,.it b=>decide (a=b)
 | .fn a b,.fn a' b'=>decide (a=a')&&AV.sames b b'
 | .agg a,.agg b=>AV.sames a b
 | .tup a,.tup b=>AV.sames a b
 | .anyb,.anyb=>true
 | .skp,.skp=>true
 | .und,.und=>true
 | .anyp,.anyp=>true
 | .bt a b c d,.bt a' b' c' d'=>decide (a=a')&&decide (b=b')&&decide (c=c')&&decide (d=d')
 | _,_=>false
def AV.sames:List AV→List AV→Bool
 | [],[]=>true
 | a::asv,b::bs=>AV.same a b&&AV.sames asv bs
 | _,_=>false
end
mutual
theorem AV.same_eq:∀ (a b:AV),AV.same a b=true→a=b
 | .p a,b,h=>by cases b <;> simp [AV.same]at h;rw[PV.same_eq _ _ h]
 | .own _ _ _ _,b,h=>by cases b <;> simp [AV.same]at h;simp [h]
 | .sl0 _,b,h=>by cases b <;> simp [AV.same]at h;simp [h]
 | .ref _ _,b,h=>by cases b <;> simp [AV.same]at h;simp [h]
 | .rref _ _ _ _,b,h=>by cases b <;> simp [AV.same]at h;simp [h]
 | .vp a,b,h=>by cases b <;> simp [AV.same]at h;rw[PV.same_eq _ _ h]
 | .nilp,b,h=>by cases b <;> simp [AV.same]at h;rfl
 | .nilm,b,h=>by cases b <;> simp [AV.same]at h;rfl
 | .nilf,b,h=>by cases b <;> simp [AV.same]at h;rfl
 | .nili,b,h=>by cases b <;> simp [AV.same]at h;rfl
 | .ifc,b,h=>by cases b <;> simp [AV.same]at h;rfl
 | .mp _,b,h=>by cases b <;> simp [AV.same]at h;simp [h]
 | .it _,b,h=>by cases b <;> simp [AV.same]at h;simp [h]
 | .fn _ cs,b,h=>by cases b <;> simp [AV.same]at h;rw[h.1,AV.sames_eq _ _ h.2]
 | .agg cs,b,h=>by cases b <;> simp [AV.same]at h;rw[AV.sames_eq _ _ h]
 | .tup cs,b,h=>by cases b <;> simp [AV.same]at h;rw[AV.sames_eq _ _ h]
 | .anyb,b,h=>by cases b <;> simp [AV.same]at h;rfl
 | .skp,b,h=>by cases b <;> simp [AV.same]at h;rfl
 | .und,b,h=>by cases b <;> simp [AV.same]at h;rfl
 | .anyp,b,h=>by cases b <;> simp [AV.same]at h;rfl
 | .bt _ _ _ _,b,h=>by cases b <;> simp [AV.same]at h;simp [h]
theorem AV.sames_eq:∀ (a b:List AV),AV.sames a b=true→a=b
 | [],b,h=>by cases b <;> simp [AV.sames]at h;rfl
 | x::xs,b,h=>by
  cases b <;> simp [AV.sames]at h
  rw[AV.same_eq _ _ h.1,AV.sames_eq _ _ h.2]
end
def AO.still:AO→Bool
 | .mv _ | .pick _ _ _ | .build _ _ | .load _ _ | .nilchk _ | .bin _ _ _ | .eqa _ _ _ _ | .isnil _ _ _ | .mkif _ | .un _ _ | .mkfn _ _ | .slice _ _ _ _ _ | .slstr _ _ _ | .faddr _ _ _ | .field _ _ _ | .iaddr _ _ _
 | .iaddra _ _ _ _ | .idxa _ _ _ _ | .idxs _ _ | .look _ _ _ _ _ | .ext _ _ | .len _ | .lens _ | .lenm _ | .mx _ | .mn _=>true
 | _=>false
def AO.still2:AO→Bool
 | .conv (.i _) _=>true
 | o=>o.still
def ME.same (a b:ME):Bool:=PV.same a.key b.key&&AV.same a.val b.val&&decide (a.born=b.born)
def MEs.same:List ME→List ME→Bool
 | [],[]=>true
 | a::asv,b::bs=>ME.same a b&&MEs.same asv bs
 | _,_=>false
def Obj.same:Obj→Obj→Bool
 | .box a,.box b=>AV.sames a b
 | .row a b c,.row a' b' c'=>decide (a=a')&&PV.sames b b'&&decide (c=c')
 | .amap a b,.amap a' b'=>MEs.same a a'&&decide (b=b')
 | .iter a b c d,.iter a' b' c' d'=>decide (a=a')&&decide (b=b')&&decide (c=c')&&decide (d=d')
 | _,_=>false
def aA.same:List Obj→List Obj→Bool
 | [],[]=>true
 | a::asv,b::bs=>Obj.same a b&&aA.same asv bs
 | _,_=>false
variable {C:Hd} {gl:Nat→Option PV}
theorem zdv {o:AO}(hs:o.still=true){ev:Opd→AV}{h h':aA}{v:AV}{x:Esc}(H:aop o ev h=some (v,h',x)):h'=h∧x=[]:=by
 cases o <;> first|(cases hs;done)|skip
 all_goals
  unfold aop at H;dsimp only at H;repeat' split at H
  all_goals first
   | (cases H;done)
   | (simp only[Option.some.injEq,Prod.mk.injEq]at H;obtain⟨_,rfl,rfl⟩:=H;exact⟨rfl,rfl⟩)
   | (simp only[Option.map_eq_some_iff,Prod.mk.injEq]at H;obtain⟨_,_,_,rfl,rfl⟩:=H;exact⟨rfl,rfl⟩)
   | (have H2:=nilc (g:=[]) H;rename_i k neg p;cases hb:dI k (ev p) <;> rw[hb]at H <;> simp only[cond_true,cond_false,Option.map_eq_some_iff,Option.some.injEq,Prod.mk.injEq]at H <;> first|(obtain⟨_,rfl,rfl⟩:=H;exact⟨rfl,rfl⟩)|(obtain⟨_,_,_,rfl,rfl⟩:=H;exact⟨rfl,rfl⟩))
theorem zdw {o:AO}(hs:o.still2=true){ev:Opd→AV}{h h':aA}{v:AV}{x:Esc}(H:aop o ev h=some (v,h',x)):h'=h∧x=[]:=by
 unfold AO.still2 at hs;split at hs
 ·simp only[aop,gG]at H
  split at H
  ·simp at H;exact⟨H.2.1.symm,H.2.2⟩
  ·simp at H
 ·exact zdv hs H
theorem zcD {o:AOp}(hs:o.op.still2=true){e:List (Nat × AV)}{h h':aA}{v:AV}{x:Esc}(H:ADo C gl o e h v h' x):h'=h∧x=[]:=by
 unfold ADo at H;split at H
 ·obtain⟨dst,guard,op⟩:=o
  cases op <;> first|(cases hs;done)|exact zdw hs H
 ·exact H.2
 ·exact H.elim
theorem zpU {o:AO}(h:o.still=true):o.still2=true:=by
 cases o <;> first|exact h|(cases h;done)
theorem zcC {o:AOp}(hs:o.op.still=true){e:List (Nat × AV)}{h h':aA}{v:AV}{x:Esc}(H:ADo C gl o e h v h' x):h'=h∧x=[]:=zcD (zpU hs) H
end Go.Am
end
section
/- The abstract machine,part 27: loops,and the rules of computing asv one set. -/
set_option linter.unusedSimpArgs false
set_option linter.unusedVariables false
namespace Go.Am
variable {C:Hd} {gl:Nat→Option PV} {e:List (Nat × AV)} {h:aA} {x:Esc} {K:Ex→St→Prop} {s:St}
def zU {σ:Type}(S:σ→St)(P:σ→Prop)(m:σ→Nat)(K:Ex→St→Prop)(s:σ)(e:Ex)(s':St):Prop:=match e with
 | .normal=>∃t,s'=S t∧P t∧m t<m s
 | .exit i=>K (.exit i) s'
 | .ret=>K .ret s'
theorem zan {σ:Type}{S:σ→St}{P:σ→Prop}{m:σ→Nat}{K:Ex→St→Prop}{t:σ}{s':St}:zU S P m K t .normal s' = ∃u,s'=S u∧P u∧m u<m t:=(rfl)
theorem zam {σ:Type}{S:σ→St}{P:σ→Prop}{m:σ→Nat}{K:Ex→St→Prop}{t:σ}{s':St}{i:Nat}:zU S P m K t (.exit i) s'=K (.exit i) s':=(rfl)
theorem zao {σ:Type}{S:σ→St}{P:σ→Prop}{m:σ→Nat}{K:Ex→St→Prop}{t:σ}{s':St}:zU S P m K t .ret s'=K .ret s':=(rfl)
theorem z63 {T:St→(Ex→St→Prop)→Prop}{K:Ex→St→Prop}{s s':St}(h:T s=T s'):ALoop T K s=ALoop T K s':=by
 refine propext ⟨fun H=>?_,fun H=>?_⟩
 ·cases H with|mk _ R a b c d=>exact .mk _ R (h ▸ a) b c d
 ·cases H with|mk _ R a b c d=>exact .mk _ R (h.symm ▸ a) b c d
theorem zdr {l:List Nat}{e:List (Nat × AV)}{t:Nat}(ht:t∈l):eA (SA (some l) e) t=eA e t:=by
 simp only[SA];induction l with
 | nil=>cases ht
 | cons k r ih=>
  simp only[List.map_cons,eA];split
  ·rename_i hk;rw[hk]
  ·rename_i hk
   rcases List.mem_cons.1 ht with h1|h1
   ·exact absurd h1.symm hk
   ·exact ih h1
theorem zaH {l:List Nat}{e:List (Nat × AV)}:SA (some l) (SA (some l) e)=SA (some l) e:=by
 show l.map _=l.map _
 exact List.map_congr_left fun t ht=>by rw[zdr ht]
theorem bD {α:Type}(h l:List α)(n:Nat):(h++l)[h.length+n]?=l[n]?:=by
 rw[List.getElem?_append_right (by omega)];congr 1;omega
theorem z0s {α:Type}(h l:List α):(h++l)[h.length]?=l[0]?:=by
 rw[List.getElem?_append_right (by omega)];congr 1;omega
theorem DD {α:Type}(h l:List α)(n:Nat)(o:α):(h++l).set (h.length+n) o=h++l.set n o:=by
 rw[List.set_append_right _ _ (by omega)];congr 2;omega
theorem z0t {α:Type}(h l:List α)(o:α):(h++l).set h.length o=h++l.set 0 o:=by
 rw[List.set_append_right _ _ (by omega)];congr 2;omega
theorem qH {α:Type}(h l:List α)(n:Nat):(h++l).take (h.length+n)=h++l.take n:=List.take_length_add_append ..
theorem oK {α:Type}(h l:List α):(h++l).take h.length=h:=List.take_left ..
theorem z7u (h l:aA)(n k:Nat):frz (h++l) (h.length+n) k=h++frz l n k:=by
 unfold frz;rw[bD];cases l[n]? with
 | none=>rfl
 | some o=>cases o <;> first|rfl|simp only[DD]
theorem zA (n:Int)(h1 : -9223372036854775808≤n)(h2:n≤9223372036854775807):IntKind.i64.wrap n=n:=by
 simp [IntKind.wrap,IntKind.bits,IntKind.signed];omega
def mA (rs:List ARes)(kp:Bool)(b:Nat)(P:kA)(e:Ex)(s:St):Prop:=match e with
 | .exit _=>False
 | _=>match qF s rs with
  | some vs=>match kp with
   | true=>
    let n:=RB s.esc.length s.esc (max b (DB vs).top)
    if iC s.esc n then P (DB vs) (s.h.take n) (s.esc.filter fun y=>decide (y.1<n)) else P (DB vs) s.h s.esc
   | false=>match qB b s.h (DB vs) with
    | some v0=>
     let n:=RB s.esc.length s.esc (max b v0.top)
     if iC s.esc n then match qB n s.h (DB vs) with
      | some v=>v.top≤n∧P v (s.h.take n) (s.esc.filter fun y=>decide (y.1<n))
      | none=>False
     else P (DB vs) s.h s.esc
    | none=>False
  | none=>False
theorem z2Q {F:AFun}{b:Nat}{P:kA}:finK F b P=mA F.results F.keep b P:=by
 funext e s;cases e <;> rfl
def RD (kp:Bool)(b:Nat)(P:kA)(o:Option (List AV))(h:aA)(x:Esc):Prop:=match o with
 | some vs=>match kp with
  | true=>
   let n:=RB x.length x (max b (DB vs).top)
   if iC x n then P (DB vs) (h.take n) (x.filter fun y=>decide (y.1<n)) else P (DB vs) h x
  | false=>match qB b h (DB vs) with
   | some v0=>
    let n:=RB x.length x (max b v0.top)
    if iC x n then match qB n h (DB vs) with
     | some v=>v.top≤n∧P v (h.take n) (x.filter fun y=>decide (y.1<n))
     | none=>False
    else P (DB vs) h x
   | none=>False
 | none=>False
theorem z9a {rs:List ARes}{kp:Bool}{b:Nat}{P:kA}{e:List (Nat × AV)}{h:aA}{x:Esc}:mA rs kp b P .normal ⟨e,h,x⟩=RD kp b P (qF ⟨e,h,x⟩ rs) h x:=(rfl)
theorem z9b {rs:List ARes}{kp:Bool}{b:Nat}{P:kA}{e:List (Nat × AV)}{h:aA}{x:Esc}:mA rs kp b P .ret ⟨e,h,x⟩=RD kp b P (qF ⟨e,h,x⟩ rs) h x:=(rfl)
theorem zkG {rs:List ARes}{kp:Bool}{b:Nat}{P:kA}{ex ex':Ex}{s s':St}(he:ex=ex')(hs:s=s'):mA rs kp b P ex s=mA rs kp b P ex' s':=by rw[he,hs]
theorem sX {b:Nat}{P:kA}{vs:List AV}{h:aA}(ht:(DB vs).top≤b)(hr:∀ b,qB b h (DB vs)=some (DB vs)):RD false b P (some vs) h []=P (DB vs) (h.take b) []:=by
 simp only[RD,hr,RB,List.length_nil,iC,List.all_nil,if_true,List.filter_nil,Nat.max_eq_left ht,ht,true_and]
theorem znT {b:Nat}{h:aA}{v:PV}:qB b h (.p v)=some (.p v):=(rfl)
theorem znX {b:Nat}{h:aA}:ZF b h []=some []:=(rfl)
theorem zoc {b:Nat}{P:kA}{v:PV}{h:aA}:RD false b P (some [.p v]) h []=P (.p v) (h.take b) []:=sX (Nat.zero_le _) (fun _=>rfl)
theorem zod {b:Nat}{P:kA}{v u:PV}{h:aA}:RD false b P (some [.p v,.p u]) h []=P (.tup [.p v,.p u]) (h.take b) []:=sX (by simp [DB,AV.top,AV.tops]) (fun _=>rfl)
theorem zoe {b:Nat}{P:kA}{v u w:PV}{h:aA}:RD false b P (some [.p v,.p u,.p w]) h []=P (.tup [.p v,.p u,.p w]) (h.take b) []:=sX (by simp [DB,AV.top,AV.tops]) (fun _=>rfl)
theorem zob {b:Nat}{P:kA}{h:aA}:RD false b P (some []) h []=P (.tup []) (h.take b) []:=sX (by simp [DB,AV.top,AV.tops]) (fun _=>rfl)
theorem zqj {h:aA}:h.take h.length=h:=List.take_length
theorem znv {v:AV}:DB [v]=v:=(rfl)
theorem zpS {X:Ctx}{f:Nat}{F:AFun}{a asv:List AV}{h h1:aA}{P:kA}(hf:X.fn f=some F)(hr:F.byref=false)(hp:oA h a=some (asv,h1))(hl:asv.length=F.nparams)(hd:F.isDet=false) :
 bA X f a h P=AW (bA X) X.gl F.body ⟨enter asv,h1,[]⟩ (mA F.results F.keep h.length P):=by
 rw[z6V hf hd,z7a hr hp hl,z2Q]
theorem zpP {X:Ctx}{f:Nat}{F:AFun}{asv:List AV}{h:aA}{P:kA}(hf:X.fn f=some F)(hr:F.byref=true)(hl:asv.length=F.nparams)(hd:F.isDet=false) :
 bA X f asv h P=AW (bA X) X.gl F.body ⟨enter asv,h,[]⟩ (mA F.results F.keep h.length P):=by
 rw[z6V hf hd,zdn hr hl,z2Q]
theorem zpT {X:Ctx}{f:Nat}{F:AFun}{a asv:List AV}{h h1:aA}{P:kA}(hf:X.fn f=some F)(hr:F.byref=false)(hp:oA h a=some (asv,h1))(hl:asv.length=F.nparams)(hd:F.isDet=true) :
 bA X f a h P = ∃v h' x,P v h' x∧AW (bA X) X.gl F.body ⟨enter asv,h1,[]⟩ (mA F.results F.keep h.length fun v1 h1 x1=>v1=v∧h1=h'∧x1=x):=by
 rw[zdh hf hd];simp only[z7a hr hp hl,z2Q]
theorem rA {X:Ctx}{f:Nat}{a:List AV}{h:aA}{v:AV}{h':aA}{x:Esc}{K:kA}(H:bA X f a h fun v1 h1 x1=>v1=v∧h1=h'∧x1=x):bA X f a h K=K v h' x:=propext (bA.eq H K)
theorem z3p {k:IntKind}{n:Nat}:CB (.p (.int k (n:Int)))=some n:=by simp [CB]
theorem zmY {k:IntKind}{n:Nat}:CB (.p (.int k (no_index (OfNat.ofNat n:Int))))=some (OfNat.ofNat n:Nat):=z3p (n:=n)
theorem z3o {k:IntKind}{n:Int}(h:0≤n):CB (.p (.int k n))=some n.toNat:=by simp [CB,h]
theorem BB {α β:Type}(f:α→β){l:List α}{k:Nat}(h:k<l.length):(l.map f)[k]?=some (f l[k]):=by simp [h]
attribute [go_sem] eqs PV.eq1 PV.kind ne_eq not_false_eq_true not_true_eq_false Bool.and_self Bool.or_self Bool.not_eq_true
attribute [go_sem] Nat.max_le Nat.add_le_add_iff_left Option.isSome_none Option.isSome_some false_and and_false List.length_range Nat.sub_zero Nat.le_add_right
attribute [go_sem] z3p zmY Int.ofNat_lt Int.ofNat_le List.length_map
attribute [go_sem] z9a z9b zob zoc zod zoe zqj List.zipIdx_cons List.zipIdx_nil List.map_cons List.map_nil Nat.reduceAdd Nat.reduceEqDiff if_true if_false Option.map_some Option.map_none List.append_nil List.nil_append decide_eq_true_eq
def doS (C:Hd)(gl:Nat→Option PV)(q:AOp × List (Nat × AV) × AV)(h:aA):Prop:=ADo C gl q.1 q.2.1 h q.2.2 h []
def agK (C:Hd)(gl:Nat→Option PV)(h:aA)(dn:jD):List Nat→Prop
 | []=>True
 | j::r=>(match dn[j]? with|some q=>doS C gl q h|none=>False)∧agK C gl h dn r
def eaK (C:Hd)(gl:Nat→Option PV)(o:AOp)(e:List (Nat × AV))(v:AV)(hs:List aA):List Nat→Prop
 | []=>True
 | k::r=>(match hs[k]? with|some g=>doS C gl (o,e,v) g|none=>False)∧eaK C gl o e v hs r
theorem z7l {C:Hd}{gl:Nat→Option PV}{h:aA}{dn:jD}:∀{l:List Nat},agK C gl h dn l↔∀j∈l,∃q,dn[j]?=some q∧ADo C gl q.1 q.2.1 h q.2.2 h []
 | []=>by simp [agK]
 | j::r=>by
  simp only[agK,List.mem_cons,forall_eq_or_imp];rw[z7l (l:=r)];refine and_congr_left (fun _=>?_)
  cases hd:dn[j]? with
  | none=>simp
  | some q=>simp [doS]
theorem z8I {C:Hd}{gl:Nat→Option PV}{o:AOp}{e:List (Nat × AV)}{v:AV}{hs:List aA}:∀{l:List Nat},eaK C gl o e v hs l↔∀k∈l,∃g,hs[k]?=some g∧ADo C gl o e g v g []
 | []=>by simp [eaK]
 | j::r=>by
  simp only[eaK,List.mem_cons,forall_eq_or_imp];rw[z8I (l:=r)];refine and_congr_left (fun _=>?_)
  cases hd:hs[j]? with
  | none=>simp
  | some q=>simp [doS]
def effK (b:Bool)(h h':aA)(y:Esc):Prop:=match b with
 | true=>True
 | false=>h'=h∧y=[]
theorem z8y {C:Hd}{gl:Nat→Option PV}{e:List (Nat × AV)}{h:aA}{x:Esc}{L:List (Nat × AV)→aA→Esc→Prop}{op:AOp}{rd early again:List Nat}{eff:Bool}{r:List DOp}{dn:jD}{hs:List aA}{v:AV}{h':aA}{y:Esc} :
 PT C gl ⟨op,rd,eff,early,again⟩ r dn hs e h x L v h' y=(effK eff h h' y∧eaK C gl op (SA (some rd) e) v hs early∧agK C gl h' dn again∧VD C gl r (dn++[(op,SA (some rd) e,v)]) (hs++[h]) (put op.dst v e) h' (y++x) L):=by
 rw[zgF,←propext z8I,←propext z7l];cases eff <;> simp [effK]
theorem z8w {C:Hd}{gl:Nat→Option PV}{d:Option Nat}{g:Option (Nat × Bool)}{op:AO}{e:List (Nat × AV)}{v:AV}{h:aA}:doS C gl (⟨d,g,op⟩,e,v) h=doK C gl ⟨d,g,op⟩ e h (fun v1 h1 x1=>v1=v∧h1=h∧x1=[]):=by
 unfold doS doK;refine propext ⟨fun H=>⟨_,_,_,H,rfl,rfl,rfl⟩,fun⟨v1,h1,x1,H,a,b,c⟩=>by subst a;subst b;subst c;exact H⟩
theorem zgw {p:Prop}[Decidable p]{A B:Prop}:jB (.p (.bool (decide p))) A B=if p then A else B:=by rw[z8g];simp
def vH (C:Hd)(v:AV)(asv:List AV)(h:aA)(L:kA):Prop:=match v with
 | .fn g caps=>C g (asv++caps) h L
 | _=>False
theorem z65 {C:Hd}{gl:Nat→Option PV}{e:List (Nat × AV)}{h:aA}{x:Esc}{L:List (Nat × AV)→aA→Esc→Prop}{d:Option Nat}{f:Opd}{args:List Opd}{r:List AOp} :
 mB C gl (⟨d,none,.callv f args⟩::r) e h x L=vH C (Opd.ev gl e f) (args.map (Opd.ev gl e)) h (vK C gl r d e x L):=by
 have h2:wanted none e=some true:=(rfl)
 rw[mB];simp only[h2];unfold vH;split <;> simp_all <;> rfl
def YN (C:Hd)(v:AV)(asv:List AV)(h:aA)(R:AV→aA→Esc→Prop):Prop:=match v with
 | .fn g caps=>lC C g (asv++caps) h R
 | _=>False
theorem z8u {C:Hd}{gl:Nat→Option PV}{e:List (Nat × AV)}{h:aA}{R:AV→aA→Esc→Prop}{d:Option Nat}{f:Opd}{args:List Opd} :
 doK C gl ⟨d,none,.callv f args⟩ e h R=YN C (Opd.ev gl e f) (args.map (Opd.ev gl e)) h R:=by
 have h2:wanted none e=some true:=(rfl)
 unfold doK ADo;simp only[h2];unfold YN lC;split <;> simp_all
theorem zga {C:Hd}{g:Nat}{caps asv:List AV}{h:aA}{L:kA}:vH C (.fn g caps) asv h L=C g (asv++caps) h L:=(rfl)
theorem zfZ {C:Hd}{v v':AV}{asv asv':List AV}{h h':aA}{L:kA}(h1:v=v')(h2:asv=asv')(h3:h=h'):vH C v asv h L=vH C v' asv' h' L:=by rw[h1,h2,h3]
attribute [go_sem] z65 z8u zga
attribute [congr] zfZ
theorem zg4 {k:IntKind}{n:Int}:aB none 0 (.int k n)=some (.int k n):=(rfl)
theorem zg6 {s:List UInt8}:aB none 0 (.str s)=some (.str s):=(rfl)
theorem zg3 {off:Nat}{cs:List PV}:aB none off (.agg cs)=(cs[off]?).bind fun x=>if x.sc then some x else none:=(rfl)
theorem zg2 {n off:Nat}{cs:List PV}:aB (some n) off (.agg cs)=if off+n≤cs.length then some (.agg ((cs.drop off).take n)) else none:=(rfl)
theorem zg5 {v:PV}(h:v.sc=true):aB none 0 v=some v:=by cases v <;> first|rfl|cases h
attribute [go_sem] zg4 zg6 zg3 zg2
theorem zkq {id:Nat}{v:PV}:uC id (.p v)=[]:=(rfl)
attribute [go_sem] List.take_succ_cons List.take_zero List.take_nil List.drop_succ_cons List.drop_zero List.drop_nil List.length_cons List.length_nil Nat.reduceLeDiff Nat.reduceLT Int.reduceLT Int.reduceLE Int.reduceAdd Int.reduceSub Int.reduceMul Int.reduceNeg Int.reduceEq Nat.reduceSub Nat.reduceMul Nat.le_refl List.append_assoc
theorem zqv {b:Nat}{x0:Esc}{e:List (Nat × AV)}{h:aA}:KE b x0 ⟨e,h,[]⟩=⟨JF b e,h.take b,x0⟩:=(rfl)
theorem zgi {n:Nat}:JF n []=[]:=(rfl)
theorem zgh {n k:Nat}{v:AV}{r:List (Nat × AV)}:JF n ((k,v)::r)=(k,if v.top≤n then v else .und)::JF n r:=(rfl)
theorem top_p {v:PV}:AV.top (.p v)=0:=(rfl)
theorem z6l {id g o l:Nat}:AV.top (.own id g o l)=id+1:=by simp [AV.top]
theorem zqn {id o:Nat}:AV.top (.ref id o)=id+1:=by simp [AV.top]
theorem zqo {cs:List AV}:AV.top (.tup cs)=AV.tops cs:=by simp [AV.top]
theorem zqm:AV.top .nili=0:=(rfl)
theorem zqs:AV.tops []=0:=(rfl)
theorem zqp {v:AV}{r:List AV}:AV.tops (v::r)=max v.top (AV.tops r):=by simp [AV.tops]
theorem zof {b:Nat}{P:kA}{vs:List AV}{h:aA}:RD false b P (some vs) h []=match qB b h (DB vs) with
 | some v0=>match qB (max b v0.top) h (DB vs) with
  | some v=>v.top≤max b v0.top∧P v (h.take (max b v0.top)) []
  | none=>False
 | none=>False:=by
 simp only[RD,RB,List.length_nil,iC,List.all_nil,if_true,List.filter_nil]
theorem znS {b:Nat}{h:aA}{id g off len:Nat}:qB b h (.own id g off len)=if b≤id then(rd h (.own id g off len)).map fun y=>.p (.sl y.1 y.2) else some (.own id g off len):=by simp only[qB]
theorem znV {b:Nat}{h:aA}{cs:List AV}:qB b h (.tup cs)=(ZF b h cs).map .tup:=by simp only[qB]
theorem znU {b:Nat}{h:aA}{id o:Nat}:qB b h (.ref id o)=some (.ref id o):=by simp only[qB]
theorem znW {b:Nat}{h:aA}{v:AV}{r:List AV}:ZF b h (v::r)=(match qB b h v with|some x=>(ZF b h r).map (x :: ·)|none=>none):=by rw[ZF];cases qB b h v <;> rfl
theorem znw {v u:AV}{r:List AV}:DB (v::u::r) = .tup (v::u::r):=(rfl)
theorem zbZ {h l:aA}{id:Nat}{o:Obj}(hid:id<h.length):(h++l).set id o=h.set id o++l:=List.set_append_left _ _ hid
theorem z9F {h l:aA}{id:Nat}(hid:id<h.length):(h++l)[id]?=h[id]?:=List.getElem?_append_left hid
theorem zbO {h l:aA}{i n:Nat}{o:Obj}:(h.set i o++l)[h.length+n]?=l[n]?:=by
 have:=bD (h.set i o) l n;rwa [List.length_set]at this
theorem zpn {h l:aA}{i:Nat}{o:Obj}:(h.set i o++l)[h.length]?=l[0]?:=zbO (n:=0)
theorem zbP {h l:aA}{i n:Nat}{o q:Obj}:(h.set i o++l).set (h.length+n) q=h.set i o++l.set n q:=by
 have:=DD (h.set i o) l n q;rwa [List.length_set]at this
theorem zpo {h l:aA}{i:Nat}{o q:Obj}:(h.set i o++l).set h.length q=h.set i o++l.set 0 q:=zbP (n:=0)
theorem zpp {h l:aA}{i n:Nat}{o:Obj}:(h.set i o++l).take (h.length+n)=h.set i o++l.take n:=by
 have:=qH (h.set i o) l n;rwa [List.length_set]at this
theorem zpq {h l:aA}{i:Nat}{o:Obj}:(h.set i o++l).take h.length=h.set i o:=by
 have:=oK (h.set i o) l;rwa [List.length_set]at this
theorem zpm {h l:aA}{i n k:Nat}{o:Obj}:frz (h.set i o++l) (h.length+n) k=h.set i o++frz l n k:=by
 have:=z7u (h.set i o) l n k;rwa [List.length_set]at this
theorem qE {α:Type}{l:List α}{n:Nat}(h:l.length=n):win l 0 n=l:=by subst h;simp [win]
attribute [go_sem] zqv zgi zgh top_p z6l zqn zqo zqm zqs zqp Nat.max_zero Nat.zero_max Nat.zero_le znT znS znV znU znX znW znw bD z0s DD z0t qH oK z7u zbO zpn zbP zpo zpp zpq zpm List.length_append Nat.add_le_add_iff_right Nat.zero_add Nat.add_zero
attribute [go_sem] VG PV.shp List.reduceReplicate cond_true cond_false Bool.not_true Bool.not_false Bool.false_eq_true Bool.true_and Bool.and_true Bool.false_and Bool.and_false Bool.true_or Bool.or_true Bool.false_or Bool.or_false beq_self_eq_true List.all_cons List.all_nil
attribute [go_sem low] zof
theorem zqk {h:aA}{id:Nat}{o:Obj}:(h.set id o).take h.length=h.set id o:=List.take_of_length_le (by simp)
attribute [go_sem] zqk Int.natCast_zero Int.natCast_one Int.cast_ofNat_Int
attribute [go_sem] aun gG SN TN List.foldlM_cons List.foldlM_nil Option.bind_some Option.pure_def Option.bind_eq_bind List.cons_append List.nil_append Int.zero_sub List.length_singleton
attribute [go_sem] gA zkq
attribute [go_sem] z60 z8t z8v lC ex3' z8y z8w List.not_mem_nil List.mem_cons List.mem_singleton forall_eq_or_imp forall_eq false_implies true_implies implies_true forall_const and_true true_and List.cons_append and_self reduceCtorEq List.getElem?_cons_zero List.getElem?_cons_succ Option.some.injEq exists_eq_left' List.set_cons_zero List.set_cons_succ List.set_set List.length_set
attribute [congr] zfW zc7
attribute [congr] zkG
attribute [go_sem] zbU z67 z64 z8i z8h zgw decide_true decide_false zan zam zao aop Opd.ev eA put SA gC CD II qF ares znv enter rd rds pur kN oA mkA unp cut AV.cells PV.cells PV.sc AV.sc splice pint pbool UG
attribute [go_sem low] z8g zqB zqA
attribute [congr] zgv
end Go.Am
end
section
/- The abstract machine,part 28: where no map is ranged over,a call that ends well ends in one way. -/
set_option linter.unusedSimpArgs false
set_option linter.unusedVariables false
namespace Go.Am
def AO.noNext:AO→Bool
 | .mnext _ _=>false
 | _=>true
def ACode.noNext:ACode→Bool
 | .reg ops _=>ops.all fun o=>o.op.noNext
 | .seq a b=>a.noNext&&b.noNext
 | .cond _ a b=>a.noNext&&b.noNext
 | .condu _ _ _=>false
 | .det _=>false
 | .block _ b=>b.noNext
 | .loop b=>b.noNext
 | .scope b=>b.noNext
 | .pr _ b=>b.noNext
 | _=>true
def Dt (C D:Hd):Prop:=∀f a h K,C f a h K→∃v h' x,K v h' x∧D f a h fun v1 h1 x1=>v1=v∧h1=h'∧x1=x
variable {C D:Hd} {gl:Nat→Option PV}
theorem NN (hD:D.Mono)(hC:Dt C D):∀(ops:List AOp) e h x K,(ops.all fun o=>o.op.noNext)=true→mB C gl ops e h x K→∃e' h' x',K e' h' x'∧mB D gl ops e h x fun e1 h1 x1=>e1=e'∧h1=h'∧x1=x'
 | [],e,h,x,K,_,H=>⟨e,h,x,H,rfl,rfl,rfl⟩
 | o::r,e,h,x,K,hn,H=>by
  obtain⟨dst,guard,op⟩:=o;simp only[List.all_cons,Bool.and_eq_true]at hn;obtain⟨hn1,hn2⟩:=hn;unfold mB at H;dsimp only at H;split at H
  ·rename_i hw
   cases op;case call f args=>
    obtain⟨v,h',x',H',G'⟩:=hC _ _ _ _ H;obtain⟨e2,h2,x2,k2,g2⟩:=NN hD hC r _ _ _ K hn2 H';refine⟨e2,h2,x2,k2,?_⟩;unfold mB;simp only[hw]
    exact hD _ _ _ _ _ (fun v1 h1 x1 ⟨a1,a2,a3⟩=>by subst a1;subst a2;subst a3;exact g2) G'
   case callv f args=>
    dsimp only at H;split at H
    ·rename_i hf
     obtain⟨v,h',x',H',G'⟩:=hC _ _ _ _ H;obtain⟨e2,h2,x2,k2,g2⟩:=NN hD hC r _ _ _ K hn2 H';refine⟨e2,h2,x2,k2,?_⟩;unfold mB;simp only[hw,hf]
     exact hD _ _ _ _ _ (fun v1 h1 x1 ⟨a1,a2,a3⟩=>by subst a1;subst a2;subst a3;exact g2) G'
    ·exact H.elim
   case mnext sh xs=>simp [AO.noNext]at hn1
   all_goals
    dsimp only at H;split at H
    ·rename_i ha
     obtain⟨e2,h2,x2,k2,g2⟩:=NN hD hC r _ _ _ K hn2 H;refine⟨e2,h2,x2,k2,?_⟩;unfold mB;simp only[hw,ha]
     exact g2
    ·exact H.elim
  ·rename_i hw
   obtain⟨e2,h2,x2,k2,g2⟩:=NN hD hC r _ _ _ K hn2 H;refine⟨e2,h2,x2,k2,?_⟩;unfold mB;simp only[hw]
   exact g2
  ·exact H.elim
theorem UX (hD:D.Mono)(hC:Dt C D){o:AOp}{e:List (Nat × AV)}{h h':aA}{v:AV}{x:Esc}(H:ADo C gl o e h v h' x):ADo D gl o e h v h' x:=by
 have key:∀f a h,C f a h (fun v1 h1 x1=>v1=v∧h1=h'∧x1=x)→D f a h (fun v1 h1 x1=>v1=v∧h1=h'∧x1=x):=fun f a h hc=>by
  obtain⟨v2,h2,x2,⟨e1,e2,e3⟩,hd⟩:=hC _ _ _ _ hc;subst e1;subst e2;subst e3
  exact hd
 unfold ADo at H ⊢;split at H
 ·split at H
  ·exact key _ _ _ H
  ·split at H
   ·exact key _ _ _ H
   ·exact H.elim
  ·exact H.elim
  ·exact H
 ·exact H
 ·exact H.elim
theorem z61 (hD:D.Mono)(hC:Dt C D):∀(ds:List DOp) dn hs e h x K,VD C gl ds dn hs e h x K→∃e' h' x',K e' h' x'∧VD D gl ds dn hs e h x fun e1 h1 x1=>e1=e'∧h1=h'∧x1=x'
 | [],dn,hs,e,h,x,K,H=>⟨e,h,x,H,rfl,rfl,rfl⟩
 | o::r,dn,hs,e,h,x,K,H=>by
  obtain⟨v,h',y,h1,h2,h3,h4,h5⟩:=H;obtain⟨e2,q2,x2,k2,g2⟩:=z61 hD hC r _ _ _ _ _ K h5;exact⟨e2,q2,x2,k2,v,h',y,UX hD hC h1,h2,fun k hk=>by obtain⟨g,a1,a2⟩:=h3 k hk;exact⟨g,a1,UX hD hC a2⟩,
   fun j hj=>by obtain⟨q,a1,a2⟩:=h4 j hj;exact⟨q,a1,UX hD hC a2⟩,g2⟩
theorem zcE {T U:St→(Ex→St→Prop)→Prop}(hT:∀ s K,T s K→∃ e s',K e s'∧U s fun e1 s1=>e1=e∧s1=s'){K:Ex→St→Prop}{s:St}(H:ALoop T K s):∃e s',K e s'∧ALoop U (fun e1 s1=>e1=e∧s1=s') s:=by
 induction H with
 | mk s R h hn he hr ih=>
  obtain⟨e,s',hR,hU⟩:=hT _ _ h;cases e with
  | normal=>
   obtain⟨e2,s2,k2,g2⟩:=ih s' hR;exact⟨e2,s2,k2,.mk _ _ hU (fun s1 ⟨_,h1⟩=>by subst h1;exact g2) (fun i s1 ⟨h1,_⟩=>by cases h1) (fun s1 ⟨h1,_⟩=>by cases h1)⟩
  | exit i=>exact⟨_,_,he i s' hR,.mk _ _ hU (fun s1 ⟨h1,_⟩=>by cases h1) (fun j s1 h1=>h1) (fun s1 ⟨h1,_⟩=>by cases h1)⟩
  | ret=>exact⟨_,_,hr s' hR,.mk _ _ hU (fun s1 ⟨h1,_⟩=>by cases h1) (fun j s1 ⟨h1,_⟩=>by cases h1) (fun s1 h1=>h1)⟩
theorem DG (hD:D.Mono)(hC:Dt C D):∀(c:ACode),c.noNext=true→∀s K,AW C gl c s K→∃e s',K e s'∧AW D gl c s fun e1 s1=>e1=e∧s1=s'
 | .skip,_,s,K,H=>⟨_,_,H,rfl,rfl⟩
 | .reg ops keep,hn,s,K,H=>by
  obtain⟨e,h,x,h1,h2⟩:=NN hD hC ops _ _ _ _ hn H;refine⟨_,_,h1,?_⟩;show mB D gl ops s.env s.h s.esc fun e1 h1 x1=>_
  exact DI (C:=D) (C':=D) (fun f a h K K' hK h=>hD _ _ _ _ _ hK h) ops _ _ _ _ _ (fun e1 h1 x1 ⟨a1,a2,a3⟩=>by subst a1;subst a2;subst a3;exact⟨rfl,rfl⟩) h2
 | .draw ds keep,_,s,K,H=>by
  obtain⟨e,h,x,h1,h2⟩:=z61 hD hC ds _ _ _ _ _ _ H;refine⟨_,_,h1,?_⟩;show VD D gl ds [] [] s.env s.h s.esc fun e1 h1 x1=>_
  exact VX (C:=D) (C':=D) (fun f a h K K' hK h=>hD _ _ _ _ _ hK h) ds _ _ _ _ _ _ _ (fun e1 h1 x1 ⟨a1,a2,a3⟩=>by subst a1;subst a2;subst a3;exact⟨rfl,rfl⟩) h2
 | .seq a b,hn,s,K,H=>by
  simp only[ACode.noNext,Bool.and_eq_true]at hn;obtain⟨e,s',h1,h2⟩:=DG hD hC a hn.1 _ _ H;have mono:=fun(K K':Ex→St→Prop) (hK:∀e s,K e s→K' e s)=>sD (C:=D) (C':=D) (gl:=gl) (fun f a h K K' hK h=>hD _ _ _ _ _ hK h) a s K K' hK
  cases e with
  | normal=>
   obtain⟨e2,s2,k2,g2⟩:=DG hD hC b hn.2 _ _ h1;refine⟨e2,s2,k2,mono _ _ (fun e1 s1 ⟨a1,a2⟩=>?_) h2⟩
   subst a1;subst a2;exact g2
  | exit i=>exact⟨_,_,h1,mono _ _ (fun e1 s1 ⟨a1,a2⟩=>by subst a1;subst a2;exact⟨rfl,rfl⟩) h2⟩
  | ret=>exact⟨_,_,h1,mono _ _ (fun e1 s1 ⟨a1,a2⟩=>by subst a1;subst a2;exact⟨rfl,rfl⟩) h2⟩
 | .condu c a b,hn,s,K,H=>by cases hn
 | .det b,hn,s,K,H=>by cases hn
 | .cond c a b,hn,s,K,H=>by
  simp only[ACode.noNext,Bool.and_eq_true]at hn;unfold AW at H;split at H
  ·rename_i t ht
   split at H
   ·obtain⟨e,s',h1,h2⟩:=DG hD hC a hn.1 _ _ H
    refine⟨e,s',h1,?_⟩;unfold AW;simp only[ht];exact h2
   ·obtain⟨e,s',h1,h2⟩:=DG hD hC b hn.2 _ _ H
    refine⟨e,s',h1,?_⟩;unfold AW;simp only[ht];exact h2
  ·exact H.elim
 | .block id b,hn,s,K,H=>by
  obtain⟨e,s',h1,h2⟩:=DG hD hC b hn _ _ H;have mono:=fun(K K':Ex→St→Prop) (hK:∀e s,K e s→K' e s)=>sD (C:=D) (C':=D) (gl:=gl) (fun f a h K K' hK h=>hD _ _ _ _ _ hK h) b s K K' hK
  cases e with
  | normal=>exact⟨_,_,h1,mono _ _ (fun e1 s1 ⟨a1,a2⟩=>by subst a1;subst a2;exact⟨rfl,rfl⟩) h2⟩
  | exit i=>
   dsimp only at h1;split at h1
   ·rename_i hi
    exact⟨_,_,h1,mono _ _ (fun e1 s1 ⟨a1,a2⟩=>by subst a1;subst a2;dsimp only;rw[if_pos hi];exact⟨rfl,rfl⟩) h2⟩
   ·rename_i hi
    exact⟨_,_,h1,mono _ _ (fun e1 s1 ⟨a1,a2⟩=>by subst a1;subst a2;dsimp only;rw[if_neg hi];exact⟨rfl,rfl⟩) h2⟩
  | ret=>exact⟨_,_,h1,mono _ _ (fun e1 s1 ⟨a1,a2⟩=>by subst a1;subst a2;exact⟨rfl,rfl⟩) h2⟩
 | .loop b,hn,s,K,H=>zcE (fun s K h=>DG hD hC b hn s K h) H
 | .scope b,hn,s,K,H=>by
  obtain⟨e,s',h1,h2⟩:=DG hD hC b hn _ _ H;exact⟨_,_,h1,sD (C:=D) (C':=D) (gl:=gl) (fun f a h K K' hK h=>hD _ _ _ _ _ hK h) b _ _ _ (fun e1 s1 ⟨a1,a2⟩=>by subst a1;subst a2;exact⟨rfl,rfl⟩) h2⟩
 | .pr l b,hn,s,K,H=>DG hD hC b hn _ K H
 | .exit id,_,s,K,H=>⟨_,_,H,rfl,rfl⟩
 | .ret,_,s,K,H=>⟨_,_,H,rfl,rfl⟩
 | .bad,_,s,K,H=>H.elim
theorem z9c {F:AFun}{b:Nat}{s:St}{K:kA}(H:fin F b s K):∃v h x,K v h x∧fin F b s fun v1 h1 x1=>v1=v∧h1=h∧x1=x:=by
 unfold fin at H;cases h1:qF s F.results with
 | none=>rw[h1]at H;exact H.elim
 | some vs=>
  rw[h1]at H;dsimp only at H;cases h2:F.keep with
  | true=>
   rw[h2]at H;dsimp only at H;by_cases h3:iC s.esc (RB (List.length s.esc) s.esc (max b (DB vs).top))=true
   ·rw[if_pos h3]at H
    exact⟨_,_,_,H,by unfold fin;rw[h1];dsimp only;rw[h2];dsimp only;rw[if_pos h3];exact⟨rfl,rfl,rfl⟩⟩
   ·rw[if_neg h3]at H
    exact⟨_,_,_,H,by unfold fin;rw[h1];dsimp only;rw[h2];dsimp only;rw[if_neg h3];exact⟨rfl,rfl,rfl⟩⟩
  | false=>
   rw[h2]at H;dsimp only at H;cases h4:qB b s.h (DB vs) with
   | none=>rw[h4]at H;exact H.elim
   | some v0=>
    rw[h4]at H;dsimp only at H;by_cases h3:iC s.esc (RB (List.length s.esc) s.esc (max b v0.top))=true
    ·rw[if_pos h3]at H
     cases h5:qB (RB (List.length s.esc) s.esc (max b v0.top)) s.h (DB vs) with
     | none=>rw[h5]at H;exact H.elim
     | some v=>
      rw[h5]at H;exact⟨_,_,_,H.2,by unfold fin;rw[h1];dsimp only;rw[h2];dsimp only;rw[h4];dsimp only;rw[if_pos h3,h5];exact⟨H.1,rfl,rfl,rfl⟩⟩
    ·rw[if_neg h3]at H
     exact⟨_,_,_,H,by unfold fin;rw[h1];dsimp only;rw[h2];dsimp only;rw[h4];dsimp only;rw[if_neg h3];exact⟨rfl,rfl,rfl⟩⟩
def Ctx.NoNext (X:Ctx):Prop:=∀f F,X.fn f=some F→(F.isDet||F.body.noNext)=true
theorem zdm (hD:D.Mono)(hC:Dt C D){F:AFun}{a:List AV}{h:aA}{K:kA}(hb:F.body.noNext=true)(H:kD C gl F a h K):∃v h' x,K v h' x∧kD D gl F a h fun v1 h1 x1=>v1=v∧h1=h'∧x1=x:=by
 unfold kD at H ⊢;cases hp:(if F.byref then some (a,h) else oA h a) with
 | none=>rw[hp]at H;exact H.elim
 | some q=>
  obtain⟨asv,h1⟩:=q;rw[hp]at H;obtain⟨hl,H⟩:=H;obtain⟨e,s',k1,g1⟩:=DG hD hC _ hb _ _ H;have mono:=fun(K K':Ex→St→Prop) (hK:∀e s,K e s→K' e s)=>sD (C:=D) (C':=D) (gl:=gl) (fun f a h K K' hK h=>hD _ _ _ _ _ hK h) F.body ⟨enter asv,h1,[]⟩ K K' hK
  cases e with
  | exit i=>exact k1.elim
  | normal=>
   obtain⟨v,h',x,k2,g2⟩:=z9c k1;exact⟨v,h',x,k2,hl,mono _ _ (fun e1 s1 ⟨a1,a2⟩=>by subst a1;subst a2;exact g2) g1⟩
  | ret=>
   obtain⟨v,h',x,k2,g2⟩:=z9c k1;exact⟨v,h',x,k2,hl,mono _ _ (fun e1 s1 ⟨a1,a2⟩=>by subst a1;subst a2;exact g2) g1⟩
theorem zc8 {X:Ctx}(hX:X.NoNext):Dt (bA X) (bA X):=by
 intro f a h K H;refine H (fun f a h K=>∃v h' x,K v h' x∧bA X f a h fun v1 h1 x1=>v1=v∧h1=h'∧x1=x) ?_ ?_
 ·intro f a h K K' hK ⟨v,h',x,k,g⟩
  exact⟨v,h',x,hK _ _ _ k,g⟩
 ·intro f a h K H
  have hC:Dt (fun f a h K=>∃v h' x,K v h' x∧bA X f a h fun v1 h1 x1=>v1=v∧h1=h'∧x1=x) (bA X):=fun f a h K H=>H
  have hD:=bA.mono X
  unfold FC at H;split at H
  ·rename_i F hF
   unfold CE at H;cases hd:F.isDet with
   | true=>
    rw[hd]at H;obtain⟨v,h',x,k,H⟩:=H;refine⟨v,h',x,k,bA.fold ?_⟩;unfold FC;simp only[hF,CE,hd];exact⟨v,h',x,⟨rfl,rfl,rfl⟩,GR (fun f a h K K' hK ⟨v2,h2,x2,k2,g2⟩=>hD _ _ _ _ _ (fun v1 h1 x1 hv=>by obtain⟨rfl,rfl,rfl⟩:=hv;exact hK _ _ _ k2) g2) (fun _ _ _ h=>h) H⟩
   | false=>
    rw[hd]at H;obtain⟨v,h',x,k1,g1⟩:=zdm hD hC (by have:=hX f F hF;rw[hd]at this;simpa using this) H
    refine⟨v,h',x,k1,bA.fold ?_⟩;unfold FC;simp only[hF,CE,hd]
    exact g1
  ·rename_i hF
   split at H
   ·rename_i hx2
    refine⟨_,_,_,H,bA.fold ?_⟩;unfold FC;simp only[hF,hx2]
    exact⟨trivial,trivial,trivial⟩
   ·rename_i hx2
    split at H
    ·rename_i hp
     split at H
     ·rename_i hu
      split at H
      ·rename_i hx
       refine⟨_,_,_,H,bA.fold ?_⟩;unfold FC;simp only[hF,hx2,hp,hu,hx]
       exact⟨trivial,trivial,trivial⟩
      ·exact H.elim
     ·exact H.elim
    ·exact H.elim
theorem bA.one {X:Ctx}(hX:X.NoNext){f:Nat}{a:List AV}{h:aA}{Q:kA}(H:bA X f a h Q):∃v h' x,Q v h' x∧∀K:kA,bA X f a h K=K v h' x:=by
 obtain⟨v,h',x,k,g⟩:=zc8 hX _ _ _ _ H;exact⟨v,h',x,k,fun K=>rA g⟩
end Go.Am
end
section
/- The abstract machine,part 29: its meaning once more,spelt so that a function's code can be printed asv a formula over its values (shallow),equal tov the deep one by computing. -/
set_option linter.unusedSimpArgs false
set_option linter.unusedVariables false
namespace Go.Am
def pK (o:Option AV)(k:AV→Prop):Prop:=match o with
 | some v=>k v
 | none=>False
def wK (o:Option (AV × aA × Esc))(k:AV→aA→Esc→Prop):Prop:=match o with
 | some y=>k y.1 y.2.1 y.2.2
 | none=>False
def LQ (c a b:AV):Option AV:=match c with
 | .p (.bool t)=>some (bif t then a else b)
 | _=>none
def CJ (x:AV)(h:aA):Option (AV×aA×Esc):=match x.cells with
 | some cs=>some (.ref h.length 0,h++[.box cs],[])
 | none=>none
def tQ:List (Nat × Nat × AV)→List AV→Option (List AV)
 | [],cs=>some cs
 | (off,n,x)::r,cs=>match x.cells with
  | some vs=>if vs.length=n∧off+n≤cs.length then tQ r (splice cs off vs) else none
  | none=>none
def xC (z:List AV)(ps:List (Nat × Nat × AV)):Option AV:=(tQ ps z).map mkA
def uQ (sh:Sh):List (Nat×AV)→aA→List PV→Option (List PV×aA)
 | [],h,xs=>some (xs,h)
 | (i,x)::r,h,xs=>match pur h x with
  | some (v,h')=>if v.shp sh∧i<xs.length then uQ sh r h' (xs.set i v) else none
  | none=>none
def XC (own:Bool)(sh:Sh)(n:Nat)(z:PV)(ps:List (Nat × AV))(h:aA):Option (AV×aA×Esc):=match uQ sh ps h (List.replicate n z) with
 | some (xs,h')=>if !z.shp sh then none else some (bif own then(.own h'.length n 0 n,h'++[.row sh xs 0],[]) else(.p (.sl sh xs),h',[]))
 | none=>none
def FA (sh:Sh)(a:AV)(h:aA):Option AV:=match a with
 | .ref id off=>match h[id]? with
  | some (.box cs)=>cut sh off cs
  | _=>none
 | .rref id g i off=>match h[id]? with
  | some (.row _ xs _)=>if g=xs.length then((xs[i]?).bind (aB sh off)).map .p else none
  | _=>none
 | .vp v=>(aB sh 0 v).map .p
 | .bt k off id g=>ldA sh k off id g h
 | _=>none
def tB (sh:Sh)(a x:AV)(h:aA):Option (AV×aA×Esc):=match a with
 | .ref id off=>match h[id]?,x.cells with
  | some (.box cs),some vs=>if vs.length=gA sh∧off+vs.length≤cs.length then some (.und,h.set id (.box (splice cs off vs)),JD id cs x) else none
  | _,_=>none
 | .rref id g i off=>match pur h x with
  | some (v,h1)=>match h1[id]? with
   | some (.row rsh xs fz)=>if g=xs.length∧fz≤i∧v.cells.length=gA sh∧v.cells.all PV.sc then match xs[i]? with
    | some (.agg cs)=>if off+v.cells.length≤cs.length then some (.und,h1.set id (.row rsh (xs.set i (.agg (splice cs off v.cells))) fz),[]) else none
    | some _=>if off=0∧v.sc then some (.und,h1.set id (.row rsh (xs.set i v) fz),[]) else none
    | none=>none
    else none
   | _=>none
  | none=>none
 | .bt k off id g=>stA sh k off id g x h
 | _=>none
def fF (x:AV):Option AV:=match x with
 | .ref _ _ | .rref _ _ _ _ | .vp _ | .fn _ _=>some x
 | .bt k _ _ _=>nlA k x
 | _=>none
def DA (op:BinOp)(x y:AV):Option AV:=match x,y with
 | .p a,.p b=>(gC op a b).map .p
 | _,_=>none
def YA (ks:List Nat)(neg:Bool)(x y:AV):Option AV:=match x,y with
 | .p (.agg asv),.p (.agg bs)=>if asv.map PV.kind=ks∧bs.map PV.kind=ks∧ks≠[] then(eqs asv bs).map fun t=>pbool (bif neg then !t else t) else none
 | .p (.bool a),.p (.bool b)=>if ks=[] then some (pbool (bif neg then !decide (a=b) else decide (a=b))) else none
 | _,_=>none
def JQ (k:Nat)(neg:Bool)(x:AV):Option AV:=bif dI k x then some .anyb else(IQ k x).map fun r=>pbool (bif neg then !r else r)
def HU (x:AV):Option AV:=if dH x then some .ifc else none
def oUn (op:UnOp)(x:AV):Option AV:=match x with
 | .p a=>(aun op a).map .p
 | _=>none
def HE (c:Cv)(x:AV)(h:aA):Option (AV×aA×Esc):=(gG h c x).map fun y=>(y.1,y.2,[])
def SL (k:IntKind)(x:AV):Option AV:=match x with
 | .p (.int _ n)=>some (.p (.int k (k.wrap n)))
 | _=>none
def IU (sh:Sh)(z:PV)(len cap:AV)(h:aA):Option (AV×aA×Esc):=match CB len,CB cap with
 | some n,some m=>if n≤m∧m≤GA∧z.shp sh then some (.own h.length n 0 n,h++[.row sh (List.replicate n z) 0],[]) else none
 | _,_=>none
def jE (d:Nat):Option AV→Option Nat
 | none=>some d
 | some x=>CB x
def MQ (x:AV)(lo hi:Option AV):Option AV:=match x with
 | .p (.str s)=>match jE 0 lo,jE s.length hi with
  | some l,some r=>if l≤r∧r≤s.length then some (.p (.str (win s l (r-l)))) else none
  | _,_=>none
 | _=>none
def FJ (sh:Sh)(x:AV)(lo hi mx:Option AV)(h:aA):Option AV:=match x with
 | .p (.sl sh' xs)=>match jE 0 lo,jE xs.length hi,jE xs.length mx with
  | some l,some r,some m=>if sh'=sh∧l≤r∧r≤m∧m≤xs.length then some (if mx.isSome∧m=l then .sl0 sh else .p (.sl sh (win xs l (r-l)))) else none
  | _,_,_=>none
 | .sl0 sh'=>match jE 0 lo,jE 0 hi,jE 0 mx with
  | some l,some r,some m=>if l=0∧r=0∧m=0 then some (.sl0 sh') else none
  | _,_,_=>none
 | .own id g off len=>match h[id]? with
  | some (.row rsh xs _)=>match jE 0 lo,jE len hi,jE len mx with
   | some l,some r,some m=>if rsh=sh∧g=xs.length∧off+len≤xs.length∧l≤r∧r≤m∧m≤len then some (if mx.isSome∧m=l then .sl0 sh else .own id g (off+l) (r-l)) else none
   | _,_,_=>none
  | _=>none
 | _=>none
def IA (off:Nat)(sh:Sh)(x:AV):Option AV:=match x with
 | .ref id o=>some (.ref id (o+off))
 | .rref id g i o=>some (.rref id g i (o+off))
 | .vp v=>(aB sh off v).map .vp
 | .bt k o id g=>faA k off o id g
 | _=>none
def fI (off:Nat)(sh:Sh)(x:AV):Option AV:=match x with
 | .p v=>match v with
  | .agg _=>(aB sh off v).map .p
  | _=>none
 | .agg cs=>cut sh off cs
 | _=>none
def eD (sh:Sh)(x i:AV)(h:aA):Option AV:=match x,CB i with
 | .p (.sl sh' xs),some k=>if sh'=sh then(xs[k]?).map .vp else none
 | .own id g off len,some k=>match h[id]? with
  | some (.row rsh xs _)=>if rsh=sh∧g=xs.length∧off+len≤xs.length∧k<len then some (.rref id g (off+k) 0) else none
  | _=>none
 | .bt kk _ id g,some k=>iaA sh kk id g k h
 | _,_=>none
def EJ (n:Nat)(sh:Sh)(x i:AV):Option AV:=match x,CB i with
 | .ref id o,some k=>if k<n then some (.ref id (o+k*gA sh)) else none
 | .rref id g j o,some k=>if k<n then some (.rref id g j (o+k*gA sh)) else none
 | .vp v,some k=>if k<n then(aB sh (k*gA sh) v).map .vp else none
 | _,_=>none
def gI (n:Nat)(sh:Sh)(x i:AV):Option AV:=match x,CB i with
 | .p (.agg cs),some k=>if k<n then(aB sh (k*gA sh) (.agg cs)).map .p else none
 | _,_=>none
def TL (x i:AV):Option AV:=match x,CB i with
 | .p (.str s),some k=>(s[k]?).map fun b=>.p (.int .u8 b.toNat)
 | _,_=>none
def DJ (x:AV)(i:Nat):Option AV:=match x with
 | .tup vs=>vs[i]?
 | _=>none
def bH (x:AV):Option AV:=match x with
 | .p (.sl _ xs)=>some (pint xs.length)
 | .sl0 _=>some (pint 0)
 | .own _ _ _ len=>some (pint len)
 | .bt k _ _ g=>lnA k g
 | _=>none
def ND (x:AV):Option AV:=match x with
 | .p (.str s)=>some (pint s.length)
 | _=>none
def RL (sh:Sh)(s x:AV)(h:aA):Option (AV×aA×Esc):=match rds h x with
 | some (sh',ys)=>if sh'=sh then match s with
  | .sl0 _=>if ys.length≤GA then some (.own h.length ys.length 0 ys.length,h++[.row sh ys 0],[]) else none
  | .own id g off len=>match h[id]? with
   | some (.row rsh xs fz)=>if rsh=sh∧g=xs.length∧off=0∧len=xs.length∧len+ys.length≤GA∧fz≤xs.length then some (.own id (g+ys.length) off (len+ys.length),h.set id (.row sh (xs++ys) fz),[])
    else if rsh=sh∧g=xs.length∧off+len+ys.length≤xs.length∧fz≤off+len∧1≤ys.length∧len+ys.length≤GA∧sh=none∧xs.all PV.intP=true∧ys.all PV.intP=true then
     some (.p (.sl sh (win xs off len++ys)),h.set id (.row sh (splice xs (off+len) (List.replicate ys.length .unk)) (off+len+ys.length)),[])
    else none
   | _=>none
  | _=>none
  else none
 | none=>none
def FU (sh:Sh)(d s:AV)(h:aA):Option (AV×aA×Esc):=match d,rds h s with
 | .own id g off len,some (sh',ys)=>match h[id]? with
  | some (.row rsh xs fz)=>if rsh=sh∧sh'=sh∧g=xs.length∧off+len≤xs.length∧fz≤off then
   some (pint (min ys.length len),h.set id (.row sh (splice xs off (ys.take (min ys.length len))) fz),[])
   else none
  | _=>none
 | _,_=>none
def oClr (sh:Sh)(z:PV)(x:AV)(h:aA):Option (AV×aA×Esc):=match x with
 | .sl0 _=>some (.tup [],h,[])
 | .own id g off len=>match h[id]? with
  | some (.row rsh xs fz)=>if rsh=sh∧g=xs.length∧off+len≤xs.length∧fz≤off then
   some (.tup [],h.set id (.row sh (splice xs off (List.replicate len z)) fz),[])
   else none
  | _=>none
 | _=>none
def oMx (xs:List AV):Option AV:=match xs with
 | .p a::r=>((unp r).bind fun l=>l.foldlM SN a).map .p
 | _=>none
def oMn (xs:List AV):Option AV:=match xs with
 | .p a::r=>((unp r).bind fun l=>l.foldlM TN a).map .p
 | _=>none
def NB (kk:Sh × List Nat)(ok:Bool)(z x k:AV)(h:aA):Option AV:=match VC kk k with
 | some key=>match (match x with | .nilm=>some []|m=>(AC h m).map fun y=>y.2.1) with
  | some es=>match KC key es with
   | some r=>
    let v:=((r.bind (es[·]?)).map ME.val)
    some (bif ok then .tup [v.getD z,pbool v.isSome] else v.getD z)
   | none=>none
  | none=>none
 | none=>none
def mC (kk:Sh × List Nat)(m k x:AV)(h:aA):Option (AV×aA×Esc):=match VC kk k,AC h m,dH x with
 | some key,some (id,es,c),true=>match KC key es with
  | some (some i)=>some (.und,h.set id (.amap (es.modify i fun e=>{ e with val:=x }) c),uC id x)
  | some none=>some (.und,h.set id (.amap (es++[⟨key,x,c⟩]) (c+1)),uC id x)
  | none=>none
 | _,_,_=>none
def cH (kk:Sh × List Nat)(z m k:AV)(h:aA):Option (AV×aA×Esc):=match VC kk k,AC h m with
 | some key,some (id,es,c)=>match KC key es with
  | some (some i)=>(es[i]?).map fun e=>(.tup [e.val,pint e.born],h,[])
  | some none=>some (.tup [z,pint c],h.set id (.amap (es++[⟨key,z,c⟩]) (c+1)),[])
  | none=>none
 | _,_=>none
def aH (m s x:AV)(h:aA):Option (AV×aA×Esc):=match AC h m,CB s,dH x with
 | some (id,es,c),some b,true=>match es.findIdx? (fun e=>e.born==b) with
  | some i=>some (.und,h.set id (.amap (es.modify i fun e=>{ e with val:=x }) c),uC id x)
  | none=>none
 | _,_,_=>none
def GU (kk:Sh × List Nat)(m k:AV)(h:aA):Option (AV×aA×Esc):=match VC kk k,AC h m with
 | some key,some (id,es,c)=>match KC key es with
  | some (some i)=>some (.und,h.set id (.amap (es.eraseIdx i) c),[])
  | some none=>some (.und,h,[])
  | none=>none
 | _,_=>none
def KQ (x:AV)(h:aA):Option AV:=match x with
 | .nilm=>some (pint 0)
 | .mp id=>(AC h (.mp id)).map fun y=>pint y.2.1.length
 | _=>none
def VL (x:AV)(h:aA):Option (AV×aA×Esc):=match AC h x with
 | some (id,_,c)=>some (.it h.length,h++[.iter (some id) c [] c],[])
 | none=>match x with
  | .nilm=>some (.it h.length,h++[.iter none 0 [] 0],[])
  | _=>none
def UL (i:AV)(h:aA):Option (AV×aA×Esc):=match i with
 | .it id=>match h[id]? with
  | some (.iter (some m) _ seen last)=>match AC h (.mp m),seen.getLast? with
   | some (_,es,c),some b=>if c=last then(es.find? (fun e=>e.born==b)).map fun e=>(.tup [.p e.key,e.val],h,[]) else none
   | _,_=>none
  | _=>none
 | _=>none
def alK (z:List AV)(h:aA)(k:AV→aA→Esc→Prop):Prop:=k (.ref h.length 0) (h++[.box z]) []
def nwK (sh:Sh)(h:aA)(k:AV→aA→Esc→Prop):Prop:=k (.own h.length 0 0 0) (h++[.row sh [] 0]) []
def mmK (h:aA)(k:AV→aA→Esc→Prop):Prop:=k (.mp h.length) (h++[.amap [] 0]) []
def ev3 (ev:Opd→AV):List (Nat×Nat×Opd)→List (Nat×Nat×AV)
 | []=>[]
 | (a,b,x)::r=>(a,b,ev x)::ev3 ev r
def ev2 (ev:Opd→AV):List (Nat×Opd)→List (Nat×AV)
 | []=>[]
 | (a,x)::r=>(a,ev x)::ev2 ev r
def evO (ev:Opd→AV):Option Opd→Option AV
 | none=>none
 | some x=>some (ev x)
def ev1 (ev:Opd→AV):List Opd→List AV
 | []=>[]
 | x::r=>ev x::ev1 ev r
def opN (o:AO)(ev:Opd→AV)(h:aA)(k:AV→aA→Esc→Prop):Prop:=match o with
 | .mv x=>k (ev x) h []
 | .pick c a b=>pK (LQ (ev c) (ev a) (ev b)) fun v=>k v h []
 | .alloc z=>alK z h k
 | .box x=>wK (CJ (ev x) h) k
 | .build z ps=>pK (xC z (ev3 ev ps)) fun v=>k v h []
 | .bsl own sh n z ps=>wK (XC own sh n z (ev2 ev ps) h) k
 | .load sh a=>pK (FA sh (ev a) h) fun v=>k v h []
 | .store sh a x=>wK (tB sh (ev a) (ev x) h) k
 | .nilchk x=>pK (fF (ev x)) fun v=>k v h []
 | .bin op x y=>pK (DA op (ev x) (ev y)) fun v=>k v h []
 | .eqa ks neg x y=>pK (YA ks neg (ev x) (ev y)) fun v=>k v h []
 | .isnil n neg x=>pK (JQ n neg (ev x)) fun v=>k v h []
 | .mkif x=>pK (HU (ev x)) fun v=>k v h []
 | .un op x=>pK (oUn op (ev x)) fun v=>k v h []
 | .conv (.i c) x=>pK (SL c (ev x)) fun v=>k v h []
 | .mkfn f caps=>k (.fn f (ev1 ev caps)) h []
 | .slice sh x lo hi mx=>pK (FJ sh (ev x) (evO ev lo) (evO ev hi) (evO ev mx) h) fun v=>k v h []
 | .slstr x lo hi=>pK (MQ (ev x) (evO ev lo) (evO ev hi)) fun v=>k v h []
 | .mksl sh z len cap=>wK (IU sh z (ev len) (ev cap) h) k
 | .faddr off sh x=>pK (IA off sh (ev x)) fun v=>k v h []
 | .field off sh x=>pK (fI off sh (ev x)) fun v=>k v h []
 | .iaddr sh x i=>pK (eD sh (ev x) (ev i) h) fun v=>k v h []
 | .iaddra n sh x i=>pK (EJ n sh (ev x) (ev i)) fun v=>k v h []
 | .idxa n sh x i=>pK (gI n sh (ev x) (ev i)) fun v=>k v h []
 | .idxs x i=>pK (TL (ev x) (ev i)) fun v=>k v h []
 | .ext x i=>pK (DJ (ev x) i) fun v=>k v h []
 | .len x=>pK (bH (ev x)) fun v=>k v h []
 | .lens x=>pK (ND (ev x)) fun v=>k v h []
 | .app sh s x=>wK (RL sh (ev s) (ev x) h) k
 | .copy sh d s=>wK (FU sh (ev d) (ev s) h) k
 | .uns m t xs=>wK (rD m t (ev1 ev xs) h) k
 | .clr sh z x=>wK (oClr sh z (ev x) h) k
 | .mx xs=>pK (oMx (ev1 ev xs)) fun v=>k v h []
 | .mn xs=>pK (oMn (ev1 ev xs)) fun v=>k v h []
 | .new0 sh=>nwK sh h k
 | .conv .s2b x=>wK (HE .s2b (ev x) h) k
 | .conv .b2s x=>wK (HE .b2s (ev x) h) k
 | .conv .r2s x=>wK (HE .r2s (ev x) h) k
 | .conv .same x=>wK (HE .same (ev x) h) k
 | .mkmap=>mmK h k
 | .look kk ok z x key=>pK (NB kk ok z (ev x) (ev key) h) fun v=>k v h []
 | .mupd kk m key x=>wK (mC kk (ev m) (ev key) (ev x) h) k
 | .ment kk z m key=>wK (cH kk z (ev m) (ev key) h) k
 | .estore m s x=>wK (aH (ev m) (ev s) (ev x) h) k
 | .mdel kk m key=>wK (GU kk (ev m) (ev key) h) k
 | .lenm x=>pK (KQ (ev x) h) fun v=>k v h []
 | .mrange x=>wK (VL (ev x) h) k
 | .mentry i=>wK (UL (ev i) h) k
 | .call _ _ | .callv _ _ | .mnext _ _=>False
theorem zcw {o:Option (AV × aA × Esc)}{k:AV→aA→Esc→Prop}:GJ o k=wK o k:=rfl
theorem AG {o:Option AV}{h:aA}{k:AV→aA→Esc→Prop}:wK (o.map fun v=>(v,h,[])) k=pK o fun v=>k v h []:=by cases o <;> rfl
theorem z8X (ev:Opd→AV):∀(ps:List (Nat×Nat×Opd)) (z:List AV),UG ev ps z=tQ (ev3 ev ps) z
 | [],z=>rfl
 | (off,n,x)::r,z=>by
  simp only[UG,ev3,tQ];cases (ev x).cells with
  | none=>rfl
  | some vs=>simp only[z8X ev r]
theorem z8Y (ev:Opd→AV)(sh:Sh):∀(ps:List (Nat×Opd)) (h:aA) (z:List PV),VG ev sh ps h z=uQ sh (ev2 ev ps) h z
 | [],h,z=>rfl
 | (i,x)::r,h,z=>by
  simp only[VG,ev2,uQ];cases pur h (ev x) with
  | none=>rfl
  | some y=>simp only[z8Y ev sh r]
theorem z7D (ev:Opd→AV)(d:Nat)(o:Option Opd):bnd ev d o=jE d (evO ev o):=by cases o <;> rfl
theorem zky (ev:Opd→AV)(o:Option Opd):(evO ev o).isSome=o.isSome:=by cases o <;> rfl
theorem QG (ev:Opd→AV)(l:List Opd):l.map ev=ev1 ev l:=by
 induction l with
 | nil=>rfl
 | cons x r ih=>simp only[List.map_cons,ev1,ih]
theorem zd4 (sh:Sh)(ev:Opd→AV)(h:aA)(x:AV)(lo hi mx:Option Opd):asl sh ev h x lo hi mx=FJ sh x (evO ev lo) (evO ev hi) (evO ev mx) h:=by
 unfold asl FJ;simp only[z7D,zky];rfl
theorem MN {p:Prop}[Decidable p]{a:AV}{h:aA}{k:AV→aA→Esc→Prop}:wK (if p then some (a,h,[]) else none) k=pK (if p then some a else none) fun v=>k v h []:=by split <;> rfl
theorem fG {α:Type}{o:Option α}{f:α→AV}{h:aA}{k:AV→aA→Esc→Prop}:wK (o.map fun v=>(f v,h,[])) k=pK (o.map f) fun v=>k v h []:=by cases o <;> rfl
theorem BR {α:Type}{p:Prop}[Decidable p]{o:Option α}{f:α→AV}{h:aA}{k:AV→aA→Esc→Prop}:wK (if p then o.map (fun v=>(f v,h,[])) else none) k=pK (if p then o.map f else none) fun v=>k v h []:=by
 split
 ·exact fG
 ·rfl
theorem za3 {o:AO}(hp:o.plain=true){ev:Opd→AV}{h:aA}{k:AV→aA→Esc→Prop}:GJ (aop o ev h) k=opN o ev h k:=by
 rw[zcw];cases o <;> first|(cases hp;done)|skip
 case mv=>rfl
 case pick c a b=>
  simp only[aop,opN,LQ];generalize ev c=v;cases v <;> try rfl
  rename_i p;cases p <;> rfl
 case alloc=>rfl
 case box=>rfl
 case build z ps=>simp only[aop,opN];rw[←AG,xC,z8X,Option.map_map];rfl
 case bsl=>simp only[aop,opN,XC,z8Y];rfl
 case load sh a=>
  simp only[aop,opN,FA];generalize ev a=v;cases v with
  | ref id off=>dsimp only;cases h[id]? with
   | none=>rfl
   | some o=>cases o <;> first|rfl|exact AG
  | rref id g i off=>dsimp only;cases h[id]? with
   | none=>rfl
   | some o=>cases o <;> first|rfl|exact BR
  | vp v=>exact fG
  | p v=>cases v <;> rfl
  | bt _ _ _ _=>exact AG
  | _=>rfl
 case store=>simp only[aop,opN];rfl
 case nilchk x=>
  simp only[aop,opN,fF];generalize ev x=v;cases v <;> try rfl
  exact AG
 case bin op x y=>
  simp only[aop,opN,DA];generalize ev x=v;generalize ev y=u;cases v <;> try rfl
  cases u <;> try rfl
  exact fG
 case eqa ks neg x y=>
  simp only[aop,opN,YA];generalize ev x=v;generalize ev y=u;cases v <;> try rfl
  rename_i p;cases p <;> try rfl
  all_goals (cases u <;> try rfl)
  all_goals (rename_i q;cases q <;> try rfl)
  ·exact MN
  ·exact BR
 case isnil k neg p=>
  simp only[aop,opN,JQ];cases dI k (ev p) with
  | true=>rfl
  | false=>exact fG
 case mkif=>exact MN
 case un op x=>
  simp only[aop,opN,oUn];generalize ev x=v;cases v <;> try rfl
  exact fG
 case conv c x=>
  cases c;case i k'=>
   simp only[aop,opN,SL,gG];generalize ev x=v;cases v <;> try rfl
   rename_i p;cases p <;> rfl
  all_goals rfl
 case mkfn f caps=>simp only[aop,opN,QG];rfl
 case slice=>simp only[aop,opN,zd4];exact AG
 case slstr x lo hi=>
  simp only[aop,opN,MQ,z7D];generalize ev x=v;cases v <;> try rfl
  rename_i p;cases p <;> try rfl
  rename_i s;dsimp only;generalize jE 0 _=o1;generalize jE s.length _=o2;cases o1 <;> try rfl
  cases o2 <;> try rfl
  exact MN
 case mksl=>simp only[aop,opN];rfl
 case faddr off sh x=>
  simp only[aop,opN,IA];generalize ev x=v;cases v <;> try rfl
  ·exact fG
  ·exact AG
 case field off sh x=>
  simp only[aop,opN,fI];generalize ev x=v;cases v <;> try rfl
  ·rename_i p;cases p <;> try rfl
   exact fG
  ·exact AG
 case iaddr sh x i=>
  simp only[aop,opN,eD];generalize ev x=v;generalize CB (ev i)=n;cases v <;> try rfl
  ·rename_i p;cases p <;> try rfl
   cases n <;> try rfl
   exact BR
  ·cases n <;> try rfl
   rename_i id g off len k;dsimp only;cases h[id]? with
   | none=>rfl
   | some o=>cases o <;> first|rfl|exact MN
  ·cases n <;> try rfl
   exact AG
 case iaddra m sh x i=>
  simp only[aop,opN,EJ];generalize ev x=v;generalize CB (ev i)=n;cases v <;> try rfl
  all_goals (cases n <;> try rfl)
  ·exact MN
  ·exact MN
  ·exact BR
 case idxa m sh x i=>
  simp only[aop,opN,gI];generalize ev x=v;generalize CB (ev i)=n;cases v <;> try rfl
  rename_i p;cases p <;> try rfl
  cases n <;> try rfl
  exact BR
 case idxs x i=>
  simp only[aop,opN,TL];generalize ev x=v;generalize CB (ev i)=n;cases v <;> try rfl
  rename_i p;cases p <;> try rfl
  cases n <;> try rfl
  exact fG
 case ext x i=>
  simp only[aop,opN,DJ];generalize ev x=v;cases v <;> try rfl
  exact AG
 case len x=>
  simp only[aop,opN,bH];generalize ev x=v;cases v <;> try rfl
  ·rename_i p;cases p <;> rfl
  ·exact AG
 case lens x=>
  simp only[aop,opN,ND];generalize ev x=v;cases v <;> try rfl
  rename_i p;cases p <;> rfl
 case app=>simp only[aop,opN];rfl
 case copy=>simp only[aop,opN];rfl
 case uns=>simp only[aop,opN,QG,zcw]
 case clr=>simp only[aop,opN];rfl
 case mx xs=>
  simp only[aop,opN,QG,oMx];generalize ev1 ev xs=l;cases l <;> try rfl
  rename_i v r;cases v <;> try rfl
  exact fG
 case mn xs=>
  simp only[aop,opN,QG,oMn];generalize ev1 ev xs=l;cases l <;> try rfl
  rename_i v r;cases v <;> try rfl
  exact fG
 case new0=>rfl
 case look kk ok z x key=>
  simp only[aop,opN,NB];cases VC kk (ev key) <;> try rfl
  rename_i kk;generalize ev x=v;cases v <;> try rfl
  rename_i id;dsimp only;cases AC h (.mp id) <;> try rfl
  rename_i y;dsimp only[Option.map_some];cases KC kk y.2.1 <;> rfl
 case lenm x=>
  simp only[aop,opN,KQ];generalize ev x=v;cases v <;> try rfl
  exact fG
 all_goals rfl
end Go.Am
end
section
/- The abstract machine,part 30: the meaning of code in the new spelling,and that it is the old one. -/
set_option linter.unusedSimpArgs false
set_option linter.unusedVariables false
namespace Go.Am
def gV (v:AV)(b:Bool)(h:aA)(A:(AV→aA→Esc→Prop)→Prop)(k:AV→aA→Esc→Prop):Prop:=nF v b (A k) (k .skp h [])
def gP (v:AV)(b:Bool)(o:Option AV)(h:aA)(k:AV→aA→Esc→Prop):Prop:=gV v b h (fun k=>pK o fun u=>k u h []) k
def gM (v:AV)(b:Bool)(u:AV)(h:aA)(k:AV→aA→Esc→Prop):Prop:=gV v b h (fun k=>k u h []) k
def upB (b:Bool):Bool:=(fun(_:AV→Bool→Option AV→aA→(AV→aA→Esc→Prop)→Prop)=>b) gP
def gK (g:Option (Nat × Bool))(e:List (Nat × AV))(h:aA)(A:(AV→aA→Esc→Prop)→Prop)(k:AV→aA→Esc→Prop):Prop:=match g with
 | none=>A k
 | some (t,b)=>gV (eA e t) b h A k
def opC (C:Hd)(o:AO)(ev:Opd→AV)(h:aA)(k:AV→aA→Esc→Prop):Prop:=match o with
 | .call f args=>C f (ev1 ev args) h k
 | .callv f args=>vH C (ev f) (ev1 ev args) h k
 | .mnext sh xs=>match tK h sh (ev1 ev xs) with
  | some l=>l≠[]∧∀y∈l,k y.1 y.2 []
  | none=>False
 | o=>opN o ev h k
def oF (C:Hd)(gl:Nat→Option PV):List AOp→List (Nat×AV)→aA→Esc→(List (Nat×AV)→aA→Esc→Prop)→Prop
 | [],e,h,x,L=>L e h x
 | o::r,e,h,x,L=>gK o.guard e h (opC C o.op (Opd.ev gl e) h) fun v h' x'=>oF C gl r (put o.dst v e) h' (x'++x) L
variable {C:Hd} {gl:Nat→Option PV}
theorem za1 {o:AO}{d:Option Nat}{r:List AOp}{e:List (Nat × AV)}{h:aA}{x:Esc}{L:List (Nat × AV)→aA→Esc→Prop} :
 mB C gl (⟨d,none,o⟩::r) e h x L=opC C o (Opd.ev gl e) h (vK C gl r d e x L):=by
 cases hp:o.plain with
 | true=>
  rw[zcG hp,za3 hp];cases o <;> first|rfl|cases hp
 | false=>
  cases o <;> first|(cases hp;done)|skip
  all_goals first
   | (rw[z64,QG];rfl)
   | (rw[z65,QG];rfl)
   | (unfold mB opC;simp only[wanted,QG];rfl)
theorem z6F:∀ (ops:List AOp) (e:List (Nat × AV)) (h:aA) (x:Esc) (L:List (Nat × AV)→aA→Esc→Prop),mB C gl ops e h x L=oF C gl ops e h x L
 | [],e,h,x,L=>rfl
 | ⟨d,g,o⟩::r,e,h,x,L=>by
  have ih:(fun(v:AV) (h':aA) (x':Esc)=>oF C gl r (put d v e) h' (x'++x) L)=vK C gl r d e x L:=by
   funext v h' x';rw[←z6F r];rfl
  show _=gK g e h (opC C o (Opd.ev gl e) h) fun v h' x'=>oF C gl r (put d v e) h' (x'++x) L
  rw[ih];cases g with
  | none=>exact za1
  | some tb=>
   obtain⟨t,b⟩:=tb;rw[z67,za1];rfl
def opE (C:Hd)(o:AO)(ev:Opd→AV)(h:aA)(k:AV→aA→Esc→Prop):Prop:=match o with
 | .call f args=>lC C f (ev1 ev args) h k
 | .callv f args=>YN C (ev f) (ev1 ev args) h k
 | .mnext _ _=>False
 | o=>opN o ev h k
def LH (still eff:Bool)(h h':aA)(y:Esc)(Q:Prop):Prop:=match upB eff with
 | true=>Q
 | false=>match still with
  | true=>Q
  | false=>(h'=h∧y=[])∧Q
def cK (C:Hd)(gl:Nat→Option PV)(q:AOp × List (Nat × AV) × AV)(g:aA):Prop:=
 gK q.1.guard q.2.1 g (opE C q.1.op (Opd.ev gl q.2.1) g) fun v1 h1 x1=>v1=q.2.2∧h1=g∧x1=[]
def PE (C:Hd)(gl:Nat→Option PV)(h:aA)(dn:jD)(Q:Prop):List Nat→Prop
 | []=>Q
 | j::r=>(match dn[j]? with|some q=>cK C gl q h|none=>False)∧PE C gl h dn Q r
def ZE (C:Hd)(gl:Nat→Option PV)(o:AOp)(e:List (Nat × AV))(v:AV)(hs:List aA)(Q:Prop):List Nat→Prop
 | []=>Q
 | k::r=>(match hs[k]? with|some g=>cK C gl (o,e,v) g|none=>False)∧ZE C gl o e v hs Q r
def OE (C:Hd)(gl:Nat→Option PV):List DOp→jD→List aA→List (Nat×AV)→aA→Esc→(List (Nat×AV)→aA→Esc→Prop)→Prop
 | [],_,_,e,h,x,L=>L e h x
 | o::r,dn,hs,e,h,x,L=>gK o.op.guard (SA (some o.rd) e) h (opE C o.op.op (Opd.ev gl (SA (some o.rd) e)) h) fun v h' y=>
  LH o.op.op.still o.eff h h' y (ZE C gl o.op (SA (some o.rd) e) v hs (PE C gl h' dn (OE C gl r (dn++[(o.op,SA (some o.rd) e,v)]) (hs++[h]) (put o.op.dst v e) h' (y++x) L) o.again) o.early)
theorem za2 {o:AO}{d:Option Nat}{e:List (Nat × AV)}{h:aA}{R:AV→aA→Esc→Prop}:doK C gl ⟨d,none,o⟩ e h R=opE C o (Opd.ev gl e) h R:=by
 cases hp:o.plain with
 | true=>
  rw[zgD hp,za3 hp];cases o <;> first|rfl|cases hp
 | false=>
  cases o <;> first|(cases hp;done)|skip
  all_goals first
   | (rw[z8t,QG];rfl)
   | (rw[z8u,QG];rfl)
   | (unfold doK ADo opE;simp [wanted])
theorem z9q {o:AOp}{e:List (Nat × AV)}{h:aA}{R:AV→aA→Esc→Prop}:doK C gl o e h R=gK o.guard e h (opE C o.op (Opd.ev gl e) h) R:=by
 obtain⟨d,g,op⟩:=o;cases g with
 | none=>exact za2
 | some tb=>
  obtain⟨t,b⟩:=tb;rw[z8v,za2];rfl
theorem zbM {q:AOp × List (Nat × AV) × AV}{g:aA}:doS C gl q g=cK C gl q g:=by
 obtain⟨⟨d,gd,op⟩,e,v⟩:=q;rw[z8w,z9q];rfl
theorem z7m {h:aA}{dn:jD}{Q:Prop}:∀{l:List Nat},PE C gl h dn Q l=(agK C gl h dn l∧Q)
 | []=>by simp [PE,agK]
 | j::r=>by
  unfold PE agK;rw[z7m (l:=r)];cases dn[j]? with
  | none=>simp
  | some q=>simp only[zbM,and_assoc]
theorem z8J {o:AOp}{e:List (Nat × AV)}{v:AV}{hs:List aA}{Q:Prop}:∀{l:List Nat},ZE C gl o e v hs Q l=(eaK C gl o e v hs l∧Q)
 | []=>by simp [ZE,eaK]
 | j::r=>by
  unfold ZE eaK;rw[z8J (l:=r)];cases hs[j]? with
  | none=>simp
  | some q=>simp only[zbM,and_assoc]
theorem zgE {o:AOp}(hs:o.op.still=true){e:List (Nat × AV)}{h:aA}{R:AV→aA→Esc→Prop}:doK C gl o e h (fun v h' y=>(h'=h∧y=[])∧R v h' y)=doK C gl o e h R:=by
 unfold doK;refine propext ⟨fun⟨v,h',y,H,_,r⟩=>⟨v,h',y,H,r⟩,fun⟨v,h',y,H,r⟩=>⟨v,h',y,H,zcC hs H,r⟩⟩
theorem z6E:∀ (ds:List DOp) (dn:jD) (hs:List aA) (e:List (Nat × AV)) (h:aA) (x:Esc) (L:List (Nat × AV)→aA→Esc→Prop),VD C gl ds dn hs e h x L=OE C gl ds dn hs e h x L
 | [],dn,hs,e,h,x,L=>rfl
 | ⟨o,rd,eff,early,again⟩::r,dn,hs,e,h,x,L=>by
  rw[z60];show _=gK o.guard (SA (some rd) e) h (opE C o.op (Opd.ev gl (SA (some rd) e)) h) fun v h' y=>
   LH o.op.still eff h h' y (ZE C gl o (SA (some rd) e) v hs (PE C gl h' dn (OE C gl r (dn++[(o,SA (some rd) e,v)]) (hs++[h]) (put o.dst v e) h' (y++x) L) again) early)
  rw[←z9q];have e1:PT C gl ⟨o,rd,eff,early,again⟩ r dn hs e h x L=fun v h' y=>(effK eff h h' y∧ZE C gl o (SA (some rd) e) v hs (PE C gl h' dn (OE C gl r (dn++[(o,SA (some rd) e,v)]) (hs++[h]) (put o.dst v e) h' (y++x) L) again) early):=by
   funext v h' y
   rw[z8y,z8J,z7m,←z6E r]
  rw[e1];cases eff with
  | true=>
   congr 1;funext v h' y
   simp [effK,LH,upB]
  | false=>
   cases hs':o.op.still with
   | true=>
    have:=zgE (C:=C) (gl:=gl) (o:=o) hs' (e:=SA (some rd) e) (h:=h) (R:=fun v h' y=>ZE C gl o (SA (some rd) e) v hs (PE C gl h' dn (OE C gl r (dn++[(o,SA (some rd) e,v)]) (hs++[h]) (put o.dst v e) h' (y++x) L) again) early)
    exact this
   | false=>rfl
def NW (C:Hd)(gl:Nat→Option PV):ACode→St→(Ex→St→Prop)→Prop
 | .skip,s,K=>K .normal s
 | .reg ops keep,s,K=>oF C gl ops s.env s.h s.esc fun e h x=>K .normal ⟨SA keep e,h,x⟩
 | .draw ds keep,s,K=>OE C gl ds [] [] s.env s.h s.esc fun e h x=>K .normal ⟨SA keep e,h,x⟩
 | .seq a b,s,K=>NW C gl a s fun e s'=>match e with
  | .normal=>NW C gl b s' K
  | .exit i=>K (.exit i) s'
  | .ret=>K .ret s'
 | .cond c a b,s,K=>jB (Opd.ev gl s.env c) (NW C gl a s K) (NW C gl b s K)
 | .condu c a b,s,K=>eO (Opd.ev gl s.env c) (NW C gl a s K) (NW C gl b s K)
 | .det b,s,K=>NW C gl b s K
 | .block id b,s,K=>NW C gl b s fun e s'=>match e with
  | .normal=>K .normal s'
  | .exit i=>bif Nat.beq i id then K .normal s' else K (.exit i) s'
  | .ret=>K .ret s'
 | .loop b,s,K=>ALoop (NW C gl b) K s
 | .scope b,s,K=>NW C gl b ⟨s.env,s.h,[]⟩ fun e s'=>K e (KE s.h.length s.esc s')
 | .pr l b,s,K=>NW C gl b ⟨SA (some l) s.env,s.h,s.esc⟩ K
 | .exit id,s,K=>K (.exit id) s
 | .ret,s,K=>K .ret s
 | .bad,_,_=>False
theorem rE:∀ (c:ACode) (s:St) (K:Ex→St→Prop),AW C gl c s K=NW C gl c s K
 | .skip,s,K=>rfl
 | .reg ops keep,s,K=>z6F _ _ _ _ _
 | .draw ds keep,s,K=>z6E _ _ _ _ _ _ _
 | .seq a b,s,K=>by
  unfold AW NW;rw[rE a];congr 1;funext e s'
  cases e with
  | normal=>exact rE b s' K
  | _=>rfl
 | .cond c a b,s,K=>by
  unfold AW NW jB;rw[←rE a,←rE b];rfl
 | .condu c a b,s,K=>by
  unfold AW NW eO;rw[←rE a,←rE b];rfl
 | .det b,s,K=>rE b s K
 | .block id b,s,K=>by
  unfold AW NW;rw[rE b];congr 1;funext e s'
  cases e with
  | exit i=>
   dsimp only;by_cases hi:i=id
   ·subst hi;simp
   ·rw[if_neg hi]
    have:Nat.beq i id=false:=by cases h:Nat.beq i id with|false=>rfl|true=>exact absurd (Nat.eq_of_beq_eq_true h) hi
    rw[this];rfl
  | _=>rfl
 | .loop b,s,K=>by
  show ALoop (AW C gl b) K s=ALoop (NW C gl b) K s
  rw[show AW C gl b=NW C gl b from funext fun s=>funext fun K=>rE b s K]
 | .scope b,s,K=>rE b _ _
 | .pr l b,s,K=>rE b _ _
 | .exit id,s,K=>rfl
 | .ret,s,K=>rfl
 | .bad,s,K=>rfl
end Go.Am
end
section
/- The abstract machine,part 31: words in which a function's code is printed,and the rules of computing over them. -/
set_option linter.unusedSimpArgs false
set_option linter.unusedVariables false
namespace Go.Am
variable {C:Hd} {gl:Nat→Option PV} {e:List (Nat × AV)} {h:aA} {x:Esc} {K:Ex→St→Prop} {s:St}
abbrev AI (n:Int):AV:=.p (.int .i64 n)
abbrev AB (b:Bool):AV:=.p (.bool b)
def yD (C:Hd)(gl:Nat→Option PV)(b:ACode)(K:Ex→St→Prop)(e:Ex)(s:St):Prop:=match e with
 | .normal=>NW C gl b s K
 | .exit i=>K (.exit i) s
 | .ret=>K .ret s
def tC (id:Nat)(K:Ex→St→Prop)(e:Ex)(s:St):Prop:=match e with
 | .normal=>K .normal s
 | .exit i=>bif Nat.beq i id then K .normal s else K (.exit i) s
 | .ret=>K .ret s
def nqK (sh:Option Sh)(l:List AV)(h:aA)(k:AV→aA→Esc→Prop):Prop:=match tK h sh l with
 | some l=>l≠[]∧∀y∈l,k y.1 y.2 []
 | none=>False
def nxK (i:AV)(h:aA)(k:AV→aA→Esc→Prop):Prop:=match CU h i with
 | some l=>l≠[]∧∀y∈l,k y.1 y.2 []
 | none=>False
def gv (gl:Nat→Option PV)(n:Nat):AV:=match gl n with|some v=>.vp v|none=>.und
theorem zbX {b:ACode}:yD C gl b K .normal s=NW C gl b s K:=(rfl)
theorem zbY {b:ACode}:yD C gl b K .ret s=K .ret s:=(rfl)
theorem z7A {i:Nat}:tC i K .normal s=K .normal s:=(rfl)
theorem z7C {i:Nat}:tC i K (.exit i) s=K .normal s:=by simp [tC]
theorem z7B {i:Nat}:tC i K .ret s=K .ret s:=(rfl)
theorem GF {b:ACode}:NW C gl (.scope b) ⟨e,h,x⟩ K=NW C gl b ⟨e,h,[]⟩ (zbT h.length x K):=(rfl)
theorem zdd {c:ACode}{s s':St}(hs:s=s'):NW C gl c s K=NW C gl c s' K:=by rw[hs]
def NA (C:Hd)(gl:Nat→Option PV)(b:ACode)(K:Ex→St→Prop)(e:List (Nat × AV))(h:aA)(x:Esc):Prop:=ALoop (NW C gl b) K ⟨e,h,x⟩
theorem MB {l:List Nat}{b:ACode}:NW C gl (.loop (.pr l b)) ⟨e,h,x⟩ K=NA C gl (.pr l b) K (SA (some l) e) h x:=by
 show ALoop _ _ _=ALoop _ _ _
 exact z63 (funext fun R=>by show NW C gl b _ R=NW C gl b _ R;dsimp only;rw[zaH])
theorem fC {l:List Nat}{b:ACode}:NW C gl (.loop (.scope (.pr l b))) ⟨e,h,x⟩ K=NA C gl (.scope (.pr l b)) K (SA (some l) e) h x:=by
 show ALoop _ _ _=ALoop _ _ _
 exact z63 (funext fun R=>by show NW C gl b _ _=NW C gl b _ _;dsimp only;rw[zaH])
theorem zdc {b:ACode}{e e':List (Nat × AV)}{h h':aA}{x x':Esc}(h1:e=e')(h2:h=h')(h3:x=x'):NA C gl b K e h x=NA C gl b K e' h' x':=by rw[h1,h2,h3]
theorem XA {σ:Type}{b:ACode}(S:σ→St)(P:σ→Prop)(m:σ→Nat)(t0:σ)(hs:(⟨e,h,x⟩:St)=S t0)(h0:P t0)(hr:∀ t,P t→NW C gl b (S t) (zU S P m K t)):NA C gl b K e h x:=by
 show ALoop (NW C gl b) K _
 rw[hs];have key:∀n t,m t<n→P t→ALoop (NW C gl b) K (S t):=by
  intro n;induction n with
  | zero=>intro t h;omega
  | succ n ih=>
   intro t hm hp;refine .mk _ _ (hr t hp) (fun s' h'=>?_) (fun i s' h'=>h') (fun s' h'=>h')
   obtain⟨u,rfl,hu,hlt⟩:=h';exact ih u (by omega) hu
 exact key _ t0 (Nat.lt_succ_self _) h0
theorem tA {X:Ctx}{f:Nat}{F:AFun}{a asv:List AV}{h h1:aA}{P:kA}(hf:X.fn f=some F)(hr:F.byref=false)(hp:oA h a=some (asv,h1))(hl:asv.length=F.nparams)(hd:F.isDet=false:=by rfl) :
 bA X f a h P=NW (bA X) X.gl F.body ⟨enter asv,h1,[]⟩ (mA F.results F.keep h.length P):=by
 rw[zpS hf hr hp hl hd,rE]
theorem XN {X:Ctx}{f:Nat}{F:AFun}{a asv:List AV}{h h1:aA}{P:kA}(hf:X.fn f=some F)(hr:F.byref=false)(hp:oA h a=some (asv,h1))(hl:asv.length=F.nparams)(hd:F.isDet=true:=by rfl) :
 bA X f a h P = ∃v h' x,P v h' x∧NW (bA X) X.gl F.body ⟨enter asv,h1,[]⟩ (mA F.results F.keep h.length fun v1 h1 x1=>v1=v∧h1=h'∧x1=x):=by
 rw[zpT hf hr hp hl hd];simp only[rE]
theorem uH {X:Ctx}{f:Nat}{F:AFun}{asv:List AV}{h:aA}{P:kA}(hf:X.fn f=some F)(hr:F.byref=true)(hl:asv.length=F.nparams)(hd:F.isDet=false:=by rfl) :
 bA X f asv h P=NW (bA X) X.gl F.body ⟨enter asv,h,[]⟩ (mA F.results F.keep h.length P):=by
 rw[zpP hf hr hl hd,rE]
theorem za8 {v:AV}{k:AV→Prop}:pK (some v) k=k v:=(rfl)
theorem za7 {k:AV→Prop}:pK none k=False:=(rfl)
theorem zcx {v:AV}{h:aA}{x:Esc}{k:AV→aA→Esc→Prop}:wK (some (v,h,x)) k=k v h x:=(rfl)
theorem zcv {k:AV→aA→Esc→Prop}:wK none k=False:=(rfl)
theorem zn0 {p:Prop}[Decidable p]{a b:Option AV}{k:AV→Prop}:pK (if p then a else b) k=if p then pK a k else pK b k:=by split <;> rfl
theorem zq8 {p:Prop}[Decidable p]{a b:Option (AV × aA × Esc)}{k:AV→aA→Esc→Prop}:wK (if p then a else b) k=if p then wK a k else wK b k:=by split <;> rfl
theorem znz {o o':Option AV}{k:AV→Prop}(h:o=o'):pK o k=pK o' k:=by rw[h]
theorem zq7 {o o':Option (AV × aA × Esc)}{k:AV→aA→Esc→Prop}(h:o=o'):wK o k=wK o' k:=by rw[h]
theorem zkV {v v':AV}{b:Bool}{h:aA}{A:(AV→aA→Esc→Prop)→Prop}{k:AV→aA→Esc→Prop}(h1:v=v'):gV v b h A k=gV v' b h A k:=by rw[h1]
theorem zkU {v v':AV}{b:Bool}{o:Option AV}{h:aA}{k:AV→aA→Esc→Prop}(h1:v=v'):gP v b o h k=gP v' b o h k:=by rw[h1]
theorem zkS {v v':AV}{b:Bool}{u:AV}{h:aA}{k:AV→aA→Esc→Prop}(h1:v=v'):gM v b u h k=gM v' b u h k:=by rw[h1]
section
variable {A:(AV→aA→Esc→Prop)→Prop} {o:Option AV} {u:AV} {k:AV→aA→Esc→Prop} {t b:Bool}
theorem z94:gV (.p (.bool true)) true h A k=A k:=(rfl)
theorem z91:gV (.p (.bool false)) false h A k=A k:=(rfl)
theorem z93:gV (.p (.bool true)) false h A k=k .skp h []:=(rfl)
theorem z92:gV (.p (.bool false)) true h A k=k .skp h []:=(rfl)
theorem z90:gP (.p (.bool true)) true o h k=pK o fun v=>k v h []:=(rfl)
theorem z9w:gP (.p (.bool false)) false o h k=pK o fun v=>k v h []:=(rfl)
theorem z9z:gP (.p (.bool true)) false o h k=k .skp h []:=(rfl)
theorem z9x:gP (.p (.bool false)) true o h k=k .skp h []:=(rfl)
theorem z9y:gP .skp b o h k=k .skp h []:=(rfl)
theorem zkT:gP (.p (.bool t)) b o h k=nF (.p (.bool t)) b (pK o fun v=>k v h []) (k .skp h []):=(rfl)
theorem z9v:gM (.p (.bool true)) true u h k=k u h []:=(rfl)
theorem z9r:gM (.p (.bool false)) false u h k=k u h []:=(rfl)
theorem z9u:gM (.p (.bool true)) false u h k=k .skp h []:=(rfl)
theorem z9s:gM (.p (.bool false)) true u h k=k .skp h []:=(rfl)
theorem z9t:gM .skp b u h k=k .skp h []:=(rfl)
theorem zkR:gM (.p (.bool t)) b u h k=nF (.p (.bool t)) b (k u h []) (k .skp h []):=(rfl)
end
section
variable {k k':IntKind} {a b:Int} {sa sb:List UInt8}
theorem zdM:DA .add (.p (.int k a)) (.p (.int k b))=some (.p (.int k (k.wrap (a+b)))):=by simp [DA,gC,CD]
theorem zdZ:DA .sub (.p (.int k a)) (.p (.int k b))=some (.p (.int k (k.wrap (a-b)))):=by simp [DA,gC,CD]
theorem zdT:DA .mul (.p (.int k a)) (.p (.int k b))=some (.p (.int k (k.wrap (a*b)))):=by simp [DA,gC,CD]
theorem zdW:DA .quo (.p (.int k a)) (.p (.int k b))=if b=0 then none else some (.p (.int k (k.wrap (a.tdiv b)))):=by simp [DA,gC,CD] <;> split <;> rfl
theorem zdX:DA .rem (.p (.int k a)) (.p (.int k b))=if b=0 then none else some (.p (.int k (a.tmod b))):=by simp [DA,gC,CD] <;> split <;> rfl
theorem zdN:DA .and (.p (.int k a)) (.p (.int k b))=some (.p (.int k (XH k a b))):=by simp [DA,gC,CD]
theorem zdO:DA .eql (.p (.int k a)) (.p (.int k b))=some (.p (.bool (decide (a=b)))):=by simp [DA,gC,CD]
theorem zdU:DA .neq (.p (.int k a)) (.p (.int k b))=some (.p (.bool (!decide (a=b)))):=by simp [DA,gC,CD]
theorem zdS:DA .lss (.p (.int k a)) (.p (.int k b))=some (.p (.bool (decide (a<b)))):=by simp [DA,gC,CD]
theorem zdR:DA .leq (.p (.int k a)) (.p (.int k b))=some (.p (.bool (decide (a≤b)))):=by simp [DA,gC,CD]
theorem zdQ:DA .gtr (.p (.int k a)) (.p (.int k b))=some (.p (.bool (decide (b<a)))):=by simp [DA,gC,CD]
theorem zdP:DA .geq (.p (.int k a)) (.p (.int k b))=some (.p (.bool (decide (b≤a)))):=by simp [DA,gC,CD]
theorem zdY:DA .shr (.p (.int k a)) (.p (.int k' b))=if b<0 then none else some (.p (.int k (xJ k a b))):=by simp [DA,gC] <;> split <;> rfl
theorem zqb:DA .add (.p (.str sa)) (.p (.str sb))=if sa.length+sb.length≤PA then some (.p (.str (sa++sb))) else none:=by simp [DA,gC,II] <;> split <;> rfl
theorem zqc:DA .eql (.p (.str sa)) (.p (.str sb))=some (.p (.bool (decide (sa=sb)))):=by simp [DA,gC,II]
theorem zqe:DA .neq (.p (.str sa)) (.p (.str sb))=some (.p (.bool (!decide (sa=sb)))):=by simp [DA,gC,II]
theorem zq1 {t:Bool}:oUn .not (.p (.bool t))=some (.p (.bool !t)):=(rfl)
theorem convI {k':IntKind}:SL k (.p (.int k' a))=some (.p (.int k (k.wrap a))):=(rfl)
theorem zno {i j:Nat}:fF (.ref i j)=some (.ref i j):=(rfl)
theorem znp {i j m n:Nat}:fF (.rref i j m n)=some (.rref i j m n):=(rfl)
theorem zn9 {t:Bool}{u v:AV}:LQ (.p (.bool t)) u v=some (bif t then u else v):=(rfl)
theorem zm9 {sh:Sh}{xs:List PV}:bH (.p (.sl sh xs))=some (.p (.int .i64 xs.length)):=(rfl)
theorem zm8 {i g o l:Nat}:bH (.own i g o l)=some (.p (.int .i64 l)):=(rfl)
theorem zmC:ND (.p (.str sa))=some (.p (.int .i64 sa.length)):=(rfl)
theorem ext_t {vs:List AV}{i:Nat}:DJ (.tup vs) i=vs[i]?:=(rfl)
theorem zk8 {off i j:Nat}{sh:Sh}:IA off sh (.ref i j)=some (.ref i (j+off)):=(rfl)
theorem zk9 {off i j m n:Nat}{sh:Sh}:IA off sh (.rref i j m n)=some (.rref i j m (n+off)):=(rfl)
theorem zkA {off:Nat}{sh:Sh}{v:PV}:IA off sh (.vp v)=(aB sh off v).map .vp:=(rfl)
theorem zkF {off:Nat}{sh:Sh}{cs:List PV}:fI off sh (.p (.agg cs))=(aB sh off (.agg cs)).map .p:=(rfl)
def ldB (sh:Sh)(off:Nat):Option Obj→Option AV
 | some (.box cs)=>cut sh off cs
 | _=>none
def ldR (sh:Sh)(g i off:Nat):Option Obj→Option AV
 | some (.row _ xs _)=>if g=xs.length then((xs[i]?).bind (aB sh off)).map .p else none
 | _=>none
theorem zmH {sh:Sh}{i j:Nat}:FA sh (.ref i j) h=ldB sh j h[i]?:=by unfold FA ldB;rfl
theorem zmI {sh:Sh}{i g m n:Nat}:FA sh (.rref i g m n) h=ldR sh g m n h[i]?:=by unfold FA ldR;rfl
theorem zaj {sh:Sh}{v:PV}:FA sh (.vp v) h=(aB sh 0 v).map .p:=(rfl)
theorem zm2 {sh:Sh}{off:Nat}{cs:List AV}:ldB sh off (some (.box cs))=cut sh off cs:=(rfl)
theorem zm3 {sh sh':Sh}{g i off fz:Nat}{xs:List PV}:ldR sh g i off (some (.row sh' xs fz))=if g=xs.length then((xs[i]?).bind (aB sh off)).map .p else none:=(rfl)
def stB (sh:Sh)(id off:Nat)(v:AV)(h:aA):Option Obj→Option (List AV)→Option (AV×aA×Esc)
 | some (.box cs),some vs=>if vs.length=gA sh∧off+vs.length≤cs.length then some (.und,h.set id (.box (splice cs off vs)),JD id cs v) else none
 | _,_=>none
theorem zpY {sh:Sh}{i j:Nat}{v:AV}:tB sh (.ref i j) v h=stB sh i j v h h[i]? v.cells:=by unfold tB stB;rfl
theorem zpI {sh:Sh}{id off:Nat}{v:AV}{cs vs:List AV}:stB sh id off v h (some (.box cs)) (some vs)=if vs.length=gA sh∧off+vs.length≤cs.length then some (.und,h.set id (.box (splice cs off vs)),JD id cs v) else none:=(rfl)
theorem zkr {id:Nat}{cs:List AV}{v:AV}(h:yG cs=false):JD id cs v=uC id v:=by
 unfold JD;rw[h];rfl
theorem zlt {a:AV}{v:PV}:yG [a,.p v]=false:=(rfl)
theorem zlr {a:AV}:yG [a]=false:=(rfl)
theorem zls {a b c:AV}{l:List AV}:yG (a::b::c::l)=false:=by unfold yG;split <;> first|rfl|(rename_i h;simp at h)
theorem zkt {id t n m:Nat}{a:AV}:JD id [a,.bt 1 t (id+1) n] (.ref id m)=[]:=by
 unfold JD;have e:decide (AV.top (.ref id m)≤AV.tops [a,.bt 1 t (id+1) n])=true:=by simp [AV.top,AV.tops];omega
 rw[e];rfl
theorem zks {id t t' i n n':Nat}{a:AV}:JD id [a,.bt 1 t i n] (.bt 1 t' i n')=[]:=by
 unfold JD;have e:decide (AV.top (.bt 1 t' i n')≤AV.tops [a,.bt 1 t i n])=true:=by simp [AV.top,AV.tops];omega
 rw[e];rfl
def stE (sh:Sh)(id i off fz:Nat)(rsh:Sh)(xs:List PV)(v:PV)(h1:aA):Option PV→Option (AV×aA×Esc)
 | some (.agg cs)=>if off+v.cells.length≤cs.length then some (.und,h1.set id (.row rsh (xs.set i (.agg (splice cs off v.cells))) fz),[]) else none
 | some _=>if off=0∧v.sc then some (.und,h1.set id (.row rsh (xs.set i v) fz),[]) else none
 | none=>none
def stO (sh:Sh)(id g i off:Nat)(v:PV)(h1:aA):Option Obj→Option (AV×aA×Esc)
 | some (.row rsh xs fz)=>if g=xs.length∧fz≤i∧v.cells.length=gA sh∧v.cells.all PV.sc then stE sh id i off fz rsh xs v h1 xs[i]? else none
 | _=>none
def stR (sh:Sh)(id g i off:Nat):Option (PV×aA)→Option (AV×aA×Esc)
 | some y=>stO sh id g i off y.1 y.2 y.2[id]?
 | none=>none
theorem zpZ {sh:Sh}{id g i off:Nat}{x:AV}:tB sh (.rref id g i off) x h=stR sh id g i off (pur h x):=by
 unfold tB stR;cases pur h x with
 | none=>rfl
 | some y=>
  obtain⟨v,h1⟩:=y;dsimp only;unfold stO;cases h1[id]? with
  | none=>rfl
  | some o=>cases o <;> rfl
theorem zpM {sh:Sh}{id g i off:Nat}{v:PV}{h1:aA}:stR sh id g i off (some (v,h1))=stO sh id g i off v h1 h1[id]?:=(rfl)
theorem zpL {sh rsh:Sh}{id g i off fz:Nat}{v:PV}{h1:aA}{xs:List PV}:stO sh id g i off v h1 (some (.row rsh xs fz))=if g=xs.length∧fz≤i∧v.cells.length=gA sh∧v.cells.all PV.sc then stE sh id i off fz rsh xs v h1 xs[i]? else none:=(rfl)
theorem zpJ {sh rsh:Sh}{id i off fz:Nat}{v:PV}{h1:aA}{xs cs:List PV}:stE sh id i off fz rsh xs v h1 (some (.agg cs))=if off+v.cells.length≤cs.length then some (.und,h1.set id (.row rsh (xs.set i (.agg (splice cs off v.cells))) fz),[]) else none:=(rfl)
theorem zpK {sh rsh:Sh}{id i off fz:Nat}{v:PV}{h1:aA}{xs:List PV}{s:List UInt8}:stE sh id i off fz rsh xs v h1 (some (.str s))=if off=0∧v.sc then some (.und,h1.set id (.row rsh (xs.set i v) fz),[]) else none:=(rfl)
def iaS (xs:List PV):Option Nat→Option AV
 | some k=>(xs[k]?).map .vp
 | none=>none
theorem zlj {sh:Sh}{xs:List PV}{i:AV}:eD sh (.p (.sl sh xs)) i h=iaS xs (CB i):=by
 unfold eD iaS;cases CB i <;> simp
theorem zlf {xs:List PV}{n:Nat}:iaS xs (some n)=(xs[n]?).map .vp:=(rfl)
def iaO (sh:Sh)(id g off len:Nat):Option Obj→Option Nat→Option AV
 | some (.row rsh xs _),some k=>if rsh=sh∧g=xs.length∧off+len≤xs.length∧k<len then some (.rref id g (off+k) 0) else none
 | _,_=>none
theorem zli {sh:Sh}{id g off len:Nat}{i:AV}:eD sh (.own id g off len) i h=iaO sh id g off len h[id]? (CB i):=by
 unfold eD iaO;cases CB i with
 | none=>dsimp only;cases h[id]? with
  | none=>rfl
  | some o=>cases o <;> rfl
 | some k=>dsimp only;cases h[id]? with
  | none=>rfl
  | some o=>cases o <;> rfl
theorem zle {sh rsh:Sh}{id g off len k fz:Nat}{xs:List PV}:iaO sh id g off len (some (.row rsh xs fz)) (some k)=if rsh=sh∧g=xs.length∧off+len≤xs.length∧k<len then some (.rref id g (off+k) 0) else none:=(rfl)
theorem zlp {i:AV}:TL (.p (.str sa)) i=(CB i).bind fun n=>(sa[n]?).map fun b=>.p (.int .u8 b.toNat):=by
 unfold TL;cases CB i <;> rfl
end
theorem z7n {z:List AV}{k:AV→aA→Esc→Prop}:alK z h k=k (.ref h.length 0) (h++[.box z]) []:=(rfl)
theorem za0 {sh:Sh}{k:AV→aA→Esc→Prop}:nwK sh h k=k (.own h.length 0 0 0) (h++[.row sh [] 0]) []:=(rfl)
theorem zat {k:AV→aA→Esc→Prop}:mmK h k=k (.mp h.length) (h++[.amap [] 0]) []:=(rfl)
theorem zgy {A B:Prop}:eO (.p (.bool false)) A B=B:=(rfl)
theorem zgx {A B:Prop}:eO .anyb A B=(A∧B):=(rfl)
theorem zom {t:Nat}{h:aA}:uB t [] h=([],h):=(rfl)
theorem zop {h:aA}{s:Sh}{r:List AV}:uB 0 (.sl0 s::r) h=(.own h.length 0 0 0::(uB 0 r (h++[.row s [] 0])).1,(uB 0 r (h++[.row s [] 0])).2):=(rfl)
theorem zok {h:aA}{r:List AV}:uB 1 (.sl0 none::r) h=(.bt 3 0 h.length 0::(uB 1 r (h++[.arow none []])).1,(uB 1 r (h++[.arow none []])).2):=(rfl)
theorem zoo {t:Nat}{h:aA}{v:PV}{r:List AV}:uB t (.p v::r) h=(.p v::(uB t r h).1,(uB t r h).2):=(rfl)
theorem zon {t:Nat}{h:aA}{i o g l:Nat}{r:List AV}:uB t (.own i o g l::r) h=(.own i o g l::(uB t r h).1,(uB t r h).2):=(rfl)
theorem zol {t:Nat}{h:aA}{i:Nat}{r:List AV}:uB t (.mp i::r) h=(.mp i::(uB t r h).1,(uB t r h).2):=(rfl)
attribute [go_sem] zom zop zok zoo zon zol
def ldAr (sh:Sh)(off g:Nat):Option Obj→Option AV
 | some (.arow rsh cs)=>if g*gA rsh=cs.length then cut sh off cs else none
 | _=>none
theorem zmF {sh:Sh}{off id g:Nat}:FA sh (.bt 4 off id g) h=ldAr sh off g h[id]?:=by
 show ldA sh 4 off id g h=_
 unfold ldA ldAr;rfl
theorem zm1 {sh rsh:Sh}{off g:Nat}{cs:List AV}:ldAr sh off g (some (.arow rsh cs))=if g*gA rsh=cs.length then cut sh off cs else none:=(rfl)
def iaAr (sh:Sh)(id g:Nat):Option Obj→Option Nat→Option AV
 | some (.arow rsh cs),some i=>if rsh=sh∧g*gA rsh=cs.length∧i<g then some (.bt 4 (i*gA sh) id g) else none
 | _,_=>none
theorem zlg {sh:Sh}{t id g:Nat}{i:AV}:eD sh (.bt 3 t id g) i h=iaAr sh id g h[id]? (CB i):=by
 unfold eD iaAr;cases CB i with
 | none=>cases h[id]? with
  | none=>rfl
  | some o=>cases o <;> rfl
 | some k=>
  show iaA sh 3 id g k h=_
  unfold iaA;cases h[id]? with
  | none=>rfl
  | some o=>cases o <;> rfl
theorem zld {sh rsh:Sh}{id g i:Nat}{cs:List AV}:iaAr sh id g (some (.arow rsh cs)) (some i)=if rsh=sh∧g*gA rsh=cs.length∧i<g then some (.bt 4 (i*gA sh) id g) else none:=(rfl)
theorem zm6 {t id g:Nat}:bH (.bt 3 t id g)=some (.p (.int .i64 g)):=(rfl)
def apAr (sh:Sh)(h:aA)(t id g g':Nat):Option Obj→Option Obj→Option (AV×aA×Esc)
 | some (.arow rsh cs),some (.arow rsh' ds)=>if rsh=sh∧rsh'=sh∧g*gA sh=cs.length∧g'*gA sh=ds.length∧g+g'≤GA then
  some (.bt 3 t id (g+g'),h.set id (.arow sh (cs++ds)),bif decide (id<AV.tops ds) then [(id,AV.tops ds)] else []) else none
 | _,_=>none
theorem zdx {sh:Sh}{t id g t' id' g':Nat}:apA sh h (.bt 3 t id g) (.bt 3 t' id' g')=apAr sh h t id g g' h[id]? h[id']?:=by
 show(match h[id]?,h[id']? with|_,_=>_)=_
 unfold apAr;rfl
theorem zdz {sh rsh rsh':Sh}{t id g g':Nat}{cs ds:List AV}:apAr sh h t id g g' (some (.arow rsh cs)) (some (.arow rsh' ds))=if rsh=sh∧rsh'=sh∧g*gA sh=cs.length∧g'*gA sh=ds.length∧g+g'≤GA then
 some (.bt 3 t id (g+g'),h.set id (.arow sh (cs++ds)),bif decide (id<AV.tops ds) then [(id,AV.tops ds)] else []) else none:=(rfl)
theorem zg9:NC 0=none:=(rfl)
attribute [go_sem] zmF zm1 zlg zld zm6 zdx zdz zg9
attribute [go_sem] zbX zbY z7A z7C z7B GF za8 za7 zcx zcv zn0 zq8 z94 z91 z93 z92 z90 z9w z9z z9x z9y z9v z9r z9u z9s z9t zdM zdZ zdT zdW zdX zdN zdO zdU zdS zdR zdQ zdP zdY zqb zqc zqe zq1 convI zno znp zn9 zm9 zm8 zmC ext_t zk8 zk9 zkA zkF zmH zmI zaj zm2 zm3 zpY zpI zpZ zpM zpL zpJ zpK zkr zlt zlr zls zkt zks zlj zlf zli zle zlp z7n za0 zat rD z5V upcB neqB lenB n64 OT strB appB rds rd CJ xC tQ XC uQ YA JQ dI zgy zgx IQ HU dH HE IU jE MQ FJ EJ gI RL FU oClr oMx oMn NB mC cH aH GU KQ VL UL
attribute [go_sem ↓] za8 za7 zcx zcv z94 z91 z93 z92 z90 z9w z9z z9x z9y z9v z9r z9u z9s z9t z8i z8h zbX zbY z7A z7C z7B z7n za0 zat zan zam zao zbU z9a z9b
attribute [go_sem low] zkT zkR
attribute [congr] zdd zdc znz zq7 zkV zkU zkS
end Go.Am
end
section
/- The abstract machine,part X: the library's functions that have no Go text: comparing strings,finding a byte. -/
set_option linter.unusedSimpArgs false
set_option linter.unusedVariables false
namespace Go.Am
variable {P:Program}
structure ExtRow (P:Program) (f:Nat) (e:Array Value→Sem Value):Prop where
 row:∃fn,P.funcs[f]?=some fn∧fn.name ≠ "runtime.NumGoroutine" ∧ fn.body=none∧Extern.findNext fn=none∧Extern.find fn=some e
theorem ExtRow.run {f:Nat}{e:Array Value→Sem Value}(R:ExtRow P f e){us:Array Value}{w w':World}{x:Value}(he:(e us).run P w = .ok x w'):(callFunc f us).run P w = .ok (.value x) w':=by
 obtain⟨fn,h1,h2,h3,h4,h5⟩:=R.row;unfold callFunc;simp [h1,h2,h3,h4,h5,he]
theorem zs8 {f:Nat}{e:Array Value→Sem Value}(h:(match P.funcs[f]? with | some fn=>fn.name != "runtime.NumGoroutine" && fn.body.isNone&&(Extern.findNext fn).isNone | none=>false)=true)(h2:(P.funcs[f]?).bind Extern.find=some e):ExtRow P f e:=by
 cases hf:P.funcs[f]? with
 | none=>rw[hf]at h;cases h
 | some fn=>
  rw[hf]at h h2;simp only[Bool.and_eq_true,bne_iff_ne,ne_eq,Option.isNone_iff_eq_none]at h;exact⟨⟨fn,hf,h.1.1,h.1.2,h.2,h2⟩⟩
def dD (s:List UInt8)(c:UInt8):Int:=if s.findIdx (· == c)<s.length then(s.findIdx (· == c):Int) else -1
def JG:List UInt8→List UInt8→Int
 | [],[]=>0
 | [],_::_=>-1
 | _::_,[]=>1
 | a::asv,b::bs=>if a<b then -1 else if b<a then 1 else JG asv bs
theorem z74 (s:List UInt8)(i:Nat):(⟨s.toArray⟩:ByteArray)[i]! = s.getD i 0:=by
 by_cases h:i<s.length
 ·rw[getElem!_pos (⟨s.toArray⟩:ByteArray) i h]
  show s.toArray[i]=_
  simp [h]
 ·rw[getElem!_neg (⟨s.toArray⟩:ByteArray) i h]
  simp [Nat.not_lt.1 h];rfl
theorem zkH (s:List UInt8)(c:UInt8):(match (List.range (⟨s.toArray⟩:ByteArray).size).find? fun i=>(⟨s.toArray⟩:ByteArray)[i]! == c with
 | some i=>(i:Int)
 | none=>-1)=dD s c:=by
 have hsz:(⟨s.toArray⟩:ByteArray).size=s.length:=rfl
 have hget:∀i,i<s.length→(⟨s.toArray⟩:ByteArray)[i]! = s.getD i 0:=by
  intro i hi;exact z74 s i
 unfold dD;rw[hsz];by_cases h:s.findIdx (· == c)<s.length
 ·rw[if_pos h]
  have hf:(List.range s.length).find? (fun i=>(⟨s.toArray⟩:ByteArray)[i]! == c)=some (s.findIdx (· == c)):=by
   rw[List.find?_eq_some_iff_getElem];refine⟨?_,s.findIdx (· == c),by simpa using h,by simp,fun j hj=>?_⟩
   ·rw[hget _ h]
    have:=List.findIdx_getElem (w:=h);simpa [h] using this
   ·simp only[List.getElem_range]
    have hj':j<s.length:=by omega
    rw[hget _ hj'];have:=List.not_of_lt_findIdx hj;simpa [hj'] using this
  rw[hf]
 ·rw[if_neg h]
  have hf:(List.range s.length).find? (fun i=>(⟨s.toArray⟩:ByteArray)[i]! == c)=none:=by
   rw[List.find?_eq_none];intro i hi;rw[List.mem_range]at hi;rw[hget _ hi];intro hc;exact h (List.findIdx_lt_length_of_exists ⟨s[i],List.getElem_mem hi,by simpa [hi] using hc⟩)
  rw[hf]
theorem zgo:∀ (a b:List UInt8),Extern.BytealgCompare.cmp ⟨a.toArray⟩ ⟨b.toArray⟩=JG a b:=by
 have key:∀(a b:List UInt8),(match (List.range (min a.length b.length)).find? fun i=>a.getD i 0 != b.getD i 0 with
  | some i=>if a.getD i 0<b.getD i 0 then(-1:Int) else 1
  | none=>if a.length<b.length then -1 else if a.length>b.length then 1 else 0)=JG a b:=by
  intro a;induction a with
  | nil=>intro b;cases b <;> simp [JG]
  | cons x a ih=>
   intro b;cases b with
   | nil=>simp [JG]
   | cons y b=>
    have hm:min (x::a).length (y::b).length=min a.length b.length+1:=by simp only[List.length_cons];omega
    rw[hm,List.range_succ_eq_map,List.find?_cons];simp only[List.getD_cons_zero];by_cases hxy:x=y
    ·subst hxy
     have hlt:¬x<x:=UInt8.lt_irrefl x
     simp only[bne_self_eq_false,List.find?_map,JG,hlt,if_false];rw[←ih b];have hc:((fun i=>(x::a).getD i 0 != (x::b).getD i 0) ∘ Nat.succ)=fun i=>a.getD i 0 != b.getD i 0:=by
      funext i;simp
     rw[hc];cases (List.range (min a.length b.length)).find? fun i=>a.getD i 0 != b.getD i 0 with
     | none=>simp
     | some i=>simp
    ·have:(x != y)=true:=by simpa using hxy
     rw[this];simp only[JG,List.getD_cons_zero];by_cases h1:x<y
     ·simp [h1]
     ·have h2:y<x:=by
       rcases UInt8.lt_or_lt_of_ne (a:=x) (b:=y) hxy with h|h
       ·exact absurd h h1
       ·exact h
      simp [h1,h2]
 intro a b;rw[←key a b];unfold Extern.BytealgCompare.cmp;have sa:(⟨a.toArray⟩:ByteArray).size=a.length:=rfl
 have sb:(⟨b.toArray⟩:ByteArray).size=b.length:=rfl
 simp only[sa,sb,z74];generalize List.find? _ _=q;cases q <;> rfl
def oP (fi fc:Nat)(f:Nat)(vs:List PV):Option PV:=
 bif Nat.beq f fi then(match vs with
  | [.str s,.int .u8 c]=>some (.int .i64 (dD s (UInt8.ofNat c.toNat)))
  | _=>none)
 else bif Nat.beq f fc then(match vs with
  | [.str a,.str b]=>some (.int .i64 (JG a b))
  | _=>none)
 else none
theorem extF_ok {fi fc:Nat}(h1:ExtRow P fi Extern.BytealgIndexByte.indexByte)(h2:ExtRow P fc Extern.BytealgCompare.compare){f:Nat}{vs:List PV}{r:PV}(h:oP fi fc f vs=some r):z6C P f vs r:=by
 intro M w us hM hl hr;unfold oP at h;cases e1:Nat.beq f fi with
 | true=>
  rw[e1]at h;have e:=Nat.eq_of_beq_eq_true e1
  subst e;simp only[cond_true]at h;split at h
  ·rename_i s c
   injection h with h
   subst h;match us,hl with
   | [u,v],_=>
    have q1:=hr 0 _ u rfl rfl
    have q2:=hr 1 _ v rfl rfl
    cases q1;cases q2
    refine⟨.int .i64 (dD s (UInt8.ofNat c.toNat)),w,h1.run ?_,WExt.refl w,.int _ _⟩;rw[←zkH];show(match (List.range (⟨s.toArray⟩:ByteArray).size).find? fun i=>(⟨s.toArray⟩:ByteArray)[i]! == UInt8.ofNat c.toNat with|some i=>(pure (goInt i):Sem Value)|none=>pure (goInt (-1))).run P w=_
    generalize List.find? _ _=q;cases q <;> rfl
  ·cases h
 | false=>
  rw[e1]at h;simp only[cond_false]at h;cases e2:Nat.beq f fc with
  | true=>
   rw[e2]at h;have e:=Nat.eq_of_beq_eq_true e2
   subst e;simp only[cond_true]at h;split at h
   ·rename_i a b
    injection h with h
    subst h;match us,hl with
    | [u,v],_=>
     have q1:=hr 0 _ u rfl rfl
     have q2:=hr 1 _ v rfl rfl
     cases q1;cases q2
     refine⟨.int .i64 (JG a b),w,h2.run ?_,WExt.refl w,.int _ _⟩;rw[←zgo];rfl
   ·cases h
  | false=>rw[e2]at h;cases h
theorem zk4 {X:Ctx}{f:Nat}{asv:List AV}{vs:List PV}{h h1:aA}{r:PV}{K:kA}(hf:X.fn f=none)(h2:X.ex2 f asv h=none)(hp:oA h asv=some (vs.map .p,h1))(hu:unp (vs.map AV.p)=some vs)(hx:X.ext f vs=some r):bA X f asv h K=K (.p r) h1 []:=by
 refine propext (bA.eq (bA.fold ?_) K);unfold FC;simp only[hf,h2,hp,hu,hx];exact⟨trivial,trivial,trivial⟩
structure GrowRow (P:Program) (f:Nat) (sh:Sh):Prop where
 enter:∀us w,(callFunc f us).run P w = .ok (.enter f us) w
 room:∀a w,Calls P f #[.slice a 0 0,.int .i64 0] w fun e w'=>e = .returned (.slice a 0 0)∧w'=w
 grow:∀a (n:Nat) w,0<n→n≤1048576→Calls P f #[.slice a 0 0,.int .i64 n] w fun e w'=>∃G cs E,e = .returned (.slice (some ⟨w.heap.size,0,none⟩) 0 G)∧cs.size=G*gA sh∧w'=w.drew.alloc (.cells cs E)
def LL:List (Nat × Sh)→Nat→List AV→aA→Option (AV × aA × Esc)
 | [],_,_,_=>none
 | (g,sh)::r,f,asv,h=>bif Nat.beq f g then(match asv with
  | [.sl0 _,.p (.int .i64 n)]=>bif decide (0≤n)&&decide (n≤1048576) then some (.own h.length 0 0 0,h++[.row sh [] 0],[]) else none
  | _=>none) else LL r f asv h
theorem z9I {gl:Nat→Option PV}:∀(gs:List (Nat×Sh)),(∀g sh,(g,sh)∈gs→GrowRow P g sh)→∀{f:Nat} {asv:List AV} {h:aA} {v:AV} {h':aA} {x:Esc},LL gs f asv h=some (v,h',x) →
 TC P gl f asv h fun v1 h1 x1=>v1=v∧h1=h'∧x1=x
 | [],_,f,asv,h,v,h',x,H=>by cases H
 | (g,sh)::r,hg,f,asv,h,v,h',x,H=>by
  unfold LL at H;cases e1:Nat.beq f g with
  | false=>
   rw[e1]at H;exact z9I r (fun g sh hm=>hg g sh (by simp [hm])) H
  | true=>
   rw[e1]at H;have e:=Nat.eq_of_beq_eq_true e1
   subst e;have R:=hg f sh (by simp)
   simp only[cond_true]at H;split at H
   ·rename_i sh' n
    cases hb:(decide (0≤n)&&decide (n≤1048576)) with
    | false=>rw[hb]at H;cases H
    | true=>
     rw[hb]at H;simp only[cond_true,Option.some.injEq,Prod.mk.injEq]at H;obtain⟨rfl,rfl,rfl⟩:=H;simp only[Bool.and_eq_true,decide_eq_true_eq]at hb;intro μ w vs Hh Hg hl hr;match vs,hl with
     | [u1,u2],_=>
      have q1:=hr 0 _ u1 rfl rfl
      have q2:=(hr 1 _ u2 rfl rfl).p_inv
      cases q1;cases q2
      obtain⟨m,hm⟩:=Int.eq_ofNat_of_zero_le hb.1;subst hm;refine .inl ⟨R.enter _,?_⟩;rcases Nat.eq_zero_or_pos m with h0|h0
      ·subst h0
       refine(R.room _ w).mono fun e w' he=>?_
       obtain⟨rfl,rfl⟩:=he;obtain⟨n1,n2⟩:=HQ Hh sh;refine⟨_,_,_,_,⟨rfl,rfl,rfl⟩,?_,n1,n2,vA.push (by simp [Obj.top])⟩
       exact .own h.length 0 0 0 _ 0 sh [] 0 none (Nat.le_refl _) (by simp) (by rw[←Hh.len];simp) (by simp) (by simp) (fun _=>rfl)
      ·refine(R.grow _ m w h0 (by omega)).mono fun e w' he=>?_
       obtain⟨G,cs,E,rfl,hcs,rfl⟩:=he;have hw:WExt w (w.drew.alloc (.cells cs E)):=(WExt.drew w _).trans (WExt.push _ _)
       obtain⟨n1,n2⟩:=AJ (sh:=sh) (xs:=[]) Hh hw (b:=w.heap.size) (n:=cs.size) (Nat.le_refl _) (by show w.heap.size<(w.heap.push _).size;simp) (c:=cs) (iB.push (w:=w.drew) cs E) (by simp) (by simp) (by simp)
       refine⟨_,_,_,_,⟨rfl,rfl,rfl⟩,?_,n1,n2,vA.push (by simp [Obj.top])⟩
       refine .own h.length 0 0 0 _ G sh [] 0 (some (w.heap.size,cs.size)) (Nat.zero_le _) (by simp) (by rw[←Hh.len];simp) (by simp) (by simp) (fun _=>?_)
       exact .inr ⟨by simp,by simp [hcs]⟩
   ·cases H
end Go.Am
end
section
/- Short words for the printed code. -/
set_option linter.all false
namespace Go.Am
instance {n:Nat}:OfNat Opd n:=⟨.t n⟩
abbrev GL:=Nat→Option PV
abbrev KT:=Ex→St→Prop
def cI (n:Int):Opd:=.c (.p (.int .i64 n))
def cT:Opd:=.c (.p (.bool true))
def cF:Opd:=.c (.p (.bool false))
def cS (s:List UInt8):Opd:=.c (.p (.str s))
def uO (d:Nat)(o:AO):AOp:=⟨some d,none,o⟩
def wO (o:AO):AOp:=⟨none,none,o⟩
def gD (d g:Nat)(b:Bool)(o:AO):AOp:=⟨some d,some (g,b),o⟩
def mV (d:Nat)(x:Opd):AOp:=⟨some d,none,.mv x⟩
def bN (d:Nat)(b:BinOp)(x y:Opd):AOp:=⟨some d,none,.bin b x y⟩
def cL (d f:Nat)(l:List Opd):AOp:=⟨some d,none,.call f l⟩
def lD (d:Nat)(s:Sh)(x:Opd):AOp:=⟨some d,none,.load s x⟩
def iA (d:Nat)(s:Sh)(x y:Opd):AOp:=⟨some d,none,.iaddr s x y⟩
def fA (d o:Nat)(s:Sh)(x:Opd):AOp:=⟨some d,none,.faddr o s x⟩
def sT (d:Nat)(s:Sh)(x y:Opd):AOp:=⟨some d,none,.store s x y⟩
def lN (d:Nat)(x:Opd):AOp:=⟨some d,none,.len x⟩
def eX (d:Nat)(x:Opd)(i:Nat):AOp:=⟨some d,none,.ext x i⟩
def dF (o:AOp)(l:List Nat):DOp:=⟨o,l,false,[],[]⟩
def dT (o:AOp)(l:List Nat):DOp:=⟨o,l,true,[],[]⟩
def dA (o:AOp)(l:List Nat)(e:Bool)(a b:List Nat):DOp:=⟨o,l,e,a,b⟩
def rg (l:List AOp)(k:List Nat):ACode:=.reg l (some k)
def dr (l:List DOp)(k:List Nat):ACode:=.draw l (some k)
end Go.Am
end
section
/- A function's formula,computed out of its code. -/
set_option linter.all false
namespace Go.Am
abbrev En:=List (Nat × AV)
variable {C:Hd} {gl:Nat→Option PV} {e:En} {h h':aA} {x y:Esc} {K:Ex→St→Prop} {s:St} {L:En→aA→Esc→Prop} {k:AV→aA→Esc→Prop} {ev:Opd→AV} {r:List AOp} {q:List DOp} {dn:jD} {hs:List aA} {Q:Prop}
abbrev Sf (C:Hd)(gl:Nat→Option PV)(c:ACode)(e:En)(h:aA)(x:Esc)(K:Ex→St→Prop):Type:={P:Prop // NW C gl c ⟨e,h,x⟩ K=P}
def gO (G:AO→(Opd→AV)→aA→(AV→aA→Esc→Prop)→Prop)(t:AV)(g:Bool)(o:AO)(ev:Opd→AV)(h:aA)(k:AV→aA→Esc→Prop):Prop:=gV t g h (G o ev h) k
theorem agetB {e:En}{n m:Nat}{v:AV}:eA ((n,v)::e) m=match Nat.beq n m with|true=>v|false=>eA e m:=by
 show(if n=m then v else eA e m)=_
 cases hb:Nat.beq n m with
 | true=>rw[if_pos (Nat.eq_of_beq_eq_true hb)]
 | false=>rw[if_neg (Nat.ne_of_beq_eq_false hb)]
theorem wA:(∀ {C:Hd} {gl:GL} {e:En} {h:aA} {x:Esc} {K:KT} {l:List Nat} {b:ACode},NW C gl (.pr l b) ⟨e,h,x⟩ K=NW C gl b ⟨SA (some l) e,h,x⟩ K) ∧
 (∀{C:Hd} {gl:GL} {K:KT} {s:St} {a b:ACode},NW C gl (.seq a b) s K=NW C gl a s (yD C gl b K)) ∧
 (∀{C:Hd} {gl:GL} {K:KT} {s:St} {i:Nat} {b:ACode},NW C gl (.block i b) s K=NW C gl b s (tC i K)) ∧
 (∀{C:Hd} {gl:GL} {e:En} {h:aA} {x:Esc} {K:KT} {c:Opd} {a b:ACode},NW C gl (.cond c a b) ⟨e,h,x⟩ K=jB (Opd.ev gl e c) (NW C gl a ⟨e,h,x⟩ K) (NW C gl b ⟨e,h,x⟩ K)) ∧
 (∀{C:Hd} {gl:GL} {e:En} {h:aA} {x:Esc} {K:KT} {c:Opd} {a b:ACode},NW C gl (.condu c a b) ⟨e,h,x⟩ K=eO (Opd.ev gl e c) (NW C gl a ⟨e,h,x⟩ K) (NW C gl b ⟨e,h,x⟩ K)) ∧
 (∀{C:Hd} {gl:GL} {K:KT} {s:St} {b:ACode},NW C gl (.det b) s K=NW C gl b s K) ∧
 (∀{C:Hd} {gl:GL} {K:KT} {s:St},NW C gl .skip s K=K .normal s) ∧
 (∀{C:Hd} {gl:GL} {K:KT} {s:St} {i:Nat},NW C gl (.exit i) s K=K (.exit i) s) ∧
 (∀{C:Hd} {gl:GL} {K:KT} {s:St},NW C gl .ret s K=K .ret s) ∧
 (∀{C:Hd} {gl:GL} {K:KT} {s:St},NW C gl .bad s K=False) ∧
 (∀{C:Hd} {gl:GL} {e:En} {h:aA} {x:Esc} {K:KT} {l:List AOp} {o:List Nat},NW C gl (.reg l (some o)) ⟨e,h,x⟩ K=oF C gl l e h x fun e h x=>K .normal ⟨SA (some o) e,h,x⟩) ∧
 (∀{C:Hd} {gl:GL} {e:En} {h:aA} {x:Esc} {K:KT} {l:List AOp},NW C gl (.reg l none) ⟨e,h,x⟩ K=oF C gl l e h x fun e h x=>K .normal ⟨e,h,x⟩) ∧
 (∀{C:Hd} {gl:GL} {e:En} {h:aA} {x:Esc} {K:KT} {l:List DOp} {o:List Nat},NW C gl (.draw l (some o)) ⟨e,h,x⟩ K=OE C gl l [] [] e h x fun e h x=>K .normal ⟨SA (some o) e,h,x⟩) ∧
 (∀{C:Hd} {gl:GL} {e:En} {h:aA} {x:Esc} {K:KT} {l:List DOp},NW C gl (.draw l none) ⟨e,h,x⟩ K=OE C gl l [] [] e h x fun e h x=>K .normal ⟨e,h,x⟩) ∧
 (∀{C:Hd} {gl:GL} {e:En} {h:aA} {x:Esc} {L:En→aA→Esc→Prop},oF C gl [] e h x L=L e h x) ∧
 (∀{C:Hd} {gl:GL} {e:En} {h:aA} {x:Esc} {L:En→aA→Esc→Prop} {r:List AOp} {d:Option Nat} {o:AO},oF C gl (⟨d,none,o⟩::r) e h x L=opC C o (Opd.ev gl e) h fun v h' x'=>oF C gl r (put d v e) h' (x'++x) L) ∧
 (∀{C:Hd} {gl:GL} {e:En} {h:aA} {x:Esc} {L:En→aA→Esc→Prop} {r:List AOp} {d:Option Nat} {t:Nat} {b:Bool} {o:AO},oF C gl (⟨d,some (t,b),o⟩::r) e h x L=gO (opC C) (eA e t) b o (Opd.ev gl e) h fun v h' x'=>oF C gl r (put d v e) h' (x'++x) L) ∧
 (∀{C:Hd} {gl:GL} {e:En} {h:aA} {x:Esc} {L:En→aA→Esc→Prop} {dn:jD} {hs:List aA},OE C gl [] dn hs e h x L=L e h x) ∧
 (∀{C:Hd} {gl:GL} {e:En} {h:aA} {x:Esc} {L:En→aA→Esc→Prop} {q:List DOp} {dn:jD} {hs:List aA} {d:Option Nat} {o:AO} {rd a b:List Nat} {f:Bool},OE C gl (⟨⟨d,none,o⟩,rd,f,a,b⟩::q) dn hs e h x L=opE C o (Opd.ev gl (SA (some rd) e)) h fun v h' y=>
  LH o.still f h h' y (ZE C gl ⟨d,none,o⟩ (SA (some rd) e) v hs (PE C gl h' dn (OE C gl q (dn++[(⟨d,none,o⟩,SA (some rd) e,v)]) (hs++[h]) (put d v e) h' (y++x) L) b) a)) ∧
 (∀{C:Hd} {gl:GL} {e:En} {h:aA} {x:Esc} {L:En→aA→Esc→Prop} {q:List DOp} {dn:jD} {hs:List aA} {d:Option Nat} {t:Nat} {g:Bool} {o:AO} {rd a b:List Nat} {f:Bool},OE C gl (⟨⟨d,some (t,g),o⟩,rd,f,a,b⟩::q) dn hs e h x L=gO (opE C) (eA (SA (some rd) e) t) g o (Opd.ev gl (SA (some rd) e)) h fun v h' y=>
  LH o.still f h h' y (ZE C gl ⟨d,some (t,g),o⟩ (SA (some rd) e) v hs (PE C gl h' dn (OE C gl q (dn++[(⟨d,some (t,g),o⟩,SA (some rd) e,v)]) (hs++[h]) (put d v e) h' (y++x) L) b) a)) ∧
 (∀{h':aA} {h:aA} {y:Esc} {Q:Prop} {b:Bool},LH b true h h' y Q=Q) ∧
 (∀{h':aA} {h:aA} {y:Esc} {Q:Prop},LH true false h h' y Q=Q) ∧
 (∀{h':aA} {h:aA} {y:Esc} {Q:Prop},LH false false h h' y Q=((h'=h∧y=[])∧Q)) ∧
 (∀{C:Hd} {gl:GL} {h:aA} {dn:jD} {Q:Prop},PE C gl h dn Q []=Q) ∧
 (∀{C:Hd} {gl:GL} {h:aA} {dn:jD} {Q:Prop} {j:Nat} {l:List Nat},PE C gl h dn Q (j::l)=((match dn[j]? with|some q=>cK C gl q h|none=>False)∧PE C gl h dn Q l)) ∧
 (∀{C:Hd} {gl:GL} {e:En} {hs:List aA} {Q:Prop} {o:AOp} {v:AV},ZE C gl o e v hs Q []=Q) ∧
 (∀{C:Hd} {gl:GL} {e:En} {hs:List aA} {Q:Prop} {o:AOp} {v:AV} {j:Nat} {l:List Nat},ZE C gl o e v hs Q (j::l)=((match hs[j]? with|some g=>cK C gl (o,e,v) g|none=>False)∧ZE C gl o e v hs Q l)) ∧
 (∀{C:Hd} {gl:GL} {e:En} {d:Option Nat} {o:AO} {v:AV} {g:aA},cK C gl (⟨d,none,o⟩,e,v) g=opE C o (Opd.ev gl e) g fun v1 h1 x1=>v1=v∧h1=g∧x1=[]) ∧
 (∀{C:Hd} {gl:GL} {e:En} {d:Option Nat} {t:Nat} {b:Bool} {o:AO} {v:AV} {g:aA},cK C gl (⟨d,some (t,b),o⟩,e,v) g=gO (opE C) (eA e t) b o (Opd.ev gl e) g fun v1 h1 x1=>v1=v∧h1=g∧x1=[]) ∧
 (∀{e:En} {d:Nat} {v:AV},put (some d) v e=(d,v)::e) ∧
 (∀{e:En} {v:AV},put none v e=e) ∧
 (∀{e:En} {n:Nat} {l:List Nat},SA (some (n::l)) e=(n,eA e n)::SA (some l) e) ∧
 (∀{e:En},SA (some []) e=[]) ∧
 (∀{e:En} {n m:Nat} {v:AV},eA ((n,v)::e) m=match Nat.beq n m with|true=>v|false=>eA e m) ∧
 (∀{gl:GL} {e:En} {n:Nat},Opd.ev gl e (.t n)=eA e n) ∧
 (∀{gl:GL} {e:En} {v:AV},Opd.ev gl e (.c v)=v) ∧
 (∀{gl:GL} {e:En} {n:Nat},Opd.ev gl e (.f n) = .fn n []) ∧
 (∀{gl:GL} {e:En} {n:Nat},Opd.ev gl e (.g n)=gv gl n) ∧
 (∀{n:Nat},(OfNat.ofNat n:Opd) = .t n) ∧
 (∀{C:Hd} {h:aA} {k:AV→aA→Esc→Prop} {ev:Opd→AV} {a:Opd},opC C (.mnext none [a]) ev h k=nxK (ev a) h k) ∧
 (∀{C:Hd} {h:aA} {k:AV→aA→Esc→Prop} {ev:Opd→AV} {sh:Sh} {l:List Opd},opC C (.mnext (some sh) l) ev h k=nqK (some sh) (ev1 ev l) h k) ∧
 (∀{C:Hd} {h:aA} {k:AV→aA→Esc→Prop} {ev:Opd→AV} {f:Nat} {a:List Opd},opC C (.call f a) ev h k=C f (ev1 ev a) h k) ∧
 (∀{C:Hd} {h:aA} {k:AV→aA→Esc→Prop} {ev:Opd→AV} {f:Opd} {a:List Opd},opC C (.callv f a) ev h k=vH C (ev f) (ev1 ev a) h k) ∧
 (∀{C:Hd} {h:aA} {k:AV→aA→Esc→Prop} {ev:Opd→AV} {f:Nat} {a:List Opd},opE C (.call f a) ev h k=lC C f (ev1 ev a) h k) ∧
 (∀{C:Hd} {h:aA} {k:AV→aA→Esc→Prop} {ev:Opd→AV} {f:Opd} {a:List Opd},opE C (.callv f a) ev h k=YN C (ev f) (ev1 ev a) h k) ∧
 (∀{ev:Opd→AV},ev1 ev []=[]) ∧
 (∀{ev:Opd→AV} {a:Opd} {l:List Opd},ev1 ev (a::l)=ev a::ev1 ev l) ∧
 (∀{ev:Opd→AV},ev2 ev []=[]) ∧
 (∀{ev:Opd→AV} {n:Nat} {a:Opd} {l:List (Nat×Opd)},ev2 ev ((n,a)::l)=(n,ev a)::ev2 ev l) ∧
 (∀{ev:Opd→AV},ev3 ev []=[]) ∧
 (∀{ev:Opd→AV} {n m:Nat} {a:Opd} {l:List (Nat×Nat×Opd)},ev3 ev ((n,m,a)::l)=(n,m,ev a)::ev3 ev l) ∧
 (∀{ev:Opd→AV},evO ev none=none) ∧
 (∀{ev:Opd→AV} {a:Opd},evO ev (some a)=some (ev a)):=
 ⟨(by intros;rfl),(by intros;rfl),(by intros;rfl),(by intros;rfl),(by intros;rfl),(by intros;rfl),(by intros;rfl),(by intros;rfl),(by intros;rfl),(by intros;rfl),(by intros;rfl),(by intros;rfl),(by intros;rfl),(by intros;rfl),(by intros;rfl),(by intros;rfl),(by intros;rfl),(by intros;rfl),(by intros;rfl),(by intros;rfl),(by intros;rfl),(by intros;rfl),(by intros;rfl),(by intros;rfl),(by intros;rfl),(by intros;rfl),(by intros;rfl),(by intros;rfl),(by intros;rfl),(by intros;rfl),(by intros;rfl),(by intros;rfl),(by intros;rfl),(by intro e n m v;exact agetB),(by intros;rfl),(by intros;rfl),(by intros;rfl),(by intros;rfl),(by intros;rfl),(by intros;rfl),(by intros;rfl),(by intros;rfl),(by intros;rfl),(by intros;rfl),(by intros;rfl),(by intros;rfl),(by intros;rfl),(by intros;rfl),(by intros;rfl),(by intros;rfl),(by intros;rfl),(by intros;rfl),(by intros;rfl)⟩
abbrev OpW (G:AO→(Opd→AV)→aA→(AV→aA→Esc→Prop)→Prop):Prop:=∀{ev:Opd→AV} {h:aA} {k:AV→aA→Esc→Prop},
 (∀{x},G (.mv x) ev h k=k (ev x) h [])∧(∀{c a b},G (.pick c a b) ev h k=pK (LQ (ev c) (ev a) (ev b)) fun v=>k v h [])∧(∀{z},G (.alloc z) ev h k=alK z h k) ∧
 (∀{x},G (.box x) ev h k=wK (CJ (ev x) h) k)∧(∀{z ps},G (.build z ps) ev h k=pK (xC z (ev3 ev ps)) fun v=>k v h [])∧(∀{o sh n z ps},G (.bsl o sh n z ps) ev h k=wK (XC o sh n z (ev2 ev ps) h) k) ∧
 (∀{sh a},G (.load sh a) ev h k=pK (FA sh (ev a) h) fun v=>k v h [])∧(∀{sh a x},G (.store sh a x) ev h k=wK (tB sh (ev a) (ev x) h) k)∧(∀{x},G (.nilchk x) ev h k=pK (fF (ev x)) fun v=>k v h []) ∧
 (∀{o x y},G (.bin o x y) ev h k=pK (DA o (ev x) (ev y)) fun v=>k v h [])∧(∀{l n x y},G (.eqa l n x y) ev h k=pK (YA l n (ev x) (ev y)) fun v=>k v h [])∧(∀{n b x},G (.isnil n b x) ev h k=pK (JQ n b (ev x)) fun v=>k v h []) ∧
 (∀{x},G (.mkif x) ev h k=pK (HU (ev x)) fun v=>k v h [])∧(∀{o x},G (.un o x) ev h k=pK (oUn o (ev x)) fun v=>k v h [])∧(∀{c x},G (.conv (.i c) x) ev h k=pK (SL c (ev x)) fun v=>k v h []) ∧
 (∀{f l},G (.mkfn f l) ev h k=k (.fn f (ev1 ev l)) h [])∧(∀{sh x a b c},G (.slice sh x a b c) ev h k=pK (FJ sh (ev x) (evO ev a) (evO ev b) (evO ev c) h) fun v=>k v h [])∧(∀{x a b},G (.slstr x a b) ev h k=pK (MQ (ev x) (evO ev a) (evO ev b)) fun v=>k v h []) ∧
 (∀{sh z a b},G (.mksl sh z a b) ev h k=wK (IU sh z (ev a) (ev b) h) k)∧(∀{o sh x},G (.faddr o sh x) ev h k=pK (IA o sh (ev x)) fun v=>k v h [])∧(∀{o sh x},G (.field o sh x) ev h k=pK (fI o sh (ev x)) fun v=>k v h []) ∧
 (∀{sh x i},G (.iaddr sh x i) ev h k=pK (eD sh (ev x) (ev i) h) fun v=>k v h [])∧(∀{n sh x i},G (.iaddra n sh x i) ev h k=pK (EJ n sh (ev x) (ev i)) fun v=>k v h [])∧(∀{n sh x i},G (.idxa n sh x i) ev h k=pK (gI n sh (ev x) (ev i)) fun v=>k v h []) ∧
 (∀{x i},G (.idxs x i) ev h k=pK (TL (ev x) (ev i)) fun v=>k v h [])∧(∀{x i},G (.ext x i) ev h k=pK (DJ (ev x) i) fun v=>k v h [])∧(∀{x},G (.len x) ev h k=pK (bH (ev x)) fun v=>k v h [])∧(∀{x},G (.lens x) ev h k=pK (ND (ev x)) fun v=>k v h []) ∧
 (∀{sh a x},G (.app sh a x) ev h k=wK (RL sh (ev a) (ev x) h) k)∧(∀{sh a x},G (.copy sh a x) ev h k=wK (FU sh (ev a) (ev x) h) k)∧(∀{m t l},G (.uns m t l) ev h k=wK (rD m t (ev1 ev l) h) k)∧(∀{sh z x},G (.clr sh z x) ev h k=wK (oClr sh z (ev x) h) k) ∧
 (∀{l},G (.mx l) ev h k=pK (oMx (ev1 ev l)) fun v=>k v h [])∧(∀{l},G (.mn l) ev h k=pK (oMn (ev1 ev l)) fun v=>k v h [])∧(∀{sh},G (.new0 sh) ev h k=nwK sh h k)∧(∀{x},G (.conv .s2b x) ev h k=wK (HE .s2b (ev x) h) k)∧(∀{x},G (.conv .b2s x) ev h k=wK (HE .b2s (ev x) h) k) ∧
 (∀{x},G (.conv .r2s x) ev h k=wK (HE .r2s (ev x) h) k)∧(∀{x},G (.conv .same x) ev h k=wK (HE .same (ev x) h) k)∧(G .mkmap ev h k=mmK h k)∧(∀{n o z x y},G (.look n o z x y) ev h k=pK (NB n o z (ev x) (ev y) h) fun v=>k v h [])∧(∀{n m y x},G (.mupd n m y x) ev h k=wK (mC n (ev m) (ev y) (ev x) h) k) ∧
 (∀{n z m y},G (.ment n z m y) ev h k=wK (cH n z (ev m) (ev y) h) k)∧(∀{m a x},G (.estore m a x) ev h k=wK (aH (ev m) (ev a) (ev x) h) k)∧(∀{n m y},G (.mdel n m y) ev h k=wK (GU n (ev m) (ev y) h) k)∧(∀{x},G (.lenm x) ev h k=pK (KQ (ev x) h) fun v=>k v h []) ∧
 (∀{x},G (.mrange x) ev h k=wK (VL (ev x) h) k)∧(∀{i},G (.mentry i) ev h k=wK (UL (ev i) h) k)
theorem w_op:∀ G,(G=opC C∨G=opE C)→OpW G:=by
 rintro G (rfl|rfl) <;> refine fun {_ _ _}=>⟨?_,?_,?_,?_,?_,?_,?_,?_,?_,?_,?_,?_,?_,?_,?_,?_,?_,?_,?_,?_,?_,?_,?_,?_,?_,?_,?_,?_,?_,?_,?_,?_,?_,?_,?_,?_,?_,?_,?_,?_,?_,?_,?_,?_,?_,?_,?_,?_⟩ <;> intros <;> rfl
theorem w_oc:OpW (opC C):=w_op _ (.inl rfl)
theorem w_oe:OpW (opE C):=w_op _ (.inr rfl)
abbrev OpG (G:AO→(Opd→AV)→aA→(AV→aA→Esc→Prop)→Prop):Prop:=∀{t:AV} {g:Bool} {ev:Opd→AV} {h:aA} {k:AV→aA→Esc→Prop},
 (∀{x},gO G t g (.mv x) ev h k=gM t g (ev x) h k) ∧
 (∀{c a b},gO G t g (.pick c a b) ev h k=gP t g (LQ (ev c) (ev a) (ev b)) h k) ∧
 (∀{z},gO G t g (.alloc z) ev h k=gV t g h (fun k=>alK z h k) k) ∧
 (∀{x},gO G t g (.box x) ev h k=gV t g h (fun k=>wK (CJ (ev x) h) k) k) ∧
 (∀{z ps},gO G t g (.build z ps) ev h k=gP t g (xC z (ev3 ev ps)) h k) ∧
 (∀{o sh n z ps},gO G t g (.bsl o sh n z ps) ev h k=gV t g h (fun k=>wK (XC o sh n z (ev2 ev ps) h) k) k) ∧
 (∀{sh a},gO G t g (.load sh a) ev h k=gP t g (FA sh (ev a) h) h k) ∧
 (∀{sh a x},gO G t g (.store sh a x) ev h k=gV t g h (fun k=>wK (tB sh (ev a) (ev x) h) k) k) ∧
 (∀{x},gO G t g (.nilchk x) ev h k=gP t g (fF (ev x)) h k) ∧
 (∀{o x y},gO G t g (.bin o x y) ev h k=gP t g (DA o (ev x) (ev y)) h k) ∧
 (∀{l n x y},gO G t g (.eqa l n x y) ev h k=gP t g (YA l n (ev x) (ev y)) h k) ∧
 (∀{n b x},gO G t g (.isnil n b x) ev h k=gP t g (JQ n b (ev x)) h k) ∧
 (∀{x},gO G t g (.mkif x) ev h k=gP t g (HU (ev x)) h k) ∧
 (∀{o x},gO G t g (.un o x) ev h k=gP t g (oUn o (ev x)) h k) ∧
 (∀{c x},gO G t g (.conv (.i c) x) ev h k=gP t g (SL c (ev x)) h k) ∧
 (∀{f l},gO G t g (.mkfn f l) ev h k=gM t g (.fn f (ev1 ev l)) h k) ∧
 (∀{sh x a b c},gO G t g (.slice sh x a b c) ev h k=gP t g (FJ sh (ev x) (evO ev a) (evO ev b) (evO ev c) h) h k) ∧
 (∀{x a b},gO G t g (.slstr x a b) ev h k=gP t g (MQ (ev x) (evO ev a) (evO ev b)) h k) ∧
 (∀{sh z a b},gO G t g (.mksl sh z a b) ev h k=gV t g h (fun k=>wK (IU sh z (ev a) (ev b) h) k) k) ∧
 (∀{o sh x},gO G t g (.faddr o sh x) ev h k=gP t g (IA o sh (ev x)) h k) ∧
 (∀{o sh x},gO G t g (.field o sh x) ev h k=gP t g (fI o sh (ev x)) h k) ∧
 (∀{sh x i},gO G t g (.iaddr sh x i) ev h k=gP t g (eD sh (ev x) (ev i) h) h k) ∧
 (∀{n sh x i},gO G t g (.iaddra n sh x i) ev h k=gP t g (EJ n sh (ev x) (ev i)) h k) ∧
 (∀{n sh x i},gO G t g (.idxa n sh x i) ev h k=gP t g (gI n sh (ev x) (ev i)) h k) ∧
 (∀{x i},gO G t g (.idxs x i) ev h k=gP t g (TL (ev x) (ev i)) h k) ∧
 (∀{x i},gO G t g (.ext x i) ev h k=gP t g (DJ (ev x) i) h k) ∧
 (∀{x},gO G t g (.len x) ev h k=gP t g (bH (ev x)) h k) ∧
 (∀{x},gO G t g (.lens x) ev h k=gP t g (ND (ev x)) h k) ∧
 (∀{sh a x},gO G t g (.app sh a x) ev h k=gV t g h (fun k=>wK (RL sh (ev a) (ev x) h) k) k) ∧
 (∀{sh a x},gO G t g (.copy sh a x) ev h k=gV t g h (fun k=>wK (FU sh (ev a) (ev x) h) k) k) ∧
 (∀{m t2 l},gO G t g (.uns m t2 l) ev h k=gV t g h (fun k=>wK (rD m t2 (ev1 ev l) h) k) k) ∧
 (∀{sh z x},gO G t g (.clr sh z x) ev h k=gV t g h (fun k=>wK (oClr sh z (ev x) h) k) k) ∧
 (∀{l},gO G t g (.mx l) ev h k=gP t g (oMx (ev1 ev l)) h k) ∧
 (∀{l},gO G t g (.mn l) ev h k=gP t g (oMn (ev1 ev l)) h k) ∧
 (∀{sh},gO G t g (.new0 sh) ev h k=gV t g h (fun k=>nwK sh h k) k) ∧
 (∀{x},gO G t g (.conv .s2b x) ev h k=gV t g h (fun k=>wK (HE .s2b (ev x) h) k) k) ∧
 (∀{x},gO G t g (.conv .b2s x) ev h k=gV t g h (fun k=>wK (HE .b2s (ev x) h) k) k) ∧
 (∀{x},gO G t g (.conv .r2s x) ev h k=gV t g h (fun k=>wK (HE .r2s (ev x) h) k) k) ∧
 (∀{x},gO G t g (.conv .same x) ev h k=gV t g h (fun k=>wK (HE .same (ev x) h) k) k) ∧
 (gO G t g .mkmap ev h k=gV t g h (fun k=>mmK h k) k) ∧
 (∀{n o z x y},gO G t g (.look n o z x y) ev h k=gP t g (NB n o z (ev x) (ev y) h) h k) ∧
 (∀{n m y x},gO G t g (.mupd n m y x) ev h k=gV t g h (fun k=>wK (mC n (ev m) (ev y) (ev x) h) k) k) ∧
 (∀{n z m y},gO G t g (.ment n z m y) ev h k=gV t g h (fun k=>wK (cH n z (ev m) (ev y) h) k) k) ∧
 (∀{m a x},gO G t g (.estore m a x) ev h k=gV t g h (fun k=>wK (aH (ev m) (ev a) (ev x) h) k) k) ∧
 (∀{n m y},gO G t g (.mdel n m y) ev h k=gV t g h (fun k=>wK (GU n (ev m) (ev y) h) k) k) ∧
 (∀{x},gO G t g (.lenm x) ev h k=gP t g (KQ (ev x) h) h k) ∧
 (∀{x},gO G t g (.mrange x) ev h k=gV t g h (fun k=>wK (VL (ev x) h) k) k) ∧
 (∀{i},gO G t g (.mentry i) ev h k=gV t g h (fun k=>wK (UL (ev i) h) k) k)
theorem w_og:∀ G,(G=opC C∨G=opE C)→OpG G:=by
 rintro G (rfl|rfl) <;> refine fun {_ _ _ _ _}=>⟨?_,?_,?_,?_,?_,?_,?_,?_,?_,?_,?_,?_,?_,?_,?_,?_,?_,?_,?_,?_,?_,?_,?_,?_,?_,?_,?_,?_,?_,?_,?_,?_,?_,?_,?_,?_,?_,?_,?_,?_,?_,?_,?_,?_,?_,?_,?_,?_⟩ <;> intros <;> rfl
theorem w_gc:OpG (opC C):=w_og _ (.inl rfl)
theorem w_ge:OpG (opE C):=w_og _ (.inr rfl)
theorem wG:(∀ {C:Hd} {t:AV} {g:Bool} {f:Nat} {a:List Opd} {ev:Opd→AV} {h:aA} {k:AV→aA→Esc→Prop},gO (opC C) t g (.call f a) ev h k=gV t g h (C f (ev1 ev a) h) k)∧(∀ {C:Hd} {t:AV} {g:Bool} {f:Opd} {a:List Opd} {ev:Opd→AV} {h:aA} {k:AV→aA→Esc→Prop},gO (opC C) t g (.callv f a) ev h k=gV t g h (vH C (ev f) (ev1 ev a) h) k) ∧
 (∀{C:Hd} {t:AV} {g:Bool} {f:Nat} {a:List Opd} {ev:Opd→AV} {h:aA} {k:AV→aA→Esc→Prop},gO (opE C) t g (.call f a) ev h k=gV t g h (lC C f (ev1 ev a) h) k)∧(∀{C:Hd} {t:AV} {g:Bool} {f:Opd} {a:List Opd} {ev:Opd→AV} {h:aA} {k:AV→aA→Esc→Prop},gO (opE C) t g (.callv f a) ev h k=gV t g h (YN C (ev f) (ev1 ev a) h) k):=⟨rfl,rfl,rfl,rfl⟩
theorem wB:(∀ {α:Type} {l:List α},[]++l=l)∧(∀ {α:Type} {a:α} {l m:List α},a::l++m=a::(l++m))∧(∀ {α:Type} {a:α} {l:List α},(a::l)[0]?=some a)∧(∀ {α:Type} {a:α} {l:List α} {i:Nat},(a::l)[i+1]?=l[i]?) ∧
 (∀{C:Hd} {gl:GL} {b:ACode} {K:KT} {s:St},yD C gl b K .normal s=NW C gl b s K)∧(∀{C:Hd} {gl:GL} {b:ACode} {K:KT} {s:St} {i:Nat},yD C gl b K (.exit i) s=K (.exit i) s)∧(∀{C:Hd} {gl:GL} {b:ACode} {K:KT} {s:St},yD C gl b K .ret s=K .ret s) ∧
 (∀{i:Nat} {K:KT} {s:St},tC i K .normal s=K .normal s)∧(∀{i j:Nat} {K:KT} {s:St},tC i K (.exit j) s=match Nat.beq j i with|true=>K .normal s|false=>K (.exit j) s)∧(∀{i:Nat} {K:KT} {s:St},tC i K .ret s=K .ret s):=
 ⟨by intros;rfl,by intros;rfl,by intros;rfl,by intros;rfl,by intros;rfl,by intros;rfl,by intros;rfl,by intros;rfl,by intro i j K s;show(bif Nat.beq j i then _ else _)=_;cases Nat.beq j i <;> rfl,by intros;rfl⟩
theorem wS:(∀ {n:Int},cI n = .c (.p (.int .i64 n)))∧(cT = .c (.p (.bool true)))∧(cF = .c (.p (.bool false)))∧(∀ {l:List UInt8},cS l = .c (.p (.str l)))∧(∀ {d:Nat} {o:AO},uO d o=⟨some d,none,o⟩)∧(∀ {o:AO},wO o=⟨none,none,o⟩)∧(∀ {d g:Nat} {b:Bool} {o:AO},gD d g b o=⟨some d,some (g,b),o⟩)∧(∀ {d:Nat} {x:Opd},mV d x=⟨some d,none,.mv x⟩) ∧
 (∀{d:Nat} {b:BinOp} {x y:Opd},bN d b x y=⟨some d,none,.bin b x y⟩)∧(∀{d f:Nat} {l:List Opd},cL d f l=⟨some d,none,.call f l⟩)∧(∀{d:Nat} {s:Sh} {x:Opd},lD d s x=⟨some d,none,.load s x⟩)∧(∀{d:Nat} {s:Sh} {x y:Opd},iA d s x y=⟨some d,none,.iaddr s x y⟩)∧(∀{d o:Nat} {s:Sh} {x:Opd},fA d o s x=⟨some d,none,.faddr o s x⟩) ∧
 (∀{d:Nat} {s:Sh} {x y:Opd},sT d s x y=⟨some d,none,.store s x y⟩)∧(∀{d:Nat} {x:Opd},lN d x=⟨some d,none,.len x⟩)∧(∀{d:Nat} {x:Opd} {i:Nat},eX d x i=⟨some d,none,.ext x i⟩)∧(∀{o:AOp} {l:List Nat},dF o l=⟨o,l,false,[],[]⟩)∧(∀{o:AOp} {l:List Nat},dT o l=⟨o,l,true,[],[]⟩)∧(∀{o:AOp} {l:List Nat} {e:Bool} {a b:List Nat},dA o l e a b=⟨o,l,e,a,b⟩) ∧
 (∀{l:List AOp} {k:List Nat},rg l k = .reg l (some k))∧(∀{l:List DOp} {k:List Nat},dr l k = .draw l (some k)):=
 ⟨rfl,rfl,rfl,rfl,rfl,rfl,rfl,rfl,rfl,rfl,rfl,rfl,rfl,rfl,rfl,rfl,rfl,rfl,rfl,rfl,rfl⟩
def wZ:=And.intro wA (And.intro wB (And.intro @w_oc (And.intro @w_oe (And.intro @w_gc (And.intro @w_ge (And.intro wG wS))))))
end Go.Am
end
