import Derived.Below
import Derived.ChangeSlices
import Derived.Carry
import GoSem.Extern.Table
import Derived.Laws.World
import Derived.Test.YthofcepomhnpdaaGreatlawST2
set_option linter.all false
set_option maxRecDepth 100000
set_option maxHeartbeats 0
namespace Go.Am
section
variable {h h':aA} {μ μ':Mu} {w w':World} {P:Program} {M M':Mem}
variable {gl:Nat->Option PV} {nt:Nat} {M0:Mem} {h0:aA} {μ0:Mu} {e:List (Nat × AV)} {x:Esc} {a:Act}
def CF (P:Program):List ARes->List ResultVar->Bool
 | [],[]=>true
 | .t n::r,.tmp m::s=>n==m&&CF P r s
 | .cell n sh::r,.cell m t::s=>n==m&&DB P t==some sh&&CF P r s
 | _,_=>false
def WR (tmps:Array Value):ResultVar->Sem Value
 | .tmp t=>pure (tmps.getD t undef)
 | .cell a t=>do loadVar t (<-asAddr (tmps.getD a undef))
theorem z7Q {s:St}(H:HeapRel s.h μ w)(he:∀ t,RAV (imm s.h μ w) s.h μ (bA s.env t) (a.tmps.getD t undef)):∀{rs:List ARes} {qs:List ResultVar} {vs:List AV},CF P rs qs=true->BF s rs=some vs ->
 ∃us,(qs.mapM (WR a.tmps)).run P w = .ok us w/\vs.length=us.length/\∀(j:Nat) (y:AV) (v:Value),vs[j]?=some y->us[j]?=some v->RAV (imm s.h μ w) s.h μ y v
 | [],[],vs,_,hv=>by
  simp [BF]at hv;subst hv;exact⟨[],by simp,rfl,λj y v h1 h2=>by simp at h1⟩
 | [],_::_,_,hc,_=>by simp [CF]at hc
 | .t n::r,[],_,hc,_=>by simp [CF]at hc
 | .cell n sh::r,[],_,hc,_=>by simp [CF]at hc
 | .t n::r,.cell _ _::q,_,hc,_=>by simp [CF]at hc
 | .cell n sh::r,.tmp _::q,_,hc,_=>by simp [CF]at hc
 | .t n::r,.tmp m::q,vs,hc,hv=>by
  simp only[CF,Bool.and_eq_true,beq_iff_eq]at hc;obtain⟨rfl,hc⟩:=hc;simp only[BF,ares]at hv;simp only[Option.map_eq_some_iff]at hv;obtain⟨l,hl,rfl⟩:=hv;obtain⟨us,h1,h2,h3⟩:=z7Q H he hc hl;refine⟨a.tmps.getD n undef::us,by simp [WR,h1],by simp [h2],λj y v hy hv=>?_⟩
  cases j with
  | zero=>simp at hy hv;subst hy;subst hv;simpa using he n
  | succ j=>exact h3 j y v (by simpa using hy) (by simpa using hv)
 | .cell n sh::r,.cell m t::q,vs,hc,hv=>by
  simp only[CF,Bool.and_eq_true,beq_iff_eq]at hc;obtain⟨⟨rfl,hs⟩,hc⟩:=hc;simp only[BF]at hv;split at hv
  ·rename_i u hu
   simp only[Option.map_eq_some_iff]at hv;obtain⟨l,hl,rfl⟩:=hv;obtain⟨us,h1,h2,h3⟩:=z7Q H he hc hl;simp only[ares]at hu;split at hu
   ·rename_i id off hr
    split at hu
    ·rename_i cs ho
     have hR:=he n
     rw[hr]at hR;generalize hz:a.tmps.getD n undef=z at hR;cases hR with|ref _ _ b k cs' ho' hm=>
     obtain⟨b',c,hm',hb,hcell⟩:=H.obj _ _ _ ho hm;injection hm' with hm'
     injection hm' with e1 e2
     subst e1;obtain⟨c1,c2⟩:=JT (M:=imm s.h μ w) (h:=s.h) (μ:=μ) (f:=λj=>(c[j]?).getD undef) hu (λj x hx=>by obtain⟨_,v,q1,q2⟩:=hcell j x hx;simpa [q1] using q2)
     have hload:(loadVar t ⟨b,off,none⟩).run P w = .ok (UD sh λj=>(c[off+j]?).getD undef) w:=by
      refine zd0 hs (λj hj=>?_)
      rw[qE hb];have hlt:off+j<c.size:=by rw[hb.1];have:=c1;omega
      simp [hlt]
     refine⟨(UD sh λj=>(c[off+j]?).getD undef)::us,?_,by simp [h2],λj y v hy hv=>?_⟩
     ·simp only[List.mapM_cons,Sem.run_bind,WR,hz,asAddr]
      simp [hload,h1]
     ·cases j with
      | zero=>simp at hy hv;subst hy;subst hv;exact c2
      | succ j=>exact h3 j y v (by simpa using hy) (by simpa using hv)
    ·cases hu
   ·cases hu
  ·cases hv
theorem zsa {fn:Func}{s:St}(H:HeapRel s.h μ w)(he:∀ t,RAV (imm s.h μ w) s.h μ (bA s.env t) (a.tmps.getD t undef)){rs:List ARes}{vs:List AV}(hc:CF P rs fn.results.toList=true)(hv:BF s rs=some vs) :
 ∃u,(results fn a.tmps).run P w = .ok u w/\RAV (imm s.h μ w) s.h μ (dB vs) u:=by
 obtain⟨us,h1,h2,h3⟩:=z7Q H he hc hv;have hm:(fn.results.mapM (WR a.tmps)).run P w = .ok us.toArray w:=by
  rw[Array.mapM_eq_mapM_toList];simp [h1]
 refine⟨if hz:us.toArray.size=1 then us.toArray[0] else .tuple us.toArray,?_,?_⟩
 ·unfold results
  rw[Sem.run_bind];show(Sem.run P (fn.results.mapM (WR a.tmps)) w).andThen _=_
  rw[hm];rfl
 ·match vs,us,h2,h3 with
  | [v],[u],_,h3=>exact h3 0 v u rfl rfl
  | [],[],_,h3=>exact .tup [] [] rfl (λj y v h1 h2=>by simp at h1)
  | a::b::r,c::d::q,h2,h3=>exact .tup _ (c::d::q) h2 h3
theorem zcS (H:HeapRel h μ w){n:Nat}(L:(imm h μ w).le (imm (h.take n) (μ.take n) w)){id g off len:Nat}{x:Value}{sh:Sh}{xs:List PV}(R:RAV (imm h μ w) h μ (.own id g off len) x)(hr:rd h (.own id g off len)=some (sh,xs))
 (hn:n<=id):RPV (imm (h.take n) (μ.take n) w) (.sl sh xs) x:=by
 obtain⟨ys,fz,ho,hc1,hc2,hr⟩:=z7O hr;obtain⟨_,g2,a,cap,rfl,g3,g4⟩:=MK H R ho hc1;have hlen:xs.length=len:=by rw[hr];exact nZ hc2
 by_cases hne:xs=[]
 ·have hl0:len=0:=by rw[<-hlen,hne];rfl
  rw[hne,hl0];exact .nils _ _ _
 ·have hpos:0<xs.length:=List.length_pos_iff.2 hne
  obtain⟨b,m,c,hm,ha,hB,hn1,hn2,hcells⟩:=g4 (by omega)
  have he:∀x∈xs,x.cells.length=kA sh:=λx hx=>ZC (g2 x (tJ (hr ▸ hx)))
  have hcell:∀(j:Nat) (y:PV),(xs.flatMap PV.cells)[j]?=some y->∃v,c[off*kA sh+j]?=some v/\RPV (imm h μ w) y v:=by
   intro j y hy;obtain⟨x,h5,h6,h8,h7⟩:=aI he hy;rw[hr]at h5;have h9:=mZ h5
   have h10:=hcells _ _ x y h9.2 h6
   rw[show(off+j / kA sh)*kA sh+j%kA sh=off*kA sh+j by rw[Nat.add_mul];omega]at h10
   exact h10
  subst ha;have key:RPV (imm (h.take n) (μ.take n) w) (.sl sh xs) (.slice (some ⟨b,off*kA sh,none⟩) xs.length cap):=by
   refine .sl sh xs b (off*kA sh) cap (λj=>(c[off*kA sh+j]?).getD undef) hne (by omega) (λx hx=>g2 x (tJ (hr ▸ hx))) (λj y hy=>?_) (λj y hy=>?_)
   ·obtain⟨v,h5,h6⟩:=hcell j y hy
    refine ZD.2 ⟨?_,by rw[qE hB,h5];simp [h5]⟩
    rintro⟨i,n',h8,h9⟩
    rw[List.getElem?_take]at h8;split at h8
    ·have:=H.distinct i id b n' m h8 hm
     omega
    ·cases h8
   ·obtain⟨v,h5,h6⟩:=hcell j y hy
    have:(c[off*kA sh+j]?).getD undef=v:=by simp [h5]
    simp only[this];exact h6.mono L
  rwa [hlen]at key
theorem zdm (H:HeapRel h μ w){n:Nat}(L:(imm h μ w).le (imm (h.take n) (μ.take n) w)):∀(cs:List AV) {vs:List PV},(∀x∈cs,x.sc=true)->VR n h cs=some vs ->
 vs.length=cs.length/\(∀x∈vs,x.sc=true)/\∀(j:Nat) (y:AV) (z:PV) (v:Value),cs[j]?=some y->vs[j]?=some z->RAV (imm h μ w) h μ y v->RPV (imm (h.take n) (μ.take n) w) z v
 | [],vs,_,e=>by
  simp [VR]at e;subst e;exact⟨rfl,by simp,λj y z v hy=>by simp at hy⟩
 | a::r,vs,hs,e=>by
  simp only[VR]at e;split at e;case h_2=>cases e
  rename_i x hx;simp only[Option.map_eq_some_iff]at e;obtain⟨xs,h1,rfl⟩:=e;obtain⟨q1,q2,q3⟩:=zdm H L r (λx hx=>hs x (by simp [hx])) h1
  have hsa:=hs a (by simp)
  have key:x.sc=true/\∀v,RAV (imm h μ w) h μ a v->RPV (imm (h.take n) (μ.take n) w) x v:=by
   unfold rd0 at hx;split at hx
   ·injection hx with hx;subst hx;exact⟨hsa,λv R=>R.p_inv.mono L⟩
   ·injection hx with hx;subst hx;exact⟨rfl,λv R=>by obtain⟨a,rfl⟩:=bP R;exact .nils _ _ _⟩
   ·injection hx with hx;subst hx;exact⟨rfl,λv R=>by cases R;exact .nilp⟩
   ·split at hx
    ·rename_i hn
     simp only[Option.map_eq_some_iff]at hx;obtain⟨⟨sh,ys⟩,h1,rfl⟩:=hx;exact⟨rfl,λv R=>zcS H L R h1 hn⟩
    ·cases hx
   ·cases hx
  refine⟨by simp [q1],λy hy=>?_,λj y z v hy hz R=>?_⟩
  ·rcases List.mem_cons.1 hy with rfl|hy
   ·exact key.1
   ·exact q2 y hy
  ·cases j with
   | zero=>simp at hy hz;subst hy;subst hz;exact key.2 v R
   | succ j=>exact q3 j y z v (by simpa using hy) (by simpa using hz) R
theorem zfS (H:HeapRel h μ w){n:Nat}(L:(imm h μ w).le (imm (h.take n) (μ.take n) w)){t id g:Nat}{x:Value}{u:AV}(R:RAV (imm h μ w) h μ (.bt 3 t id g) x)(hr:rdA n h id g=some u)
 (hn:n<=id):RAV (imm (h.take n) (μ.take n) w) (h.take n) (μ.take n) u x:=by
 unfold rdA at hr;split at hr;case h_2=>cases hr
 rename_i sh cs ho;split at hr;case isFalse=>cases hr
 rename_i hg;simp only[Option.map_eq_some_iff]at hr;obtain⟨vs,h1,rfl⟩:=hr;cases R with|bt3 _ _ _ a cap o m hl ho' hm hv=>
 rw[ho]at ho';injection ho' with ho'
 obtain⟨hv1,hv2⟩:=hv sh cs ho'.symm;have hO:=hv2 hg
 obtain⟨k1,k2⟩:=H.obj id _ m ho hm;obtain⟨q1,q2,q3⟩:=zdm H L cs k1 h1;obtain⟨s1,s2,s3⟩:=z9T (sh:=sh) (g:=g) (vs:=vs) (by rw[q1,hg]) q2
 by_cases hz:g=0
 ·subst hz
  have hxs:CD sh 0 vs=[]:=List.length_eq_zero_iff.1 s1
  rw[hxs];exact .p _ _ (.nils _ _ _)
 ·have hm2:∃b k c,m=some (b,k)/\a=some ⟨b,0,none⟩/\tB w b k c/\∀(j:Nat) (x:AV),cs[j]?=some x->∃v,c[j]?=some v/\RAV (imm h μ w) h μ x v:=by
   cases m with
   | none=>simp [AH]at hO;omega
   | some m=>
    obtain⟨b,k⟩:=m;obtain⟨c,c1,c2,c3⟩:=k2;rcases hO with q|q
    ·omega
    ·exact⟨b,k,c,rfl,by rw[q.1,Nat.zero_mul],c1,c3⟩
  obtain⟨b,k,c,rfl,rfl,hB,hcells⟩:=hm2;have he:∀x∈CD sh g vs,x.cells.length=kA sh:=λx hx=>ZC (s2 x hx)
  have hcell:∀(j:Nat) (y:PV),((CD sh g vs).flatMap PV.cells)[j]?=some y->∃v,c[j]?=some v/\RPV (imm (h.take n) (μ.take n) w) y v:=by
   intro j y hy;obtain⟨x,h5,h6,h8,h7⟩:=aI he hy;have h9:=s3 _ _ x y h5 h6
   have hj:j / kA sh*kA sh+j%kA sh=j:=Nat.div_add_mod' j (kA sh)
   rw[hj]at h9;have hlt:j<cs.length:=by have:=MA h9;omega
   obtain⟨v,v1,v2⟩:=hcells j cs[j] (List.getElem?_eq_getElem hlt);exact⟨v,v1,q3 j cs[j] y v (List.getElem?_eq_getElem hlt) h9 v2⟩
  have key:RPV (imm (h.take n) (μ.take n) w) (.sl sh (CD sh g vs)) (.slice (some ⟨b,0,none⟩) (CD sh g vs).length cap):=by
   refine .sl sh _ b 0 cap (λj=>(c[j]?).getD undef) (λe=>hz (by rw[<-s1,e];rfl)) (by rw[s1];exact hl) s2 (λj y hy=>?_) (λj y hy=>?_)
   ·obtain⟨v,h5,h6⟩:=hcell j y hy
    refine ZD.2 ⟨?_,by rw[qE hB,Nat.zero_add,h5];simp [h5]⟩
    rintro⟨i,n',h8,h9⟩
    rw[List.getElem?_take]at h8;split at h8
    ·have:=H.distinct i id b n' k h8 hm
     omega
    ·cases h8
   ·obtain⟨v,h5,h6⟩:=hcell j y hy
    have:(c[j]?).getD undef=v:=by simp [h5]
    simp only[this];exact h6
  rw[s1]at key;exact .p _ _ key
mutual
theorem zdp (H:HeapRel h μ w){n:Nat}(L:(imm h μ w).le (imm (h.take n) (μ.take n) w)):∀(v:AV) {u:AV} {x:Value},RAV (imm h μ w) h μ v x->aB n h v=some u->u.top<=n->RAV (imm (h.take n) (μ.take n) w) (h.take n) (μ.take n) u x
 | .own id g off len,u,x,R,hr,ht=>by
  simp only[aB]at hr;split at hr
  ·rename_i hn
   simp only[Option.map_eq_some_iff]at hr;obtain⟨⟨sh,xs⟩,h1,rfl⟩:=hr;exact .p _ _ (zcS H L R h1 hn)
  ·injection hr with hr;subst hr;exact R.take L ht
 | .sl0 sh,u,x,R,hr,ht=>by
  simp only[aB]at hr;injection hr with hr
  subst hr;obtain⟨a,rfl⟩:=bP R;exact .p _ _ (.nils _ _ _)
 | .agg cs,u,x,R,hr,ht=>by
  simp only[aB,Option.map_eq_some_iff]at hr;obtain⟨us,h1,rfl⟩:=hr;cases R with|agg _ xs hl hrr=>
  have htop:AV.tops us<=n:=by
   unfold mkA at ht;split at ht
   ·rename_i ps hp
    have:=kP hp;subst this;rw[ze2];omega
   ·simpa [AV.top] using ht
  obtain⟨q1,q2⟩:=z7P H L cs hl hrr h1 htop;exact z55 q1 q2
 | .tup cs,u,x,R,hr,ht=>by
  simp only[aB,Option.map_eq_some_iff]at hr;obtain⟨us,h1,rfl⟩:=hr;cases R with|tup _ xs hl hrr=>
  obtain⟨q1,q2⟩:=z7P H L cs hl hrr h1 (by simpa [AV.top] using ht)
  exact .tup us xs q1 q2
 | .p v,u,x,R,hr,ht=>by simp only[aB]at hr;injection hr with hr;subst hr;exact R.take L ht
 | .ref _ _,u,x,R,hr,ht=>by simp only[aB]at hr;injection hr with hr;subst hr;exact R.take L ht
 | .rref _ _ _ _,u,x,R,hr,ht=>by simp only[aB]at hr;injection hr with hr;subst hr;exact R.take L ht
 | .vp _,u,x,R,hr,ht=>by simp only[aB]at hr;injection hr with hr;subst hr;exact R.take L ht
 | .nilp,u,x,R,hr,ht=>by simp only[aB]at hr;injection hr with hr;subst hr;exact R.take L ht
 | .nilm,u,x,R,hr,ht=>by simp only[aB]at hr;injection hr with hr;subst hr;exact R.take L ht
 | .nilf,u,x,R,hr,ht=>by simp only[aB]at hr;injection hr with hr;subst hr;exact R.take L ht
 | .nili,u,x,R,hr,ht=>by simp only[aB]at hr;injection hr with hr;subst hr;exact R.take L ht
 | .ifc,u,x,R,hr,ht=>by simp only[aB]at hr;injection hr with hr;subst hr;exact R.take L ht
 | .mp _,u,x,R,hr,ht=>by simp only[aB]at hr;injection hr with hr;subst hr;exact R.take L ht
 | .it _,u,x,R,hr,ht=>by simp only[aB]at hr;injection hr with hr;subst hr;exact R.take L ht
 | .fn _ _,u,x,R,hr,ht=>by simp only[aB]at hr;injection hr with hr;subst hr;exact R.take L ht
 | .anyb,u,x,R,hr,ht=>by simp only[aB]at hr;injection hr with hr;subst hr;exact R.take L ht
 | .skp,u,x,R,hr,ht=>by simp only[aB]at hr;injection hr with hr;subst hr;exact R.take L ht
 | .und,u,x,R,hr,ht=>by simp only[aB]at hr;injection hr with hr;subst hr;exact R.take L ht
 | .anyp,u,x,R,hr,ht=>by simp only[aB]at hr;injection hr with hr;subst hr;exact R.take L ht
 | .bt k t id g,u,x,R,hr,ht=>by
  simp only[aB]at hr;cases hk:(Nat.beq k 3&&decide (n<=id)) with
  | false=>rw[hk]at hr;injection hr with hr;subst hr;exact R.take L ht
  | true=>
   rw[hk]at hr;simp only[Bool.and_eq_true,decide_eq_true_eq]at hk;have hk1:=Nat.eq_of_beq_eq_true hk.1
   subst hk1;exact zfS H L R hr hk.2
theorem z7P (H:HeapRel h μ w){n:Nat}(L:(imm h μ w).le (imm (h.take n) (μ.take n) w)):∀(cs:List AV) {us:List AV} {xs:List Value},cs.length=xs.length ->
 (∀(j:Nat) (y:AV) (v:Value),cs[j]?=some y->xs[j]?=some v->RAV (imm h μ w) h μ y v)->cE n h cs=some us->AV.tops us<=n ->
 us.length=xs.length/\∀(j:Nat) (y:AV) (v:Value),us[j]?=some y->xs[j]?=some v->RAV (imm (h.take n) (μ.take n) w) (h.take n) (μ.take n) y v
 | [],us,xs,hl,hr,e,ht=>by
  simp only[cE]at e;injection e with e
  subst e;exact⟨hl,λj y v h1 _=>by simp at h1⟩
 | c::r,us,xs,hl,hr,e,ht=>by
  cases xs with
  | nil=>simp at hl
  | cons x xs=>
   simp only[cE]at e;split at e
   ·rename_i u hu
    simp only[Option.map_eq_some_iff]at e;obtain⟨l,h1,rfl⟩:=e;simp only[AV.tops]at ht;have k1:=zdp H L c (hr 0 c x rfl rfl) hu (by omega)
    obtain⟨k2,k3⟩:=z7P H L r (xs:=xs) (by simpa using hl) (λj y v h1 h2=>hr (j+1) y v (by simpa using h1) (by simpa using h2)) h1 (by omega)
    refine⟨by simp [k2],λj y v hy hv=>?_⟩
    cases j with
    | zero=>simp at hy hv;subst hy;subst hv;exact k1
    | succ j=>exact k3 j y v (by simpa using hy) (by simpa using hv)
   ·cases e
end
theorem MY:∀ (asv:List AV){h:aA}{vs:List Value}{asv':List AV}{h1:aA},HeapRel h μ w->asv.length=vs.length ->
 (∀(j:Nat) (y:AV) (v:Value),asv[j]?=some y->vs[j]?=some v->RAV (imm h μ w) h μ y v)->oA h asv=some (asv',h1) ->
 zG h μ w h1/\asv'.length=vs.length/\∀(j:Nat) (y:AV) (v:Value),asv'[j]?=some y->vs[j]?=some v->RAV (imm h1 μ w) h1 μ y v
 | [],h,vs,asv',h1,H,hl,hr,e=>by
  simp only[oA,Option.some.injEq,Prod.mk.injEq]at e;obtain⟨rfl,rfl⟩:=e;exact⟨⟨H,Evo.refl _ _ _,vA.refl _ _⟩,hl,λj y v hy=>by simp at hy⟩
 | a::r,h,vs,asv',h1,H,hl,hr,e=>by
  cases vs with
  | nil=>simp at hl
  | cons x vs=>
   have step:∀{h2:aA} {u:AV},zG h μ w h2->RAV (imm h2 μ w) h2 μ u x->(oA h2 r).map (λy=>(u::y.1,y.2))=some (asv',h1) ->
    zG h μ w h1/\asv'.length=(x::vs).length/\∀(j:Nat) (y:AV) (v:Value),asv'[j]?=some y->(x::vs)[j]?=some v->RAV (imm h1 μ w) h1 μ y v:=by
    intro h2 u ⟨a1,a2,a3⟩ hu e;simp only[Option.map_eq_some_iff,Prod.mk.injEq]at e;obtain⟨⟨l,h3⟩,hp,rfl,rfl⟩:=e;obtain⟨⟨b1,b2,b3⟩,b4,b5⟩:=MY r a1 (vs:=vs) (by simpa using hl) (λj y v hy hv=>(hr (j+1) y v (by simpa using hy) (by simpa using hv)).evo a2) hp
    refine⟨⟨b1,a2.trans b2,by simpa using vA.trans a3 b3⟩,by simp [b4],λj y v hy hv=>?_⟩
    cases j with
    | zero=>simp at hy hv;subst hy;subst hv;exact hu.evo b2
    | succ j=>exact b5 j y v (by simpa using hy) (by simpa using hv)
   have h0:=hr 0 a x rfl rfl
   cases a;case own id g off len=>
    simp only[oA]at e;split at e
    ·rename_i z hz
     obtain⟨sh,xs⟩:=z;obtain⟨k1,k2,k3,k4⟩:=vR H h0 hz;exact step ⟨k1,k2,k3⟩ (.p _ _ k4) e
    ·cases e
   case agg cs=>
    simp only[oA]at e;split at e
    ·rename_i pv h2 hp
     obtain⟨k1,k2⟩:=LY _ H h0 hp;exact step k1 (.p _ _ k2) e
    ·cases e
   case sl0 sh=>
    simp only[oA]at e;obtain⟨b,rfl⟩:=bP h0;exact step ⟨H,Evo.refl _ _ _,vA.refl _ _⟩ (.p _ _ (.nils _ _ _)) e
   all_goals
    simp only[oA]at e;exact step ⟨H,Evo.refl _ _ _,vA.refl _ _⟩ h0 e
end
section
variable {h h':aA} {μ μ':Mu} {w w':World} {P:Program} {M M':Mem}
variable {gl:Nat->Option PV} {nt:Nat} {M0:Mem} {h0:aA} {μ0:Mu} {e:List (Nat × AV)} {x:Esc} {a:Act}
theorem zbm {F:AFun}{fn:Func}{s:St}{K:jA}(R:Rel gl nt M0 h0 μ0 s.env s.h s.esc a w μ)(Hs:∀ id,VG h0 id<=h0.length)(hc:CF P F.results fn.results.toList=true)(H:fin F h0.length s K) :
 ∃u,(results fn a.tmps).run P w = .ok u w/\∃v h' x μ',K v h' x/\RAV (imm h' μ' w) h' μ' v u/\HeapRel h' μ' w/\Evo M0 h0 μ0 (imm h' μ' w) h' μ'/\vA h0 h' x:=by
 unfold fin at H;split at H
 ·rename_i vs hvs
  obtain⟨u,hu,hR⟩:=zsa R.heap R.env hc hvs;refine⟨u,hu,?_⟩;split at H
  ·dsimp only at H
   split at H
   ·rename_i hcl
    have hn:=DT s.esc.length s.esc (max h0.length (dB vs).top)
    generalize close s.esc.length s.esc (max h0.length (dB vs).top)=n at H hcl hn;obtain⟨q1,q2,q3,q4⟩:=z8j Hs R.heap R.evo R.esc (by omega) hcl
    exact⟨_,_,_,μ.take n,H,hR.take q2 (by omega),q1,q3,q4⟩
   ·exact⟨_,_,_,μ,H,hR,R.heap,R.evo,R.esc⟩
  ·split at H
   ·rename_i v0 hv0
    dsimp only at H;split at H
    ·rename_i hcl
     have hn:=DT s.esc.length s.esc (max h0.length v0.top)
     generalize close s.esc.length s.esc (max h0.length v0.top)=n at H hcl hn;split at H
     ·rename_i v hv
      obtain⟨q1,q2,q3,q4⟩:=z8j Hs R.heap R.evo R.esc (by omega) hcl
      exact⟨_,_,_,μ.take n,H.2,zdp R.heap q2 _ hR hv H.1,q1,q3,q4⟩
     ·exact H.elim
    ·exact⟨_,_,_,μ,H,hR,R.heap,R.evo,R.esc⟩
   ·exact H.elim
 ·exact H.elim
def z1v (P:Program)(f:Nat)(F:AFun):Bool:=match P.funcs[f]? with
 | some fn=>match fn.body with
  | some c=>IC P fn.ntmps F.body c&&CF P F.results fn.results.toList&&fn.name != "runtime.NumGoroutine"
  | none=>false
 | none=>false
theorem CV {f:Nat}{fn:Func}{c:Code}(hf:P.funcs[f]?=some fn)(hb:fn.body=some c)(hn:fn.name ≠ "runtime.NumGoroutine")(args:Array Value)(w:World):(callFunc f args).run P w = .ok (.enter f args) w:=by
 unfold callFunc;simp [hf,hb,hn]
theorem znS {asv:List AV}{t:Nat}:bA (enter asv) t=(asv[t]?).getD .und:=by
 have key:∀(l:List AV) (k t:Nat),bA ((l.zipIdx k).map λy=>(y.2,y.1)) t=if t<k then .und else(l[t-k]?).getD .und:=by
  intro l;induction l with
  | nil=>intro k t;simp [bA]
  | cons v r ih=>
   intro k t;simp only[List.zipIdx_cons,List.map_cons,bA];by_cases hk:k=t
   ·subst hk;simp
   ·rw[if_neg hk,ih]
    by_cases h1:t<k
    ·rw[if_pos h1,if_pos (by omega)]
    ·rw[if_neg h1,if_neg (by omega),show t-k=(t-(k+1))+1 by omega]
     simp
 have:=key asv 0 t;simpa [enter] using this
def JE (M:Mem)(w w':World):Mem:=⟨λb o=>if b<w.heap.size then M.c b o else w'.cell? ⟨b,o,none⟩,λ_=>none,some (zed w'),λ_=>none⟩
def z8C (P:Program)(f:Nat)(vs:List PV)(r:PV):Prop:=∀(M:Mem) (w:World) (us:List Value),(∀b o v,M.c b o=some v->w.cell? ⟨b,o,none⟩=some v)->vs.length=us.length ->
 (∀(j:Nat) (y:PV) (v:Value),vs[j]?=some y->us[j]?=some v->RPV M y v) ->
 ∃x w',(callFunc f us.toArray).run P w = .ok (.value x) w'/\WExt w w'/\RPV (JE M w w') r x
structure Fits (P:Program) (X:Ctx):Prop where
 mixed:P.follows .mixedOrders=true
 fn:∀f F,X.fn f=some F->z1v P f F=true
 ext:∀f vs r,X.fn f=none->X.ext f vs=some r->z8C P f vs r
 ex2:∀f asv h v h' x,X.fn f=none->X.ex2 f asv h=some (v,h',x)->aD P X.gl f asv h λv1 h1 x1=>v1=v/\h1=h'/\x1=x
theorem zul {X:Ctx}(HX:Fits P X){f:Nat}{asv:List AV}{h:aA}{K:jA}(H:TC X (aD P X.gl) f asv h K):aD P X.gl f asv h K:=by
 intro μ w vs Hh Hg hl hr;unfold TC at H;split at H
 ·rename_i F hF
  have H:=zo1 (aD.mono P X.gl) H
  have hck:=HX.fn f F hF
  unfold z1v at hck;split at hck
  ·rename_i fn hfn
   split at hck
   ·rename_i c hb
    simp only[Bool.and_eq_true,bne_iff_ne,ne_eq]at hck;obtain⟨⟨c1,c2⟩,c3⟩:=hck;refine .inl ⟨λw=>CV hfn hb c3 _ w,calls_of_wp hfn hb ?_⟩
    unfold oD at H;have body:∀{asv':List AV} {h1:aA},zG h μ w h1->asv'.length=vs.length->(∀(j:Nat) (y:AV) (v:Value),asv'[j]?=some y->vs[j]?=some v->RAV (imm h1 μ w) h1 μ y v) ->
     (asv'.length=F.nparams/\AW (aD P X.gl) X.gl F.body ⟨enter asv',h1,[]⟩ λe s=>match e with
      | .exit _=>False
      | _=>fin F h.length s K)->Code.wp P c (bodyPost P fn fun
       | .returned r,w'=>∃v h' x μ',K v h' x/\RAV (imm h' μ' w') h' μ' v r/\HeapRel h' μ' w'/\Evo (imm h μ w) h μ (imm h' μ' w') h' μ'/\vA h h' x
       | _,_=>False) { tmps:=vs.toArray++Array.replicate (fn.ntmps-vs.toArray.size) undef,defers:=[] } w:=by
     intro asv' h1 ⟨a1,a2,a3⟩ hl' hr' ⟨_,hA⟩;refine VE HX.mixed (nt:=fn.ntmps) (M0:=imm h μ w) (h0:=h) (μ0:=μ) (μ:=μ) (λ_ _ _ _ h=>h) F.body c1 hA ⟨a1,λt=>?_,Hg.mono a2.le,a2,a3,?_,rfl⟩ (λex s' a' w' μ' hk R'=>?_)
     ·dsimp only
      rw[znS];cases ht:asv'[t]? with
      | none=>exact .und _
      | some y=>
       have hlt:t<vs.length:=by rw[<-hl'];exact MA ht
       have:(vs.toArray++Array.replicate (fn.ntmps-vs.toArray.size) undef).getD t undef=vs[t]:=by
        simp [Array.getD,hlt];intro hh;omega
       rw[this];exact hr' t y _ ht (List.getElem?_eq_getElem hlt)
     ·simp;omega
     ·cases ex with
      | normal=>
       obtain⟨u,q1,q2⟩:=zbm R' (λid=>z8n Hh id) c2 hk
       exact⟨R'.defers,u,q1,q2⟩
      | exit i=>exact hk.elim
      | ret=>
       obtain⟨u,q1,q2⟩:=zbm R' (λid=>z8n Hh id) c2 hk
       exact⟨R'.defers,u,q1,q2⟩
    split at H
    ·rename_i asv' h1 hp
     split at hp
     ·injection hp with hp
      injection hp with e1 e2
      subst e1;subst e2
      exact body ⟨Hh,Evo.refl _ _ _,vA.refl _ _⟩ hl hr H
     ·obtain⟨q1,q2,q3⟩:=MY asv Hh hl hr hp
      exact body q1 q2 q3 H
    ·exact H.elim
   ·cases hck
  ·cases hck
 ·rename_i hF
  split at H
  ·rename_i hx2
   exact aD.mono P X.gl _ _ _ _ _ (λv1 h1' x1 hv=>by obtain⟨rfl,rfl,rfl⟩:=hv;exact H) (HX.ex2 f asv h _ _ _ hF hx2) μ w vs Hh Hg hl hr
  ·rename_i hx2
   split at H
   ·rename_i asv' h1 hp
    split at H
    ·rename_i ps hps
     split at H
     ·rename_i r hrr
      obtain⟨q1,q2,q3⟩:=MY asv Hh hl hr hp;have hm:=kP hps
      subst hm;obtain⟨u,w',k1,g1,g2⟩:=HX.ext f ps r hF hrr (imm h1 μ w) w vs (λb o v hv=>(ZD.1 hv).2) (by simpa using q2) (λj y v hy hv=>(q3 j (.p y) v (by simp [hy]) hv).p_inv)
      obtain⟨n1,n2⟩:=q1.1.ext g1;have L:(JE (imm h1 μ w) w w').le (imm h1 μ w'):=by
       refine⟨λb o v hv=>?_,λb o hv=>?_,rfl,λ_ _ h=>by cases h⟩
       ·dsimp only[JE]at hv
        split at hv
        ·exact n2.le.c _ _ _ hv
        ·rename_i hb
         exact ZD.2 ⟨λhO=>hb (uW q1.1 hO),hv⟩
       ·dsimp only[JE]at hv
        cases hv
      exact .inr ⟨_,_,_,_,_,μ,k1,H,.p _ _ (g2.mono L),n1,q1.2.1.trans n2,q1.2.2⟩
     ·exact H.elim
    ·exact H.elim
   ·exact H.elim
theorem z9L {X:Ctx}(HX:Fits P X){f:Nat}{asv:List AV}{h:aA}{K:jA}(H:gA X f asv h K):aD P X.gl f asv h K:=
 H (aD P X.gl) (aD.mono P X.gl) (λf a h K hs=>zul HX hs)
end
section
def LK (o:Option (AV × aA × Esc))(f:AV->aA->Esc->Prop):Prop:=match o with
 | some y=>f y.1 y.2.1 y.2.2
 | none=>False
def BP (v:AV)(A B:Prop):Prop:=match v with
 | .p (.bool t)=>match t with
  | true=>A
  | false=>B
 | .anyb=>A/\B
 | _=>False
def BB (v:AV)(A B:Prop):Prop:=match v with
 | .p (.bool t)=>match t with
  | true=>A
  | false=>B
 | _=>False
def mF (v:AV)(b:Bool)(A B:Prop):Prop:=match v with
 | .p (.bool c)=>match c==b with
  | true=>A
  | false=>B
 | .skp=>B
 | _=>False
def finK (F:AFun)(b:Nat)(K:jA)(e:Ex)(s:St):Prop:=match e with
 | .exit _=>False
 | _=>fin F b s K
def z8c (n:Nat)(x:Esc)(K:Ex->St->Prop)(e:Ex)(s:St):Prop:=K e (GE n x s)
def AO.plain:AO->Bool
 | .call _ _ | .callv _ _ | .mnext _ _=>false
 | .mv _=>true
 | .pick _ _ _=>true
 | .alloc _=>true
 | .box _=>true
 | .build _ _=>true
 | .bsl _ _ _ _ _=>true
 | .load _ _=>true
 | .store _ _ _=>true
 | .nilchk _=>true
 | .bin _ _ _=>true
 | .eqa _ _ _ _=>true
 | .isnil _ _ _=>true
 | .mkif _=>true
 | .un _ _=>true
 | .conv _ _=>true
 | .mkfn _ _=>true
 | .mkmap=>true
 | .mksl _ _ _ _=>true
 | .slice _ _ _ _ _=>true
 | .slstr _ _ _=>true
 | .faddr _ _ _=>true
 | .field _ _ _=>true
 | .iaddr _ _ _=>true
 | .iaddra _ _ _ _=>true
 | .idxa _ _ _ _=>true
 | .idxs _ _=>true
 | .look _ _ _ _ _=>true
 | .mupd _ _ _ _=>true
 | .ment _ _ _ _=>true
 | .estore _ _ _=>true
 | .mdel _ _ _=>true
 | .ext _ _=>true
 | .len _=>true
 | .lens _=>true
 | .lenm _=>true
 | .app _ _ _=>true
 | .copy _ _ _=>true
 | .uns _ _ _=>true
 | .clr _ _ _=>true
 | .mx _=>true
 | .mn _=>true
 | .mrange _=>true
 | .mentry _=>true
 | .new0 _=>true
variable {C:Hd} {gl:Nat->Option PV} {e:List (Nat × AV)} {h:aA} {x:Esc} {K:Ex->St->Prop} {L:List (Nat × AV)->aA->Esc->Prop} {s:St}
theorem zeb {n:Nat}{y:Esc}{ex:Ex}:z8c n y K ex s=K ex (GE n y s):=(rfl)
def wL (C:Hd)(gl:Nat->Option PV)(r:List AOp)(d:Option Nat)(e:List (Nat × AV))(x:Esc)(L:List (Nat × AV)->aA->Esc->Prop)(v:AV)(h':aA)(x':Esc):Prop:=lB C gl r (put d v e) h' (x'++x) L
theorem zeX {d:Option Nat}{op:AO}{r:List AOp}(hp:op.plain=true):lB C gl (⟨d,none,op⟩::r) e h x L=LK (aop op (Opd.ev gl e) h) (wL C gl r d e x L):=by
 cases op <;> first|(cases hp;done)|(simp only[lB,wanted,LK,wL];split <;> simp_all)
theorem z85 {d:Option Nat}{f:Nat}{args:List Opd}{r:List AOp}:lB C gl (⟨d,none,.call f args⟩::r) e h x L=C f (args.map (Opd.ev gl e)) h (wL C gl r d e x L):=(rfl)
theorem zeZ {d:Option Nat}{g:Option (Nat × Bool)}{op:AO}{r:List AOp}(hw:wanted g e=some true):lB C gl (⟨d,g,op⟩::r) e h x L=lB C gl (⟨d,none,op⟩::r) e h x L:=by
 rw[lB,lB];have h2:wanted none e=some true:=(rfl)
 simp only[hw,h2]
theorem z87 {d:Option Nat}{g:Option (Nat × Bool)}{op:AO}{r:List AOp}(hw:wanted g e=some false):lB C gl (⟨d,g,op⟩::r) e h x L=lB C gl r (put d .skp e) h x L:=by
 rw[lB];simp only[hw]
theorem zeY {d:Option Nat}{g:Option (Nat × Bool)}{op:AO}{r:List AOp}(hw:wanted g e=none):lB C gl (⟨d,g,op⟩::r) e h x L=False:=by
 rw[lB];simp only[hw]
theorem z88 {d:Option Nat}{t:Nat}{b:Bool}{op:AO}{r:List AOp}:lB C gl (⟨d,some (t,b),op⟩::r) e h x L=mF (bA e t) b (lB C gl (⟨d,none,op⟩::r) e h x L) (lB C gl r (put d .skp e) h x L):=by
 have key:∀v,bA e t=v->lB C gl (⟨d,some (t,b),op⟩::r) e h x L=mF v b (lB C gl (⟨d,none,op⟩::r) e h x L) (lB C gl r (put d .skp e) h x L):=by
  intro v hv;unfold mF;split
  ·rename_i c
   split
   ·rename_i hcb;exact zeZ (by simp [wanted,hv,hcb])
   ·rename_i hcb;exact z87 (by simp [wanted,hv,hcb])
  ·exact z87 (by simp [wanted,hv])
  ·rename_i h1 h2
   refine zeY ?_;simp only[wanted,hv]
 exact key _ rfl
theorem zac {t:Bool}{A B:Prop}:BB (.p (.bool t)) A B=if t=true then A else B:=by cases t <;> simp [BB]
theorem zae {A B:Prop}:BB (.p (.bool true)) A B=A:=(rfl)
theorem zad {A B:Prop}:BB (.p (.bool false)) A B=B:=(rfl)
theorem zvd {t:Bool}{A B:Prop}:mF (.p (.bool t)) true A B=if t=true then A else B:=by cases t <;> simp [mF]
theorem zvc {t:Bool}{A B:Prop}:mF (.p (.bool t)) false A B=if t=true then B else A:=by cases t <;> simp [mF]
theorem ziA {v v':AV}{A B:Prop}(hv:v=v'):BB v A B=BB v' A B:=by rw[hv]
theorem z9i {X:Ctx}{f:Nat}{F:AFun}{a:List AV}{h:aA}{P:jA}(hf:X.fn f=some F)(hd:F.isDet=false):gA X f a h P=oD (gA X) X.gl F a h P:=by
 rw[propext z80];unfold TC;rw[hf];simp only[zE,hd]
theorem zf6 {X:Ctx}{f:Nat}{F:AFun}{a:List AV}{h:aA}{P:jA}(hf:X.fn f=some F)(hd:F.isDet=true):gA X f a h P = ∃v h' x,P v h' x/\oD (gA X) X.gl F a h λv1 h1 x1=>v1=v/\h1=h'/\x1=x:=by
 rw[propext z80];unfold TC;rw[hf];simp only[zE,hd]
theorem RL {A B:AV->aA->Esc->Prop}(h:∀ v h' x,A v h' x=B v h' x):(∃v h' x,A v h' x) = ∃v h' x,B v h' x:=by
 simp only[h]
theorem z9o {F:AFun}{a asv:List AV}{h h1:aA}{P:jA}(hr:F.byref=false)(hp:oA h a=some (asv,h1))(hl:asv.length=F.nparams) :
 oD C gl F a h P=AW C gl F.body ⟨enter asv,h1,[]⟩ (finK F h.length P):=by
 unfold oD;rw[hr];simp only[Bool.false_eq_true,if_false,hp,hl,true_and];congr 1
theorem zfF {F:AFun}{asv:List AV}{h:aA}{P:jA}(hr:F.byref=true)(hl:asv.length=F.nparams) :
 oD C gl F asv h P=AW C gl F.body ⟨enter asv,h,[]⟩ (finK F h.length P):=by
 unfold oD;rw[hr];simp only[if_true,hl,true_and];congr 1
def doK (C:Hd)(gl:Nat->Option PV)(o:AOp)(e:List (Nat × AV))(h:aA)(R:AV->aA->Esc->Prop):Prop:=∃v h' y,ADo C gl o e h v h' y/\R v h' y
def uD (C:Hd)(f:Nat)(a:List AV)(h:aA)(R:AV->aA->Esc->Prop):Prop:=∃v h' y,C f a h (λv1 h1 x1=>v1=v/\h1=h'/\x1=y)/\R v h' y
def wV (C:Hd)(gl:Nat->Option PV)(o:DOp)(r:List DOp)(dn:sD)(hs:List aA)(e:List (Nat × AV))(h:aA)(x:Esc)(L:List (Nat × AV)->aA->Esc->Prop)(v:AV)(h':aA)(y:Esc):Prop:=
 (o.eff=false->h'=h/\y=[])/\(∀k∈o.early,∃g,hs[k]?=some g/\ADo C gl o.op (IA (some o.rd) e) g v g []) /\
  (∀j∈o.again,∃q,dn[j]?=some q/\ADo C gl q.1 q.2.1 h' q.2.2 h' [])/\QD C gl r (dn++[(o.op,IA (some o.rd) e,v)]) (hs++[h]) (put o.op.dst v e) h' (y++x) L
theorem z81 {o:DOp}{r:List DOp}{dn:sD}{hs:List aA}:QD C gl (o::r) dn hs e h x L=doK C gl o.op (IA (some o.rd) e) h (wV C gl o r dn hs e h x L):=(rfl)
variable {R:AV->aA->Esc->Prop}
theorem ex3 {v0:AV}{h0:aA}{y0:Esc}:(∃v h y,(v=v0/\h=h0/\y=y0)/\R v h y)=R v0 h0 y0:=
 propext ⟨λ⟨_,_,_,⟨h1,h2,h3⟩,r⟩=>by subst h1;subst h2;subst h3;exact r,λr=>⟨_,_,_,⟨rfl,rfl,rfl⟩,r⟩⟩
theorem ex3' {v0:AV}{h0:aA}{y0:Esc}:(∃v h y,(v0=v/\h0=h/\y0=y)/\R v h y)=R v0 h0 y0:=
 propext ⟨λ⟨_,_,_,⟨h1,h2,h3⟩,r⟩=>by subst h1;subst h2;subst h3;exact r,λr=>⟨_,_,_,⟨rfl,rfl,rfl⟩,r⟩⟩
theorem ziQ {d:Option Nat}{op:AO}(hp:op.plain=true):doK C gl ⟨d,none,op⟩ e h R=LK (aop op (Opd.ev gl e) h) R:=by
 have key:∀o:Option (AV×aA×Esc),(∃v h' y,o=some (v,h',y)/\R v h' y)=LK o R:=by
  intro o;cases o with
  | none=>simp [LK]
  | some z=>obtain⟨v,h',y⟩:=z;simp only[Option.some.injEq,Prod.mk.injEq,ex3'];rfl
 rw[<-key];unfold doK ADo;cases op <;> first|(cases hp;done)|rfl
theorem zax {d:Option Nat}{f:Nat}{args:List Opd}:doK C gl ⟨d,none,.call f args⟩ e h R=uD C f (args.map (Opd.ev gl e)) h R:=(rfl)
theorem zaz {d:Option Nat}{t:Nat}{b:Bool}{op:AO}:doK C gl ⟨d,some (t,b),op⟩ e h R=mF (bA e t) b (doK C gl ⟨d,none,op⟩ e h R) (R .skp h []):=by
 have h2:wanted none e=some true:=(rfl)
 have key:∀v,bA e t=v->doK C gl ⟨d,some (t,b),op⟩ e h R=mF v b (doK C gl ⟨d,none,op⟩ e h R) (R .skp h []):=by
  intro v hv;unfold mF;split
  ·rename_i c
   split
   ·rename_i hcb
    have hw:wanted (some (t,b)) e=some true:=by simp [wanted,hv,hcb]
    unfold doK ADo;simp only[hw,h2]
   ·rename_i hcb
    have hw:wanted (some (t,b)) e=some false:=by simp [wanted,hv,hcb]
    unfold doK ADo;simp only[hw,ex3]
  ·have hw:wanted (some (t,b)) e=some false:=by simp [wanted,hv]
   unfold doK ADo;simp only[hw,ex3]
  ·rename_i h3 h4
   have hw:wanted (some (t,b)) e=none:=by
    simp only[wanted,hv]
   unfold doK ADo;simp only[hw];simp
 exact key _ rfl
theorem zio {f:Nat}{a a':List AV}{h h':aA}(ha:a=a')(hh:h=h'):uD C f a h R=uD C f a' h' R:=by rw[ha,hh]
theorem zeO {X:Ctx}{f:Nat}{a a':List AV}{h h':aA}{K:jA}(ha:a=a')(hh:h=h'):gA X f a h K=gA X f a' h' K:=by rw[ha,hh]
theorem ziT {o:DOp}{r:List DOp}{dn:sD}{hs:List aA}{v:AV}{h':aA}{y:Esc}:wV C gl o r dn hs e h x L v h' y=((o.eff=false->h'=h/\y=[])/\(∀k∈o.early,∃g,hs[k]?=some g/\ADo C gl o.op (IA (some o.rd) e) g v g []) /\
 (∀j∈o.again,∃q,dn[j]?=some q/\ADo C gl q.1 q.2.1 h' q.2.2 h' [])/\QD C gl r (dn++[(o.op,IA (some o.rd) e,v)]) (hs++[h]) (put o.op.dst v e) h' (y++x) L):=(rfl)
end
section
variable {P:Program}
theorem zoT (W:World):HeapRel [] [] W:=⟨rfl,λid o m h=>by simp at h,λi j b n n' h=>by simp at h,λi b n h=>by simp at h⟩
theorem zpf {W:World}{b:Nat}{o:Go.Obj}(hb:W.heap[b]?=some o):(imm [] [] W).b b=some o:=bJ.2 ⟨λ⟨id,n,h⟩=>by simp at h,hb⟩
theorem zpg {W:World}{b o:Nat}{v:Value}(hb:W.cell? ⟨b,o,none⟩=some v):(imm [] [] W).c b o=some v:=ZD.2 ⟨λ⟨id,n,h,_⟩=>by simp at h,hb⟩
theorem zgb {W W':World}{h:aA}{μ:Mu}(E:(imm [] [] W).le (imm h μ W')):RowKit.Below W.heap.size W W':=by
 have hz:zed W'=zed W:=Option.some.inj E.z
 have hb:∀b,b<W.heap.size->W'.heap[b]?=W.heap[b]?:=λb hb=>by
  have h1:=Array.getElem?_eq_getElem hb
  rw[h1];exact(bJ.1 (E.b b _ (zpf h1))).2
 refine⟨(congrArg World.os hz:(zed W').os=(zed W).os),(congrArg World.tape hz:(zed W').tape=(zed W).tape),(congrArg World.output hz:(zed W').output=(zed W).output),?_,hb⟩;rcases Nat.eq_zero_or_pos W.heap.size with h0|h0
 ·omega
 ·have h1:=hb (W.heap.size-1) (by omega)
  rw[Array.getElem?_eq_getElem (show W.heap.size-1<W.heap.size by omega)]at h1
  have:=(Array.getElem?_eq_some_iff.1 h1).1;omega
theorem ziq {X:Ctx}(HX:Fits P X){f:Nat}{F:AFun}(hF:X.fn f=some F)(args:Array Value)(w:World):(callFunc f args).run P w = .ok (.enter f args) w:=by
 have hck:=HX.fn f F hF
 unfold z1v at hck;split at hck
 ·rename_i fn hfn
  split at hck
  ·rename_i c hb
   simp only[Bool.and_eq_true,bne_iff_ne,ne_eq]at hck;exact CV hfn hb hck.2 _ w
  ·cases hck
 ·cases hck
theorem z9M {X:Ctx}(HX:Fits P X){f:Nat}{F:AFun}(hF:X.fn f=some F){asv:List AV}{K:jA}(H:gA X f asv [] K){W:World}{vs:List Value}(hG:LE X.gl (imm [] [] W))(hl:asv.length=vs.length)
 (hr:∀(j:Nat) (y:AV) (v:Value),asv[j]?=some y->vs[j]?=some v->RAV (imm [] [] W) [] [] y v) :
 Calls P f vs.toArray W fun
  | .returned r,W'=>(∃v h x μ,K v h x/\RAV (imm h μ W') h μ v r)/\RowKit.Below W.heap.size W W'
  | _,_=>False:=by
 rcases z9L HX H [] W vs (zoT W) hG hl hr with⟨_,q⟩|⟨r,w',_,_,_,_,q,_⟩
 case inr=>rw[ziq HX hF]at q;cases q
 refine q.mono λe W' he=>?_
 cases e with
 | returned r=>
  obtain⟨v,h',x,μ',k1,k2,k3,k4,k5⟩:=he;exact⟨⟨v,h',x,μ',k1,k2⟩,zgb k4.le⟩
 | panicked _=>exact he
 | outgrown=>exact he
def IY (zs:List Int):AV:=.p (.sl none (zs.map λn=>.int .i64 n))
theorem ziv (W:World):RAV (imm [] [] W) [] [] (IY []) (.slice none 0 0):=.p _ _ (.nils _ _ _)
theorem ziu {W:World}{a:Addr}{len cap:Nat}{zs:List Int}(hs:a.spot=none)(hl:len<=cap)(hz:len<=zs.length)(hc:∀ i,i<zs.length->W.cell? (a.add i)=some (.int .i64 (zs.getD i 0))) :
 RAV (imm [] [] W) [] [] (IY (zs.take len)) (.slice (some a) len cap):=by
 obtain⟨b,o,s⟩:=a;simp only at hs;subst hs;refine .p _ _ ?_;have hlen:((zs.take len).map λn=>PV.int .i64 n).length=len:=by simp [hz]
 have hfl:((zs.take len).map λn=>PV.int .i64 n).flatMap PV.cells=(zs.take len).map λn=>PV.int .i64 n:=by
  generalize zs.take len=l;induction l with
  | nil=>rfl
  | cons n r ih=>simp only[List.map_cons,List.flatMap_cons,ih];rfl
 by_cases h0:len=0
 ·subst h0
  simp;exact .nils _ _ _
 ·have key:=RPV.sl (M:=imm [] [] W) none ((zs.take len).map λn=>PV.int .i64 n) b o cap (λj=>.int .i64 (zs.getD j 0)) (λhh=>by rw[hh]at hlen;simp at hlen;omega) (by rw[hlen];exact hl)
   (λx hx=>by obtain⟨n,_,rfl⟩:=List.mem_map.1 hx;rfl)
   (λj y hy=>by
    rw[hfl]at hy;have hj:j<len:=by have:=MA hy;rw[hlen]at this;exact this
    have:=hc j (by omega)
    rw[oE]at this;exact zpg this)
   (λj y hy=>by
    rw[hfl]at hy;have hj:j<len:=by have:=MA hy;rw[hlen]at this;exact this
    have hjz:j<zs.length:=by omega
    simp [List.getElem?_take,hj,hjz]at hy;subst hy;have:zs.getD j 0=zs[j]:=by simp [List.getD,hjz]
    rw[this];exact .int _ _)
  rwa [hlen]at key
end
section
variable {P:Program}
structure ExtRow (P:Program) (f:Nat) (e:Array Value->Sem Value):Prop where
 row:∃fn,P.funcs[f]?=some fn∧fn.name ≠ "runtime.NumGoroutine" ∧ fn.body=none∧Extern.findNext fn=none∧Extern.find fn=some e
theorem ExtRow.run {f:Nat}{e:Array Value->Sem Value}(R:ExtRow P f e){us:Array Value}{w w':World}{x:Value}(he:(e us).run P w = .ok x w'):(callFunc f us).run P w = .ok (.value x) w':=by
 obtain⟨fn,h1,h2,h3,h4,h5⟩:=R.row;unfold callFunc;simp [h1,h2,h3,h4,h5,he]
theorem zwY {f:Nat}{e:Array Value→Sem Value}(h:(match P.funcs[f]? with | some fn=>fn.name != "runtime.NumGoroutine" && fn.body.isNone&&(Extern.findNext fn).isNone | none=>false)=true)(h2:(P.funcs[f]?).bind Extern.find=some e):ExtRow P f e:=by
 cases hf:P.funcs[f]? with
 | none=>rw[hf]at h;cases h
 | some fn=>
  rw[hf]at h h2;simp only[Bool.and_eq_true,bne_iff_ne,ne_eq,Option.isNone_iff_eq_none]at h;exact⟨⟨fn,hf,h.1.1,h.1.2,h.2,h2⟩⟩
def NG (s:List UInt8)(c:UInt8):Int:=if s.findIdx (· == c)<s.length then(s.findIdx (· == c):Int) else -1
def LA:List UInt8->List UInt8->Int
 | [],[]=>0
 | [],_::_=>-1
 | _::_,[]=>1
 | a::asv,b::bs=>if a<b then -1 else if b<a then 1 else LA asv bs
theorem z95 (s:List UInt8)(i:Nat):(⟨s.toArray⟩:ByteArray)[i]! = s.getD i 0:=by
 by_cases h:i<s.length
 ·rw[getElem!_pos (⟨s.toArray⟩:ByteArray) i h]
  show s.toArray[i]=_
  simp [h]
 ·rw[getElem!_neg (⟨s.toArray⟩:ByteArray) i h]
  simp [Nat.not_lt.1 h];rfl
theorem zo5 (s:List UInt8)(c:UInt8):(match (List.range (⟨s.toArray⟩:ByteArray).size).find? λi=>(⟨s.toArray⟩:ByteArray)[i]! == c with
 | some i=>(i:Int)
 | none=>-1)=NG s c:=by
 have hsz:(⟨s.toArray⟩:ByteArray).size=s.length:=rfl
 have hget:∀i,i<s.length->(⟨s.toArray⟩:ByteArray)[i]! = s.getD i 0:=by
  intro i hi;exact z95 s i
 unfold NG;rw[hsz];by_cases h:s.findIdx (· == c)<s.length
 ·rw[if_pos h]
  have hf:(List.range s.length).find? (λi=>(⟨s.toArray⟩:ByteArray)[i]! == c)=some (s.findIdx (· == c)):=by
   rw[List.find?_eq_some_iff_getElem];refine⟨?_,s.findIdx (· == c),by simpa using h,by simp,λj hj=>?_⟩
   ·rw[hget _ h]
    have:=List.findIdx_getElem (w:=h);simpa [h] using this
   ·simp only[List.getElem_range]
    have hj':j<s.length:=by omega
    rw[hget _ hj'];have:=List.not_of_lt_findIdx hj;simpa [hj'] using this
  rw[hf]
 ·rw[if_neg h]
  have hf:(List.range s.length).find? (λi=>(⟨s.toArray⟩:ByteArray)[i]! == c)=none:=by
   rw[List.find?_eq_none];intro i hi;rw[List.mem_range]at hi;rw[hget _ hi];intro hc;exact h (List.findIdx_lt_length_of_exists ⟨s[i],List.getElem_mem hi,by simpa [hi] using hc⟩)
  rw[hf]
theorem zi5:∀ (a b:List UInt8),Extern.BytealgCompare.cmp ⟨a.toArray⟩ ⟨b.toArray⟩=LA a b:=by
 have key:∀(a b:List UInt8),(match (List.range (min a.length b.length)).find? λi=>a.getD i 0 != b.getD i 0 with
  | some i=>if a.getD i 0<b.getD i 0 then(-1:Int) else 1
  | none=>if a.length<b.length then -1 else if a.length>b.length then 1 else 0)=LA a b:=by
  intro a;induction a with
  | nil=>intro b;cases b <;> simp [LA]
  | cons x a ih=>
   intro b;cases b with
   | nil=>simp [LA]
   | cons y b=>
    have hm:min (x::a).length (y::b).length=min a.length b.length+1:=by simp only[List.length_cons];omega
    rw[hm,List.range_succ_eq_map,List.find?_cons];simp only[List.getD_cons_zero];by_cases hxy:x=y
    ·subst hxy
     have hlt:¬x<x:=UInt8.lt_irrefl x
     simp only[bne_self_eq_false,List.find?_map,LA,hlt,if_false];rw[<-ih b];have hc:((λi=>(x::a).getD i 0 != (x::b).getD i 0) ∘ Nat.succ)=λi=>a.getD i 0 != b.getD i 0:=by
      funext i;simp
     rw[hc];cases (List.range (min a.length b.length)).find? λi=>a.getD i 0 != b.getD i 0 with
     | none=>simp
     | some i=>simp
    ·have:(x != y)=true:=by simpa using hxy
     rw[this];simp only[LA,List.getD_cons_zero];by_cases h1:x<y
     ·simp [h1]
     ·have h2:y<x:=by
       rcases UInt8.lt_or_lt_of_ne (a:=x) (b:=y) hxy with h|h
       ·exact absurd h h1
       ·exact h
      simp [h1,h2]
 intro a b;rw[<-key a b];unfold Extern.BytealgCompare.cmp;have sa:(⟨a.toArray⟩:ByteArray).size=a.length:=rfl
 have sb:(⟨b.toArray⟩:ByteArray).size=b.length:=rfl
 simp only[sa,sb,z95];generalize List.find? _ _=q;cases q <;> rfl
def VJ (fi fc:Nat)(f:Nat)(vs:List PV):Option PV:=
 bif Nat.beq f fi then(match vs with
  | [.str s,.int .u8 c]=>some (.int .i64 (NG s (UInt8.ofNat c.toNat)))
  | _=>none)
 else bif Nat.beq f fc then(match vs with
  | [.str a,.str b]=>some (.int .i64 (LA a b))
  | _=>none)
 else none
theorem extF_ok {fi fc:Nat}(h1:ExtRow P fi Extern.BytealgIndexByte.indexByte)(h2:ExtRow P fc Extern.BytealgCompare.compare){f:Nat}{vs:List PV}{r:PV}(h:VJ fi fc f vs=some r):z8C P f vs r:=by
 intro M w us hM hl hr;unfold VJ at h;cases e1:Nat.beq f fi with
 | true=>
  rw[e1]at h;have e:=Nat.eq_of_beq_eq_true e1
  subst e;simp only[cond_true]at h;split at h
  ·rename_i s c
   injection h with h
   subst h;match us,hl with
   | [u,v],_=>
    have q1:=hr 0 _ u rfl rfl
    have q2:=hr 1 _ v rfl rfl
    cases q1;cases q2
    refine⟨.int .i64 (NG s (UInt8.ofNat c.toNat)),w,h1.run ?_,WExt.refl w,.int _ _⟩;rw[<-zo5];show(match (List.range (⟨s.toArray⟩:ByteArray).size).find? λi=>(⟨s.toArray⟩:ByteArray)[i]! == UInt8.ofNat c.toNat with|some i=>(pure (goInt i):Sem Value)|none=>pure (goInt (-1))).run P w=_
    generalize List.find? _ _=q;cases q <;> rfl
  ·cases h
 | false=>
  rw[e1]at h;simp only[cond_false]at h;cases e2:Nat.beq f fc with
  | true=>
   rw[e2]at h;have e:=Nat.eq_of_beq_eq_true e2
   subst e;simp only[cond_true]at h;split at h
   ·rename_i a b
    injection h with h
    subst h;match us,hl with
    | [u,v],_=>
     have q1:=hr 0 _ u rfl rfl
     have q2:=hr 1 _ v rfl rfl
     cases q1;cases q2
     refine⟨.int .i64 (LA a b),w,h2.run ?_,WExt.refl w,.int _ _⟩;rw[<-zi5];rfl
   ·cases h
  | false=>rw[e2]at h;cases h
theorem zaW {X:Ctx}{f:Nat}{asv:List AV}{vs:List PV}{h h1:aA}{r:PV}{K:jA}(hf:X.fn f=none)(h2:X.ex2 f asv h=none)(hp:oA h asv=some (vs.map .p,h1))(hu:unp (vs.map AV.p)=some vs)(hx:X.ext f vs=some r):gA X f asv h K=K (.p r) h1 []:=by
 refine propext (gA.eq (gA.fold ?_) K);unfold TC;simp only[hf,h2,hp,hu,hx];exact⟨trivial,trivial,trivial⟩
structure GrowRow (P:Program) (f:Nat) (sh:Sh):Prop where
 enter:∀us w,(callFunc f us).run P w = .ok (.enter f us) w
 room:∀a w,Calls P f #[.slice a 0 0,.int .i64 0] w λe w'=>e = .returned (.slice a 0 0)/\w'=w
 grow:∀a (n:Nat) w,0<n->n<=1048576->Calls P f #[.slice a 0 0,.int .i64 n] w λe w'=>∃G cs E,e = .returned (.slice (some ⟨w.heap.size,0,none⟩) 0 G)/\cs.size=G*kA sh/\w'=w.drew.alloc (.cells cs E)
def GM:List (Nat × Sh)->Nat->List AV->aA->Option (AV×aA×Esc)
 | [],_,_,_=>none
 | (g,sh)::r,f,asv,h=>bif Nat.beq f g then(match asv with
  | [.sl0 _,.p (.int .i64 n)]=>bif decide (0<=n)&&decide (n<=1048576) then some (.own h.length 0 0 0,h++[.row sh [] 0],[]) else none
  | _=>none) else GM r f asv h
theorem zbR {gl:Nat->Option PV}:∀(gs:List (Nat×Sh)),(∀g sh,(g,sh)∈gs->GrowRow P g sh)->∀{f:Nat} {asv:List AV} {h:aA} {v:AV} {h':aA} {x:Esc},GM gs f asv h=some (v,h',x) ->
 aD P gl f asv h λv1 h1 x1=>v1=v/\h1=h'/\x1=x
 | [],_,f,asv,h,v,h',x,H=>by cases H
 | (g,sh)::r,hg,f,asv,h,v,h',x,H=>by
  unfold GM at H;cases e1:Nat.beq f g with
  | false=>
   rw[e1]at H;exact zbR r (λg sh hm=>hg g sh (by simp [hm])) H
  | true=>
   rw[e1]at H;have e:=Nat.eq_of_beq_eq_true e1
   subst e;have R:=hg f sh (by simp)
   simp only[cond_true]at H;split at H
   ·rename_i sh' n
    cases hb:(decide (0<=n)&&decide (n<=1048576)) with
    | false=>rw[hb]at H;cases H
    | true=>
     rw[hb]at H;simp only[cond_true,Option.some.injEq,Prod.mk.injEq]at H;obtain⟨rfl,rfl,rfl⟩:=H;simp only[Bool.and_eq_true,decide_eq_true_eq]at hb;intro μ w vs Hh Hg hl hr;match vs,hl with
     | [u1,u2],_=>
      have q1:=hr 0 _ u1 rfl rfl
      have q2:=(hr 1 _ u2 rfl rfl).p_inv
      cases q1;cases q2
      obtain⟨m,hm⟩:=Int.eq_ofNat_of_zero_le hb.1;subst hm;refine .inl ⟨R.enter _,?_⟩;rcases Nat.eq_zero_or_pos m with h0|h0
      ·subst h0
       refine(R.room _ w).mono λe w' he=>?_
       obtain⟨rfl,rfl⟩:=he;obtain⟨n1,n2⟩:=kW Hh sh;refine⟨_,_,_,_,⟨rfl,rfl,rfl⟩,?_,n1,n2,vA.push (by simp [Obj.top])⟩
       exact .own h.length 0 0 0 _ 0 sh [] 0 none (Nat.le_refl _) (by simp) (by rw[<-Hh.len];simp) (by simp) (by simp) (λ_=>rfl)
      ·refine(R.grow _ m w h0 (by omega)).mono λe w' he=>?_
       obtain⟨G,cs,E,rfl,hcs,rfl⟩:=he;have hw:WExt w (w.drew.alloc (.cells cs E)):=(WExt.drew w _).trans (WExt.push _ _)
       obtain⟨n1,n2⟩:=eR (sh:=sh) (xs:=[]) Hh hw (b:=w.heap.size) (n:=cs.size) (Nat.le_refl _) (by show w.heap.size<(w.heap.push _).size;simp) (c:=cs) (tB.push (w:=w.drew) cs E) (by simp) (by simp) (by simp)
       refine⟨_,_,_,_,⟨rfl,rfl,rfl⟩,?_,n1,n2,vA.push (by simp [Obj.top])⟩
       refine .own h.length 0 0 0 _ G sh [] 0 (some (w.heap.size,cs.size)) (Nat.zero_le _) (by simp) (by rw[<-Hh.len];simp) (by simp) (by simp) (λ_=>?_)
       exact .inr ⟨by simp,by simp [hcs]⟩
   ·cases H
end
section
variable {P:Program} {gl:Nat->Option PV}
structure PureRow (P:Program) (gl:Nat->Option PV) (f:Nat) (spec:List PV->Option AV):Prop where
 enter:∀us w,(callFunc f us).run P w = .ok (.enter f us) w
 run:∀(M:Mem) (w:World) (vs:List PV) (r:AV) (us:List Value),(∀b o v,M.c b o=some v->w.cell? ⟨b,o,none⟩=some v)->(∀b o,M.b b=some o->w.heap[b]?=some o)->LE gl M->vs.length=us.length ->
  (∀(j:Nat) (y:PV) (v:Value),vs[j]?=some y->us[j]?=some v->RPV M y v)->spec vs=some r ->
  Calls P f us.toArray w λe w'=>∃x,e = .returned x/\WExt w w'/\RAV (JE M w w') [] [] r x
abbrev AG:=List (Nat × (List PV->Option AV))
def zO:AG->Nat->List AV->aA->Option (AV×aA×Esc)
 | [],_,_,_=>none
 | (g,s)::r,f,asv,h=>bif Nat.beq f g then((unp asv).bind s).map λv=>(v,h,[]) else zO r f asv h
theorem z7N:∀ (gs:AG),(∀g s,(g,s)∈gs->PureRow P gl g s)->∀{f:Nat} {asv:List AV} {h:aA} {v:AV} {h':aA} {x:Esc},zO gs f asv h=some (v,h',x) ->
 aD P gl f asv h λv1 h1 x1=>v1=v/\h1=h'/\x1=x
 | [],_,f,asv,h,v,h',x,H=>by cases H
 | (g,s)::r,hg,f,asv,h,v,h',x,H=>by
  unfold zO at H;cases e1:Nat.beq f g with
  | false=>
   rw[e1]at H;exact z7N r (λg sh hm=>hg g sh (by simp [hm])) H
  | true=>
   rw[e1]at H;have e:=Nat.eq_of_beq_eq_true e1
   subst e;have R:=hg f s (by simp)
   simp only[cond_true]at H;obtain⟨y,hy,e2⟩:=Option.map_eq_some_iff.1 H;simp only[Prod.mk.injEq]at e2;obtain⟨rfl,rfl,rfl⟩:=e2;obtain⟨ps,hps,hs⟩:=Option.bind_eq_some_iff.1 hy;have hm:=kP hps
   subst hm;intro μ w vs Hh Hg hl hr;refine .inl ⟨R.enter _,?_⟩;refine(R.run (imm h μ w) w ps y vs (λb o v hv=>(ZD.1 hv).2) (λb o hv=>(bJ.1 hv).2) Hg (by simpa using hl) (λj q v hq hv=>(hr j (.p q) v (by simp [hq]) hv).p_inv) hs).mono λe w' he=>?_
   obtain⟨u,rfl,g1,g2⟩:=he;obtain⟨n1,n2⟩:=Hh.ext g1;have Lq:(JE (imm h μ w) w w').le (imm h μ w'):=by
    refine⟨λb o v hv=>?_,λb o hv=>?_,rfl,λ_ _ h=>by cases h⟩
    ·dsimp only[JE]at hv
     split at hv
     ·exact n2.le.c _ _ _ hv
     ·rename_i hb
      exact ZD.2 ⟨λhO=>hb (uW Hh hO),hv⟩
    ·dsimp only[JE]at hv
     cases hv
   exact⟨_,_,_,μ,⟨rfl,rfl,rfl⟩,g2.evo ⟨Lq,Nat.zero_le _,λid o m h1=>by simp at h1⟩,n1,n2,vA.refl h []⟩
def EK (gs:List (Nat × Sh))(ps:AG)(f:Nat)(asv:List AV)(h:aA):Option (AV×aA×Esc):=match GM gs f asv h with
 | some y=>some y
 | none=>match zO ps f asv h with
  | some y=>some y
  | none=>match oA h asv with
   | some (asv',h1)=>zO ps f asv' h1
   | none=>none
theorem zrO {ps:AG}(hp:∀ g s,(g,s)∈ps->PureRow P gl g s){f:Nat}{asv asv':List AV}{h h1:aA}{v:AV}{h':aA}{x:Esc}(hq:oA h asv=some (asv',h1))(H:zO ps f asv' h1=some (v,h',x)) :
 aD P gl f asv h λv1 h2 x1=>v1=v/\h2=h'/\x1=x:=by
 intro μ w vs Hh Hg hl hr;obtain⟨q1,q2,q3⟩:=MY asv Hh hl hr hq;rcases z7N ps hp H μ w vs q1.1 (Hg.mono q1.2.1.le) q2 q3 with⟨k1,k2⟩|⟨r,w',v2,h2,x2,μ',k1,k2,k3,k4,k5,k6⟩
 ·refine .inl ⟨k1,k2.mono λe w' he=>?_⟩
  cases e with
  | returned r=>
   obtain⟨v2,h2,x2,μ',k2,k3,k4,k5,k6⟩:=he;exact⟨v2,h2,x2,μ',k2,k3,k4,q1.2.1.trans k5,by simpa using q1.2.2.trans k6⟩
  | panicked _=>exact he
  | outgrown=>exact he
 ·exact .inr ⟨r,w',v2,h2,x2,μ',k1,k2,k3,k4,q1.2.1.trans k5,by simpa using q1.2.2.trans k6⟩
theorem zqL {gs:List (Nat × Sh)}{ps:AG}(hg:∀ g sh,(g,sh)∈gs->GrowRow P g sh)(hp:∀ g s,(g,s)∈ps->PureRow P gl g s){f:Nat}{asv:List AV}{h:aA}{v:AV}{h':aA}{x:Esc}(H:EK gs ps f asv h=some (v,h',x)) :
 aD P gl f asv h λv1 h1 x1=>v1=v/\h1=h'/\x1=x:=by
 unfold EK at H;split at H
 ·rename_i y hy
  cases H;exact zbR gs hg hy
 ·split at H
  ·rename_i y hy
   cases H;exact z7N ps hp hy
  ·split at H
   ·rename_i asv' h1 hq
    exact zrO hp hq H
   ·cases H
theorem z5x {X:Ctx}{f:Nat}{asv:List AV}{h h':aA}{v:AV}{x:Esc}{K:jA}(hf:X.fn f=none)(hx:X.ex2 f asv h=some (v,h',x)):gA X f asv h K=K v h' x:=by
 refine propext (gA.eq (gA.fold ?_) K);unfold TC;simp only[hf,hx];exact⟨trivial,trivial,trivial⟩
def RV:List (Nat × Sh)->Nat->Option Sh
 | [],_=>none
 | (g,s)::r,f=>bif Nat.beq f g then some s else RV r f
theorem zbQ:∀ {gs:List (Nat × Sh)}{f:Nat}{sh s':Sh}{n:Int}{h:aA},RV gs f=some sh->0<=n->n<=1048576->GM gs f [.sl0 s',.p (.int .i64 n)] h=some (.own h.length 0 0 0,h++[.row sh [] 0],[])
 | [],f,sh,s',n,h,hm,_,_=>by cases hm
 | (g,s)::r,f,sh,s',n,h,hm,h0,h1=>by
  unfold RV at hm;unfold GM;cases hq:Nat.beq f g with
  | true=>rw[hq]at hm;cases hm;simp [h0,h1]
  | false=>rw[hq]at hm;exact zbQ hm h0 h1
theorem zqK {gs:List (Nat × Sh)}{ps:AG}{f:Nat}{sh s':Sh}{n:Int}{h:aA}(hm:RV gs f=some sh)(h0:0<=n)(h1:n<=1048576):EK gs ps f [.sl0 s',.p (.int .i64 n)] h=some (.own h.length 0 0 0,h++[.row sh [] 0],[]):=by
 unfold EK;rw[zbQ hm h0 h1]
def glOf:List (Nat × PV)->Nat->Option PV
 | [],_=>none
 | (g,v)::r,n=>bif Nat.beq n g then some v else glOf r n
theorem zwX {f:Nat}(h:(match P.funcs[f]? with | some fn=>fn.body.isSome&&fn.name != "runtime.NumGoroutine" | none=>false)=true)(us:Array Value)(w:World):(callFunc f us).run P w = .ok (.enter f us) w:=by
 cases hf:P.funcs[f]? with
 | none=>rw[hf]at h;cases h
 | some fn=>
  rw[hf]at h;simp only[Bool.and_eq_true,bne_iff_ne,ne_eq]at h;cases hb:fn.body with
  | none=>rw[hb]at h;cases h.1
  | some c=>exact CV hf hb h.2 us w
theorem zwZ {M:Mem}:LE (glOf []) M:=λn v hv=>by cases hv
end
section
variable {P:Program} {gl:Nat->Option PV}
def cP (ss:List (List UInt8)):List (List UInt8):=ss.mergeSort λx y=>decide (x<=y)
def KM:List ME->Option (List (List UInt8))
 | []=>some []
 | e::r=>match e.key with
  | .str s=>(KM r).map (s :: ·)
  | _=>none
theorem zcf:∀ {es:List ME}{ss:List (List UInt8)},KM es=some ss->es.map (·.key)=ss.map .str
 | [],ss,h=>by cases h;rfl
 | e::r,ss,h=>by
  unfold KM at h;split at h
  ·rename_i s hs
   obtain⟨t,ht,rfl⟩:=Option.map_eq_some_iff.1 h;simp [hs,zcf ht]
  ·cases h
def uP (w w':World)(x:Value)(ss:List (List UInt8)):Prop:=(ss=[]/\x = .slice none 0 0) ∨
 ∃b cap,x = .slice (some ⟨b,0,none⟩) ss.length cap/\w.heap.size<=b/\ss.length<=cap/\∀(j:Nat) (s:List UInt8),ss[j]?=some s->w'.cell? ⟨b,j,none⟩=some (.string ⟨s.toArray⟩)
theorem uP.rpv {M:Mem}{w w':World}{x:Value}{ss:List (List UInt8)}(h:uP w w' x ss):RPV (JE M w w') (.sl none (ss.map .str)) x:=by
 rcases h with⟨rfl,rfl⟩|⟨b,cap,rfl,hb,hc,hx⟩
 ·exact .nils _ _ _
 ·cases hs:ss with
  | nil=>exact .nils _ _ _
  | cons s0 r=>
   rw[<-hs];have hne:ss≠[]:=by rw[hs];simp
   have hfl:(ss.map PV.str).flatMap PV.cells=ss.map PV.str:=by
    rw[List.flatMap_map];clear hx hc hne hs;induction ss with
    | nil=>rfl
    | cons a t ih=>rw[List.flatMap_cons,ih];rfl
   have:=RPV.sl (M:=JE M w w') none (ss.map .str) b 0 cap (λj=>.string ⟨(ss.getD j []).toArray⟩) (by simpa using hne) (by simpa using hc) (λx hx=>by
    obtain⟨s,_,rfl⟩:=List.mem_map.1 hx;rfl) (λj y hy=>by
    rw[hfl,List.getElem?_map]at hy;obtain⟨s,hs,rfl⟩:=Option.map_eq_some_iff.1 hy;show(if b<w.heap.size then M.c b (0+j) else w'.cell? ⟨b,0+j,none⟩)=_
    rw[if_neg (by omega),Nat.zero_add,hx j s hs]
    simp [List.getD,hs]) (λj y hy=>by
    rw[hfl,List.getElem?_map]at hy;obtain⟨s,hs,rfl⟩:=Option.map_eq_some_iff.1 hy;simp only[List.getD,hs,Option.getD_some];exact .str s)
   simpa using this
structure KeysRow (P:Program) (f g:Nat):Prop where
 enter:∀us w,(callFunc f us).run P w = .ok (.enter f us) w
 run:∀(w:World) (bq bm clk:Nat) (ces:Array MapEntry) (ss:List (List UInt8)),w.cell? ⟨bq,0,none⟩=some (.map (some bm))->w.heap[bm]?=some (.map ces clk) ->
  ces.toList.map (·.key)=ss.map (λs=>Value.string ⟨s.toArray⟩)->(∀x∈ces.toList,x.born<clk)->(ces.toList.map (·.born)).Nodup->ss.Nodup->(∀s∈ss,s.length<=maxLen)->ss.length<=1000000 ->
  Calls P f #[.func (.func g) #[] #[.pointer (some ⟨bq,0,none⟩)]] w λe w'=>∃x,e = .returned x/\WExt w w'/\uP w w' x (cP ss)
 nil:∀(w:World) (bq:Nat),w.cell? ⟨bq,0,none⟩=some (.map none) ->
  Calls P f #[.func (.func g) #[] #[.pointer (some ⟨bq,0,none⟩)]] w λe w'=>∃x,e = .returned x/\WExt w w'/\uP w w' x []
def CK (es:List ME):Option (List (List UInt8)):=match KM es with
 | some ss=>if ss.Nodup/\(es.map (·.born)).Nodup/\ss.length<=1000000/\∀s∈ss,s.length<=maxLen then some (cP ss) else none
 | none=>none
abbrev wI:=List (Nat × Nat)
def MM:wI->Nat->List AV->aA->Option (AV×aA×Esc)
 | [],_,_,_=>none
 | (g,m)::r,f,asv,h=>bif Nat.beq f g&&(match asv with
  | [.fn k [.ref _ 0]]=>Nat.beq k m
  | _=>false) then(match asv with
  | [.fn _ [.ref q 0]]=>(match h[q]? with
   | some (.box [.mp id])=>(match h[id]? with
    | some (.amap es _)=>(CK es).map λss=>(.p (.sl none (ss.map .str)),h,[])
    | _=>none)
   | some (.box [.nilm])=>some (.p (.sl none []),h,[])
   | _=>none)
  | _=>none) else MM r f asv h
theorem zci:∀ (gs:wI),(∀g m,(g,m)∈gs->KeysRow P g m)->∀{f:Nat} {asv:List AV} {h:aA} {v:AV} {h':aA} {x:Esc},MM gs f asv h=some (v,h',x) ->
 aD P gl f asv h λv1 h1 x1=>v1=v/\h1=h'/\x1=x
 | [],_,f,asv,h,v,h',x,H=>by cases H
 | (g,m)::r,hg,f,asv,h,v,h',x,H=>by
  unfold MM at H;rw[Bool.cond_eq_ite]at H;generalize hbb:(Nat.beq f g&&_)=bb at H;cases bb with
  | true=>
   rw[if_pos rfl]at H;rw[Bool.and_eq_true]at hbb;obtain⟨hf,hb⟩:=hbb;have e:=Nat.eq_of_beq_eq_true hf
   subst e;split at hb
   ·rename_i k q
    have e:=Nat.eq_of_beq_eq_true hb
    subst e;have R:=hg f k (by simp)
    have key:∃ss:List (List UInt8),(v,h',x)=(.p (.sl none (ss.map .str)),h,[])/\∀(μ:Mu) (w:World) (u:Value),HeapRel h μ w->RAV (imm h μ w) h μ (.fn k [.ref q 0]) u ->
     Calls P f #[u] w λe w'=>∃x,e = .returned x/\WExt w w'/\uP w w' x ss:=by
     have arg:∀(μ:Mu) (w:World) (u:Value) (cs:List AV),h[q]?=some (.box cs)->HeapRel h μ w->RAV (imm h μ w) h μ (.fn k [.ref q 0]) u ->
      ∀a,cs[0]?=some a->∃b v,u = .func (.func k) #[] #[.pointer (some ⟨b,0,none⟩)]/\w.cell? ⟨b,0,none⟩=some v/\RAV (imm h μ w) h μ a v:=by
      intro μ w u cs hq Hh hu a ha;cases hu with
      | fn _ _ vs hl hr=>
       match vs,hl with
       | [u0],_=>
        have q0:=hr 0 _ u0 rfl rfl
        cases q0 with
        | ref _ _ b n cs' ho hm=>
         have O:=Hh.obj q _ _ hq hm
         obtain⟨b',c,e1,B,hc⟩:=O;cases e1;obtain⟨_,v,hv,hR⟩:=hc 0 a ha;obtain⟨_,E,lo,hi,hB,_⟩:=B;refine⟨b,v,rfl,?_,hR⟩;simp only[World.cell?,hB];simpa using hv
     split at H;case h_2=>cases H
     rename_i k' q' hq0;cases hq0;split at H
     ·rename_i id hq
      split at H
      ·rename_i es c hid
       obtain⟨ss,hk,e2⟩:=Option.map_eq_some_iff.1 H;refine⟨ss,e2.symm,λμ w u Hh hu=>?_⟩
       obtain⟨b,v,rfl,hcell,hR⟩:=arg μ w u _ hq Hh hu _ rfl;unfold CK at hk;split at hk
       ·rename_i s0 hs0
        split at hk
        ·rename_i hc
         cases hk;obtain⟨k1,k2,k3,k4⟩:=hc
         cases hR with
         | mp _ bm nm es' c' ho hm=>
          rw[hid]at ho;cases ho;have O:=Hh.obj id _ _ hid hm
          obtain⟨b',n',ces,e1,hblk,hsz,hborn,hes⟩:=O;cases e1;have hkeys:=zcf hs0
          have hlen:es.length=s0.length:=by simpa using congrArg List.length hkeys
          refine R.run w b bm c ces s0 hcell hblk ?_ ?_ ?_ k1 k4 k3
          ·apply List.ext_getElem?
           intro i;simp only[List.getElem?_map,Array.getElem?_toList];by_cases hi:i<es.length
           ·have h1:es[i]?=some es[i]:=List.getElem?_eq_getElem hi
            have h2:ces[i]?=some (ces[i]'(by omega)):=Array.getElem?_eq_getElem (by omega)
            have h3:s0[i]?=some (s0[i]'(by omega)):=List.getElem?_eq_getElem (by omega)
            obtain⟨r1,_⟩:=hes i _ _ h1 h2;have h4:=congrArg (·[i]?) hkeys
            simp only[List.getElem?_map,h1,h3,Option.map_some,Option.some.injEq]at h4;rw[h4]at r1;rw[h2,h3];simp only[Option.map_some];revert r1
            generalize ces[i].key=kk;intro r1;cases r1;rfl
           ·rw[Array.getElem?_eq_none (by omega),List.getElem?_eq_none (by omega)]
            rfl
          ·intro x hx
           obtain⟨i,hi,rfl⟩:=List.mem_iff_getElem.1 hx;have hi':i<ces.size:=by simpa using hi
           have h1:es[i]?=some (es[i]'(by omega)):=List.getElem?_eq_getElem (by omega)
           have h2:ces[i]?=some ces[i]:=Array.getElem?_eq_getElem hi'
           obtain⟨_,_,_,r4⟩:=hes i _ _ h1 h2;have:=hborn _ (List.getElem_mem (l:=es) (n:=i) (by omega))
           simp only[Array.getElem_toList];omega
          ·have:ces.toList.map (·.born)=es.map (·.born):=by
            apply List.ext_getElem?
            intro i;simp only[List.getElem?_map,Array.getElem?_toList];by_cases hi:i<es.length
            ·have h1:es[i]?=some es[i]:=List.getElem?_eq_getElem hi
             have h2:ces[i]?=some (ces[i]'(by omega)):=Array.getElem?_eq_getElem (by omega)
             obtain⟨_,_,_,r4⟩:=hes i _ _ h1 h2;rw[h1,h2];simp [r4]
            ·rw[Array.getElem?_eq_none (by omega),List.getElem?_eq_none (by omega)]
             rfl
           rw[this];exact k2
        ·cases hk
       ·cases hk
      ·cases H
     ·rename_i hq
      refine⟨[],(Option.some.inj H).symm,λμ w u Hh hu=>?_⟩
      obtain⟨b,v,rfl,hcell,hR⟩:=arg μ w u _ hq Hh hu _ rfl;cases hR;exact R.nil w b hcell
     ·cases H
    obtain⟨ss,e3,hrun⟩:=key;cases e3;intro μ w vs Hh Hg hl hr;match vs,hl with
    | [u],_=>
     refine .inl ⟨R.enter _,(hrun μ w u Hh (hr 0 _ u rfl rfl)).mono λe w' he=>?_⟩
     obtain⟨u,rfl,g1,g2⟩:=he;obtain⟨n1,n2⟩:=Hh.ext g1;have Lq:(JE (imm h μ w) w w').le (imm h μ w'):=by
      refine⟨λb o v hv=>?_,λb o hv=>?_,rfl,λ_ _ h=>by cases h⟩
      ·dsimp only[JE]at hv
       split at hv
       ·exact n2.le.c _ _ _ hv
       ·rename_i hb
        exact ZD.2 ⟨λhO=>hb (uW Hh hO),hv⟩
      ·dsimp only[JE]at hv
       cases hv
     have g3:RAV (JE (imm h μ w) w w') [] [] (.p (.sl none (ss.map .str))) u:=.p _ _ g2.rpv
     exact⟨_,_,_,μ,⟨rfl,rfl,rfl⟩,g3.evo ⟨Lq,Nat.zero_le _,λid o m h1=>by simp at h1⟩,n1,n2,vA.refl h []⟩
   ·cases hb
  | false=>
   rw[if_neg (by simp)]at H
   exact zci r (λg m hm=>hg g m (by simp [hm])) H
def WQ (ks:wI)(gs:List (Nat × Sh))(ps:AG)(f:Nat)(asv:List AV)(h:aA):Option (AV×aA×Esc):=match MM ks f asv h with
 | some y=>some y
 | none=>EK gs ps f asv h
theorem libK_ok {ks:wI}{gs:List (Nat × Sh)}{ps:AG}(hk:∀ g m,(g,m)∈ks->KeysRow P g m)(hg:∀ g sh,(g,sh)∈gs->GrowRow P g sh)(hp:∀ g s,(g,s)∈ps->PureRow P gl g s){f:Nat}{asv:List AV}{h:aA}{v:AV}{h':aA}{x:Esc}(H:WQ ks gs ps f asv h=some (v,h',x)) :
 aD P gl f asv h λv1 h1 x1=>v1=v/\h1=h'/\x1=x:=by
 unfold WQ at H;split at H
 ·rename_i y hy
  cases H;exact zci ks hk hy
 ·exact zqL hg hp H
def YV:wI->Nat->Nat->Bool
 | [],_,_=>false
 | (g,m)::r,f,k=>(Nat.beq f g&&Nat.beq k m)||YV r f k
theorem zch:∀ {ks:wI}{f m q id c:Nat}{h:aA}{es:List ME}{ss:List (List UInt8)},YV ks f m=true->h[q]?=some (.box [.mp id])->h[id]?=some (.amap es c)->CK es=some ss ->
 MM ks f [.fn m [.ref q 0]] h=some (.p (.sl none (ss.map .str)),h,[])
 | [],f,m,q,id,c,h,es,ss,hk,_,_,_=>by cases hk
 | (g,k)::r,f,m,q,id,c,h,es,ss,hk,h1,h2,h3=>by
  unfold YV at hk;unfold MM;cases hb:Nat.beq f g&&Nat.beq m k with
  | true=>simp [hb,h1,h2,h3]
  | false=>rw[hb]at hk;simp only[hb,cond_false];exact zch (by simpa using hk) h1 h2 h3
theorem zqM {ks:wI}{gs:List (Nat × Sh)}{ps:AG}{f m q id c:Nat}{h:aA}{es:List ME}{ss:List (List UInt8)}(hk:YV ks f m=true)(h1:h[q]?=some (.box [.mp id]))(h2:h[id]?=some (.amap es c))(h3:CK es=some ss) :
 WQ ks gs ps f [.fn m [.ref q 0]] h=some (.p (.sl none (ss.map .str)),h,[]):=by
 unfold WQ;rw[zch hk h1 h2 h3]
end
abbrev WJ:Nat:=44
abbrev bQ:Nat:=41
abbrev cQ:Nat:=74
abbrev cG:Nat:=47
abbrev XJ:Nat:=110
abbrev dG:Nat:=77
abbrev YJ:Nat:=43
abbrev SL:Nat:=76
abbrev dQ:Nat:=48
abbrev PI:Nat:=87
abbrev TH:Nat:=130
abbrev ZJ:Nat:=86
abbrev aK:Nat:=115
abbrev TL:Nat:=151
abbrev UL:Nat:=106
abbrev RH:Nat:=155
abbrev SH:Nat:=122
abbrev eQ:Nat:=143
abbrev fQ:Nat:=50
abbrev IV:Nat:=83
abbrev VL:Nat:=113
abbrev zog:Nat:=133
abbrev gQ:Nat:=134
abbrev JV:Nat:=3
abbrev JG:Nat:=16
abbrev RI:Nat:=17
abbrev WL:Nat:=20
abbrev bK:Nat:=30
abbrev XL:Nat:=19
abbrev YL:Nat:=55
abbrev cK:Nat:=68
abbrev ZL:Nat:=4
abbrev aM:Nat:=5
abbrev bM:Nat:=7
abbrev KG:Nat:=31
abbrev eG:Nat:=34
abbrev aF:Nat:=33
abbrev TD:Nat:=9
abbrev MD:Nat:=6
abbrev yC:Nat:=8
abbrev UH:Nat:=27
abbrev cM:Nat:=59
abbrev iQ:Nat:=53
abbrev dM:Nat:=90
abbrev jQ:Nat:=88
abbrev VH:Nat:=36
abbrev kQ:Nat:=52
abbrev bF:Nat:=57
abbrev lQ:Nat:=99
abbrev dK:Nat:=54
abbrev eM:Nat:=18
abbrev SI:Nat:=26
abbrev UI:Nat:=25
abbrev eK:Nat:=23
abbrev VI:Nat:=24
abbrev fK:Nat:=22
abbrev mQ:Nat:=65
abbrev fM:Nat:=101
abbrev iM:Nat:=103
abbrev jM:Nat:=21
abbrev kM:Nat:=94
abbrev nQ:Nat:=118
abbrev oQ:Nat:=97
abbrev lM:Nat:=60
abbrev pQ:Nat:=96
abbrev iK:Nat:=64
abbrev qQ:Nat:=95
abbrev rQ:Nat:=98
abbrev yE:Nat:=58
abbrev mM:Nat:=93
abbrev nM:Nat:=61
abbrev jK:Nat:=63
abbrev HF:Nat:=62
abbrev sQ:Nat:=91
abbrev kK:Nat:=70
abbrev tQ:Nat:=32
abbrev uQ:Nat:=89
abbrev WH:Nat:=56
abbrev vQ:Nat:=100
abbrev oM:Nat:=29
abbrev pM:Nat:=28
abbrev KV:Nat:=67
abbrev wQ:Nat:=116
abbrev xQ:Nat:=119
abbrev WI:Nat:=92
abbrev yQ:Nat:=84
abbrev qM:Nat:=35
abbrev zQ:Nat:=102
abbrev rM:Nat:=82
abbrev z4N:Nat:=49
abbrev zoh:Nat:=137
abbrev zoi:Nat:=126
abbrev zoj:Nat:=138
abbrev zok:Nat:=127
abbrev zol:Nat:=136
abbrev zom:Nat:=125
abbrev XH:Nat:=104
abbrev lK:Nat:=135
abbrev AQ:Nat:=124
abbrev zon:Nat:=140
abbrev zoo:Nat:=129
abbrev zop:Nat:=142
abbrev zoq:Nat:=141
abbrev zor:Nat:=131
abbrev zos:Nat:=132
abbrev mK:Nat:=114
abbrev nK:Nat:=112
abbrev zot:Nat:=139
abbrev zou:Nat:=128
abbrev BQ:Nat:=69
abbrev CQ:Nat:=120
abbrev zaY:Nat:=105
abbrev zaZ:Nat:=144
abbrev oK:Nat:=13
abbrev qK:Nat:=46
abbrev rK:Nat:=45
abbrev sK:Nat:=15
abbrev zba:Nat:=66
abbrev tK:Nat:=14
abbrev uK:Nat:=10
abbrev vK:Nat:=11
abbrev xK:Nat:=12
abbrev sM:Nat:=79
abbrev tM:Nat:=72
abbrev uM:Nat:=78
abbrev lH:Nat:=42
abbrev vM:Nat:=123
abbrev wM:Nat:=108
abbrev yK:Nat:=109
abbrev xM:Nat:=40
abbrev yM:Nat:=107
abbrev mH:Nat:=73
abbrev DQ:Nat:=51
abbrev zM:Nat:=85
abbrev ND:Nat:=38
abbrev AM:Nat:=75
abbrev BM:Nat:=37
abbrev CM:Nat:=80
abbrev fG:Nat:=39
abbrev XI:Nat:=71
abbrev EQ:Nat:=117
def bldT:Nat:=0
def bldE:Nat:=0
section
mutual
def PV.same:PV->PV->Bool
 | .int k a,.int k' b=>decide (k=k')&&decide (a=b)
 | .bool a,.bool b=>decide (a=b)
 | .str a,.str b=>decide (a=b)
 | .sl s xs,.sl t ys=>decide (s=t)&&PV.sames xs ys
 | .agg xs,.agg ys=>PV.sames xs ys
 | .nilp,.nilp=>true
 | _,_=>false
def PV.sames:List PV->List PV->Bool
 | [],[]=>true
 | a::asv,b::bs=>PV.same a b&&PV.sames asv bs
 | _,_=>false
end
mutual
theorem PV.same_eq:∀ (a b:PV),PV.same a b=true->a=b
 | .int k a,b,h=>by
  cases b <;> simp [PV.same]at h
  obtain⟨h1,h2⟩:=h;subst h1;subst h2;rfl
 | .bool a,b,h=>by cases b <;> simp [PV.same]at h;subst h;rfl
 | .str a,b,h=>by cases b <;> simp [PV.same]at h;subst h;rfl
 | .sl s xs,b,h=>by
  cases b <;> simp [PV.same]at h
  obtain⟨h1,h2⟩:=h;subst h1;rw[PV.sames_eq _ _ h2]
 | .agg xs,b,h=>by
  cases b <;> simp [PV.same]at h
  rw[PV.sames_eq _ _ h]
 | .nilp,b,h=>by cases b <;> simp [PV.same]at h;rfl
theorem PV.sames_eq:∀ (a b:List PV),PV.sames a b=true->a=b
 | [],b,h=>by cases b <;> simp [PV.sames]at h;rfl
 | x::xs,b,h=>by
  cases b <;> simp [PV.sames]at h
  rw[PV.same_eq _ _ h.1,PV.sames_eq _ _ h.2]
end
mutual
def AV.same:AV->AV->Bool
 | .p a,.p b=>PV.same a b
 | .own a b c d,.own a' b' c' d'=>decide (a=a')&&decide (b=b')&&decide (c=c')&&decide (d=d')
 | .sl0 a,.sl0 b=>decide (a=b)
 | .ref a b,.ref a' b'=>decide (a=a')&&decide (b=b')
 | .rref a b c d,.rref a' b' c' d'=>decide (a=a')&&decide (b=b')&&decide (c=c')&&decide (d=d')
 | .vp a,.vp b=>PV.same a b
 | .nilp,.nilp=>true
 | .nilm,.nilm=>true
 | .nilf,.nilf=>true
 | .nili,.nili=>true
 | .ifc,.ifc=>true
 | .mp a,.mp b=>decide (a=b)
 | .it a,.it b=>decide (a=b)
 | .fn a b,.fn a' b'=>decide (a=a')&&AV.sames b b'
 | .agg a,.agg b=>AV.sames a b
 | .tup a,.tup b=>AV.sames a b
 | .anyb,.anyb=>true
 | .skp,.skp=>true
 | .und,.und=>true
 | .anyp,.anyp=>true
 | .bt a b c d,.bt a' b' c' d'=>decide (a=a')&&decide (b=b')&&decide (c=c')&&decide (d=d')
 | _,_=>false
def AV.sames:List AV->List AV->Bool
 | [],[]=>true
 | a::asv,b::bs=>AV.same a b&&AV.sames asv bs
 | _,_=>false
end
mutual
theorem AV.same_eq:∀ (a b:AV),AV.same a b=true->a=b
 | .p a,b,h=>by cases b <;> simp [AV.same]at h;rw[PV.same_eq _ _ h]
 | .own _ _ _ _,b,h=>by cases b <;> simp [AV.same]at h;simp [h]
 | .sl0 _,b,h=>by cases b <;> simp [AV.same]at h;simp [h]
 | .ref _ _,b,h=>by cases b <;> simp [AV.same]at h;simp [h]
 | .rref _ _ _ _,b,h=>by cases b <;> simp [AV.same]at h;simp [h]
 | .vp a,b,h=>by cases b <;> simp [AV.same]at h;rw[PV.same_eq _ _ h]
 | .nilp,b,h=>by cases b <;> simp [AV.same]at h;rfl
 | .nilm,b,h=>by cases b <;> simp [AV.same]at h;rfl
 | .nilf,b,h=>by cases b <;> simp [AV.same]at h;rfl
 | .nili,b,h=>by cases b <;> simp [AV.same]at h;rfl
 | .ifc,b,h=>by cases b <;> simp [AV.same]at h;rfl
 | .mp _,b,h=>by cases b <;> simp [AV.same]at h;simp [h]
 | .it _,b,h=>by cases b <;> simp [AV.same]at h;simp [h]
 | .fn _ cs,b,h=>by cases b <;> simp [AV.same]at h;rw[h.1,AV.sames_eq _ _ h.2]
 | .agg cs,b,h=>by cases b <;> simp [AV.same]at h;rw[AV.sames_eq _ _ h]
 | .tup cs,b,h=>by cases b <;> simp [AV.same]at h;rw[AV.sames_eq _ _ h]
 | .anyb,b,h=>by cases b <;> simp [AV.same]at h;rfl
 | .skp,b,h=>by cases b <;> simp [AV.same]at h;rfl
 | .und,b,h=>by cases b <;> simp [AV.same]at h;rfl
 | .anyp,b,h=>by cases b <;> simp [AV.same]at h;rfl
 | .bt _ _ _ _,b,h=>by cases b <;> simp [AV.same]at h;simp [h]
theorem AV.sames_eq:∀ (a b:List AV),AV.sames a b=true->a=b
 | [],b,h=>by cases b <;> simp [AV.sames]at h;rfl
 | x::xs,b,h=>by
  cases b <;> simp [AV.sames]at h
  rw[AV.same_eq _ _ h.1,AV.sames_eq _ _ h.2]
end
abbrev EvC:=Nat->List AV->aA->Option (AV×aA×Esc)
def NL (C:EvC)(gl:Nat->Option PV)(o:AOp)(e:List (Nat × AV))(h:aA):Option (AV×aA×Esc):=match wanted o.guard e with
 | some true=>match o.op with
  | .call f args=>C f (args.map (Opd.ev gl e)) h
  | .callv f args=>match Opd.ev gl e f with
   | .fn g caps=>C g (args.map (Opd.ev gl e)++caps) h
   | _=>none
  | .mnext _ _=>none
  | op=>aop op (Opd.ev gl e) h
 | some false=>some (.skp,h,[])
 | none=>none
def zaU (gl:Nat->Option PV)(o:AOp)(e:List (Nat × AV))(h:aA):Option (AV×aA):=match o.op with
 | .mnext sh xs=>match wanted o.guard e with
  | some true=>match BT h sh (xs.map (Opd.ev gl e)) with
   | some [y]=>some y
   | _=>none
  | _=>none
 | _=>none
def PL (C:EvC)(gl:Nat->Option PV):List AOp->List (Nat×AV)->aA->Esc->Option (List (Nat×AV)×aA×Esc)
 | [],e,h,x=>some (e,h,x)
 | o::r,e,h,x=>match NL C gl o e h with
  | some (v,h',x')=>PL C gl r (put o.dst v e) h' (x'++x)
  | none=>match zaU gl o e h with
   | some (v,h')=>PL C gl r (put o.dst v e) h' x
   | none=>none
def AO.still:AO->Bool
 | .mv _ | .pick _ _ _ | .build _ _ | .load _ _ | .nilchk _ | .bin _ _ _ | .eqa _ _ _ _ | .isnil _ _ _ | .mkif _ | .un _ _ | .mkfn _ _ | .slice _ _ _ _ _ | .slstr _ _ _ | .faddr _ _ _ | .field _ _ _ | .iaddr _ _ _
 | .iaddra _ _ _ _ | .idxa _ _ _ _ | .idxs _ _ | .look _ _ _ _ _ | .ext _ _ | .len _ | .lens _ | .lenm _ | .mx _ | .mn _=>true
 | _=>false
def AO.still2:AO->Bool
 | .conv (.i _) _=>true
 | o=>o.still
def ME.same (a b:ME):Bool:=PV.same a.key b.key&&AV.same a.val b.val&&decide (a.born=b.born)
def MEs.same:List ME->List ME->Bool
 | [],[]=>true
 | a::asv,b::bs=>ME.same a b&&MEs.same asv bs
 | _,_=>false
def Obj.same:Obj->Obj->Bool
 | .box a,.box b=>AV.sames a b
 | .row a b c,.row a' b' c'=>decide (a=a')&&PV.sames b b'&&decide (c=c')
 | .amap a b,.amap a' b'=>MEs.same a a'&&decide (b=b')
 | .iter a b c d,.iter a' b' c' d'=>decide (a=a')&&decide (b=b')&&decide (c=c')&&decide (d=d')
 | _,_=>false
def aA.same:List Obj->List Obj->Bool
 | [],[]=>true
 | a::asv,b::bs=>Obj.same a b&&aA.same asv bs
 | _,_=>false
theorem ME.same_eq {a b:ME}(h:ME.same a b=true):a=b:=by
 cases a;cases b
 simp only[ME.same,Bool.and_eq_true,decide_eq_true_eq]at h;obtain⟨⟨h1,h2⟩,h3⟩:=h;rw[PV.same_eq _ _ h1,AV.same_eq _ _ h2,h3]
theorem MEs.same_eq:∀ {a b:List ME},MEs.same a b=true->a=b
 | [],[],_=>rfl
 | [],_::_,h=>by simp [MEs.same]at h
 | _::_,[],h=>by simp [MEs.same]at h
 | a::asv,b::bs,h=>by
  simp only[MEs.same,Bool.and_eq_true]at h;rw[ME.same_eq h.1,MEs.same_eq h.2]
theorem Obj.same_eq {a b:Obj}(h:Obj.same a b=true):a=b:=by
 cases a <;> cases b <;> simp only[Obj.same,Bool.and_eq_true,decide_eq_true_eq]at h <;> first
  | (cases h;done)
  | (rw[AV.sames_eq _ _ h])
  | (obtain⟨⟨h1,h2⟩,h3⟩:=h;rw[h1,PV.sames_eq _ _ h2,h3])
  | (obtain⟨h1,h2⟩:=h;rw[MEs.same_eq h1,h2])
  | (obtain⟨⟨⟨h1,h2⟩,h3⟩,h4⟩:=h;rw[h1,h2,h3,h4])
theorem aA.same_eq:∀ {a b:List Obj},aA.same a b=true->a=b
 | [],[],_=>rfl
 | [],_::_,h=>by simp [aA.same]at h
 | _::_,[],h=>by simp [aA.same]at h
 | a::asv,b::bs,h=>by
  simp only[aA.same,Bool.and_eq_true]at h;rw[Obj.same_eq h.1,aA.same_eq h.2]
def HV (C:EvC)(gl:Nat->Option PV)(o:AOp)(e:List (Nat × AV))(g:aA)(v:AV):Bool:=match NL C gl o e g with
 | some (v',g',y)=>AV.same v' v&&y.isEmpty&&(o.op.still2||aA.same g' g)
 | none=>false
def aQ (C:EvC)(gl:Nat->Option PV):List DOp->sD->List aA->List (Nat×AV)->aA->Esc->Option (List (Nat×AV)×aA×Esc)
 | [],_,_,e,h,x=>some (e,h,x)
 | o::r,dn,hs,e,h,x=>match NL C gl o.op (IA (some o.rd) e) h with
  | some (v,h',y)=>
   if(o.eff||o.op.op.still2||y.isEmpty&&aA.same h' h)&&(o.early.all λk=>match hs[k]? with|some g=>HV C gl o.op (IA (some o.rd) e) g v|none=>false)
    && (o.again.all λj=>match dn[j]? with|some q=>HV C gl q.1 q.2.1 h' q.2.2|none=>false) then
    aQ C gl r (dn++[(o.op,IA (some o.rd) e,v)]) (hs++[h]) (put o.op.dst v e) h' (y++x)
   else none
  | none=>none
def GV (T:St->Option (Ex × St)):Nat->St->Option (Ex×St)
 | 0,_=>none
 | n+1,s=>match T s with
  | some (.normal,s')=>GV T n s'
  | r=>r
def qC (C:EvC)(gl:Nat->Option PV)(n:Nat):ACode->St->Option (Ex×St)
 | .skip,s=>some (.normal,s)
 | .reg ops keep,s=>match PL C gl ops s.env s.h s.esc with
  | some (e,h,x)=>some (.normal,⟨IA keep e,h,x⟩)
  | none=>none
 | .draw ds keep,s=>match aQ C gl ds [] [] s.env s.h s.esc with
  | some (e,h,x)=>some (.normal,⟨IA keep e,h,x⟩)
  | none=>none
 | .seq a b,s=>match qC C gl n a s with
  | some (.normal,s')=>qC C gl n b s'
  | r=>r
 | .cond c a b,s=>match Opd.ev gl s.env c with
  | .p (.bool t)=>match t with
   | true=>qC C gl n a s
   | false=>qC C gl n b s
  | _=>none
 | .det b,s=>qC C gl n b s
 | .condu c a b,s=>match Opd.ev gl s.env c with
  | .p (.bool t)=>match t with
   | true=>qC C gl n a s
   | false=>qC C gl n b s
  | _=>none
 | .block id b,s=>match qC C gl n b s with
  | some (.exit i,s')=>if i=id then some (.normal,s') else some (.exit i,s')
  | r=>r
 | .loop b,s=>GV (qC C gl n b) n s
 | .scope b,s=>match qC C gl n b ⟨s.env,s.h,[]⟩ with
  | some (e,s')=>some (e,GE s.h.length s.esc s')
  | none=>none
 | .pr l b,s=>qC C gl n b ⟨IA (some l) s.env,s.h,s.esc⟩
 | .exit id,s=>some (.exit id,s)
 | .ret,s=>some (.ret,s)
 | .bad,_=>none
def z4L (F:AFun)(b:Nat)(s:St):Option (AV×aA×Esc):=match BF s F.results with
 | some vs=>match F.keep with
  | true=>
   let n:=close s.esc.length s.esc (max b (dB vs).top)
   if YB s.esc n then some (dB vs,s.h.take n,s.esc.filter λy=>decide (y.1<n)) else some (dB vs,s.h,s.esc)
  | false=>match aB b s.h (dB vs) with
   | some v0=>
    let n:=close s.esc.length s.esc (max b v0.top)
    if YB s.esc n then match aB n s.h (dB vs) with
     | some v=>if v.top<=n then some (v,s.h.take n,s.esc.filter λy=>decide (y.1<n)) else none
     | none=>none
    else some (dB vs,s.h,s.esc)
   | none=>none
 | none=>none
def z4J (C:EvC)(gl:Nat->Option PV)(n:Nat)(F:AFun)(args:List AV)(h:aA):Option (AV×aA×Esc):=
 match (if F.byref then some (args,h) else oA h args) with
 | some (asv,h1)=>if asv.length=F.nparams then match qC C gl n F.body ⟨enter asv,h1,[]⟩ with
  | some (.exit _,_)=>none
  | some (_,s)=>z4L F h.length s
  | none=>none
  else none
 | none=>none
def vJ (C':EvC)(C:Hd):Prop:=∀f a h v h' x (K:jA),C' f a h=some (v,h',x)->K v h' x->C f a h K
variable {C':EvC} {C:Hd} {gl:Nat->Option PV}
theorem zaQ (hC:vJ C' C){o:AOp}{e:List (Nat × AV)}{h h':aA}{v:AV}{x:Esc}(H:NL C' gl o e h=some (v,h',x)):ADo C gl o e h v h' x:=by
 unfold NL at H;unfold ADo;split at H
 ·rename_i hw
  simp only[hw];obtain⟨dst,guard,op⟩:=o;cases op;case call f args=>exact hC _ _ _ _ _ _ _ H ⟨rfl,rfl,rfl⟩
  case callv f args=>
   dsimp only at H ⊢;split at H
   ·rename_i hf
    simp only[hf];exact hC _ _ _ _ _ _ _ H ⟨rfl,rfl,rfl⟩
   ·cases H
  case mnext sh xs=>cases H
  all_goals exact H
 ·rename_i hw
  simp only[hw];injection H with H
  injection H with h1 H
  injection H with h2 h3
  exact⟨h1.symm,h2.symm,h3.symm⟩
 ·cases H
theorem z4M (hC:vJ C' C):∀(ops:List AOp) e h x e' h' x' (K:List (Nat×AV)->aA->Esc->Prop),PL C' gl ops e h x=some (e',h',x')->K e' h' x'->lB C gl ops e h x K
 | [],e,h,x,e',h',x',K,H,hK=>by
  simp only[PL,Option.some.injEq,Prod.mk.injEq]at H;obtain⟨rfl,rfl,rfl⟩:=H;exact hK
 | o::r,e,h,x,e',h',x',K,H,hK=>by
  unfold PL at H;split at H
  ·rename_i v h1 x1 hd
   have ih:=z4M hC r _ _ _ _ _ _ K H hK
   unfold NL at hd;unfold lB;split at hd
   ·rename_i hw
    simp only[hw];obtain⟨dst,guard,op⟩:=o;cases op;case call f args=>exact hC _ _ _ _ _ _ _ hd ih
    case callv f args=>
     dsimp only at hd ⊢;split at hd
     ·rename_i hf
      simp only[hf];exact hC _ _ _ _ _ _ _ hd ih
     ·cases hd
    case mnext sh xs=>cases hd
    all_goals
     dsimp only at hd ⊢;rw[hd];exact ih
   ·rename_i hw
    simp only[hw];injection hd with hd
    injection hd with h1 hd
    injection hd with h2 h3
    subst h1;subst h2;subst h3
    exact ih
   ·cases hd
  ·split at H
   ·rename_i v h1 hd
    have ih:=z4M hC r _ _ _ _ _ _ K H hK
    unfold zaU at hd;unfold lB;split at hd
    ·rename_i sh xs hop
     split at hd
     ·rename_i hw
      simp only[hw,hop];split at hd
      ·rename_i y hm
       injection hd with hd
       subst hd;simp only[hm];refine⟨by simp,λz hz=>?_⟩
       rw[List.mem_singleton]at hz;subst hz;exact ih
      ·cases hd
     ·cases hd
    ·cases hd
   ·cases H
theorem zfN {o:AO}(hs:o.still=true){ev:Opd->AV}{h h':aA}{v:AV}{x:Esc}(H:aop o ev h=some (v,h',x)):h'=h/\x=[]:=by
 cases o <;> first|(cases hs;done)|skip
 all_goals
  unfold aop at H;dsimp only at H;repeat' split at H
  all_goals first
   | (cases H;done)
   | (simp only[Option.some.injEq,Prod.mk.injEq]at H;obtain⟨_,rfl,rfl⟩:=H;exact⟨rfl,rfl⟩)
   | (simp only[Option.map_eq_some_iff,Prod.mk.injEq]at H;obtain⟨_,_,_,rfl,rfl⟩:=H;exact⟨rfl,rfl⟩)
   | (have H2:=nilc (g:=[]) H;rename_i k neg p;cases hb:iJ k (ev p) <;> rw[hb]at H <;> simp only[cond_true,cond_false,Option.map_eq_some_iff,Option.some.injEq,Prod.mk.injEq]at H <;> first|(obtain⟨_,rfl,rfl⟩:=H;exact⟨rfl,rfl⟩)|(obtain⟨_,_,_,rfl,rfl⟩:=H;exact⟨rfl,rfl⟩))
theorem zfO {o:AO}(hs:o.still2=true){ev:Opd->AV}{h h':aA}{v:AV}{x:Esc}(H:aop o ev h=some (v,h',x)):h'=h/\x=[]:=by
 unfold AO.still2 at hs;split at hs
 ·simp only[aop,bH]at H
  split at H
  ·simp at H;exact⟨H.2.1.symm,H.2.2⟩
  ·simp at H
 ·exact zfN hs H
theorem rZ {o:AOp}(hs:o.op.still2=true){e:List (Nat × AV)}{h h':aA}{v:AV}{x:Esc}(H:ADo C gl o e h v h' x):h'=h/\x=[]:=by
 unfold ADo at H;split at H
 ·obtain⟨dst,guard,op⟩:=o
  cases op <;> first|(cases hs;done)|exact zfO hs H
 ·exact H.2
 ·exact H.elim
theorem zup {o:AO}(h:o.still=true):o.still2=true:=by
 cases o <;> first|exact h|(cases h;done)
theorem zeU {o:AOp}(hs:o.op.still=true){e:List (Nat × AV)}{h h':aA}{v:AV}{x:Esc}(H:ADo C gl o e h v h' x):h'=h/\x=[]:=rZ (zup hs) H
theorem zaV (hC:vJ C' C){o:AOp}{e:List (Nat × AV)}{g:aA}{v:AV}(H:HV C' gl o e g v=true):ADo C gl o e g v g []:=by
 unfold HV at H;split at H
 ·rename_i v' g' y hd
  simp only[Bool.and_eq_true,Bool.or_eq_true,List.isEmpty_iff]at H;obtain⟨⟨h1,h2⟩,h3⟩:=H;have h1:=AV.same_eq _ _ h1
  have:=zaQ (C:=C) hC hd;rcases h3 with hs|hs
  ·obtain⟨e1,e2⟩:=rZ hs this
   subst e1;subst e2;subst h1
   exact this
  ·have e1:=aA.same_eq hs
   subst e1;subst h2;subst h1
   exact this
 ·cases H
theorem zaR (hC:vJ C' C):∀(ds:List DOp) dn hs e h x e' h' x' (K:List (Nat×AV)->aA->Esc->Prop),aQ C' gl ds dn hs e h x=some (e',h',x')->K e' h' x'->QD C gl ds dn hs e h x K
 | [],dn,hs,e,h,x,e',h',x',K,H,hK=>by
  simp only[aQ,Option.some.injEq,Prod.mk.injEq]at H;obtain⟨rfl,rfl,rfl⟩:=H;exact hK
 | o::r,dn,hs,e,h,x,e',h',x',K,H,hK=>by
  unfold aQ at H;split at H
  ·rename_i v h1 y hd
   split at H
   ·rename_i hc
    simp only[Bool.and_eq_true,Bool.or_eq_true,List.all_eq_true]at hc;obtain⟨⟨c1,c2⟩,c3⟩:=hc;have hdo:=zaQ (C:=C) hC hd
    refine⟨v,h1,y,hdo,λhe=>?_,λk hk=>?_,λj hj=>?_,zaR hC r _ _ _ _ _ _ _ _ K H hK⟩
    ·rcases c1 with(c1|c1)|⟨c1,c4⟩
     ·rw[c1]at he;cases he
     ·exact rZ c1 hdo
     ·rw[List.isEmpty_iff]at c1
      exact⟨aA.same_eq c4,c1⟩
    ·have:=c2 k hk
     split at this
     ·rename_i g hg
      exact⟨g,hg,zaV hC this⟩
     ·cases this
    ·have:=c3 j hj
     split at this
     ·rename_i q hq
      exact⟨q,hq,zaV hC this⟩
     ·cases this
   ·cases H
  ·cases H
theorem zaT {T':St->Option (Ex × St)}{T:St->(Ex->St->Prop)->Prop}(hT:∀ s e s' K,T' s=some (e,s')->K e s'->T s K):∀n s e s' K,GV T' n s=some (e,s')->K e s'->ALoop T K s
 | 0,s,e,s',K,H,hK=>by cases H
 | n+1,s,e,s',K,H,hK=>by
  unfold GV at H;split at H
  ·rename_i s1 h1
   refine .mk s (λe2 s2=>e2 = .normal/\s2=s1) (hT _ _ _ _ h1 ⟨rfl,rfl⟩) (λs2 ⟨_,h2⟩=>?_) (λi s2 ⟨h2,_⟩=>by cases h2) (λs2 ⟨h2,_⟩=>by cases h2)
   subst h2;exact zaT hT n _ _ _ K H hK
  ·rename_i hne
   have hne':e ≠ .normal:=λhe=>by subst he;exact hne _ H
   refine .mk s (λe2 s2=>e2=e/\s2=s') (hT _ _ _ _ H ⟨rfl,rfl⟩) (λs2 ⟨h2,_⟩=>(hne' h2.symm).elim) (λi s2 ⟨h2,h3⟩=>by subst h3;rw[h2];exact hK) (λs2 ⟨h2,h3⟩=>by subst h3;rw[h2];exact hK)
theorem ZE (hC:vJ C' C)(n:Nat):∀(c:ACode) s e s' (K:Ex->St->Prop),qC C' gl n c s=some (e,s')->K e s'->AW C gl c s K
 | .skip,s,e,s',K,H,hK=>by
  simp only[qC,Option.some.injEq,Prod.mk.injEq]at H;obtain⟨rfl,rfl⟩:=H;exact hK
 | .reg ops keep,s,e,s',K,H,hK=>by
  unfold qC at H;split at H
  ·rename_i h1
   simp only[Option.some.injEq,Prod.mk.injEq]at H;obtain⟨rfl,rfl⟩:=H;exact z4M hC _ _ _ _ _ _ _ _ h1 hK
  ·cases H
 | .draw ds keep,s,e,s',K,H,hK=>by
  unfold qC at H;split at H
  ·rename_i h1
   simp only[Option.some.injEq,Prod.mk.injEq]at H;obtain⟨rfl,rfl⟩:=H;exact zaR hC _ _ _ _ _ _ _ _ _ _ h1 hK
  ·cases H
 | .seq a b,s,e,s',K,H,hK=>by
  unfold qC at H;unfold AW;split at H
  ·rename_i s1 h1
   exact ZE hC n a s _ _ _ h1 (ZE hC n b _ _ _ K H hK)
  ·rename_i hne
   have hne':e ≠ .normal:=λhe=>by subst he;exact hne _ H
   refine ZE hC n a s _ _ _ H ?_;cases e with
   | normal=>exact(hne' rfl).elim
   | exit i=>exact hK
   | ret=>exact hK
 | .det b,s,e,s',K,H,hK=>by
  unfold qC at H;exact ZE hC n b s _ _ K H hK
 | .condu c a b,s,e,s',K,H,hK=>by
  unfold qC at H;unfold AW;split at H
  ·rename_i t ht
   simp only[ht];split at H
   ·exact ZE hC n a s _ _ _ H hK
   ·exact ZE hC n b s _ _ _ H hK
  ·cases H
 | .cond c a b,s,e,s',K,H,hK=>by
  unfold qC at H;unfold AW;split at H
  ·rename_i t ht
   simp only[ht];split at H
   ·exact ZE hC n a s _ _ _ H hK
   ·exact ZE hC n b s _ _ _ H hK
  ·cases H
 | .block id b,s,e,s',K,H,hK=>by
  unfold qC at H;unfold AW;split at H
  ·rename_i i s1 h1
   refine ZE hC n b s _ _ _ h1 ?_;dsimp only;split at H
   ·rw[if_pos ‹_›]
    simp only[Option.some.injEq,Prod.mk.injEq]at H;obtain⟨rfl,rfl⟩:=H;exact hK
   ·rw[if_neg ‹_›]
    simp only[Option.some.injEq,Prod.mk.injEq]at H;obtain⟨rfl,rfl⟩:=H;exact hK
  ·rename_i hne
   refine ZE hC n b s _ _ _ H ?_;cases e with
   | normal=>exact hK
   | exit i=>exact(hne _ _ H).elim
   | ret=>exact hK
 | .loop b,s,e,s',K,H,hK=>by
  unfold qC at H;unfold AW;exact zaT (λs e s' K h k=>ZE hC n b s e s' K h k) n s e s' K H hK
 | .scope b,s,e,s',K,H,hK=>by
  unfold qC at H;unfold AW;split at H
  ·rename_i e1 s1 h1
   simp only[Option.some.injEq,Prod.mk.injEq]at H;obtain⟨rfl,rfl⟩:=H;exact ZE hC n b _ _ _ _ h1 hK
  ·cases H
 | .pr l b,s,e,s',K,H,hK=>by
  unfold qC at H;unfold AW;exact ZE hC n b _ _ _ K H hK
 | .exit id,s,e,s',K,H,hK=>by
  simp only[qC,Option.some.injEq,Prod.mk.injEq]at H;obtain⟨rfl,rfl⟩:=H;exact hK
 | .ret,s,e,s',K,H,hK=>by
  simp only[qC,Option.some.injEq,Prod.mk.injEq]at H;obtain⟨rfl,rfl⟩:=H;exact hK
 | .bad,s,e,s',K,H,hK=>by simp only[qC]at H;cases H
theorem zaS {F:AFun}{b:Nat}{s:St}{v:AV}{h:aA}{x:Esc}{K:jA}(H:z4L F b s=some (v,h,x))(hK:K v h x):fin F b s K:=by
 unfold z4L at H;unfold fin;split at H
 ·rename_i h1
  simp only[h1];split at H
  ·rename_i h2
   simp only[h2];dsimp only at H ⊢;split at H
   ·rw[if_pos ‹_›];simp only[Option.some.injEq,Prod.mk.injEq]at H;obtain⟨rfl,rfl,rfl⟩:=H;exact hK
   ·rw[if_neg ‹_›];simp only[Option.some.injEq,Prod.mk.injEq]at H;obtain⟨rfl,rfl,rfl⟩:=H;exact hK
  ·rename_i h2
   simp only[h2];split at H
   ·rename_i h3
    simp only[h3];dsimp only at H ⊢;split at H
    ·rw[if_pos ‹_›]
     split at H
     ·rename_i h4
      simp only[h4];split at H
      ·simp only[Option.some.injEq,Prod.mk.injEq]at H;obtain⟨rfl,rfl,rfl⟩:=H;exact⟨‹_›,hK⟩
      ·cases H
     ·cases H
    ·rw[if_neg ‹_›];simp only[Option.some.injEq,Prod.mk.injEq]at H;obtain⟨rfl,rfl,rfl⟩:=H;exact hK
   ·cases H
 ·cases H
theorem zaP (hC:vJ C' C){n:Nat}{F:AFun}{a:List AV}{h:aA}{v:AV}{h':aA}{x:Esc}{K:jA}(H:z4J C' gl n F a h=some (v,h',x))(hK:K v h' x):oD C gl F a h K:=by
 unfold z4J at H;unfold oD;split at H
 ·rename_i asv h1 hp
  simp only[hp];split at H
  ·rename_i hl
   refine⟨hl,?_⟩;cases he:qC C' gl n F.body ⟨enter asv,h1,[]⟩ with
   | none=>rw[he]at H;cases H
   | some y=>
    obtain⟨e,s⟩:=y;rw[he]at H;refine ZE hC n _ _ _ _ _ he ?_;cases e with
    | exit i=>cases H
    | normal=>exact zaS H hK
    | ret=>exact zaS H hK
  ·cases H
 ·cases H
def ZP (X:Ctx)(o:Nat->List AV->Option AV)(n:Nat):Nat->EvC
 | 0,_,_,_=>none
 | d+1,f,a,h=>match o f a with
  | some v=>some (v,h,[])
  | none=>match X.fn f with
   | some F=>z4J (ZP X o n d) X.gl n F a h
   | none=>match X.ex2 f a h with
    | some r=>some r
    | none=>match oA h a with
     | some (asv,h1)=>match unp asv with
      | some vs=>match X.ext f vs with
       | some r=>some (.p r,h1,[])
       | none=>none
      | none=>none
     | none=>none
theorem z4K (X:Ctx)(o:Nat->List AV->Option AV)(ho:∀ f a v,o f a=some v->∀ h (K:jA),K v h []->gA X f a h K)(n:Nat):∀d,vJ (ZP X o n d) (gA X)
 | 0,f,a,h,v,h',x,K,H,hK=>by cases H
 | d+1,f,a,h,v,h',x,K,H,hK=>by
  unfold ZP at H;split at H
  ·rename_i v1 hv
   simp only[Option.some.injEq,Prod.mk.injEq]at H;obtain⟨rfl,rfl,rfl⟩:=H;exact ho _ _ _ hv _ _ hK
  refine gA.fold ?_;unfold TC;split at H
  ·rename_i F hF
   simp only[hF];unfold zE;cases hd:F.isDet with
   | true=>exact⟨v,h',x,hK,zaP (z4K X o ho n d) H ⟨rfl,rfl,rfl⟩⟩
   | false=>exact zaP (z4K X o ho n d) H hK
  ·rename_i hF
   simp only[hF];split at H
   ·rename_i hx2
    simp only[hx2];simp only[Option.some.injEq]at H;subst H;exact hK
   ·rename_i hx2
    simp only[hx2];split at H
    ·rename_i hp
     simp only[hp];split at H
     ·rename_i hu
      simp only[hu];split at H
      ·rename_i hx
       simp only[hx];simp only[Option.some.injEq,Prod.mk.injEq]at H;obtain⟨rfl,rfl,rfl⟩:=H;exact hK
      ·cases H
     ·cases H
    ·cases H
theorem zeQ {X:Ctx}{f:Nat}{a:List AV}{h:aA}{v:AV}{h':aA}{x:Esc}{o:Nat->List AV->Option AV}(ho:∀ f a v,o f a=some v->∀ h (K:jA),K v h []->gA X f a h K)(n d:Nat)(H:ZP X o n d f a h=some (v,h',x))(K:jA):gA X f a h K↔K v h' x:=
 gA.eq (z4K X o ho n d _ _ _ _ _ _ _ H ⟨rfl,rfl,rfl⟩) K
end
section
variable {C:Hd} {gl:Nat->Option PV} {e:List (Nat × AV)} {h:aA} {x:Esc} {K:Ex->St->Prop} {s:St}
def ZQ {σ:Type}(S:σ->St)(P:σ->Prop)(m:σ->Nat)(K:Ex->St->Prop)(s:σ)(e:Ex)(s':St):Prop:=match e with
 | .normal=>∃t,s'=S t/\P t/\m t<m s
 | .exit i=>K (.exit i) s'
 | .ret=>K .ret s'
theorem zct {σ:Type}{S:σ->St}{P:σ->Prop}{m:σ->Nat}{K:Ex->St->Prop}{t:σ}{s':St}:ZQ S P m K t .normal s' = ∃u,s'=S u/\P u/\m u<m t:=(rfl)
theorem zcs {σ:Type}{S:σ->St}{P:σ->Prop}{m:σ->Nat}{K:Ex->St->Prop}{t:σ}{s':St}{i:Nat}:ZQ S P m K t (.exit i) s'=K (.exit i) s':=(rfl)
theorem zcu {σ:Type}{S:σ->St}{P:σ->Prop}{m:σ->Nat}{K:Ex->St->Prop}{t:σ}{s':St}:ZQ S P m K t .ret s'=K .ret s':=(rfl)
theorem z84 {T:St->(Ex->St->Prop)->Prop}{K:Ex->St->Prop}{s s':St}(h:T s=T s'):ALoop T K s=ALoop T K s':=by
 refine propext ⟨λH=>?_,λH=>?_⟩
 ·cases H with|mk _ R a b c d=>exact .mk _ R (h ▸ a) b c d
 ·cases H with|mk _ R a b c d=>exact .mk _ R (h.symm ▸ a) b c d
theorem zfJ {l:List Nat}{e:List (Nat × AV)}{t:Nat}(ht:t∈l):bA (IA (some l) e) t=bA e t:=by
 simp only[IA];induction l with
 | nil=>cases ht
 | cons k r ih=>
  simp only[List.map_cons,bA];split
  ·rename_i hk;rw[hk]
  ·rename_i hk
   rcases List.mem_cons.1 ht with h1|h1
   ·exact absurd h1.symm hk
   ·exact ih h1
theorem zdg {l:List Nat}{e:List (Nat × AV)}:IA (some l) (IA (some l) e)=IA (some l) e:=by
 show l.map _=l.map _
 exact List.map_congr_left λt ht=>by rw[zfJ ht]
theorem z9y {α:Type}(h l:List α)(n:Nat):(h++l)[h.length+n]?=l[n]?:=by
 rw[List.getElem?_append_right (by omega)];congr 1;omega
theorem zfP {α:Type}(h l:List α):(h++l)[h.length]?=l[0]?:=by
 rw[List.getElem?_append_right (by omega)];congr 1;omega
theorem z9z {α:Type}(h l:List α)(n:Nat)(o:α):(h++l).set (h.length+n) o=h++l.set n o:=by
 rw[List.set_append_right _ _ (by omega)];congr 2;omega
theorem zfR {α:Type}(h l:List α)(o:α):(h++l).set h.length o=h++l.set 0 o:=by
 rw[List.set_append_right _ _ (by omega)];congr 2;omega
theorem z90 {α:Type}(h l:List α)(n:Nat):(h++l).take (h.length+n)=h++l.take n:=List.take_length_add_append ..
theorem z91 {α:Type}(h l:List α):(h++l).take h.length=h:=List.take_left ..
theorem rA (n:Int)(h1 : -9223372036854775808<=n)(h2:n<=9223372036854775807):IntKind.i64.wrap n=n:=by
 simp [IntKind.wrap,IntKind.bits,IntKind.signed];omega
def nA (rs:List ARes)(kp:Bool)(b:Nat)(P:jA)(e:Ex)(s:St):Prop:=match e with
 | .exit _=>False
 | _=>match BF s rs with
  | some vs=>match kp with
   | true=>
    let n:=close s.esc.length s.esc (max b (dB vs).top)
    if YB s.esc n then P (dB vs) (s.h.take n) (s.esc.filter λy=>decide (y.1<n)) else P (dB vs) s.h s.esc
   | false=>match aB b s.h (dB vs) with
    | some v0=>
     let n:=close s.esc.length s.esc (max b v0.top)
     if YB s.esc n then match aB n s.h (dB vs) with
      | some v=>v.top<=n/\P v (s.h.take n) (s.esc.filter λy=>decide (y.1<n))
      | none=>False
     else P (dB vs) s.h s.esc
    | none=>False
  | none=>False
theorem z4P {F:AFun}{b:Nat}{P:jA}:finK F b P=nA F.results F.keep b P:=by
 funext e s;cases e <;> rfl
def kD (kp:Bool)(b:Nat)(P:jA)(o:Option (List AV))(h:aA)(x:Esc):Prop:=match o with
 | some vs=>match kp with
  | true=>
   let n:=close x.length x (max b (dB vs).top)
   if YB x n then P (dB vs) (h.take n) (x.filter λy=>decide (y.1<n)) else P (dB vs) h x
  | false=>match aB b h (dB vs) with
   | some v0=>
    let n:=close x.length x (max b v0.top)
    if YB x n then match aB n h (dB vs) with
     | some v=>v.top<=n/\P v (h.take n) (x.filter λy=>decide (y.1<n))
     | none=>False
    else P (dB vs) h x
   | none=>False
 | none=>False
theorem zbh {rs:List ARes}{kp:Bool}{b:Nat}{P:jA}{e:List (Nat × AV)}{h:aA}{x:Esc}:nA rs kp b P .normal ⟨e,h,x⟩=kD kp b P (BF ⟨e,h,x⟩ rs) h x:=(rfl)
theorem zbi {rs:List ARes}{kp:Bool}{b:Nat}{P:jA}{e:List (Nat × AV)}{h:aA}{x:Esc}:nA rs kp b P .ret ⟨e,h,x⟩=kD kp b P (BF ⟨e,h,x⟩ rs) h x:=(rfl)
theorem zo4 {rs:List ARes}{kp:Bool}{b:Nat}{P:jA}{ex ex':Ex}{s s':St}(he:ex=ex')(hs:s=s'):nA rs kp b P ex s=nA rs kp b P ex' s':=by rw[he,hs]
theorem XR {b:Nat}{P:jA}{vs:List AV}{h:aA}(ht:(dB vs).top<=b)(hr:∀ b,aB b h (dB vs)=some (dB vs)):kD false b P (some vs) h []=P (dB vs) (h.take b) []:=by
 simp only[kD,hr,close,List.length_nil,YB,List.all_nil,if_true,List.filter_nil,Nat.max_eq_left ht,ht,true_and]
theorem zrW {b:Nat}{h:aA}{v:PV}:aB b h (.p v)=some (.p v):=(rfl)
theorem zsc {b:Nat}{P:jA}{v:PV}{h:aA}:kD false b P (some [.p v]) h []=P (.p v) (h.take b) []:=XR (Nat.zero_le _) (λ_=>rfl)
theorem zsd {b:Nat}{P:jA}{v u:PV}{h:aA}:kD false b P (some [.p v,.p u]) h []=P (.tup [.p v,.p u]) (h.take b) []:=XR (by simp [dB,AV.top,AV.tops]) (λ_=>rfl)
theorem zse {b:Nat}{P:jA}{v u w:PV}{h:aA}:kD false b P (some [.p v,.p u,.p w]) h []=P (.tup [.p v,.p u,.p w]) (h.take b) []:=XR (by simp [dB,AV.top,AV.tops]) (λ_=>rfl)
theorem zsf {b:Nat}{P:jA}{v u w z:PV}{h:aA}:kD false b P (some [.p v,.p u,.p w,.p z]) h []=P (.tup [.p v,.p u,.p w,.p z]) (h.take b) []:=XR (by simp [dB,AV.top,AV.tops]) (λ_=>rfl)
theorem zsb {b:Nat}{P:jA}{h:aA}:kD false b P (some []) h []=P (.tup []) (h.take b) []:=XR (by simp [dB,AV.top,AV.tops]) (λ_=>rfl)
theorem zu6 {h:aA}:h.take h.length=h:=List.take_length
theorem zr0 {v:AV}:dB [v]=v:=(rfl)
theorem zum {X:Ctx}{f:Nat}{F:AFun}{a asv:List AV}{h h1:aA}{P:jA}(hf:X.fn f=some F)(hr:F.byref=false)(hp:oA h a=some (asv,h1))(hl:asv.length=F.nparams)(hd:F.isDet=false) :
 gA X f a h P=AW (gA X) X.gl F.body ⟨enter asv,h1,[]⟩ (nA F.results F.keep h.length P):=by
 rw[z9i hf hd,z9o hr hp hl,z4P]
theorem zuk {X:Ctx}{f:Nat}{F:AFun}{asv:List AV}{h:aA}{P:jA}(hf:X.fn f=some F)(hr:F.byref=true)(hl:asv.length=F.nparams)(hd:F.isDet=false) :
 gA X f asv h P=AW (gA X) X.gl F.body ⟨enter asv,h,[]⟩ (nA F.results F.keep h.length P):=by
 rw[z9i hf hd,zfF hr hl,z4P]
theorem zun {X:Ctx}{f:Nat}{F:AFun}{a asv:List AV}{h h1:aA}{P:jA}(hf:X.fn f=some F)(hr:F.byref=false)(hp:oA h a=some (asv,h1))(hl:asv.length=F.nparams)(hd:F.isDet=true) :
 gA X f a h P = ∃v h' x,P v h' x/\AW (gA X) X.gl F.body ⟨enter asv,h1,[]⟩ (nA F.results F.keep h.length λv1 h1 x1=>v1=v/\h1=h'/\x1=x):=by
 rw[zf6 hf hd];simp only[z9o hr hp hl,z4P]
theorem sA {X:Ctx}{f:Nat}{a:List AV}{h:aA}{v:AV}{h':aA}{x:Esc}{K:jA}(H:gA X f a h λv1 h1 x1=>v1=v/\h1=h'/\x1=x):gA X f a h K=K v h' x:=propext (gA.eq H K)
theorem zcF {k:IntKind}{n:Nat}:GB (.p (.int k (n:Int)))=some n:=by simp [GB]
theorem zrm {k:IntKind}{n:Nat}:GB (.p (.int k (no_index (OfNat.ofNat n:Int))))=some (OfNat.ofNat n:Nat):=zcF (n:=n)
theorem jW {k:IntKind}{n:Int}(h:0<=n):GB (.p (.int k n))=some n.toNat:=by simp [GB,h]
theorem sB {α β:Type}(f:α->β){l:List α}{k:Nat}(h:k<l.length):(l.map f)[k]?=some (f l[k]):=by simp [h]
attribute [go_sem] eqs PV.eq1 PV.kind ne_eq not_false_eq_true not_true_eq_false Bool.and_self Bool.or_self Bool.not_eq_true
attribute [go_sem] Nat.max_le Nat.add_le_add_iff_left Option.isSome_none Option.isSome_some false_and and_false List.length_range Nat.sub_zero Nat.le_add_right
attribute [go_sem] zcF zrm Int.ofNat_lt Int.ofNat_le List.length_map
attribute [go_sem] zbh zbi zsb zsc zsd zse zsf zu6 List.zipIdx_cons List.zipIdx_nil List.map_cons List.map_nil Nat.reduceAdd Nat.reduceEqDiff if_true if_false Option.map_some Option.map_none List.append_nil List.nil_append decide_eq_true_eq
def doS (C:Hd)(gl:Nat->Option PV)(q:AOp × List (Nat × AV) × AV)(h:aA):Prop:=ADo C gl q.1 q.2.1 h q.2.2 h []
def agK (C:Hd)(gl:Nat->Option PV)(h:aA)(dn:sD):List Nat->Prop
 | []=>True
 | j::r=>(match dn[j]? with|some q=>doS C gl q h|none=>False)/\agK C gl h dn r
def eaK (C:Hd)(gl:Nat->Option PV)(o:AOp)(e:List (Nat × AV))(v:AV)(hs:List aA):List Nat->Prop
 | []=>True
 | k::r=>(match hs[k]? with|some g=>doS C gl (o,e,v) g|none=>False)/\eaK C gl o e v hs r
theorem z9r {C:Hd}{gl:Nat->Option PV}{h:aA}{dn:sD}:∀{l:List Nat},agK C gl h dn l↔∀j∈l,∃q,dn[j]?=some q/\ADo C gl q.1 q.2.1 h q.2.2 h []
 | []=>by simp [agK]
 | j::r=>by
  simp only[agK,List.mem_cons,forall_eq_or_imp];rw[z9r (l:=r)];refine and_congr_left (λ_=>?_)
  cases hd:dn[j]? with
  | none=>simp
  | some q=>simp [doS]
theorem za8 {C:Hd}{gl:Nat->Option PV}{o:AOp}{e:List (Nat × AV)}{v:AV}{hs:List aA}:∀{l:List Nat},eaK C gl o e v hs l↔∀k∈l,∃g,hs[k]?=some g/\ADo C gl o e g v g []
 | []=>by simp [eaK]
 | j::r=>by
  simp only[eaK,List.mem_cons,forall_eq_or_imp];rw[za8 (l:=r)];refine and_congr_left (λ_=>?_)
  cases hd:hs[j]? with
  | none=>simp
  | some q=>simp [doS]
def effK (b:Bool)(h h':aA)(y:Esc):Prop:=match b with
 | true=>True
 | false=>h'=h/\y=[]
theorem za6 {C:Hd}{gl:Nat->Option PV}{e:List (Nat × AV)}{h:aA}{x:Esc}{L:List (Nat × AV)->aA->Esc->Prop}{op:AOp}{rd early again:List Nat}{eff:Bool}{r:List DOp}{dn:sD}{hs:List aA}{v:AV}{h':aA}{y:Esc} :
 wV C gl ⟨op,rd,eff,early,again⟩ r dn hs e h x L v h' y=(effK eff h h' y/\eaK C gl op (IA (some rd) e) v hs early/\agK C gl h' dn again/\QD C gl r (dn++[(op,IA (some rd) e,v)]) (hs++[h]) (put op.dst v e) h' (y++x) L):=by
 rw[ziT,<-propext za8,<-propext z9r];cases eff <;> simp [effK]
theorem za1 {C:Hd}{gl:Nat->Option PV}{d:Option Nat}{g:Option (Nat × Bool)}{op:AO}{e:List (Nat × AV)}{v:AV}{h:aA}:doS C gl (⟨d,g,op⟩,e,v) h=doK C gl ⟨d,g,op⟩ e h (λv1 h1 x1=>v1=v/\h1=h/\x1=[]):=by
 unfold doS doK;refine propext ⟨λH=>⟨_,_,_,H,rfl,rfl,rfl⟩,λ⟨v1,h1,x1,H,a,b,c⟩=>by subst a;subst b;subst c;exact H⟩
theorem ziB {p:Prop}[Decidable p]{A B:Prop}:BB (.p (.bool (decide p))) A B=if p then A else B:=by rw[zac];simp
def GI (C:Hd)(v:AV)(asv:List AV)(h:aA)(L:jA):Prop:=match v with
 | .fn g caps=>C g (asv++caps) h L
 | _=>False
theorem z86 {C:Hd}{gl:Nat->Option PV}{e:List (Nat × AV)}{h:aA}{x:Esc}{L:List (Nat × AV)->aA->Esc->Prop}{d:Option Nat}{f:Opd}{args:List Opd}{r:List AOp} :
 lB C gl (⟨d,none,.callv f args⟩::r) e h x L=GI C (Opd.ev gl e f) (args.map (Opd.ev gl e)) h (wL C gl r d e x L):=by
 have h2:wanted none e=some true:=(rfl)
 rw[lB];simp only[h2];unfold GI;split <;> simp_all <;> rfl
def qL (C:Hd)(v:AV)(asv:List AV)(h:aA)(R:AV->aA->Esc->Prop):Prop:=match v with
 | .fn g caps=>uD C g (asv++caps) h R
 | _=>False
theorem zay {C:Hd}{gl:Nat->Option PV}{e:List (Nat × AV)}{h:aA}{R:AV->aA->Esc->Prop}{d:Option Nat}{f:Opd}{args:List Opd} :
 doK C gl ⟨d,none,.callv f args⟩ e h R=qL C (Opd.ev gl e f) (args.map (Opd.ev gl e)) h R:=by
 have h2:wanted none e=some true:=(rfl)
 unfold doK ADo;simp only[h2];unfold qL uD;split <;> simp_all
theorem zit {C:Hd}{g:Nat}{caps asv:List AV}{h:aA}{L:jA}:GI C (.fn g caps) asv h L=C g (asv++caps) h L:=(rfl)
theorem zir {C:Hd}{g:Nat}{caps asv:List AV}{h:aA}{R:AV->aA->Esc->Prop}:qL C (.fn g caps) asv h R=uD C g (asv++caps) h R:=(rfl)
theorem zis {C:Hd}{v v':AV}{asv asv':List AV}{h h':aA}{L:jA}(h1:v=v')(h2:asv=asv')(h3:h=h'):GI C v asv h L=GI C v' asv' h' L:=by rw[h1,h2,h3]
attribute [go_sem] z86 zay zit zir
attribute [congr] zis
theorem ziL {k:IntKind}{n:Int}:NA none 0 (.int k n)=some (.int k n):=(rfl)
theorem ziO {s:List UInt8}:NA none 0 (.str s)=some (.str s):=(rfl)
theorem ziN {sh:Sh}{xs:List PV}:NA none 0 (.sl sh xs)=some (.sl sh xs):=(rfl)
theorem ziK {off:Nat}{cs:List PV}:NA none off (.agg cs)=(cs[off]?).bind λx=>if x.sc then some x else none:=(rfl)
theorem ziJ {n off:Nat}{cs:List PV}:NA (some n) off (.agg cs)=if off+n<=cs.length then some (.agg ((cs.drop off).take n)) else none:=(rfl)
theorem ziM {v:PV}(h:v.sc=true):NA none 0 v=some v:=by cases v <;> first|rfl|cases h
attribute [go_sem] ziL ziO ziN ziK ziJ
theorem znX {id:Nat}{v:PV}:dC id (.p v)=[]:=(rfl)
attribute [go_sem] List.take_succ_cons List.take_zero List.take_nil List.drop_succ_cons List.drop_zero List.drop_nil List.length_cons List.length_nil Nat.reduceLeDiff Nat.reduceLT Int.reduceLT Int.reduceLE Int.reduceAdd Int.reduceSub Int.reduceMul Int.reduceNeg Int.reduceEq Nat.reduceSub Nat.reduceMul Nat.le_refl List.append_assoc
theorem zuM {b:Nat}{x0:Esc}{e:List (Nat × AV)}{h:aA}:GE b x0 ⟨e,h,[]⟩=⟨FG b e,h.take b,x0⟩:=(rfl)
theorem ziz {n:Nat}:FG n []=[]:=(rfl)
theorem ziy {n k:Nat}{v:AV}{r:List (Nat × AV)}:FG n ((k,v)::r)=(k,if v.top<=n then v else .und)::FG n r:=(rfl)
theorem top_p {v:PV}:AV.top (.p v)=0:=(rfl)
theorem z8o {id g o l:Nat}:AV.top (.own id g o l)=id+1:=by simp [AV.top]
theorem zuE {id o:Nat}:AV.top (.ref id o)=id+1:=by simp [AV.top]
theorem zuD {id:Nat}:AV.top (.mp id)=id+1:=by simp [AV.top]
theorem zuC {id:Nat}:AV.top (.it id)=id+1:=by simp [AV.top]
theorem zuB {f:Nat}{cs:List AV}:AV.top (.fn f cs)=AV.tops cs:=by simp [AV.top]
theorem zuJ:AV.tops []=0:=(rfl)
theorem zuF {v:AV}{r:List AV}:AV.tops (v::r)=max v.top (AV.tops r):=by simp [AV.tops]
theorem zsg {b:Nat}{P:jA}{vs:List AV}{h:aA}:kD false b P (some vs) h []=match aB b h (dB vs) with
 | some v0=>match aB (max b v0.top) h (dB vs) with
  | some v=>v.top<=max b v0.top/\P v (h.take (max b v0.top)) []
  | none=>False
 | none=>False:=by
 simp only[kD,close,List.length_nil,YB,List.all_nil,if_true,List.filter_nil]
theorem zrV {b:Nat}{h:aA}{id g off len:Nat}:aB b h (.own id g off len)=if b<=id then(rd h (.own id g off len)).map λy=>.p (.sl y.1 y.2) else some (.own id g off len):=by simp only[aB]
theorem zrU {b f:Nat}{h:aA}{cs:List AV}:aB b h (.fn f cs)=some (.fn f cs):=by simp only[aB]
theorem zeg {h l:aA}{id:Nat}{o:Obj}(hid:id<h.length):(h++l).set id o=h.set id o++l:=List.set_append_left _ _ hid
theorem zbM {h l:aA}{id:Nat}(hid:id<h.length):(h++l)[id]?=h[id]?:=List.getElem?_append_left hid
theorem zdZ {h l:aA}{i n:Nat}{o:Obj}:(h.set i o++l)[h.length+n]?=l[n]?:=by
 have:=z9y (h.set i o) l n;rwa [List.length_set]at this
theorem zt2 {h l:aA}{i:Nat}{o:Obj}:(h.set i o++l)[h.length]?=l[0]?:=zdZ (n:=0)
theorem zea {h l:aA}{i n:Nat}{o q:Obj}:(h.set i o++l).set (h.length+n) q=h.set i o++l.set n q:=by
 have:=z9z (h.set i o) l n q;rwa [List.length_set]at this
theorem zt3 {h l:aA}{i:Nat}{o q:Obj}:(h.set i o++l).set h.length q=h.set i o++l.set 0 q:=zea (n:=0)
theorem zt4 {h l:aA}{i n:Nat}{o:Obj}:(h.set i o++l).take (h.length+n)=h.set i o++l.take n:=by
 have:=z90 (h.set i o) l n;rwa [List.length_set]at this
theorem zt5 {h l:aA}{i:Nat}{o:Obj}:(h.set i o++l).take h.length=h.set i o:=by
 have:=z91 (h.set i o) l;rwa [List.length_set]at this
theorem WG {α:Type}{l:List α}{n:Nat}(h:l.length=n):win l 0 n=l:=by subst h;simp [win]
theorem zeK {α:Type}(l:List α):win l 0 l.length=l:=by simp [win]
attribute [go_sem] zuM ziz ziy top_p z8o zuE zuD zuC zuB zuJ zuF Nat.max_zero Nat.zero_max Nat.zero_le zrW zrV zrU z9y zfP z9z zfR z90 z91 zdZ zt2 zea zt3 zt4 zt5 List.length_append zeK Nat.add_le_add_iff_right Nat.zero_add Nat.add_zero
attribute [go_sem] ZH PV.shp List.reduceReplicate cond_true cond_false Bool.not_true Bool.not_false Bool.false_eq_true Bool.true_and Bool.and_true Bool.false_and Bool.and_false Bool.true_or Bool.or_true Bool.false_or Bool.or_false beq_self_eq_true List.all_cons List.all_nil
attribute [go_sem low] zsg
theorem zu7 {h:aA}{id:Nat}{o:Obj}:(h.set id o).take h.length=h.set id o:=List.take_of_length_le (by simp)
attribute [go_sem] zu7 Int.natCast_zero Int.natCast_one Int.cast_ofNat_Int
attribute [go_sem] aun bH vP wP List.foldlM_cons List.foldlM_nil Option.bind_some Option.pure_def Option.bind_eq_bind List.cons_append List.nil_append Int.zero_sub List.length_singleton
attribute [go_sem] kA znX
attribute [go_sem] z81 zax zaz uD ex3' za6 za1 List.not_mem_nil List.mem_cons List.mem_singleton forall_eq_or_imp forall_eq false_implies true_implies implies_true forall_const and_true true_and List.cons_append and_self reduceCtorEq List.getElem?_cons_zero List.getElem?_cons_succ Option.some.injEq exists_eq_left' List.set_cons_zero List.set_cons_succ List.set_set List.length_set
attribute [congr] zio zeO
attribute [congr] zo4
attribute [go_sem] zeb z88 z85 zae zad ziB decide_true decide_false zct zcs zcu aop Opd.ev bA put IA DC YD EJ BF ares zr0 enter rd rds pur EO oA mkA unp cut AV.cells PV.cells PV.sc AV.sc splice pint pbool YH
attribute [go_sem low] zac zvd zvc
attribute [congr] ziA
end
section
def AO.noNext:AO->Bool
 | .mnext _ _=>false
 | _=>true
def ACode.noNext:ACode->Bool
 | .reg ops _=>ops.all λo=>o.op.noNext
 | .seq a b=>a.noNext&&b.noNext
 | .cond _ a b=>a.noNext&&b.noNext
 | .condu _ _ _=>false
 | .det _=>false
 | .block _ b=>b.noNext
 | .loop b=>b.noNext
 | .scope b=>b.noNext
 | .pr _ b=>b.noNext
 | _=>true
def Dt (C D:Hd):Prop:=∀f a h K,C f a h K->∃v h' x,K v h' x/\D f a h λv1 h1 x1=>v1=v/\h1=h'/\x1=x
variable {C D:Hd} {gl:Nat->Option PV}
theorem nP (hD:D.Mono)(hC:Dt C D):∀(ops:List AOp) e h x K,(ops.all λo=>o.op.noNext)=true->lB C gl ops e h x K->∃e' h' x',K e' h' x'/\lB D gl ops e h x λe1 h1 x1=>e1=e'/\h1=h'/\x1=x'
 | [],e,h,x,K,_,H=>⟨e,h,x,H,rfl,rfl,rfl⟩
 | o::r,e,h,x,K,hn,H=>by
  obtain⟨dst,guard,op⟩:=o;simp only[List.all_cons,Bool.and_eq_true]at hn;obtain⟨hn1,hn2⟩:=hn;unfold lB at H;dsimp only at H;split at H
  ·rename_i hw
   cases op;case call f args=>
    obtain⟨v,h',x',H',G'⟩:=hC _ _ _ _ H;obtain⟨e2,h2,x2,k2,g2⟩:=nP hD hC r _ _ _ K hn2 H';refine⟨e2,h2,x2,k2,?_⟩;unfold lB;simp only[hw]
    exact hD _ _ _ _ _ (λv1 h1 x1 ⟨a1,a2,a3⟩=>by subst a1;subst a2;subst a3;exact g2) G'
   case callv f args=>
    dsimp only at H;split at H
    ·rename_i hf
     obtain⟨v,h',x',H',G'⟩:=hC _ _ _ _ H;obtain⟨e2,h2,x2,k2,g2⟩:=nP hD hC r _ _ _ K hn2 H';refine⟨e2,h2,x2,k2,?_⟩;unfold lB;simp only[hw,hf]
     exact hD _ _ _ _ _ (λv1 h1 x1 ⟨a1,a2,a3⟩=>by subst a1;subst a2;subst a3;exact g2) G'
    ·exact H.elim
   case mnext sh xs=>simp [AO.noNext]at hn1
   all_goals
    dsimp only at H;split at H
    ·rename_i ha
     obtain⟨e2,h2,x2,k2,g2⟩:=nP hD hC r _ _ _ K hn2 H;refine⟨e2,h2,x2,k2,?_⟩;unfold lB;simp only[hw,ha]
     exact g2
    ·exact H.elim
  ·rename_i hw
   obtain⟨e2,h2,x2,k2,g2⟩:=nP hD hC r _ _ _ K hn2 H;refine⟨e2,h2,x2,k2,?_⟩;unfold lB;simp only[hw]
   exact g2
  ·exact H.elim
theorem qZ (hD:D.Mono)(hC:Dt C D){o:AOp}{e:List (Nat × AV)}{h h':aA}{v:AV}{x:Esc}(H:ADo C gl o e h v h' x):ADo D gl o e h v h' x:=by
 have key:∀f a h,C f a h (λv1 h1 x1=>v1=v/\h1=h'/\x1=x)->D f a h (λv1 h1 x1=>v1=v/\h1=h'/\x1=x):=λf a h hc=>by
  obtain⟨v2,h2,x2,⟨e1,e2,e3⟩,hd⟩:=hC _ _ _ _ hc;subst e1;subst e2;subst e3
  exact hd
 unfold ADo at H ⊢;split at H
 ·split at H
  ·exact key _ _ _ H
  ·split at H
   ·exact key _ _ _ H
   ·exact H.elim
  ·exact H.elim
  ·exact H
 ·exact H
 ·exact H.elim
theorem z82 (hD:D.Mono)(hC:Dt C D):∀(ds:List DOp) dn hs e h x K,QD C gl ds dn hs e h x K->∃e' h' x',K e' h' x'/\QD D gl ds dn hs e h x λe1 h1 x1=>e1=e'/\h1=h'/\x1=x'
 | [],dn,hs,e,h,x,K,H=>⟨e,h,x,H,rfl,rfl,rfl⟩
 | o::r,dn,hs,e,h,x,K,H=>by
  obtain⟨v,h',y,h1,h2,h3,h4,h5⟩:=H;obtain⟨e2,q2,x2,k2,g2⟩:=z82 hD hC r _ _ _ _ _ K h5;exact⟨e2,q2,x2,k2,v,h',y,qZ hD hC h1,h2,λk hk=>by obtain⟨g,a1,a2⟩:=h3 k hk;exact⟨g,a1,qZ hD hC a2⟩,
   λj hj=>by obtain⟨q,a1,a2⟩:=h4 j hj;exact⟨q,a1,qZ hD hC a2⟩,g2⟩
theorem zeV {T U:St->(Ex->St->Prop)->Prop}(hT:∀ s K,T s K->∃ e s',K e s'/\U s λe1 s1=>e1=e/\s1=s'){K:Ex->St->Prop}{s:St}(H:ALoop T K s):∃e s',K e s'/\ALoop U (λe1 s1=>e1=e/\s1=s') s:=by
 induction H with
 | mk s R h hn he hr ih=>
  obtain⟨e,s',hR,hU⟩:=hT _ _ h;cases e with
  | normal=>
   obtain⟨e2,s2,k2,g2⟩:=ih s' hR;exact⟨e2,s2,k2,.mk _ _ hU (λs1 ⟨_,h1⟩=>by subst h1;exact g2) (λi s1 ⟨h1,_⟩=>by cases h1) (λs1 ⟨h1,_⟩=>by cases h1)⟩
  | exit i=>exact⟨_,_,he i s' hR,.mk _ _ hU (λs1 ⟨h1,_⟩=>by cases h1) (λj s1 h1=>h1) (λs1 ⟨h1,_⟩=>by cases h1)⟩
  | ret=>exact⟨_,_,hr s' hR,.mk _ _ hU (λs1 ⟨h1,_⟩=>by cases h1) (λj s1 ⟨h1,_⟩=>by cases h1) (λs1 h1=>h1)⟩
theorem vH (hD:D.Mono)(hC:Dt C D):∀(c:ACode),c.noNext=true->∀s K,AW C gl c s K->∃e s',K e s'/\AW D gl c s λe1 s1=>e1=e/\s1=s'
 | .skip,_,s,K,H=>⟨_,_,H,rfl,rfl⟩
 | .reg ops keep,hn,s,K,H=>by
  obtain⟨e,h,x,h1,h2⟩:=nP hD hC ops _ _ _ _ hn H;refine⟨_,_,h1,?_⟩;show lB D gl ops s.env s.h s.esc λe1 h1 x1=>_
  exact uJ (C:=D) (C':=D) (λf a h K K' hK h=>hD _ _ _ _ _ hK h) ops _ _ _ _ _ (λe1 h1 x1 ⟨a1,a2,a3⟩=>by subst a1;subst a2;subst a3;exact⟨rfl,rfl⟩) h2
 | .draw ds keep,_,s,K,H=>by
  obtain⟨e,h,x,h1,h2⟩:=z82 hD hC ds _ _ _ _ _ _ H;refine⟨_,_,h1,?_⟩;show QD D gl ds [] [] s.env s.h s.esc λe1 h1 x1=>_
  exact sZ (C:=D) (C':=D) (λf a h K K' hK h=>hD _ _ _ _ _ hK h) ds _ _ _ _ _ _ _ (λe1 h1 x1 ⟨a1,a2,a3⟩=>by subst a1;subst a2;subst a3;exact⟨rfl,rfl⟩) h2
 | .seq a b,hn,s,K,H=>by
  simp only[ACode.noNext,Bool.and_eq_true]at hn;obtain⟨e,s',h1,h2⟩:=vH hD hC a hn.1 _ _ H;have mono:=λ(K K':Ex->St->Prop) (hK:∀e s,K e s->K' e s)=>GD (C:=D) (C':=D) (gl:=gl) (λf a h K K' hK h=>hD _ _ _ _ _ hK h) a s K K' hK
  cases e with
  | normal=>
   obtain⟨e2,s2,k2,g2⟩:=vH hD hC b hn.2 _ _ h1;refine⟨e2,s2,k2,mono _ _ (λe1 s1 ⟨a1,a2⟩=>?_) h2⟩
   subst a1;subst a2;exact g2
  | exit i=>exact⟨_,_,h1,mono _ _ (λe1 s1 ⟨a1,a2⟩=>by subst a1;subst a2;exact⟨rfl,rfl⟩) h2⟩
  | ret=>exact⟨_,_,h1,mono _ _ (λe1 s1 ⟨a1,a2⟩=>by subst a1;subst a2;exact⟨rfl,rfl⟩) h2⟩
 | .condu c a b,hn,s,K,H=>by cases hn
 | .det b,hn,s,K,H=>by cases hn
 | .cond c a b,hn,s,K,H=>by
  simp only[ACode.noNext,Bool.and_eq_true]at hn;unfold AW at H;split at H
  ·rename_i t ht
   split at H
   ·obtain⟨e,s',h1,h2⟩:=vH hD hC a hn.1 _ _ H
    refine⟨e,s',h1,?_⟩;unfold AW;simp only[ht];exact h2
   ·obtain⟨e,s',h1,h2⟩:=vH hD hC b hn.2 _ _ H
    refine⟨e,s',h1,?_⟩;unfold AW;simp only[ht];exact h2
  ·exact H.elim
 | .block id b,hn,s,K,H=>by
  obtain⟨e,s',h1,h2⟩:=vH hD hC b hn _ _ H;have mono:=λ(K K':Ex->St->Prop) (hK:∀e s,K e s->K' e s)=>GD (C:=D) (C':=D) (gl:=gl) (λf a h K K' hK h=>hD _ _ _ _ _ hK h) b s K K' hK
  cases e with
  | normal=>exact⟨_,_,h1,mono _ _ (λe1 s1 ⟨a1,a2⟩=>by subst a1;subst a2;exact⟨rfl,rfl⟩) h2⟩
  | exit i=>
   dsimp only at h1;split at h1
   ·rename_i hi
    exact⟨_,_,h1,mono _ _ (λe1 s1 ⟨a1,a2⟩=>by subst a1;subst a2;dsimp only;rw[if_pos hi];exact⟨rfl,rfl⟩) h2⟩
   ·rename_i hi
    exact⟨_,_,h1,mono _ _ (λe1 s1 ⟨a1,a2⟩=>by subst a1;subst a2;dsimp only;rw[if_neg hi];exact⟨rfl,rfl⟩) h2⟩
  | ret=>exact⟨_,_,h1,mono _ _ (λe1 s1 ⟨a1,a2⟩=>by subst a1;subst a2;exact⟨rfl,rfl⟩) h2⟩
 | .loop b,hn,s,K,H=>zeV (λs K h=>vH hD hC b hn s K h) H
 | .scope b,hn,s,K,H=>by
  obtain⟨e,s',h1,h2⟩:=vH hD hC b hn _ _ H;exact⟨_,_,h1,GD (C:=D) (C':=D) (gl:=gl) (λf a h K K' hK h=>hD _ _ _ _ _ hK h) b _ _ _ (λe1 s1 ⟨a1,a2⟩=>by subst a1;subst a2;exact⟨rfl,rfl⟩) h2⟩
 | .pr l b,hn,s,K,H=>vH hD hC b hn _ K H
 | .exit id,_,s,K,H=>⟨_,_,H,rfl,rfl⟩
 | .ret,_,s,K,H=>⟨_,_,H,rfl,rfl⟩
 | .bad,_,s,K,H=>H.elim
theorem zbj {F:AFun}{b:Nat}{s:St}{K:jA}(H:fin F b s K):∃v h x,K v h x/\fin F b s λv1 h1 x1=>v1=v/\h1=h/\x1=x:=by
 unfold fin at H;cases h1:BF s F.results with
 | none=>rw[h1]at H;exact H.elim
 | some vs=>
  rw[h1]at H;dsimp only at H;cases h2:F.keep with
  | true=>
   rw[h2]at H;dsimp only at H;by_cases h3:YB s.esc (close (List.length s.esc) s.esc (max b (dB vs).top))=true
   ·rw[if_pos h3]at H
    exact⟨_,_,_,H,by unfold fin;rw[h1];dsimp only;rw[h2];dsimp only;rw[if_pos h3];exact⟨rfl,rfl,rfl⟩⟩
   ·rw[if_neg h3]at H
    exact⟨_,_,_,H,by unfold fin;rw[h1];dsimp only;rw[h2];dsimp only;rw[if_neg h3];exact⟨rfl,rfl,rfl⟩⟩
  | false=>
   rw[h2]at H;dsimp only at H;cases h4:aB b s.h (dB vs) with
   | none=>rw[h4]at H;exact H.elim
   | some v0=>
    rw[h4]at H;dsimp only at H;by_cases h3:YB s.esc (close (List.length s.esc) s.esc (max b v0.top))=true
    ·rw[if_pos h3]at H
     cases h5:aB (close (List.length s.esc) s.esc (max b v0.top)) s.h (dB vs) with
     | none=>rw[h5]at H;exact H.elim
     | some v=>
      rw[h5]at H;exact⟨_,_,_,H.2,by unfold fin;rw[h1];dsimp only;rw[h2];dsimp only;rw[h4];dsimp only;rw[if_pos h3,h5];exact⟨H.1,rfl,rfl,rfl⟩⟩
    ·rw[if_neg h3]at H
     exact⟨_,_,_,H,by unfold fin;rw[h1];dsimp only;rw[h2];dsimp only;rw[h4];dsimp only;rw[if_neg h3];exact⟨rfl,rfl,rfl⟩⟩
def Ctx.NoNext (X:Ctx):Prop:=∀f F,X.fn f=some F->(F.isDet||F.body.noNext)=true
theorem zfE (hD:D.Mono)(hC:Dt C D){F:AFun}{a:List AV}{h:aA}{K:jA}(hb:F.body.noNext=true)(H:oD C gl F a h K):∃v h' x,K v h' x/\oD D gl F a h λv1 h1 x1=>v1=v/\h1=h'/\x1=x:=by
 unfold oD at H ⊢;cases hp:(if F.byref then some (a,h) else oA h a) with
 | none=>rw[hp]at H;exact H.elim
 | some q=>
  obtain⟨asv,h1⟩:=q;rw[hp]at H;obtain⟨hl,H⟩:=H;obtain⟨e,s',k1,g1⟩:=vH hD hC _ hb _ _ H;have mono:=λ(K K':Ex->St->Prop) (hK:∀e s,K e s->K' e s)=>GD (C:=D) (C':=D) (gl:=gl) (λf a h K K' hK h=>hD _ _ _ _ _ hK h) F.body ⟨enter asv,h1,[]⟩ K K' hK
  cases e with
  | exit i=>exact k1.elim
  | normal=>
   obtain⟨v,h',x,k2,g2⟩:=zbj k1;exact⟨v,h',x,k2,hl,mono _ _ (λe1 s1 ⟨a1,a2⟩=>by subst a1;subst a2;exact g2) g1⟩
  | ret=>
   obtain⟨v,h',x,k2,g2⟩:=zbj k1;exact⟨v,h',x,k2,hl,mono _ _ (λe1 s1 ⟨a1,a2⟩=>by subst a1;subst a2;exact g2) g1⟩
theorem zeP {X:Ctx}(hX:X.NoNext):Dt (gA X) (gA X):=by
 intro f a h K H;refine H (λf a h K=>∃v h' x,K v h' x/\gA X f a h λv1 h1 x1=>v1=v/\h1=h'/\x1=x) ?_ ?_
 ·intro f a h K K' hK ⟨v,h',x,k,g⟩
  exact⟨v,h',x,hK _ _ _ k,g⟩
 ·intro f a h K H
  have hC:Dt (λf a h K=>∃v h' x,K v h' x/\gA X f a h λv1 h1 x1=>v1=v/\h1=h'/\x1=x) (gA X):=λf a h K H=>H
  have hD:=gA.mono X
  unfold TC at H;split at H
  ·rename_i F hF
   unfold zE at H;cases hd:F.isDet with
   | true=>
    rw[hd]at H;obtain⟨v,h',x,k,H⟩:=H;refine⟨v,h',x,k,gA.fold ?_⟩;unfold TC;simp only[hF,zE,hd];exact⟨v,h',x,⟨rfl,rfl,rfl⟩,mT (λf a h K K' hK ⟨v2,h2,x2,k2,g2⟩=>hD _ _ _ _ _ (λv1 h1 x1 hv=>by obtain⟨rfl,rfl,rfl⟩:=hv;exact hK _ _ _ k2) g2) (λ_ _ _ h=>h) H⟩
   | false=>
    rw[hd]at H;obtain⟨v,h',x,k1,g1⟩:=zfE hD hC (by have:=hX f F hF;rw[hd]at this;simpa using this) H
    refine⟨v,h',x,k1,gA.fold ?_⟩;unfold TC;simp only[hF,zE,hd]
    exact g1
  ·rename_i hF
   split at H
   ·rename_i hx2
    refine⟨_,_,_,H,gA.fold ?_⟩;unfold TC;simp only[hF,hx2]
    exact⟨trivial,trivial,trivial⟩
   ·rename_i hx2
    split at H
    ·rename_i hp
     split at H
     ·rename_i hu
      split at H
      ·rename_i hx
       refine⟨_,_,_,H,gA.fold ?_⟩;unfold TC;simp only[hF,hx2,hp,hu,hx]
       exact⟨trivial,trivial,trivial⟩
      ·exact H.elim
     ·exact H.elim
    ·exact H.elim
theorem gA.one {X:Ctx}(hX:X.NoNext){f:Nat}{a:List AV}{h:aA}{Q:jA}(H:gA X f a h Q):∃v h' x,Q v h' x/\∀K:jA,gA X f a h K=K v h' x:=by
 obtain⟨v,h',x,k,g⟩:=zeP hX _ _ _ _ H;exact⟨v,h',x,k,λK=>sA g⟩
end
def pK (o:Option AV)(k:AV->Prop):Prop:=match o with
 | some v=>k v
 | none=>False
def wK (o:Option (AV × aA × Esc))(k:AV->aA->Esc->Prop):Prop:=match o with
 | some y=>k y.1 y.2.1 y.2.2
 | none=>False
def jD (c a b:AV):Option AV:=match c with
 | .p (.bool t)=>some (bif t then a else b)
 | _=>none
def SM (x:AV)(h:aA):Option (AV×aA×Esc):=match x.cells with
 | some cs=>some (.ref h.length 0,h++[.box cs],[])
 | none=>none
def FQ:List (Nat × Nat × AV)->List AV->Option (List AV)
 | [],cs=>some cs
 | (off,n,x)::r,cs=>match x.cells with
  | some vs=>if vs.length=n/\off+n<=cs.length then FQ r (splice cs off vs) else none
  | none=>none
def jF (z:List AV)(ps:List (Nat × Nat × AV)):Option AV:=(FQ ps z).map mkA
def GQ (sh:Sh):List (Nat×AV)->aA->List PV->Option (List PV×aA)
 | [],h,xs=>some (xs,h)
 | (i,x)::r,h,xs=>match pur h x with
  | some (v,h')=>if v.shp sh/\i<xs.length then GQ sh r h' (xs.set i v) else none
  | none=>none
def AC (own:Bool)(sh:Sh)(n:Nat)(z:PV)(ps:List (Nat × AV))(h:aA):Option (AV×aA×Esc):=match GQ sh ps h (List.replicate n z) with
 | some (xs,h')=>if !z.shp sh then none else some (bif own then(.own h'.length n 0 n,h'++[.row sh xs 0],[]) else(.p (.sl sh xs),h',[]))
 | none=>none
def uA (sh:Sh)(a:AV)(h:aA):Option AV:=match a with
 | .ref id off=>match h[id]? with
  | some (.box cs)=>cut sh off cs
  | _=>none
 | .rref id g i off=>match h[id]? with
  | some (.row _ xs _)=>if g=xs.length then((xs[i]?).bind (NA sh off)).map .p else none
  | _=>none
 | .vp v=>(NA sh 0 v).map .p
 | .bt k off id g=>ldA sh k off id g h
 | _=>none
def vB (sh:Sh)(a x:AV)(h:aA):Option (AV×aA×Esc):=match a with
 | .ref id off=>match h[id]?,x.cells with
  | some (.box cs),some vs=>if vs.length=kA sh/\off+vs.length<=cs.length then some (.und,h.set id (.box (splice cs off vs)),kH id cs x) else none
  | _,_=>none
 | .rref id g i off=>match pur h x with
  | some (v,h1)=>match h1[id]? with
   | some (.row rsh xs fz)=>if g=xs.length/\fz<=i/\v.cells.length=kA sh/\v.cells.all PV.sc then match xs[i]? with
    | some (.agg cs)=>if off+v.cells.length<=cs.length then some (.und,h1.set id (.row rsh (xs.set i (.agg (splice cs off v.cells))) fz),[]) else none
    | some _=>if off=0/\v.sc then some (.und,h1.set id (.row rsh (xs.set i v) fz),[]) else none
    | none=>none
    else none
   | _=>none
  | none=>none
 | .bt k off id g=>stA sh k off id g x h
 | _=>none
def qR (x:AV):Option AV:=match x with
 | .ref _ _ | .rref _ _ _ _ | .vp _ | .fn _ _=>some x
 | .bt k _ _ _=>nlA k x
 | _=>none
def CA (op:BinOp)(x y:AV):Option AV:=match x,y with
 | .p a,.p b=>(DC op a b).map .p
 | _,_=>none
def TA (ks:List Nat)(neg:Bool)(x y:AV):Option AV:=match x,y with
 | .p (.agg asv),.p (.agg bs)=>if asv.map PV.kind=ks/\bs.map PV.kind=ks/\ks≠[] then(eqs asv bs).map λt=>pbool (bif neg then !t else t) else none
 | .p (.bool a),.p (.bool b)=>if ks=[] then some (pbool (bif neg then !decide (a=b) else decide (a=b))) else none
 | _,_=>none
def nR (k:Nat)(neg:Bool)(x:AV):Option AV:=bif iJ k x then some .anyb else(gR k x).map λr=>pbool (bif neg then !r else r)
def rW (x:AV):Option AV:=if fI x then some .ifc else none
def oUn (op:UnOp)(x:AV):Option AV:=match x with
 | .p a=>(aun op a).map .p
 | _=>none
def LF (c:Cv)(x:AV)(h:aA):Option (AV×aA×Esc):=(bH h c x).map λy=>(y.1,y.2,[])
def jR (k:IntKind)(x:AV):Option AV:=match x with
 | .p (.int _ n)=>some (.p (.int k (k.wrap n)))
 | _=>none
def sW (sh:Sh)(z:PV)(len cap:AV)(h:aA):Option (AV×aA×Esc):=match GB len,GB cap with
 | some n,some m=>if n<=m/\m<=bB/\z.shp sh then some (.own h.length n 0 n,h++[.row sh (List.replicate n z) 0],[]) else none
 | _,_=>none
def pE (d:Nat):Option AV->Option Nat
 | none=>some d
 | some x=>GB x
def rR (x:AV)(lo hi:Option AV):Option AV:=match x with
 | .p (.str s)=>match pE 0 lo,pE s.length hi with
  | some l,some r=>if l<=r/\r<=s.length then some (.p (.str (win s l (r-l)))) else none
  | _,_=>none
 | _=>none
def UM (sh:Sh)(x:AV)(lo hi mx:Option AV)(h:aA):Option AV:=match x with
 | .p (.sl sh' xs)=>match pE 0 lo,pE xs.length hi,pE xs.length mx with
  | some l,some r,some m=>if sh'=sh/\l<=r/\r<=m/\m<=xs.length then some (if mx.isSome/\m=l then .sl0 sh else .p (.sl sh (win xs l (r-l)))) else none
  | _,_,_=>none
 | .sl0 sh'=>match pE 0 lo,pE 0 hi,pE 0 mx with
  | some l,some r,some m=>if l=0/\r=0/\m=0 then some (.sl0 sh') else none
  | _,_,_=>none
 | .own id g off len=>match h[id]? with
  | some (.row rsh xs _)=>match pE 0 lo,pE len hi,pE len mx with
   | some l,some r,some m=>if rsh=sh/\g=xs.length/\off+len<=xs.length/\l<=r/\r<=m/\m<=len then some (if mx.isSome/\m=l then .sl0 sh else .own id g (off+l) (r-l)) else none
   | _,_,_=>none
  | _=>none
 | _=>none
def RA (off:Nat)(sh:Sh)(x:AV):Option AV:=match x with
 | .ref id o=>some (.ref id (o+off))
 | .rref id g i o=>some (.rref id g i (o+off))
 | .vp v=>(NA sh off v).map .vp
 | .bt k o id g=>faA k off o id g
 | _=>none
def kR (off:Nat)(sh:Sh)(x:AV):Option AV:=match x with
 | .p v=>match v with
  | .agg _=>(NA sh off v).map .p
  | _=>none
 | .agg cs=>cut sh off cs
 | _=>none
def OF (sh:Sh)(x i:AV)(h:aA):Option AV:=match x,GB i with
 | .p (.sl sh' xs),some k=>if sh'=sh then(xs[k]?).map .vp else none
 | .own id g off len,some k=>match h[id]? with
  | some (.row rsh xs _)=>if rsh=sh/\g=xs.length/\off+len<=xs.length/\k<len then some (.rref id g (off+k) 0) else none
  | _=>none
 | .bt kk _ id g,some k=>iaA sh kk id g k h
 | _,_=>none
def lR (n:Nat)(sh:Sh)(x i:AV):Option AV:=match x,GB i with
 | .ref id o,some k=>if k<n then some (.ref id (o+k*kA sh)) else none
 | .rref id g j o,some k=>if k<n then some (.rref id g j (o+k*kA sh)) else none
 | .vp v,some k=>if k<n then(NA sh (k*kA sh) v).map .vp else none
 | _,_=>none
def mR (n:Nat)(sh:Sh)(x i:AV):Option AV:=match x,GB i with
 | .p (.agg cs),some k=>if k<n then(NA sh (k*kA sh) (.agg cs)).map .p else none
 | _,_=>none
def TM (x i:AV):Option AV:=match x,GB i with
 | .p (.str s),some k=>(s[k]?).map λb=>.p (.int .u8 b.toNat)
 | _,_=>none
def oC (x:AV)(i:Nat):Option AV:=match x with
 | .tup vs=>vs[i]?
 | _=>none
def jJ (x:AV):Option AV:=match x with
 | .p (.sl _ xs)=>some (pint xs.length)
 | .sl0 _=>some (pint 0)
 | .own _ _ _ len=>some (pint len)
 | .bt k _ _ g=>lnA k g
 | _=>none
def pR (x:AV):Option AV:=match x with
 | .p (.str s)=>some (pint s.length)
 | _=>none
def iR (sh:Sh)(s x:AV)(h:aA):Option (AV×aA×Esc):=match rds h x with
 | some (sh',ys)=>if sh'=sh then match s with
  | .sl0 _=>if ys.length<=bB then some (.own h.length ys.length 0 ys.length,h++[.row sh ys 0],[]) else none
  | .own id g off len=>match h[id]? with
   | some (.row rsh xs fz)=>if rsh=sh/\g=xs.length/\off=0/\len=xs.length/\len+ys.length<=bB/\fz<=xs.length then some (.own id (g+ys.length) off (len+ys.length),h.set id (.row sh (xs++ys) fz),[])
    else if rsh=sh/\g=xs.length/\off+len+ys.length<=xs.length/\fz<=off+len/\1<=ys.length/\len+ys.length<=bB/\sh=none/\xs.all PV.intP=true/\ys.all PV.intP=true then
     some (.p (.sl sh (win xs off len++ys)),h.set id (.row sh (splice xs (off+len) (List.replicate ys.length .unk)) (off+len+ys.length)),[])
    else none
   | _=>none
  | _=>none
  else none
 | none=>none
def oW (sh:Sh)(d s:AV)(h:aA):Option (AV×aA×Esc):=match d,rds h s with
 | .own id g off len,some (sh',ys)=>match h[id]? with
  | some (.row rsh xs fz)=>if rsh=sh/\sh'=sh/\g=xs.length/\off+len<=xs.length/\fz<=off then
   some (pint (min ys.length len),h.set id (.row sh (splice xs off (ys.take (min ys.length len))) fz),[])
   else none
  | _=>none
 | _,_=>none
def oClr (sh:Sh)(z:PV)(x:AV)(h:aA):Option (AV×aA×Esc):=match x with
 | .sl0 _=>some (.tup [],h,[])
 | .own id g off len=>match h[id]? with
  | some (.row rsh xs fz)=>if rsh=sh/\g=xs.length/\off+len<=xs.length/\fz<=off then
   some (.tup [],h.set id (.row sh (splice xs off (List.replicate len z)) fz),[])
   else none
  | _=>none
 | _=>none
def oMx (xs:List AV):Option AV:=match xs with
 | .p a::r=>((unp r).bind λl=>l.foldlM vP a).map .p
 | _=>none
def oMn (xs:List AV):Option AV:=match xs with
 | .p a::r=>((unp r).bind λl=>l.foldlM wP a).map .p
 | _=>none
def UA (kk:Sh × List Nat)(ok:Bool)(z x k:AV)(h:aA):Option AV:=match cD kk k with
 | some key=>match (match x with | .nilm=>some []|m=>(mC h m).map λy=>y.2.1) with
  | some es=>match QC key es with
   | some r=>
    let v:=((r.bind (es[·]?)).map ME.val)
    some (bif ok then .tup [v.getD z,pbool v.isSome] else v.getD z)
   | none=>none
  | none=>none
 | none=>none
def ZA (kk:Sh × List Nat)(m k x:AV)(h:aA):Option (AV×aA×Esc):=match cD kk k,mC h m,fI x with
 | some key,some (id,es,c),true=>match QC key es with
  | some (some i)=>some (.und,h.set id (.amap (es.modify i λe=>{ e with val:=x }) c),dC id x)
  | some none=>some (.und,h.set id (.amap (es++[⟨key,x,c⟩]) (c+1)),dC id x)
  | none=>none
 | _,_,_=>none
def qW (kk:Sh × List Nat)(z m k:AV)(h:aA):Option (AV×aA×Esc):=match cD kk k,mC h m with
 | some key,some (id,es,c)=>match QC key es with
  | some (some i)=>(es[i]?).map λe=>(.tup [e.val,pint e.born],h,[])
  | some none=>some (.tup [z,pint c],h.set id (.amap (es++[⟨key,z,c⟩]) (c+1)),[])
  | none=>none
 | _,_=>none
def pW (m s x:AV)(h:aA):Option (AV×aA×Esc):=match mC h m,GB s,fI x with
 | some (id,es,c),some b,true=>match es.findIdx? (λe=>e.born==b) with
  | some i=>some (.und,h.set id (.amap (es.modify i λe=>{ e with val:=x }) c),dC id x)
  | none=>none
 | _,_,_=>none
def CB (kk:Sh × List Nat)(m k:AV)(h:aA):Option (AV×aA×Esc):=match cD kk k,mC h m with
 | some key,some (id,es,c)=>match QC key es with
  | some (some i)=>some (.und,h.set id (.amap (es.eraseIdx i) c),[])
  | some none=>some (.und,h,[])
  | none=>none
 | _,_=>none
def oR (x:AV)(h:aA):Option AV:=match x with
 | .nilm=>some (pint 0)
 | .mp id=>(mC h (.mp id)).map λy=>pint y.2.1.length
 | _=>none
def WB (x:AV)(h:aA):Option (AV×aA×Esc):=match mC h x with
 | some (id,_,c)=>some (.it h.length,h++[.iter (some id) c [] c],[])
 | none=>match x with
  | .nilm=>some (.it h.length,h++[.iter none 0 [] 0],[])
  | _=>none
def ZB (i:AV)(h:aA):Option (AV×aA×Esc):=match i with
 | .it id=>match h[id]? with
  | some (.iter (some m) _ seen last)=>match mC h (.mp m),seen.getLast? with
   | some (_,es,c),some b=>if c=last then(es.find? (λe=>e.born==b)).map λe=>(.tup [.p e.key,e.val],h,[]) else none
   | _,_=>none
  | _=>none
 | _=>none
def alK (z:List AV)(h:aA)(k:AV->aA->Esc->Prop):Prop:=k (.ref h.length 0) (h++[.box z]) []
def nwK (sh:Sh)(h:aA)(k:AV->aA->Esc->Prop):Prop:=k (.own h.length 0 0 0) (h++[.row sh [] 0]) []
def mmK (h:aA)(k:AV->aA->Esc->Prop):Prop:=k (.mp h.length) (h++[.amap [] 0]) []
def ev3 (ev:Opd->AV):List (Nat×Nat×Opd)->List (Nat×Nat×AV)
 | []=>[]
 | (a,b,x)::r=>(a,b,ev x)::ev3 ev r
def ev2 (ev:Opd->AV):List (Nat×Opd)->List (Nat×AV)
 | []=>[]
 | (a,x)::r=>(a,ev x)::ev2 ev r
def evO (ev:Opd->AV):Option Opd->Option AV
 | none=>none
 | some x=>some (ev x)
def ev1 (ev:Opd->AV):List Opd->List AV
 | []=>[]
 | x::r=>ev x::ev1 ev r
def opN (o:AO)(ev:Opd->AV)(h:aA)(k:AV->aA->Esc->Prop):Prop:=match o with
 | .mv x=>k (ev x) h []
 | .pick c a b=>pK (jD (ev c) (ev a) (ev b)) λv=>k v h []
 | .alloc z=>alK z h k
 | .box x=>wK (SM (ev x) h) k
 | .build z ps=>pK (jF z (ev3 ev ps)) λv=>k v h []
 | .bsl own sh n z ps=>wK (AC own sh n z (ev2 ev ps) h) k
 | .load sh a=>pK (uA sh (ev a) h) λv=>k v h []
 | .store sh a x=>wK (vB sh (ev a) (ev x) h) k
 | .nilchk x=>pK (qR (ev x)) λv=>k v h []
 | .bin op x y=>pK (CA op (ev x) (ev y)) λv=>k v h []
 | .eqa ks neg x y=>pK (TA ks neg (ev x) (ev y)) λv=>k v h []
 | .isnil n neg x=>pK (nR n neg (ev x)) λv=>k v h []
 | .mkif x=>pK (rW (ev x)) λv=>k v h []
 | .un op x=>pK (oUn op (ev x)) λv=>k v h []
 | .conv (.i c) x=>pK (jR c (ev x)) λv=>k v h []
 | .mkfn f caps=>k (.fn f (ev1 ev caps)) h []
 | .slice sh x lo hi mx=>pK (UM sh (ev x) (evO ev lo) (evO ev hi) (evO ev mx) h) λv=>k v h []
 | .slstr x lo hi=>pK (rR (ev x) (evO ev lo) (evO ev hi)) λv=>k v h []
 | .mksl sh z len cap=>wK (sW sh z (ev len) (ev cap) h) k
 | .faddr off sh x=>pK (RA off sh (ev x)) λv=>k v h []
 | .field off sh x=>pK (kR off sh (ev x)) λv=>k v h []
 | .iaddr sh x i=>pK (OF sh (ev x) (ev i) h) λv=>k v h []
 | .iaddra n sh x i=>pK (lR n sh (ev x) (ev i)) λv=>k v h []
 | .idxa n sh x i=>pK (mR n sh (ev x) (ev i)) λv=>k v h []
 | .idxs x i=>pK (TM (ev x) (ev i)) λv=>k v h []
 | .ext x i=>pK (oC (ev x) i) λv=>k v h []
 | .len x=>pK (jJ (ev x)) λv=>k v h []
 | .lens x=>pK (pR (ev x)) λv=>k v h []
 | .app sh s x=>wK (iR sh (ev s) (ev x) h) k
 | .copy sh d s=>wK (oW sh (ev d) (ev s) h) k
 | .uns m t xs=>wK (qI m t (ev1 ev xs) h) k
 | .clr sh z x=>wK (oClr sh z (ev x) h) k
 | .mx xs=>pK (oMx (ev1 ev xs)) λv=>k v h []
 | .mn xs=>pK (oMn (ev1 ev xs)) λv=>k v h []
 | .new0 sh=>nwK sh h k
 | .conv .s2b x=>wK (LF .s2b (ev x) h) k
 | .conv .b2s x=>wK (LF .b2s (ev x) h) k
 | .conv .r2s x=>wK (LF .r2s (ev x) h) k
 | .conv .same x=>wK (LF .same (ev x) h) k
 | .mkmap=>mmK h k
 | .look kk ok z x key=>pK (UA kk ok z (ev x) (ev key) h) λv=>k v h []
 | .mupd kk m key x=>wK (ZA kk (ev m) (ev key) (ev x) h) k
 | .ment kk z m key=>wK (qW kk z (ev m) (ev key) h) k
 | .estore m s x=>wK (pW (ev m) (ev s) (ev x) h) k
 | .mdel kk m key=>wK (CB kk (ev m) (ev key) h) k
 | .lenm x=>pK (oR (ev x) h) λv=>k v h []
 | .mrange x=>wK (WB (ev x) h) k
 | .mentry i=>wK (ZB (ev i) h) k
 | .call _ _ | .callv _ _ | .mnext _ _=>False
theorem zeF {o:Option (AV × aA × Esc)}{k:AV->aA->Esc->Prop}:LK o k=wK o k:=rfl
theorem rH {o:Option AV}{h:aA}{k:AV->aA->Esc->Prop}:wK (o.map λv=>(v,h,[])) k=pK o λv=>k v h []:=by cases o <;> rfl
theorem zbd (ev:Opd->AV):∀(ps:List (Nat×Nat×Opd)) (z:List AV),YH ev ps z=FQ (ev3 ev ps) z
 | [],z=>rfl
 | (off,n,x)::r,z=>by
  simp only[YH,ev3,FQ];cases (ev x).cells with
  | none=>rfl
  | some vs=>simp only[zbd ev r]
theorem zbe (ev:Opd->AV)(sh:Sh):∀(ps:List (Nat×Opd)) (h:aA) (z:List PV),ZH ev sh ps h z=GQ sh (ev2 ev ps) h z
 | [],h,z=>rfl
 | (i,x)::r,h,z=>by
  simp only[ZH,ev2,GQ];cases pur h (ev x) with
  | none=>rfl
  | some y=>simp only[zbe ev sh r]
theorem z9A (ev:Opd->AV)(d:Nat)(o:Option Opd):bnd ev d o=pE d (evO ev o):=by cases o <;> rfl
theorem zod (ev:Opd->AV)(o:Option Opd):(evO ev o).isSome=o.isSome:=by cases o <;> rfl
theorem PH (ev:Opd->AV)(l:List Opd):l.map ev=ev1 ev l:=by
 induction l with
 | nil=>rfl
 | cons x r ih=>simp only[List.map_cons,ev1,ih]
theorem zfW (sh:Sh)(ev:Opd->AV)(h:aA)(x:AV)(lo hi mx:Option Opd):asl sh ev h x lo hi mx=UM sh x (evO ev lo) (evO ev hi) (evO ev mx) h:=by
 unfold asl UM;simp only[z9A,zod];rfl
theorem mP {p:Prop}[Decidable p]{a:AV}{h:aA}{k:AV->aA->Esc->Prop}:wK (if p then some (a,h,[]) else none) k=pK (if p then some a else none) λv=>k v h []:=by split <;> rfl
theorem XG {α:Type}{o:Option α}{f:α->AV}{h:aA}{k:AV->aA->Esc->Prop}:wK (o.map λv=>(f v,h,[])) k=pK (o.map f) λv=>k v h []:=by cases o <;> rfl
theorem lS {α:Type}{p:Prop}[Decidable p]{o:Option α}{f:α->AV}{h:aA}{k:AV->aA->Esc->Prop}:wK (if p then o.map (λv=>(f v,h,[])) else none) k=pK (if p then o.map f else none) λv=>k v h []:=by
 split
 ·exact XG
 ·rfl
theorem zcO {o:AO}(hp:o.plain=true){ev:Opd->AV}{h:aA}{k:AV->aA->Esc->Prop}:LK (aop o ev h) k=opN o ev h k:=by
 rw[zeF];cases o <;> first|(cases hp;done)|skip
 case mv=>rfl
 case pick c a b=>
  simp only[aop,opN,jD];generalize ev c=v;cases v <;> try rfl
  rename_i p;cases p <;> rfl
 case alloc=>rfl
 case box=>rfl
 case build z ps=>simp only[aop,opN];rw[<-rH,jF,zbd,Option.map_map];rfl
 case bsl=>simp only[aop,opN,AC,zbe];rfl
 case load sh a=>
  simp only[aop,opN,uA];generalize ev a=v;cases v with
  | ref id off=>dsimp only;cases h[id]? with
   | none=>rfl
   | some o=>cases o <;> first|rfl|exact rH
  | rref id g i off=>dsimp only;cases h[id]? with
   | none=>rfl
   | some o=>cases o <;> first|rfl|exact lS
  | vp v=>exact XG
  | p v=>cases v <;> rfl
  | bt _ _ _ _=>exact rH
  | _=>rfl
 case store=>simp only[aop,opN];rfl
 case nilchk x=>
  simp only[aop,opN,qR];generalize ev x=v;cases v <;> try rfl
  exact rH
 case bin op x y=>
  simp only[aop,opN,CA];generalize ev x=v;generalize ev y=u;cases v <;> try rfl
  cases u <;> try rfl
  exact XG
 case eqa ks neg x y=>
  simp only[aop,opN,TA];generalize ev x=v;generalize ev y=u;cases v <;> try rfl
  rename_i p;cases p <;> try rfl
  all_goals (cases u <;> try rfl)
  all_goals (rename_i q;cases q <;> try rfl)
  ·exact mP
  ·exact lS
 case isnil k neg p=>
  simp only[aop,opN,nR];cases iJ k (ev p) with
  | true=>rfl
  | false=>exact XG
 case mkif=>exact mP
 case un op x=>
  simp only[aop,opN,oUn];generalize ev x=v;cases v <;> try rfl
  exact XG
 case conv c x=>
  cases c;case i k'=>
   simp only[aop,opN,jR,bH];generalize ev x=v;cases v <;> try rfl
   rename_i p;cases p <;> rfl
  all_goals rfl
 case mkfn f caps=>simp only[aop,opN,PH];rfl
 case slice=>simp only[aop,opN,zfW];exact rH
 case slstr x lo hi=>
  simp only[aop,opN,rR,z9A];generalize ev x=v;cases v <;> try rfl
  rename_i p;cases p <;> try rfl
  rename_i s;dsimp only;generalize pE 0 _=o1;generalize pE s.length _=o2;cases o1 <;> try rfl
  cases o2 <;> try rfl
  exact mP
 case mksl=>simp only[aop,opN];rfl
 case faddr off sh x=>
  simp only[aop,opN,RA];generalize ev x=v;cases v <;> try rfl
  ·exact XG
  ·exact rH
 case field off sh x=>
  simp only[aop,opN,kR];generalize ev x=v;cases v <;> try rfl
  ·rename_i p;cases p <;> try rfl
   exact XG
  ·exact rH
 case iaddr sh x i=>
  simp only[aop,opN,OF];generalize ev x=v;generalize GB (ev i)=n;cases v <;> try rfl
  ·rename_i p;cases p <;> try rfl
   cases n <;> try rfl
   exact lS
  ·cases n <;> try rfl
   rename_i id g off len k;dsimp only;cases h[id]? with
   | none=>rfl
   | some o=>cases o <;> first|rfl|exact mP
  ·cases n <;> try rfl
   exact rH
 case iaddra m sh x i=>
  simp only[aop,opN,lR];generalize ev x=v;generalize GB (ev i)=n;cases v <;> try rfl
  all_goals (cases n <;> try rfl)
  ·exact mP
  ·exact mP
  ·exact lS
 case idxa m sh x i=>
  simp only[aop,opN,mR];generalize ev x=v;generalize GB (ev i)=n;cases v <;> try rfl
  rename_i p;cases p <;> try rfl
  cases n <;> try rfl
  exact lS
 case idxs x i=>
  simp only[aop,opN,TM];generalize ev x=v;generalize GB (ev i)=n;cases v <;> try rfl
  rename_i p;cases p <;> try rfl
  cases n <;> try rfl
  exact XG
 case ext x i=>
  simp only[aop,opN,oC];generalize ev x=v;cases v <;> try rfl
  exact rH
 case len x=>
  simp only[aop,opN,jJ];generalize ev x=v;cases v <;> try rfl
  ·rename_i p;cases p <;> rfl
  ·exact rH
 case lens x=>
  simp only[aop,opN,pR];generalize ev x=v;cases v <;> try rfl
  rename_i p;cases p <;> rfl
 case app=>simp only[aop,opN];rfl
 case copy=>simp only[aop,opN];rfl
 case uns=>simp only[aop,opN,PH,zeF]
 case clr=>simp only[aop,opN];rfl
 case mx xs=>
  simp only[aop,opN,PH,oMx];generalize ev1 ev xs=l;cases l <;> try rfl
  rename_i v r;cases v <;> try rfl
  exact XG
 case mn xs=>
  simp only[aop,opN,PH,oMn];generalize ev1 ev xs=l;cases l <;> try rfl
  rename_i v r;cases v <;> try rfl
  exact XG
 case new0=>rfl
 case look kk ok z x key=>
  simp only[aop,opN,UA];cases cD kk (ev key) <;> try rfl
  rename_i kk;generalize ev x=v;cases v <;> try rfl
  rename_i id;dsimp only;cases mC h (.mp id) <;> try rfl
  rename_i y;dsimp only[Option.map_some];cases QC kk y.2.1 <;> rfl
 case lenm x=>
  simp only[aop,opN,oR];generalize ev x=v;cases v <;> try rfl
  exact XG
 all_goals rfl
section
def gV (v:AV)(b:Bool)(h:aA)(A:(AV->aA->Esc->Prop)->Prop)(k:AV->aA->Esc->Prop):Prop:=mF v b (A k) (k .skp h [])
def gP (v:AV)(b:Bool)(o:Option AV)(h:aA)(k:AV->aA->Esc->Prop):Prop:=gV v b h (λk=>pK o λu=>k u h []) k
def gM (v:AV)(b:Bool)(u:AV)(h:aA)(k:AV->aA->Esc->Prop):Prop:=gV v b h (λk=>k u h []) k
def upB (b:Bool):Bool:=(λ(_:AV->Bool->Option AV->aA->(AV->aA->Esc->Prop)->Prop)=>b) gP
def gK (g:Option (Nat × Bool))(e:List (Nat × AV))(h:aA)(A:(AV->aA->Esc->Prop)->Prop)(k:AV->aA->Esc->Prop):Prop:=match g with
 | none=>A k
 | some (t,b)=>gV (bA e t) b h A k
def opC (C:Hd)(o:AO)(ev:Opd->AV)(h:aA)(k:AV->aA->Esc->Prop):Prop:=match o with
 | .call f args=>C f (ev1 ev args) h k
 | .callv f args=>GI C (ev f) (ev1 ev args) h k
 | .mnext sh xs=>match BT h sh (ev1 ev xs) with
  | some l=>l≠[]/\∀y∈l,k y.1 y.2 []
  | none=>False
 | o=>opN o ev h k
def XF (C:Hd)(gl:Nat->Option PV):List AOp->List (Nat×AV)->aA->Esc->(List (Nat×AV)->aA->Esc->Prop)->Prop
 | [],e,h,x,L=>L e h x
 | o::r,e,h,x,L=>gK o.guard e h (opC C o.op (Opd.ev gl e) h) λv h' x'=>XF C gl r (put o.dst v e) h' (x'++x) L
variable {C:Hd} {gl:Nat->Option PV}
theorem zcM {o:AO}{d:Option Nat}{r:List AOp}{e:List (Nat × AV)}{h:aA}{x:Esc}{L:List (Nat × AV)->aA->Esc->Prop} :
 lB C gl (⟨d,none,o⟩::r) e h x L=opC C o (Opd.ev gl e) h (wL C gl r d e x L):=by
 cases hp:o.plain with
 | true=>
  rw[zeX hp,zcO hp];cases o <;> first|rfl|cases hp
 | false=>
  cases o <;> first|(cases hp;done)|skip
  all_goals first
   | (rw[z85,PH];rfl)
   | (rw[z86,PH];rfl)
   | (unfold lB opC;simp only[wanted,PH];rfl)
theorem z8K:∀ (ops:List AOp)(e:List (Nat × AV))(h:aA)(x:Esc)(L:List (Nat × AV)->aA->Esc->Prop),lB C gl ops e h x L=XF C gl ops e h x L
 | [],e,h,x,L=>rfl
 | ⟨d,g,o⟩::r,e,h,x,L=>by
  have ih:(λ(v:AV) (h':aA) (x':Esc)=>XF C gl r (put d v e) h' (x'++x) L)=wL C gl r d e x L:=by
   funext v h' x';rw[<-z8K r];rfl
  show _=gK g e h (opC C o (Opd.ev gl e) h) λv h' x'=>XF C gl r (put d v e) h' (x'++x) L
  rw[ih];cases g with
  | none=>exact zcM
  | some tb=>
   obtain⟨t,b⟩:=tb;rw[z88,zcM];rfl
def opE (C:Hd)(o:AO)(ev:Opd->AV)(h:aA)(k:AV->aA->Esc->Prop):Prop:=match o with
 | .call f args=>uD C f (ev1 ev args) h k
 | .callv f args=>qL C (ev f) (ev1 ev args) h k
 | .mnext _ _=>False
 | o=>opN o ev h k
def OI (still eff:Bool)(h h':aA)(y:Esc)(Q:Prop):Prop:=match upB eff with
 | true=>Q
 | false=>match still with
  | true=>Q
  | false=>(h'=h/\y=[])/\Q
def UK (C:Hd)(gl:Nat->Option PV)(q:AOp × List (Nat × AV) × AV)(g:aA):Prop:=
 gK q.1.guard q.2.1 g (opE C q.1.op (Opd.ev gl q.2.1) g) λv1 h1 x1=>v1=q.2.2/\h1=g/\x1=[]
def zF (C:Hd)(gl:Nat->Option PV)(h:aA)(dn:sD)(Q:Prop):List Nat->Prop
 | []=>Q
 | j::r=>(match dn[j]? with|some q=>UK C gl q h|none=>False)/\zF C gl h dn Q r
def GF (C:Hd)(gl:Nat->Option PV)(o:AOp)(e:List (Nat × AV))(v:AV)(hs:List aA)(Q:Prop):List Nat->Prop
 | []=>Q
 | k::r=>(match hs[k]? with|some g=>UK C gl (o,e,v) g|none=>False)/\GF C gl o e v hs Q r
def qF (C:Hd)(gl:Nat->Option PV):List DOp->sD->List aA->List (Nat×AV)->aA->Esc->(List (Nat×AV)->aA->Esc->Prop)->Prop
 | [],_,_,e,h,x,L=>L e h x
 | o::r,dn,hs,e,h,x,L=>gK o.op.guard (IA (some o.rd) e) h (opE C o.op.op (Opd.ev gl (IA (some o.rd) e)) h) λv h' y=>
  OI o.op.op.still o.eff h h' y (GF C gl o.op (IA (some o.rd) e) v hs (zF C gl h' dn (qF C gl r (dn++[(o.op,IA (some o.rd) e,v)]) (hs++[h]) (put o.op.dst v e) h' (y++x) L) o.again) o.early)
theorem zcN {o:AO}{d:Option Nat}{e:List (Nat × AV)}{h:aA}{R:AV->aA->Esc->Prop}:doK C gl ⟨d,none,o⟩ e h R=opE C o (Opd.ev gl e) h R:=by
 cases hp:o.plain with
 | true=>
  rw[ziQ hp,zcO hp];cases o <;> first|rfl|cases hp
 | false=>
  cases o <;> first|(cases hp;done)|skip
  all_goals first
   | (rw[zax,PH];rfl)
   | (rw[zay,PH];rfl)
   | (unfold doK ADo opE;simp [wanted])
theorem zb1 {o:AOp}{e:List (Nat × AV)}{h:aA}{R:AV->aA->Esc->Prop}:doK C gl o e h R=gK o.guard e h (opE C o.op (Opd.ev gl e) h) R:=by
 obtain⟨d,g,op⟩:=o;cases g with
 | none=>exact zcN
 | some tb=>
  obtain⟨t,b⟩:=tb;rw[zaz,zcN];rfl
theorem zdX {q:AOp × List (Nat × AV) × AV}{g:aA}:doS C gl q g=UK C gl q g:=by
 obtain⟨⟨d,gd,op⟩,e,v⟩:=q;rw[za1,zb1];rfl
theorem z9s {h:aA}{dn:sD}{Q:Prop}:∀{l:List Nat},zF C gl h dn Q l=(agK C gl h dn l/\Q)
 | []=>by simp [zF,agK]
 | j::r=>by
  unfold zF agK;rw[z9s (l:=r)];cases dn[j]? with
  | none=>simp
  | some q=>simp only[zdX,and_assoc]
theorem za9 {o:AOp}{e:List (Nat × AV)}{v:AV}{hs:List aA}{Q:Prop}:∀{l:List Nat},GF C gl o e v hs Q l=(eaK C gl o e v hs l/\Q)
 | []=>by simp [GF,eaK]
 | j::r=>by
  unfold GF eaK;rw[za9 (l:=r)];cases hs[j]? with
  | none=>simp
  | some q=>simp only[zdX,and_assoc]
theorem ziR {o:AOp}(hs:o.op.still=true){e:List (Nat × AV)}{h:aA}{R:AV->aA->Esc->Prop}:doK C gl o e h (λv h' y=>(h'=h/\y=[])/\R v h' y)=doK C gl o e h R:=by
 unfold doK;refine propext ⟨λ⟨v,h',y,H,_,r⟩=>⟨v,h',y,H,r⟩,λ⟨v,h',y,H,r⟩=>⟨v,h',y,H,zeU hs H,r⟩⟩
theorem z8J:∀ (ds:List DOp)(dn:sD)(hs:List aA)(e:List (Nat × AV))(h:aA)(x:Esc)(L:List (Nat × AV)->aA->Esc->Prop),QD C gl ds dn hs e h x L=qF C gl ds dn hs e h x L
 | [],dn,hs,e,h,x,L=>rfl
 | ⟨o,rd,eff,early,again⟩::r,dn,hs,e,h,x,L=>by
  rw[z81];show _=gK o.guard (IA (some rd) e) h (opE C o.op (Opd.ev gl (IA (some rd) e)) h) λv h' y=>
   OI o.op.still eff h h' y (GF C gl o (IA (some rd) e) v hs (zF C gl h' dn (qF C gl r (dn++[(o,IA (some rd) e,v)]) (hs++[h]) (put o.dst v e) h' (y++x) L) again) early)
  rw[<-zb1];have e1:wV C gl ⟨o,rd,eff,early,again⟩ r dn hs e h x L=λv h' y=>(effK eff h h' y/\GF C gl o (IA (some rd) e) v hs (zF C gl h' dn (qF C gl r (dn++[(o,IA (some rd) e,v)]) (hs++[h]) (put o.dst v e) h' (y++x) L) again) early):=by
   funext v h' y
   rw[za6,za9,z9s,<-z8J r]
  rw[e1];cases eff with
  | true=>
   congr 1;funext v h' y
   simp [effK,OI,upB]
  | false=>
   cases hs':o.op.still with
   | true=>
    have:=ziR (C:=C) (gl:=gl) (o:=o) hs' (e:=IA (some rd) e) (h:=h) (R:=λv h' y=>GF C gl o (IA (some rd) e) v hs (zF C gl h' dn (qF C gl r (dn++[(o,IA (some rd) e,v)]) (hs++[h]) (put o.dst v e) h' (y++x) L) again) early)
    exact this
   | false=>rfl
def NW (C:Hd)(gl:Nat->Option PV):ACode->St->(Ex->St->Prop)->Prop
 | .skip,s,K=>K .normal s
 | .reg ops keep,s,K=>XF C gl ops s.env s.h s.esc λe h x=>K .normal ⟨IA keep e,h,x⟩
 | .draw ds keep,s,K=>qF C gl ds [] [] s.env s.h s.esc λe h x=>K .normal ⟨IA keep e,h,x⟩
 | .seq a b,s,K=>NW C gl a s λe s'=>match e with
  | .normal=>NW C gl b s' K
  | .exit i=>K (.exit i) s'
  | .ret=>K .ret s'
 | .cond c a b,s,K=>BB (Opd.ev gl s.env c) (NW C gl a s K) (NW C gl b s K)
 | .condu c a b,s,K=>BP (Opd.ev gl s.env c) (NW C gl a s K) (NW C gl b s K)
 | .det b,s,K=>NW C gl b s K
 | .block id b,s,K=>NW C gl b s λe s'=>match e with
  | .normal=>K .normal s'
  | .exit i=>bif Nat.beq i id then K .normal s' else K (.exit i) s'
  | .ret=>K .ret s'
 | .loop b,s,K=>ALoop (NW C gl b) K s
 | .scope b,s,K=>NW C gl b ⟨s.env,s.h,[]⟩ λe s'=>K e (GE s.h.length s.esc s')
 | .pr l b,s,K=>NW C gl b ⟨IA (some l) s.env,s.h,s.esc⟩ K
 | .exit id,s,K=>K (.exit id) s
 | .ret,s,K=>K .ret s
 | .bad,_,_=>False
theorem NE:∀ (c:ACode)(s:St)(K:Ex->St->Prop),AW C gl c s K=NW C gl c s K
 | .skip,s,K=>rfl
 | .reg ops keep,s,K=>z8K _ _ _ _ _
 | .draw ds keep,s,K=>z8J _ _ _ _ _ _ _
 | .seq a b,s,K=>by
  unfold AW NW;rw[NE a];congr 1;funext e s'
  cases e with
  | normal=>exact NE b s' K
  | _=>rfl
 | .cond c a b,s,K=>by
  unfold AW NW BB;rw[<-NE a,<-NE b];rfl
 | .condu c a b,s,K=>by
  unfold AW NW BP;rw[<-NE a,<-NE b];rfl
 | .det b,s,K=>NE b s K
 | .block id b,s,K=>by
  unfold AW NW;rw[NE b];congr 1;funext e s'
  cases e with
  | exit i=>
   dsimp only;by_cases hi:i=id
   ·subst hi;simp
   ·rw[if_neg hi]
    have:Nat.beq i id=false:=by cases h:Nat.beq i id with|false=>rfl|true=>exact absurd (Nat.eq_of_beq_eq_true h) hi
    rw[this];rfl
  | _=>rfl
 | .loop b,s,K=>by
  show ALoop (AW C gl b) K s=ALoop (NW C gl b) K s
  rw[show AW C gl b=NW C gl b from funext λs=>funext λK=>NE b s K]
 | .scope b,s,K=>NE b _ _
 | .pr l b,s,K=>NE b _ _
 | .exit id,s,K=>rfl
 | .ret,s,K=>rfl
 | .bad,s,K=>rfl
end
end Go.Am
