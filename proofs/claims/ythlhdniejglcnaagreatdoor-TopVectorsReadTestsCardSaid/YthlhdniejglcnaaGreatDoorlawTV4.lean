/- Texts of the proof, laid together: Am26, Am27, Am28, Am29, Am30, Am31, AmX, AmS, AmW. -/
import GoSem.Extern.Table
import Derived.Laws.World
import Derived.Test.YthlhdniejglcnaaGreatDoorlawTV3
set_option linter.all false
section
/- The abstract machine,part 26: GB calls are computed. -/
set_option linter.unusedSimpArgs false
set_option linter.unusedVariables false
namespace Go.Am
mutual
def PV.same:PV→PV→Bool
 | .int k a,.int k' b=>decide (k=k')&&decide (a=b)
 | .bool a,.bool b=>decide (a=b)
 | .str a,.str b=>decide (a=b)
 | .sl s xs,.sl t ys=>decide (s=t)&&PV.sames xs ys
 | .agg xs,.agg ys=>PV.sames xs ys
 | .nilp,.nilp=>true
 | _,_=>false
def PV.sames:List PV→List PV→Bool
 | [],[]=>true
 | a::asv,b::bs=>PV.same a b&&PV.sames asv bs
 | _,_=>false
end
mutual
theorem PV.same_eq:∀ (a b:PV),PV.same a b=true→a=b
 | .int k a,b,h=>by
  cases b <;> simp [PV.same]at h
  obtain⟨h1,h2⟩:=h;subst h1;subst h2;rfl
 | .bool a,b,h=>by cases b <;> simp [PV.same]at h;subst h;rfl
 | .str a,b,h=>by cases b <;> simp [PV.same]at h;subst h;rfl
 | .sl s xs,b,h=>by
  cases b <;> simp [PV.same]at h
  obtain⟨h1,h2⟩:=h;subst h1;rw[PV.sames_eq _ _ h2]
 | .agg xs,b,h=>by
  cases b <;> simp [PV.same]at h
  rw[PV.sames_eq _ _ h]
 | .nilp,b,h=>by cases b <;> simp [PV.same]at h;rfl
theorem PV.sames_eq:∀ (a b:List PV),PV.sames a b=true→a=b
 | [],b,h=>by cases b <;> simp [PV.sames]at h;rfl
 | x::xs,b,h=>by
  cases b <;> simp [PV.sames]at h
  rw[PV.same_eq _ _ h.1,PV.sames_eq _ _ h.2]
end
mutual
def AV.same:AV→AV→Bool
 | .p a,.p b=>PV.same a b
 | .own a b c d,.own a' b' c' d'=>decide (a=a')&&decide (b=b')&&decide (c=c')&&decide (d=d')
 | .sl0 a,.sl0 b=>decide (a=b)
 | .ref a b,.ref a' b'=>decide (a=a')&&decide (b=b')
 | .rref a b c d,.rref a' b' c' d'=>decide (a=a')&&decide (b=b')&&decide (c=c')&&decide (d=d')
 | .vp a,.vp b=>PV.same a b
 | .nilp,.nilp=>true
 | .nilm,.nilm=>true
 | .nilf,.nilf=>true
 | .nili,.nili=>true
 | .ifc,.ifc=>true
 | .mp a,.mp b=>decide (a=b)
 | .it a,.it b=>decide (a=b)
 | .fn a b,.fn a' b'=>decide (a=a')&&AV.sames b b'
 | .agg a,.agg b=>AV.sames a b
 | .tup a,.tup b=>AV.sames a b
 | .anyb,.anyb=>true
 | .skp,.skp=>true
 | .und,.und=>true
 | .anyp,.anyp=>true
 | .bt a b c d,.bt a' b' c' d'=>decide (a=a')&&decide (b=b')&&decide (c=c')&&decide (d=d')
 | _,_=>false
def AV.sames:List AV→List AV→Bool
 | [],[]=>true
 | a::asv,b::bs=>AV.same a b&&AV.sames asv bs
 | _,_=>false
end
mutual
theorem AV.same_eq:∀ (a b:AV),AV.same a b=true→a=b
 | .p a,b,h=>by cases b <;> simp [AV.same]at h;rw[PV.same_eq _ _ h]
 | .own _ _ _ _,b,h=>by cases b <;> simp [AV.same]at h;simp [h]
 | .sl0 _,b,h=>by cases b <;> simp [AV.same]at h;simp [h]
 | .ref _ _,b,h=>by cases b <;> simp [AV.same]at h;simp [h]
 | .rref _ _ _ _,b,h=>by cases b <;> simp [AV.same]at h;simp [h]
 | .vp a,b,h=>by cases b <;> simp [AV.same]at h;rw[PV.same_eq _ _ h]
 | .nilp,b,h=>by cases b <;> simp [AV.same]at h;rfl
 | .nilm,b,h=>by cases b <;> simp [AV.same]at h;rfl
 | .nilf,b,h=>by cases b <;> simp [AV.same]at h;rfl
 | .nili,b,h=>by cases b <;> simp [AV.same]at h;rfl
 | .ifc,b,h=>by cases b <;> simp [AV.same]at h;rfl
 | .mp _,b,h=>by cases b <;> simp [AV.same]at h;simp [h]
 | .it _,b,h=>by cases b <;> simp [AV.same]at h;simp [h]
 | .fn _ cs,b,h=>by cases b <;> simp [AV.same]at h;rw[h.1,AV.sames_eq _ _ h.2]
 | .agg cs,b,h=>by cases b <;> simp [AV.same]at h;rw[AV.sames_eq _ _ h]
 | .tup cs,b,h=>by cases b <;> simp [AV.same]at h;rw[AV.sames_eq _ _ h]
 | .anyb,b,h=>by cases b <;> simp [AV.same]at h;rfl
 | .skp,b,h=>by cases b <;> simp [AV.same]at h;rfl
 | .und,b,h=>by cases b <;> simp [AV.same]at h;rfl
 | .anyp,b,h=>by cases b <;> simp [AV.same]at h;rfl
 | .bt _ _ _ _,b,h=>by cases b <;> simp [AV.same]at h;simp [h]
theorem AV.sames_eq:∀ (a b:List AV),AV.sames a b=true→a=b
 | [],b,h=>by cases b <;> simp [AV.sames]at h;rfl
 | x::xs,b,h=>by
  cases b <;> simp [AV.sames]at h
  rw[AV.same_eq _ _ h.1,AV.sames_eq _ _ h.2]
end
abbrev EvC:=Nat→List AV→aA→Option (AV × aA × Esc)
def NI (C:EvC)(gl:Nat→Option PV)(o:AOp)(e:List (Nat × AV))(h:aA):Option (AV×aA×Esc):=match wanted o.guard e with
 | some true=>match o.op with
  | .call f args=>C f (args.map (Opd.ev gl e)) h
  | .callv f args=>match Opd.ev gl e f with
   | .fn g caps=>C g (args.map (Opd.ev gl e)++caps) h
   | _=>none
  | .mnext _ _=>none
  | op=>aop op (Opd.ev gl e) h
 | some false=>some (.skp,h,[])
 | none=>none
def z0e (gl:Nat→Option PV)(o:AOp)(e:List (Nat × AV))(h:aA):Option (AV×aA):=match o.op with
 | .mnext sh xs=>match wanted o.guard e with
  | some true=>match mH h sh (xs.map (Opd.ev gl e)) with
   | some [y]=>some y
   | _=>none
  | _=>none
 | _=>none
def OI (C:EvC)(gl:Nat→Option PV):List AOp→List (Nat×AV)→aA→Esc→Option (List (Nat×AV)×aA×Esc)
 | [],e,h,x=>some (e,h,x)
 | o::r,e,h,x=>match NI C gl o e h with
  | some (v,h',x')=>OI C gl r (put o.dst v e) h' (x'++x)
  | none=>match z0e gl o e h with
   | some (v,h')=>OI C gl r (put o.dst v e) h' x
   | none=>none
def AO.still:AO→Bool
 | .mv _ | .pick _ _ _ | .build _ _ | .load _ _ | .nilchk _ | .bin _ _ _ | .eqa _ _ _ _ | .isnil _ _ _ | .mkif _ | .un _ _ | .mkfn _ _ | .slice _ _ _ _ _ | .slstr _ _ _ | .faddr _ _ _ | .field _ _ _ | .iaddr _ _ _
 | .iaddra _ _ _ _ | .idxa _ _ _ _ | .idxs _ _ | .look _ _ _ _ _ | .ext _ _ | .len _ | .lens _ | .lenm _ | .mx _ | .mn _=>true
 | _=>false
def AO.still2:AO→Bool
 | .conv (.i _) _=>true
 | o=>o.still
def ME.same (a b:ME):Bool:=PV.same a.key b.key&&AV.same a.val b.val&&decide (a.born=b.born)
def MEs.same:List ME→List ME→Bool
 | [],[]=>true
 | a::asv,b::bs=>ME.same a b&&MEs.same asv bs
 | _,_=>false
def Obj.same:Obj→Obj→Bool
 | .box a,.box b=>AV.sames a b
 | .row a b c,.row a' b' c'=>decide (a=a')&&PV.sames b b'&&decide (c=c')
 | .amap a b,.amap a' b'=>MEs.same a a'&&decide (b=b')
 | .iter a b c d,.iter a' b' c' d'=>decide (a=a')&&decide (b=b')&&decide (c=c')&&decide (d=d')
 | _,_=>false
def aA.same:List Obj→List Obj→Bool
 | [],[]=>true
 | a::asv,b::bs=>Obj.same a b&&aA.same asv bs
 | _,_=>false
theorem ME.same_eq {a b:ME}(h:ME.same a b=true):a=b:=by
 cases a;cases b
 simp only[ME.same,Bool.and_eq_true,decide_eq_true_eq]at h;obtain⟨⟨h1,h2⟩,h3⟩:=h;rw[PV.same_eq _ _ h1,AV.same_eq _ _ h2,h3]
theorem MEs.same_eq:∀ {a b:List ME},MEs.same a b=true→a=b
 | [],[],_=>rfl
 | [],_::_,h=>by simp [MEs.same]at h
 | _::_,[],h=>by simp [MEs.same]at h
 | a::asv,b::bs,h=>by
  simp only[MEs.same,Bool.and_eq_true]at h;rw[ME.same_eq h.1,MEs.same_eq h.2]
theorem Obj.same_eq {a b:Obj}(h:Obj.same a b=true):a=b:=by
 cases a <;> cases b <;> simp only[Obj.same,Bool.and_eq_true,decide_eq_true_eq]at h <;> first
  | (cases h;done)
  | (rw[AV.sames_eq _ _ h])
  | (obtain⟨⟨h1,h2⟩,h3⟩:=h;rw[h1,PV.sames_eq _ _ h2,h3])
  | (obtain⟨h1,h2⟩:=h;rw[MEs.same_eq h1,h2])
  | (obtain⟨⟨⟨h1,h2⟩,h3⟩,h4⟩:=h;rw[h1,h2,h3,h4])
theorem aA.same_eq:∀ {a b:List Obj},aA.same a b=true→a=b
 | [],[],_=>rfl
 | [],_::_,h=>by simp [aA.same]at h
 | _::_,[],h=>by simp [aA.same]at h
 | a::asv,b::bs,h=>by
  simp only[aA.same,Bool.and_eq_true]at h;rw[Obj.same_eq h.1,aA.same_eq h.2]
def XO (C:EvC)(gl:Nat→Option PV)(o:AOp)(e:List (Nat × AV))(g:aA)(v:AV):Bool:=match NI C gl o e g with
 | some (v',g',y)=>AV.same v' v&&y.isEmpty&&(o.op.still2||aA.same g' g)
 | none=>false
def sL (C:EvC)(gl:Nat→Option PV):List DOp→pC→List aA→List (Nat×AV)→aA→Esc→Option (List (Nat×AV)×aA×Esc)
 | [],_,_,e,h,x=>some (e,h,x)
 | o::r,dn,hs,e,h,x=>match NI C gl o.op (xA (some o.rd) e) h with
  | some (v,h',y)=>
   if(o.eff||o.op.op.still2||y.isEmpty&&aA.same h' h)&&(o.early.all fun k=>match hs[k]? with|some g=>XO C gl o.op (xA (some o.rd) e) g v|none=>false)
    && (o.again.all fun j=>match dn[j]? with|some q=>XO C gl q.1 q.2.1 h' q.2.2|none=>false) then
    sL C gl r (dn++[(o.op,xA (some o.rd) e,v)]) (hs++[h]) (put o.op.dst v e) h' (y++x)
   else none
  | none=>none
def WO (T:St→Option (Ex × St)):Nat→St→Option (Ex×St)
 | 0,_=>none
 | n+1,s=>match T s with
  | some (.normal,s')=>WO T n s'
  | r=>r
def BB (C:EvC)(gl:Nat→Option PV)(n:Nat):ACode→St→Option (Ex×St)
 | .skip,s=>some (.normal,s)
 | .reg ops keep,s=>match OI C gl ops s.env s.h s.esc with
  | some (e,h,x)=>some (.normal,⟨xA keep e,h,x⟩)
  | none=>none
 | .draw ds keep,s=>match sL C gl ds [] [] s.env s.h s.esc with
  | some (e,h,x)=>some (.normal,⟨xA keep e,h,x⟩)
  | none=>none
 | .seq a b,s=>match BB C gl n a s with
  | some (.normal,s')=>BB C gl n b s'
  | r=>r
 | .cond c a b,s=>match Opd.ev gl s.env c with
  | .p (.bool t)=>match t with
   | true=>BB C gl n a s
   | false=>BB C gl n b s
  | _=>none
 | .det b,s=>BB C gl n b s
 | .condu c a b,s=>match Opd.ev gl s.env c with
  | .p (.bool t)=>match t with
   | true=>BB C gl n a s
   | false=>BB C gl n b s
  | _=>none
 | .block id b,s=>match BB C gl n b s with
  | some (.exit i,s')=>if i=id then some (.normal,s') else some (.exit i,s')
  | r=>r
 | .loop b,s=>WO (BB C gl n b) n s
 | .scope b,s=>match BB C gl n b ⟨s.env,s.h,[]⟩ with
  | some (e,s')=>some (e,aE s.h.length s.esc s')
  | none=>none
 | .pr l b,s=>BB C gl n b ⟨xA (some l) s.env,s.h,s.esc⟩
 | .exit id,s=>some (.exit id,s)
 | .ret,s=>some (.ret,s)
 | .bad,_=>none
def LU (F:AFun)(b:Nat)(s:St):Option (AV×aA×Esc):=match KD s F.results with
 | some vs=>match F.keep with
  | true=>
   let n:=sB s.esc.length s.esc (max b (UA vs).top)
   if GB s.esc n then some (UA vs,s.h.take n,s.esc.filter fun y=>decide (y.1<n)) else some (UA vs,s.h,s.esc)
  | false=>match QA b s.h (UA vs) with
   | some v0=>
    let n:=sB s.esc.length s.esc (max b v0.top)
    if GB s.esc n then match QA n s.h (UA vs) with
     | some v=>if v.top≤n then some (v,s.h.take n,s.esc.filter fun y=>decide (y.1<n)) else none
     | none=>none
    else some (UA vs,s.h,s.esc)
   | none=>none
 | none=>none
def JU (C:EvC)(gl:Nat→Option PV)(n:Nat)(F:AFun)(args:List AV)(h:aA):Option (AV×aA×Esc):=
 match (if F.byref then some (args,h) else qA h args) with
 | some (asv,h1)=>if asv.length=F.nparams then match BB C gl n F.body ⟨enter asv,h1,[]⟩ with
  | some (.exit _,_)=>none
  | some (_,s)=>LU F h.length s
  | none=>none
  else none
 | none=>none
def YG (C':EvC)(C:Hd):Prop:=∀f a h v h' x (K:kA),C' f a h=some (v,h',x)→K v h' x→C f a h K
variable {C':EvC} {C:Hd} {gl:Nat→Option PV}
theorem z0a (hC:YG C' C){o:AOp}{e:List (Nat × AV)}{h h':aA}{v:AV}{x:Esc}(H:NI C' gl o e h=some (v,h',x)):ADo C gl o e h v h' x:=by
 unfold NI at H;unfold ADo;split at H
 ·rename_i hw
  simp only[hw];obtain⟨dst,guard,op⟩:=o;cases op;case call f args=>exact hC _ _ _ _ _ _ _ H ⟨rfl,rfl,rfl⟩
  case callv f args=>
   dsimp only at H ⊢;split at H
   ·rename_i hf
    simp only[hf];exact hC _ _ _ _ _ _ _ H ⟨rfl,rfl,rfl⟩
   ·cases H
  case mnext sh xs=>cases H
  all_goals exact H
 ·rename_i hw
  simp only[hw];injection H with H
  injection H with h1 H
  injection H with h2 h3
  exact⟨h1.symm,h2.symm,h3.symm⟩
 ·cases H
theorem MU (hC:YG C' C):∀(ops:List AOp) e h x e' h' x' (K:List (Nat×AV)→aA→Esc→Prop),OI C' gl ops e h x=some (e',h',x')→K e' h' x'→JA C gl ops e h x K
 | [],e,h,x,e',h',x',K,H,hK=>by
  simp only[OI,Option.some.injEq,Prod.mk.injEq]at H;obtain⟨rfl,rfl,rfl⟩:=H;exact hK
 | o::r,e,h,x,e',h',x',K,H,hK=>by
  unfold OI at H;split at H
  ·rename_i v h1 x1 hd
   have ih:=MU hC r _ _ _ _ _ _ K H hK
   unfold NI at hd;unfold JA;split at hd
   ·rename_i hw
    simp only[hw];obtain⟨dst,guard,op⟩:=o;cases op;case call f args=>exact hC _ _ _ _ _ _ _ hd ih
    case callv f args=>
     dsimp only at hd ⊢;split at hd
     ·rename_i hf
      simp only[hf];exact hC _ _ _ _ _ _ _ hd ih
     ·cases hd
    case mnext sh xs=>cases hd
    all_goals
     dsimp only at hd ⊢;rw[hd];exact ih
   ·rename_i hw
    simp only[hw];injection hd with hd
    injection hd with h1 hd
    injection hd with h2 h3
    subst h1;subst h2;subst h3
    exact ih
   ·cases hd
  ·split at H
   ·rename_i v h1 hd
    have ih:=MU hC r _ _ _ _ _ _ K H hK
    unfold z0e at hd;unfold JA;split at hd
    ·rename_i sh xs hop
     split at hd
     ·rename_i hw
      simp only[hw,hop];split at hd
      ·rename_i y hm
       injection hd with hd
       subst hd;simp only[hm];refine⟨by simp,fun z hz=>?_⟩
       rw[List.mem_singleton]at hz;subst hz;exact ih
      ·cases hd
     ·cases hd
    ·cases hd
   ·cases H
theorem z5D {o:AO}(hs:o.still=true){ev:Opd→AV}{h h':aA}{v:AV}{x:Esc}(H:aop o ev h=some (v,h',x)):h'=h∧x=[]:=by
 cases o <;> first|(cases hs;done)|skip
 all_goals
  unfold aop at H;dsimp only at H;repeat' split at H
  all_goals first
   | (cases H;done)
   | (simp only[Option.some.injEq,Prod.mk.injEq]at H;obtain⟨_,rfl,rfl⟩:=H;exact⟨rfl,rfl⟩)
   | (simp only[Option.map_eq_some_iff,Prod.mk.injEq]at H;obtain⟨_,_,_,rfl,rfl⟩:=H;exact⟨rfl,rfl⟩)
   | (have H2:=nilc (g:=[]) H;rename_i k neg p;cases hb:HG k (ev p) <;> rw[hb]at H <;> simp only[cond_true,cond_false,Option.map_eq_some_iff,Option.some.injEq,Prod.mk.injEq]at H <;> first|(obtain⟨_,rfl,rfl⟩:=H;exact⟨rfl,rfl⟩)|(obtain⟨_,_,_,rfl,rfl⟩:=H;exact⟨rfl,rfl⟩))
theorem z5E {o:AO}(hs:o.still2=true){ev:Opd→AV}{h h':aA}{v:AV}{x:Esc}(H:aop o ev h=some (v,h',x)):h'=h∧x=[]:=by
 unfold AO.still2 at hs;split at hs
 ·simp only[aop,WE]at H
  split at H
  ·simp at H;exact⟨H.2.1.symm,H.2.2⟩
  ·simp at H
 ·exact z5D hs H
theorem yR {o:AOp}(hs:o.op.still2=true){e:List (Nat × AV)}{h h':aA}{v:AV}{x:Esc}(H:ADo C gl o e h v h' x):h'=h∧x=[]:=by
 unfold ADo at H;split at H
 ·obtain⟨dst,guard,op⟩:=o
  cases op <;> first|(cases hs;done)|exact z5E hs H
 ·exact H.2
 ·exact H.elim
theorem zgp {o:AO}(h:o.still=true):o.still2=true:=by
 cases o <;> first|exact h|(cases h;done)
theorem z4l {o:AOp}(hs:o.op.still=true){e:List (Nat × AV)}{h h':aA}{v:AV}{x:Esc}(H:ADo C gl o e h v h' x):h'=h∧x=[]:=yR (zgp hs) H
theorem z0f (hC:YG C' C){o:AOp}{e:List (Nat × AV)}{g:aA}{v:AV}(H:XO C' gl o e g v=true):ADo C gl o e g v g []:=by
 unfold XO at H;split at H
 ·rename_i v' g' y hd
  simp only[Bool.and_eq_true,Bool.or_eq_true,List.isEmpty_iff]at H;obtain⟨⟨h1,h2⟩,h3⟩:=H;have h1:=AV.same_eq _ _ h1
  have:=z0a (C:=C) hC hd;rcases h3 with hs|hs
  ·obtain⟨e1,e2⟩:=yR hs this
   subst e1;subst e2;subst h1
   exact this
  ·have e1:=aA.same_eq hs
   subst e1;subst h2;subst h1
   exact this
 ·cases H
theorem z0b (hC:YG C' C):∀(ds:List DOp) dn hs e h x e' h' x' (K:List (Nat×AV)→aA→Esc→Prop),sL C' gl ds dn hs e h x=some (e',h',x')→K e' h' x'→KC C gl ds dn hs e h x K
 | [],dn,hs,e,h,x,e',h',x',K,H,hK=>by
  simp only[sL,Option.some.injEq,Prod.mk.injEq]at H;obtain⟨rfl,rfl,rfl⟩:=H;exact hK
 | o::r,dn,hs,e,h,x,e',h',x',K,H,hK=>by
  unfold sL at H;split at H
  ·rename_i v h1 y hd
   split at H
   ·rename_i hc
    simp only[Bool.and_eq_true,Bool.or_eq_true,List.all_eq_true]at hc;obtain⟨⟨c1,c2⟩,c3⟩:=hc;have hdo:=z0a (C:=C) hC hd
    refine⟨v,h1,y,hdo,fun he=>?_,fun k hk=>?_,fun j hj=>?_,z0b hC r _ _ _ _ _ _ _ _ K H hK⟩
    ·rcases c1 with(c1|c1)|⟨c1,c4⟩
     ·rw[c1]at he;cases he
     ·exact yR c1 hdo
     ·rw[List.isEmpty_iff]at c1
      exact⟨aA.same_eq c4,c1⟩
    ·have:=c2 k hk
     split at this
     ·rename_i g hg
      exact⟨g,hg,z0f hC this⟩
     ·cases this
    ·have:=c3 j hj
     split at this
     ·rename_i q hq
      exact⟨q,hq,z0f hC this⟩
     ·cases this
   ·cases H
  ·cases H
theorem z0d {T':St→Option (Ex × St)}{T:St→(Ex→St→Prop)→Prop}(hT:∀ s e s' K,T' s=some (e,s')→K e s'→T s K):∀n s e s' K,WO T' n s=some (e,s')→K e s'→ALoop T K s
 | 0,s,e,s',K,H,hK=>by cases H
 | n+1,s,e,s',K,H,hK=>by
  unfold WO at H;split at H
  ·rename_i s1 h1
   refine .mk s (fun e2 s2=>e2 = .normal∧s2=s1) (hT _ _ _ _ h1 ⟨rfl,rfl⟩) (fun s2 ⟨_,h2⟩=>?_) (fun i s2 ⟨h2,_⟩=>by cases h2) (fun s2 ⟨h2,_⟩=>by cases h2)
   subst h2;exact z0d hT n _ _ _ K H hK
  ·rename_i hne
   have hne':e ≠ .normal:=fun he=>by subst he;exact hne _ H
   refine .mk s (fun e2 s2=>e2=e∧s2=s') (hT _ _ _ _ H ⟨rfl,rfl⟩) (fun s2 ⟨h2,_⟩=>(hne' h2.symm).elim) (fun i s2 ⟨h2,h3⟩=>by subst h3;rw[h2];exact hK) (fun s2 ⟨h2,h3⟩=>by subst h3;rw[h2];exact hK)
theorem zD (hC:YG C' C)(n:Nat):∀(c:ACode) s e s' (K:Ex→St→Prop),BB C' gl n c s=some (e,s')→K e s'→AW C gl c s K
 | .skip,s,e,s',K,H,hK=>by
  simp only[BB,Option.some.injEq,Prod.mk.injEq]at H;obtain⟨rfl,rfl⟩:=H;exact hK
 | .reg ops keep,s,e,s',K,H,hK=>by
  unfold BB at H;split at H
  ·rename_i h1
   simp only[Option.some.injEq,Prod.mk.injEq]at H;obtain⟨rfl,rfl⟩:=H;exact MU hC _ _ _ _ _ _ _ _ h1 hK
  ·cases H
 | .draw ds keep,s,e,s',K,H,hK=>by
  unfold BB at H;split at H
  ·rename_i h1
   simp only[Option.some.injEq,Prod.mk.injEq]at H;obtain⟨rfl,rfl⟩:=H;exact z0b hC _ _ _ _ _ _ _ _ _ _ h1 hK
  ·cases H
 | .seq a b,s,e,s',K,H,hK=>by
  unfold BB at H;unfold AW;split at H
  ·rename_i s1 h1
   exact zD hC n a s _ _ _ h1 (zD hC n b _ _ _ K H hK)
  ·rename_i hne
   have hne':e ≠ .normal:=fun he=>by subst he;exact hne _ H
   refine zD hC n a s _ _ _ H ?_;cases e with
   | normal=>exact(hne' rfl).elim
   | exit i=>exact hK
   | ret=>exact hK
 | .det b,s,e,s',K,H,hK=>by
  unfold BB at H;exact zD hC n b s _ _ K H hK
 | .condu c a b,s,e,s',K,H,hK=>by
  unfold BB at H;unfold AW;split at H
  ·rename_i t ht
   simp only[ht];split at H
   ·exact zD hC n a s _ _ _ H hK
   ·exact zD hC n b s _ _ _ H hK
  ·cases H
 | .cond c a b,s,e,s',K,H,hK=>by
  unfold BB at H;unfold AW;split at H
  ·rename_i t ht
   simp only[ht];split at H
   ·exact zD hC n a s _ _ _ H hK
   ·exact zD hC n b s _ _ _ H hK
  ·cases H
 | .block id b,s,e,s',K,H,hK=>by
  unfold BB at H;unfold AW;split at H
  ·rename_i i s1 h1
   refine zD hC n b s _ _ _ h1 ?_;dsimp only;split at H
   ·rw[if_pos ‹_›]
    simp only[Option.some.injEq,Prod.mk.injEq]at H;obtain⟨rfl,rfl⟩:=H;exact hK
   ·rw[if_neg ‹_›]
    simp only[Option.some.injEq,Prod.mk.injEq]at H;obtain⟨rfl,rfl⟩:=H;exact hK
  ·rename_i hne
   refine zD hC n b s _ _ _ H ?_;cases e with
   | normal=>exact hK
   | exit i=>exact(hne _ _ H).elim
   | ret=>exact hK
 | .loop b,s,e,s',K,H,hK=>by
  unfold BB at H;unfold AW;exact z0d (fun s e s' K h k=>zD hC n b s e s' K h k) n s e s' K H hK
 | .scope b,s,e,s',K,H,hK=>by
  unfold BB at H;unfold AW;split at H
  ·rename_i e1 s1 h1
   simp only[Option.some.injEq,Prod.mk.injEq]at H;obtain⟨rfl,rfl⟩:=H;exact zD hC n b _ _ _ _ h1 hK
  ·cases H
 | .pr l b,s,e,s',K,H,hK=>by
  unfold BB at H;unfold AW;exact zD hC n b _ _ _ K H hK
 | .exit id,s,e,s',K,H,hK=>by
  simp only[BB,Option.some.injEq,Prod.mk.injEq]at H;obtain⟨rfl,rfl⟩:=H;exact hK
 | .ret,s,e,s',K,H,hK=>by
  simp only[BB,Option.some.injEq,Prod.mk.injEq]at H;obtain⟨rfl,rfl⟩:=H;exact hK
 | .bad,s,e,s',K,H,hK=>by simp only[BB]at H;cases H
theorem z0c {F:AFun}{b:Nat}{s:St}{v:AV}{h:aA}{x:Esc}{K:kA}(H:LU F b s=some (v,h,x))(hK:K v h x):fin F b s K:=by
 unfold LU at H;unfold fin;split at H
 ·rename_i h1
  simp only[h1];split at H
  ·rename_i h2
   simp only[h2];dsimp only at H ⊢;split at H
   ·rw[if_pos ‹_›];simp only[Option.some.injEq,Prod.mk.injEq]at H;obtain⟨rfl,rfl,rfl⟩:=H;exact hK
   ·rw[if_neg ‹_›];simp only[Option.some.injEq,Prod.mk.injEq]at H;obtain⟨rfl,rfl,rfl⟩:=H;exact hK
  ·rename_i h2
   simp only[h2];split at H
   ·rename_i h3
    simp only[h3];dsimp only at H ⊢;split at H
    ·rw[if_pos ‹_›]
     split at H
     ·rename_i h4
      simp only[h4];split at H
      ·simp only[Option.some.injEq,Prod.mk.injEq]at H;obtain⟨rfl,rfl,rfl⟩:=H;exact⟨‹_›,hK⟩
      ·cases H
     ·cases H
    ·rw[if_neg ‹_›];simp only[Option.some.injEq,Prod.mk.injEq]at H;obtain⟨rfl,rfl,rfl⟩:=H;exact hK
   ·cases H
 ·cases H
theorem ZZ (hC:YG C' C){n:Nat}{F:AFun}{a:List AV}{h:aA}{v:AV}{h':aA}{x:Esc}{K:kA}(H:JU C' gl n F a h=some (v,h',x))(hK:K v h' x):lC C gl F a h K:=by
 unfold JU at H;unfold lC;split at H
 ·rename_i asv h1 hp
  simp only[hp];split at H
  ·rename_i hl
   refine⟨hl,?_⟩;cases he:BB C' gl n F.body ⟨enter asv,h1,[]⟩ with
   | none=>rw[he]at H;cases H
   | some y=>
    obtain⟨e,s⟩:=y;rw[he]at H;refine zD hC n _ _ _ _ _ he ?_;cases e with
    | exit i=>cases H
    | normal=>exact z0c H hK
    | ret=>exact z0c H hK
  ·cases H
 ·cases H
def rL (X:Ctx)(o:Nat→List AV→Option AV)(n:Nat):Nat→EvC
 | 0,_,_,_=>none
 | d+1,f,a,h=>match o f a with
  | some v=>some (v,h,[])
  | none=>match X.fn f with
   | some F=>JU (rL X o n d) X.gl n F a h
   | none=>match X.ex2 f a h with
    | some r=>some r
    | none=>match qA h a with
     | some (asv,h1)=>match unp asv with
      | some vs=>match X.ext f vs with
       | some r=>some (.p r,h1,[])
       | none=>none
      | none=>none
     | none=>none
theorem KU (X:Ctx)(o:Nat→List AV→Option AV)(ho:∀ f a v,o f a=some v→∀ h (K:kA),K v h []→eA X f a h K)(n:Nat):∀d,YG (rL X o n d) (eA X)
 | 0,f,a,h,v,h',x,K,H,hK=>by cases H
 | d+1,f,a,h,v,h',x,K,H,hK=>by
  unfold rL at H;split at H
  ·rename_i v1 hv
   simp only[Option.some.injEq,Prod.mk.injEq]at H;obtain⟨rfl,rfl,rfl⟩:=H;exact ho _ _ _ hv _ _ hK
  refine eA.fold ?_;unfold QB;split at H
  ·rename_i F hF
   simp only[hF];unfold jD;cases hd:F.isDet with
   | true=>exact⟨v,h',x,hK,ZZ (KU X o ho n d) H ⟨rfl,rfl,rfl⟩⟩
   | false=>exact ZZ (KU X o ho n d) H hK
  ·rename_i hF
   simp only[hF];split at H
   ·rename_i hx2
    simp only[hx2];simp only[Option.some.injEq]at H;subst H;exact hK
   ·rename_i hx2
    simp only[hx2];split at H
    ·rename_i hp
     simp only[hp];split at H
     ·rename_i hu
      simp only[hu];split at H
      ·rename_i hx
       simp only[hx];simp only[Option.some.injEq,Prod.mk.injEq]at H;obtain⟨rfl,rfl,rfl⟩:=H;exact hK
      ·cases H
     ·cases H
    ·cases H
theorem z4h {X:Ctx}{f:Nat}{a:List AV}{h:aA}{v:AV}{h':aA}{x:Esc}{o:Nat→List AV→Option AV}(ho:∀ f a v,o f a=some v→∀ h (K:kA),K v h []→eA X f a h K)(n d:Nat)(H:rL X o n d f a h=some (v,h',x))(K:kA):eA X f a h K↔K v h' x:=
 eA.eq (KU X o ho n d _ _ _ _ _ _ _ H ⟨rfl,rfl,rfl⟩) K
end Go.Am
end
section
/- The abstract machine,part 27: loops,and the rules of computing asv one set. -/
set_option linter.unusedSimpArgs false
set_option linter.unusedVariables false
namespace Go.Am
variable {C:Hd} {gl:Nat→Option PV} {e:List (Nat × AV)} {h:aA} {x:Esc} {K:Ex→St→Prop} {s:St}
def qP {σ:Type}(S:σ→St)(P:σ→Prop)(m:σ→Nat)(K:Ex→St→Prop)(s:σ)(e:Ex)(s':St):Prop:=match e with
 | .normal=>∃t,s'=S t∧P t∧m t<m s
 | .exit i=>K (.exit i) s'
 | .ret=>K .ret s'
theorem z1I {σ:Type}{S:σ→St}{P:σ→Prop}{m:σ→Nat}{K:Ex→St→Prop}{t:σ}{s':St}:qP S P m K t .normal s' = ∃u,s'=S u∧P u∧m u<m t:=(rfl)
theorem z1H {σ:Type}{S:σ→St}{P:σ→Prop}{m:σ→Nat}{K:Ex→St→Prop}{t:σ}{s':St}{i:Nat}:qP S P m K t (.exit i) s'=K (.exit i) s':=(rfl)
theorem z1J {σ:Type}{S:σ→St}{P:σ→Prop}{m:σ→Nat}{K:Ex→St→Prop}{t:σ}{s':St}:qP S P m K t .ret s'=K .ret s':=(rfl)
theorem PX {T:St→(Ex→St→Prop)→Prop}{K:Ex→St→Prop}{s s':St}(h:T s=T s'):ALoop T K s=ALoop T K s':=by
 refine propext ⟨fun H=>?_,fun H=>?_⟩
 ·cases H with|mk _ R a b c d=>exact .mk _ R (h ▸ a) b c d
 ·cases H with|mk _ R a b c d=>exact .mk _ R (h.symm ▸ a) b c d
theorem z56 {l:List Nat}{e:List (Nat × AV)}{t:Nat}(ht:t∈l):jA (xA (some l) e) t=jA e t:=by
 simp only[xA];induction l with
 | nil=>cases ht
 | cons k r ih=>
  simp only[List.map_cons,jA];split
  ·rename_i hk;rw[hk]
  ·rename_i hk
   rcases List.mem_cons.1 ht with h1|h1
   ·exact absurd h1.symm hk
   ·exact ih h1
theorem z2p {l:List Nat}{e:List (Nat × AV)}:xA (some l) (xA (some l) e)=xA (some l) e:=by
 show l.map _=l.map _
 exact List.map_congr_left fun t ht=>by rw[z56 ht]
theorem tD {α:Type}(h l:List α)(n:Nat):(h++l)[h.length+n]?=l[n]?:=by
 rw[List.getElem?_append_right (by omega)];congr 1;omega
theorem wY {α:Type}(h l:List α):(h++l)[h.length]?=l[0]?:=by
 rw[List.getElem?_append_right (by omega)];congr 1;omega
theorem yF {α:Type}(h l:List α)(n:Nat)(o:α):(h++l).set (h.length+n) o=h++l.set n o:=by
 rw[List.set_append_right _ _ (by omega)];congr 2;omega
theorem xY {α:Type}(h l:List α)(o:α):(h++l).set h.length o=h++l.set 0 o:=by
 rw[List.set_append_right _ _ (by omega)];congr 2;omega
theorem bH {α:Type}(h l:List α)(n:Nat):(h++l).take (h.length+n)=h++l.take n:=List.take_length_add_append ..
theorem GK {α:Type}(h l:List α):(h++l).take h.length=h:=List.take_left ..
theorem GA (n:Int)(h1 : -9223372036854775808≤n)(h2:n≤9223372036854775807):IntKind.i64.wrap n=n:=by
 simp [IntKind.wrap,IntKind.bits,IntKind.signed];omega
def sA (rs:List ARes)(kp:Bool)(b:Nat)(P:kA)(e:Ex)(s:St):Prop:=match e with
 | .exit _=>False
 | _=>match KD s rs with
  | some vs=>match kp with
   | true=>
    let n:=sB s.esc.length s.esc (max b (UA vs).top)
    if GB s.esc n then P (UA vs) (s.h.take n) (s.esc.filter fun y=>decide (y.1<n)) else P (UA vs) s.h s.esc
   | false=>match QA b s.h (UA vs) with
    | some v0=>
     let n:=sB s.esc.length s.esc (max b v0.top)
     if GB s.esc n then match QA n s.h (UA vs) with
      | some v=>v.top≤n∧P v (s.h.take n) (s.esc.filter fun y=>decide (y.1<n))
      | none=>False
     else P (UA vs) s.h s.esc
    | none=>False
  | none=>False
theorem VU {F:AFun}{b:Nat}{P:kA}:finK F b P=sA F.results F.keep b P:=by
 funext e s;cases e <;> rfl
def DD (kp:Bool)(b:Nat)(P:kA)(o:Option (List AV))(h:aA)(x:Esc):Prop:=match o with
 | some vs=>match kp with
  | true=>
   let n:=sB x.length x (max b (UA vs).top)
   if GB x n then P (UA vs) (h.take n) (x.filter fun y=>decide (y.1<n)) else P (UA vs) h x
  | false=>match QA b h (UA vs) with
   | some v0=>
    let n:=sB x.length x (max b v0.top)
    if GB x n then match QA n h (UA vs) with
     | some v=>v.top≤n∧P v (h.take n) (x.filter fun y=>decide (y.1<n))
     | none=>False
    else P (UA vs) h x
   | none=>False
 | none=>False
theorem z0O {rs:List ARes}{kp:Bool}{b:Nat}{P:kA}{e:List (Nat × AV)}{h:aA}{x:Esc}:sA rs kp b P .normal ⟨e,h,x⟩=DD kp b P (KD ⟨e,h,x⟩ rs) h x:=(rfl)
theorem z0P {rs:List ARes}{kp:Bool}{b:Nat}{P:kA}{e:List (Nat × AV)}{h:aA}{x:Esc}:sA rs kp b P .ret ⟨e,h,x⟩=DD kp b P (KD ⟨e,h,x⟩ rs) h x:=(rfl)
theorem zaz {rs:List ARes}{kp:Bool}{b:Nat}{P:kA}{ex ex':Ex}{s s':St}(he:ex=ex')(hs:s=s'):sA rs kp b P ex s=sA rs kp b P ex' s':=by rw[he,hs]
theorem cR {b:Nat}{P:kA}{vs:List AV}{h:aA}(ht:(UA vs).top≤b)(hr:∀ b,QA b h (UA vs)=some (UA vs)):DD false b P (some vs) h []=P (UA vs) (h.take b) []:=by
 simp only[DD,hr,sB,List.length_nil,GB,List.all_nil,if_true,List.filter_nil,Nat.max_eq_left ht,ht,true_and]
theorem zeM {b:Nat}{h:aA}{v:PV}:QA b h (.p v)=some (.p v):=(rfl)
theorem zeQ {b:Nat}{h:aA}:NE b h []=some []:=(rfl)
theorem zeU {b:Nat}{P:kA}{v:PV}{h:aA}:DD false b P (some [.p v]) h []=P (.p v) (h.take b) []:=cR (Nat.zero_le _) (fun _=>rfl)
theorem zeV {b:Nat}{P:kA}{v u:PV}{h:aA}:DD false b P (some [.p v,.p u]) h []=P (.tup [.p v,.p u]) (h.take b) []:=cR (by simp [UA,AV.top,AV.tops]) (fun _=>rfl)
theorem zeW {b:Nat}{P:kA}{v u w:PV}{h:aA}:DD false b P (some [.p v,.p u,.p w]) h []=P (.tup [.p v,.p u,.p w]) (h.take b) []:=cR (by simp [UA,AV.top,AV.tops]) (fun _=>rfl)
theorem zeT {b:Nat}{P:kA}{h:aA}:DD false b P (some []) h []=P (.tup []) (h.take b) []:=cR (by simp [UA,AV.top,AV.tops]) (fun _=>rfl)
theorem zg2 {h:aA}:h.take h.length=h:=List.take_length
theorem zc5 {v:AV}:UA [v]=v:=(rfl)
theorem zgn {X:Ctx}{f:Nat}{F:AFun}{a asv:List AV}{h h1:aA}{P:kA}(hf:X.fn f=some F)(hr:F.byref=false)(hp:qA h a=some (asv,h1))(hl:asv.length=F.nparams)(hd:F.isDet=false) :
 eA X f a h P=AW (eA X) X.gl F.body ⟨enter asv,h1,[]⟩ (sA F.results F.keep h.length P):=by
 rw[fY hf hd,lY hr hp hl,VU]
theorem zgk {X:Ctx}{f:Nat}{F:AFun}{asv:List AV}{h:aA}{P:kA}(hf:X.fn f=some F)(hr:F.byref=true)(hl:asv.length=F.nparams)(hd:F.isDet=false) :
 eA X f asv h P=AW (eA X) X.gl F.body ⟨enter asv,h,[]⟩ (sA F.results F.keep h.length P):=by
 rw[fY hf hd,z5z hr hl,VU]
theorem zgo {X:Ctx}{f:Nat}{F:AFun}{a asv:List AV}{h h1:aA}{P:kA}(hf:X.fn f=some F)(hr:F.byref=false)(hp:qA h a=some (asv,h1))(hl:asv.length=F.nparams)(hd:F.isDet=true) :
 eA X f a h P = ∃v h' x,P v h' x∧AW (eA X) X.gl F.body ⟨enter asv,h1,[]⟩ (sA F.results F.keep h.length fun v1 h1 x1=>v1=v∧h1=h'∧x1=x):=by
 rw[z48 hf hd];simp only[lY hr hp hl,VU]
theorem CA {X:Ctx}{f:Nat}{a:List AV}{h:aA}{v:AV}{h':aA}{x:Esc}{K:kA}(H:eA X f a h fun v1 h1 x1=>v1=v∧h1=h'∧x1=x):eA X f a h K=K v h' x:=propext (eA.eq H K)
theorem z1R {k:IntKind}{n:Nat}:ZA (.p (.int k (n:Int)))=some n:=by simp [ZA]
theorem zck {k:IntKind}{n:Nat}:ZA (.p (.int k (no_index (OfNat.ofNat n:Int))))=some (OfNat.ofNat n:Nat):=z1R (n:=n)
theorem lV {k:IntKind}{n:Int}(h:0≤n):ZA (.p (.int k n))=some n.toNat:=by simp [ZA,h]
theorem sC {α β:Type}(f:α→β){l:List α}{k:Nat}(h:k<l.length):(l.map f)[k]?=some (f l[k]):=by simp [h]
attribute [go_sem] eqs PV.eq1 PV.kind ne_eq not_false_eq_true not_true_eq_false Bool.and_self Bool.or_self Bool.not_eq_true
attribute [go_sem] Nat.max_le Nat.add_le_add_iff_left Option.isSome_none Option.isSome_some false_and and_false List.length_range Nat.sub_zero Nat.le_add_right
attribute [go_sem] z1R zck Int.ofNat_lt Int.ofNat_le List.length_map
attribute [go_sem] z0O z0P zeT zeU zeV zeW zg2 List.zipIdx_cons List.zipIdx_nil List.map_cons List.map_nil Nat.reduceAdd Nat.reduceEqDiff if_true if_false Option.map_some Option.map_none List.append_nil List.nil_append decide_eq_true_eq
def doS (C:Hd)(gl:Nat→Option PV)(q:AOp × List (Nat × AV) × AV)(h:aA):Prop:=ADo C gl q.1 q.2.1 h q.2.2 h []
def agK (C:Hd)(gl:Nat→Option PV)(h:aA)(dn:pC):List Nat→Prop
 | []=>True
 | j::r=>(match dn[j]? with|some q=>doS C gl q h|none=>False)∧agK C gl h dn r
def eaK (C:Hd)(gl:Nat→Option PV)(o:AOp)(e:List (Nat × AV))(v:AV)(hs:List aA):List Nat→Prop
 | []=>True
 | k::r=>(match hs[k]? with|some g=>doS C gl (o,e,v) g|none=>False)∧eaK C gl o e v hs r
theorem pY {C:Hd}{gl:Nat→Option PV}{h:aA}{dn:pC}:∀{l:List Nat},agK C gl h dn l↔∀j∈l,∃q,dn[j]?=some q∧ADo C gl q.1 q.2.1 h q.2.2 h []
 | []=>by simp [agK]
 | j::r=>by
  simp only[agK,List.mem_cons,forall_eq_or_imp];rw[pY (l:=r)];refine and_congr_left (fun _=>?_)
  cases hd:dn[j]? with
  | none=>simp
  | some q=>simp [doS]
theorem QZ {C:Hd}{gl:Nat→Option PV}{o:AOp}{e:List (Nat × AV)}{v:AV}{hs:List aA}:∀{l:List Nat},eaK C gl o e v hs l↔∀k∈l,∃g,hs[k]?=some g∧ADo C gl o e g v g []
 | []=>by simp [eaK]
 | j::r=>by
  simp only[eaK,List.mem_cons,forall_eq_or_imp];rw[QZ (l:=r)];refine and_congr_left (fun _=>?_)
  cases hd:hs[j]? with
  | none=>simp
  | some q=>simp [doS]
def effK (b:Bool)(h h':aA)(y:Esc):Prop:=match b with
 | true=>True
 | false=>h'=h∧y=[]
theorem BZ {C:Hd}{gl:Nat→Option PV}{e:List (Nat × AV)}{h:aA}{x:Esc}{L:List (Nat × AV)→aA→Esc→Prop}{op:AOp}{rd early again:List Nat}{eff:Bool}{r:List DOp}{dn:pC}{hs:List aA}{v:AV}{h':aA}{y:Esc} :
 MO C gl ⟨op,rd,eff,early,again⟩ r dn hs e h x L v h' y=(effK eff h h' y∧eaK C gl op (xA (some rd) e) v hs early∧agK C gl h' dn again∧KC C gl r (dn++[(op,xA (some rd) e,v)]) (hs++[h]) (put op.dst v e) h' (y++x) L):=by
 rw[z7V,←propext QZ,←propext pY];cases eff <;> simp [effK]
theorem xZ {C:Hd}{gl:Nat→Option PV}{d:Option Nat}{g:Option (Nat × Bool)}{op:AO}{e:List (Nat × AV)}{v:AV}{h:aA}:doS C gl (⟨d,g,op⟩,e,v) h=doK C gl ⟨d,g,op⟩ e h (fun v1 h1 x1=>v1=v∧h1=h∧x1=[]):=by
 unfold doS doK;refine propext ⟨fun H=>⟨_,_,_,H,rfl,rfl,rfl⟩,fun⟨v1,h1,x1,H,a,b,c⟩=>by subst a;subst b;subst c;exact H⟩
theorem z7B {p:Prop}[Decidable p]{A B:Prop}:OC (.p (.bool (decide p))) A B=if p then A else B:=by rw[iZ];simp
def jG (C:Hd)(v:AV)(asv:List AV)(h:aA)(L:kA):Prop:=match v with
 | .fn g caps=>C g (asv++caps) h L
 | _=>False
theorem RX {C:Hd}{gl:Nat→Option PV}{e:List (Nat × AV)}{h:aA}{x:Esc}{L:List (Nat × AV)→aA→Esc→Prop}{d:Option Nat}{f:Opd}{args:List Opd}{r:List AOp} :
 JA C gl (⟨d,none,.callv f args⟩::r) e h x L=jG C (Opd.ev gl e f) (args.map (Opd.ev gl e)) h (zI C gl r d e x L):=by
 have h2:wanted none e=some true:=(rfl)
 rw[JA];simp only[h2];unfold jG;split <;> simp_all <;> rfl
def IK (C:Hd)(v:AV)(asv:List AV)(h:aA)(R:AV→aA→Esc→Prop):Prop:=match v with
 | .fn g caps=>XE C g (asv++caps) h R
 | _=>False
theorem uZ {C:Hd}{gl:Nat→Option PV}{e:List (Nat × AV)}{h:aA}{R:AV→aA→Esc→Prop}{d:Option Nat}{f:Opd}{args:List Opd} :
 doK C gl ⟨d,none,.callv f args⟩ e h R=IK C (Opd.ev gl e f) (args.map (Opd.ev gl e)) h R:=by
 have h2:wanted none e=some true:=(rfl)
 unfold doK ADo;simp only[h2];unfold IK XE;split <;> simp_all
theorem z7s {C:Hd}{g:Nat}{caps asv:List AV}{h:aA}{L:kA}:jG C (.fn g caps) asv h L=C g (asv++caps) h L:=(rfl)
theorem z7r {C:Hd}{v v':AV}{asv asv':List AV}{h h':aA}{L:kA}(h1:v=v')(h2:asv=asv')(h3:h=h'):jG C v asv h L=jG C v' asv' h' L:=by rw[h1,h2,h3]
attribute [go_sem] RX uZ z7s
attribute [congr] z7r
theorem z7J {k:IntKind}{n:Int}:bB none 0 (.int k n)=some (.int k n):=(rfl)
theorem z7L {s:List UInt8}:bB none 0 (.str s)=some (.str s):=(rfl)
theorem z7I {off:Nat}{cs:List PV}:bB none off (.agg cs)=(cs[off]?).bind fun x=>if x.sc then some x else none:=(rfl)
theorem z7H {n off:Nat}{cs:List PV}:bB (some n) off (.agg cs)=if off+n≤cs.length then some (.agg ((cs.drop off).take n)) else none:=(rfl)
theorem z7K {v:PV}(h:v.sc=true):bB none 0 v=some v:=by cases v <;> first|rfl|cases h
attribute [go_sem] z7J z7L z7I z7H
theorem zag {id:Nat}{v:PV}:vC id (.p v)=[]:=(rfl)
attribute [go_sem] List.take_succ_cons List.take_zero List.take_nil List.drop_succ_cons List.drop_zero List.drop_nil List.length_cons List.length_nil Nat.reduceLeDiff Nat.reduceLT Int.reduceLT Int.reduceLE Int.reduceAdd Int.reduceSub Int.reduceMul Int.reduceNeg Int.reduceEq Nat.reduceSub Nat.reduceMul Nat.le_refl List.append_assoc
theorem zgD {b:Nat}{x0:Esc}{e:List (Nat × AV)}{h:aA}:aE b x0 ⟨e,h,[]⟩=⟨aF b e,h.take b,x0⟩:=(rfl)
theorem z7y {n:Nat}:aF n []=[]:=(rfl)
theorem z7x {n k:Nat}{v:AV}{r:List (Nat × AV)}:aF n ((k,v)::r)=(k,if v.top≤n then v else .und)::aF n r:=(rfl)
theorem top_p {v:PV}:AV.top (.p v)=0:=(rfl)
theorem AX {id g o l:Nat}:AV.top (.own id g o l)=id+1:=by simp [AV.top]
theorem zg6 {id o:Nat}:AV.top (.ref id o)=id+1:=by simp [AV.top]
theorem zgA:AV.tops []=0:=(rfl)
theorem zg7 {v:AV}{r:List AV}:AV.tops (v::r)=max v.top (AV.tops r):=by simp [AV.tops]
theorem zeX {b:Nat}{P:kA}{vs:List AV}{h:aA}:DD false b P (some vs) h []=match QA b h (UA vs) with
 | some v0=>match QA (max b v0.top) h (UA vs) with
  | some v=>v.top≤max b v0.top∧P v (h.take (max b v0.top)) []
  | none=>False
 | none=>False:=by
 simp only[DD,sB,List.length_nil,GB,List.all_nil,if_true,List.filter_nil]
theorem zeL {b:Nat}{h:aA}{id g off len:Nat}:QA b h (.own id g off len)=if b≤id then(rd h (.own id g off len)).map fun y=>.p (.sl y.1 y.2) else some (.own id g off len):=by simp only[QA]
theorem zeO {b:Nat}{h:aA}{cs:List AV}:QA b h (.tup cs)=(NE b h cs).map .tup:=by simp only[QA]
theorem zeN {b:Nat}{h:aA}{id o:Nat}:QA b h (.ref id o)=some (.ref id o):=by simp only[QA]
theorem zeP {b:Nat}{h:aA}{v:AV}{r:List AV}:NE b h (v::r)=(match QA b h v with|some x=>(NE b h r).map (x :: ·)|none=>none):=by rw[NE];cases QA b h v <;> rfl
theorem zc6 {v u:AV}{r:List AV}:UA (v::u::r) = .tup (v::u::r):=(rfl)
theorem z3x {h l:aA}{id:Nat}{o:Obj}(hid:id<h.length):(h++l).set id o=h.set id o++l:=List.set_append_left _ _ hid
theorem z1x {h l:aA}{id:Nat}(hid:id<h.length):(h++l)[id]?=h[id]?:=List.getElem?_append_left hid
theorem z3m {h l:aA}{i n:Nat}{o:Obj}:(h.set i o++l)[h.length+n]?=l[n]?:=by
 have:=tD (h.set i o) l n;rwa [List.length_set]at this
theorem zfG {h l:aA}{i:Nat}{o:Obj}:(h.set i o++l)[h.length]?=l[0]?:=z3m (n:=0)
theorem z3n {h l:aA}{i n:Nat}{o q:Obj}:(h.set i o++l).set (h.length+n) q=h.set i o++l.set n q:=by
 have:=yF (h.set i o) l n q;rwa [List.length_set]at this
theorem zfH {h l:aA}{i:Nat}{o q:Obj}:(h.set i o++l).set h.length q=h.set i o++l.set 0 q:=z3n (n:=0)
theorem zfI {h l:aA}{i n:Nat}{o:Obj}:(h.set i o++l).take (h.length+n)=h.set i o++l.take n:=by
 have:=bH (h.set i o) l n;rwa [List.length_set]at this
theorem zfJ {h l:aA}{i:Nat}{o:Obj}:(h.set i o++l).take h.length=h.set i o:=by
 have:=GK (h.set i o) l;rwa [List.length_set]at this
theorem dE {α:Type}{l:List α}{n:Nat}(h:l.length=n):win l 0 n=l:=by subst h;simp [win]
attribute [go_sem] zgD z7y z7x top_p AX zg6 zgA zg7 Nat.max_zero Nat.zero_max Nat.zero_le zeM zeL zeO zeN zeQ zeP zc6 tD wY yF xY bH GK z3m zfG z3n zfH zfI zfJ List.length_append Nat.add_le_add_iff_right Nat.zero_add Nat.add_zero
attribute [go_sem] OF PV.shp List.reduceReplicate cond_true cond_false Bool.not_true Bool.not_false Bool.false_eq_true Bool.true_and Bool.and_true Bool.false_and Bool.and_false Bool.true_or Bool.or_true Bool.false_or Bool.or_false beq_self_eq_true List.all_cons List.all_nil
attribute [go_sem low] zeX
theorem zg3 {h:aA}{id:Nat}{o:Obj}:(h.set id o).take h.length=h.set id o:=List.take_of_length_le (by simp)
attribute [go_sem] zg3 Int.natCast_zero Int.natCast_one Int.cast_ofNat_Int
attribute [go_sem] aun WE EK FK List.foldlM_cons List.foldlM_nil Option.bind_some Option.pure_def Option.bind_eq_bind List.cons_append List.nil_append Int.zero_sub List.length_singleton
attribute [go_sem] bA zag
attribute [go_sem] MX tZ vZ XE ex3' BZ xZ List.not_mem_nil List.mem_cons List.mem_singleton forall_eq_or_imp forall_eq false_implies true_implies implies_true forall_const and_true true_and List.cons_append and_self reduceCtorEq List.getElem?_cons_zero List.getElem?_cons_succ Option.some.injEq exists_eq_left' List.set_cons_zero List.set_cons_succ List.set_set List.length_set
attribute [congr] z7p z4f
attribute [congr] zaz
attribute [go_sem] z3s TX QX kZ jZ z7B decide_true decide_false z1I z1H z1J aop Opd.ev jA put xA zB NC cH KD ares zc5 enter rd rds pur ZJ qA mkA unp cut AV.cells PV.cells PV.sc AV.sc splice pint pbool NF
attribute [go_sem low] iZ zgQ zgP
attribute [congr] z7A
end Go.Am
end
section
/- The abstract machine,part 28: where no map is ranged over,a call that ends well ends in one way. -/
set_option linter.unusedSimpArgs false
set_option linter.unusedVariables false
namespace Go.Am
def AO.noNext:AO→Bool
 | .mnext _ _=>false
 | _=>true
def ACode.noNext:ACode→Bool
 | .reg ops _=>ops.all fun o=>o.op.noNext
 | .seq a b=>a.noNext&&b.noNext
 | .cond _ a b=>a.noNext&&b.noNext
 | .condu _ _ _=>false
 | .det _=>false
 | .block _ b=>b.noNext
 | .loop b=>b.noNext
 | .scope b=>b.noNext
 | .pr _ b=>b.noNext
 | _=>true
def Dt (C D:Hd):Prop:=∀f a h K,C f a h K→∃v h' x,K v h' x∧D f a h fun v1 h1 x1=>v1=v∧h1=h'∧x1=x
variable {C D:Hd} {gl:Nat→Option PV}
theorem CK (hD:D.Mono)(hC:Dt C D):∀(ops:List AOp) e h x K,(ops.all fun o=>o.op.noNext)=true→JA C gl ops e h x K→∃e' h' x',K e' h' x'∧JA D gl ops e h x fun e1 h1 x1=>e1=e'∧h1=h'∧x1=x'
 | [],e,h,x,K,_,H=>⟨e,h,x,H,rfl,rfl,rfl⟩
 | o::r,e,h,x,K,hn,H=>by
  obtain⟨dst,guard,op⟩:=o;simp only[List.all_cons,Bool.and_eq_true]at hn;obtain⟨hn1,hn2⟩:=hn;unfold JA at H;dsimp only at H;split at H
  ·rename_i hw
   cases op;case call f args=>
    obtain⟨v,h',x',H',G'⟩:=hC _ _ _ _ H;obtain⟨e2,h2,x2,k2,g2⟩:=CK hD hC r _ _ _ K hn2 H';refine⟨e2,h2,x2,k2,?_⟩;unfold JA;simp only[hw]
    exact hD _ _ _ _ _ (fun v1 h1 x1 ⟨a1,a2,a3⟩=>by subst a1;subst a2;subst a3;exact g2) G'
   case callv f args=>
    dsimp only at H;split at H
    ·rename_i hf
     obtain⟨v,h',x',H',G'⟩:=hC _ _ _ _ H;obtain⟨e2,h2,x2,k2,g2⟩:=CK hD hC r _ _ _ K hn2 H';refine⟨e2,h2,x2,k2,?_⟩;unfold JA;simp only[hw,hf]
     exact hD _ _ _ _ _ (fun v1 h1 x1 ⟨a1,a2,a3⟩=>by subst a1;subst a2;subst a3;exact g2) G'
    ·exact H.elim
   case mnext sh xs=>simp [AO.noNext]at hn1
   all_goals
    dsimp only at H;split at H
    ·rename_i ha
     obtain⟨e2,h2,x2,k2,g2⟩:=CK hD hC r _ _ _ K hn2 H;refine⟨e2,h2,x2,k2,?_⟩;unfold JA;simp only[hw,ha]
     exact g2
    ·exact H.elim
  ·rename_i hw
   obtain⟨e2,h2,x2,k2,g2⟩:=CK hD hC r _ _ _ K hn2 H;refine⟨e2,h2,x2,k2,?_⟩;unfold JA;simp only[hw]
   exact g2
  ·exact H.elim
theorem xR (hD:D.Mono)(hC:Dt C D){o:AOp}{e:List (Nat × AV)}{h h':aA}{v:AV}{x:Esc}(H:ADo C gl o e h v h' x):ADo D gl o e h v h' x:=by
 have key:∀f a h,C f a h (fun v1 h1 x1=>v1=v∧h1=h'∧x1=x)→D f a h (fun v1 h1 x1=>v1=v∧h1=h'∧x1=x):=fun f a h hc=>by
  obtain⟨v2,h2,x2,⟨e1,e2,e3⟩,hd⟩:=hC _ _ _ _ hc;subst e1;subst e2;subst e3
  exact hd
 unfold ADo at H ⊢;split at H
 ·split at H
  ·exact key _ _ _ H
  ·split at H
   ·exact key _ _ _ H
   ·exact H.elim
  ·exact H.elim
  ·exact H
 ·exact H
 ·exact H.elim
theorem NX (hD:D.Mono)(hC:Dt C D):∀(ds:List DOp) dn hs e h x K,KC C gl ds dn hs e h x K→∃e' h' x',K e' h' x'∧KC D gl ds dn hs e h x fun e1 h1 x1=>e1=e'∧h1=h'∧x1=x'
 | [],dn,hs,e,h,x,K,H=>⟨e,h,x,H,rfl,rfl,rfl⟩
 | o::r,dn,hs,e,h,x,K,H=>by
  obtain⟨v,h',y,h1,h2,h3,h4,h5⟩:=H;obtain⟨e2,q2,x2,k2,g2⟩:=NX hD hC r _ _ _ _ _ K h5;exact⟨e2,q2,x2,k2,v,h',y,xR hD hC h1,h2,fun k hk=>by obtain⟨g,a1,a2⟩:=h3 k hk;exact⟨g,a1,xR hD hC a2⟩,
   fun j hj=>by obtain⟨q,a1,a2⟩:=h4 j hj;exact⟨q,a1,xR hD hC a2⟩,g2⟩
theorem z4m {T U:St→(Ex→St→Prop)→Prop}(hT:∀ s K,T s K→∃ e s',K e s'∧U s fun e1 s1=>e1=e∧s1=s'){K:Ex→St→Prop}{s:St}(H:ALoop T K s):∃e s',K e s'∧ALoop U (fun e1 s1=>e1=e∧s1=s') s:=by
 induction H with
 | mk s R h hn he hr ih=>
  obtain⟨e,s',hR,hU⟩:=hT _ _ h;cases e with
  | normal=>
   obtain⟨e2,s2,k2,g2⟩:=ih s' hR;exact⟨e2,s2,k2,.mk _ _ hU (fun s1 ⟨_,h1⟩=>by subst h1;exact g2) (fun i s1 ⟨h1,_⟩=>by cases h1) (fun s1 ⟨h1,_⟩=>by cases h1)⟩
  | exit i=>exact⟨_,_,he i s' hR,.mk _ _ hU (fun s1 ⟨h1,_⟩=>by cases h1) (fun j s1 h1=>h1) (fun s1 ⟨h1,_⟩=>by cases h1)⟩
  | ret=>exact⟨_,_,hr s' hR,.mk _ _ hU (fun s1 ⟨h1,_⟩=>by cases h1) (fun j s1 ⟨h1,_⟩=>by cases h1) (fun s1 h1=>h1)⟩
theorem uF (hD:D.Mono)(hC:Dt C D):∀(c:ACode),c.noNext=true→∀s K,AW C gl c s K→∃e s',K e s'∧AW D gl c s fun e1 s1=>e1=e∧s1=s'
 | .skip,_,s,K,H=>⟨_,_,H,rfl,rfl⟩
 | .reg ops keep,hn,s,K,H=>by
  obtain⟨e,h,x,h1,h2⟩:=CK hD hC ops _ _ _ _ hn H;refine⟨_,_,h1,?_⟩;show JA D gl ops s.env s.h s.esc fun e1 h1 x1=>_
  exact WG (C:=D) (C':=D) (fun f a h K K' hK h=>hD _ _ _ _ _ hK h) ops _ _ _ _ _ (fun e1 h1 x1 ⟨a1,a2,a3⟩=>by subst a1;subst a2;subst a3;exact⟨rfl,rfl⟩) h2
 | .draw ds keep,_,s,K,H=>by
  obtain⟨e,h,x,h1,h2⟩:=NX hD hC ds _ _ _ _ _ _ H;refine⟨_,_,h1,?_⟩;show KC D gl ds [] [] s.env s.h s.esc fun e1 h1 x1=>_
  exact zR (C:=D) (C':=D) (fun f a h K K' hK h=>hD _ _ _ _ _ hK h) ds _ _ _ _ _ _ _ (fun e1 h1 x1 ⟨a1,a2,a3⟩=>by subst a1;subst a2;subst a3;exact⟨rfl,rfl⟩) h2
 | .seq a b,hn,s,K,H=>by
  simp only[ACode.noNext,Bool.and_eq_true]at hn;obtain⟨e,s',h1,h2⟩:=uF hD hC a hn.1 _ _ H;have mono:=fun(K K':Ex→St→Prop) (hK:∀e s,K e s→K' e s)=>BC (C:=D) (C':=D) (gl:=gl) (fun f a h K K' hK h=>hD _ _ _ _ _ hK h) a s K K' hK
  cases e with
  | normal=>
   obtain⟨e2,s2,k2,g2⟩:=uF hD hC b hn.2 _ _ h1;refine⟨e2,s2,k2,mono _ _ (fun e1 s1 ⟨a1,a2⟩=>?_) h2⟩
   subst a1;subst a2;exact g2
  | exit i=>exact⟨_,_,h1,mono _ _ (fun e1 s1 ⟨a1,a2⟩=>by subst a1;subst a2;exact⟨rfl,rfl⟩) h2⟩
  | ret=>exact⟨_,_,h1,mono _ _ (fun e1 s1 ⟨a1,a2⟩=>by subst a1;subst a2;exact⟨rfl,rfl⟩) h2⟩
 | .condu c a b,hn,s,K,H=>by cases hn
 | .det b,hn,s,K,H=>by cases hn
 | .cond c a b,hn,s,K,H=>by
  simp only[ACode.noNext,Bool.and_eq_true]at hn;unfold AW at H;split at H
  ·rename_i t ht
   split at H
   ·obtain⟨e,s',h1,h2⟩:=uF hD hC a hn.1 _ _ H
    refine⟨e,s',h1,?_⟩;unfold AW;simp only[ht];exact h2
   ·obtain⟨e,s',h1,h2⟩:=uF hD hC b hn.2 _ _ H
    refine⟨e,s',h1,?_⟩;unfold AW;simp only[ht];exact h2
  ·exact H.elim
 | .block id b,hn,s,K,H=>by
  obtain⟨e,s',h1,h2⟩:=uF hD hC b hn _ _ H;have mono:=fun(K K':Ex→St→Prop) (hK:∀e s,K e s→K' e s)=>BC (C:=D) (C':=D) (gl:=gl) (fun f a h K K' hK h=>hD _ _ _ _ _ hK h) b s K K' hK
  cases e with
  | normal=>exact⟨_,_,h1,mono _ _ (fun e1 s1 ⟨a1,a2⟩=>by subst a1;subst a2;exact⟨rfl,rfl⟩) h2⟩
  | exit i=>
   dsimp only at h1;split at h1
   ·rename_i hi
    exact⟨_,_,h1,mono _ _ (fun e1 s1 ⟨a1,a2⟩=>by subst a1;subst a2;dsimp only;rw[if_pos hi];exact⟨rfl,rfl⟩) h2⟩
   ·rename_i hi
    exact⟨_,_,h1,mono _ _ (fun e1 s1 ⟨a1,a2⟩=>by subst a1;subst a2;dsimp only;rw[if_neg hi];exact⟨rfl,rfl⟩) h2⟩
  | ret=>exact⟨_,_,h1,mono _ _ (fun e1 s1 ⟨a1,a2⟩=>by subst a1;subst a2;exact⟨rfl,rfl⟩) h2⟩
 | .loop b,hn,s,K,H=>z4m (fun s K h=>uF hD hC b hn s K h) H
 | .scope b,hn,s,K,H=>by
  obtain⟨e,s',h1,h2⟩:=uF hD hC b hn _ _ H;exact⟨_,_,h1,BC (C:=D) (C':=D) (gl:=gl) (fun f a h K K' hK h=>hD _ _ _ _ _ hK h) b _ _ _ (fun e1 s1 ⟨a1,a2⟩=>by subst a1;subst a2;exact⟨rfl,rfl⟩) h2⟩
 | .pr l b,hn,s,K,H=>uF hD hC b hn _ K H
 | .exit id,_,s,K,H=>⟨_,_,H,rfl,rfl⟩
 | .ret,_,s,K,H=>⟨_,_,H,rfl,rfl⟩
 | .bad,_,s,K,H=>H.elim
theorem z0Q {F:AFun}{b:Nat}{s:St}{K:kA}(H:fin F b s K):∃v h x,K v h x∧fin F b s fun v1 h1 x1=>v1=v∧h1=h∧x1=x:=by
 unfold fin at H;cases h1:KD s F.results with
 | none=>rw[h1]at H;exact H.elim
 | some vs=>
  rw[h1]at H;dsimp only at H;cases h2:F.keep with
  | true=>
   rw[h2]at H;dsimp only at H;by_cases h3:GB s.esc (sB (List.length s.esc) s.esc (max b (UA vs).top))=true
   ·rw[if_pos h3]at H
    exact⟨_,_,_,H,by unfold fin;rw[h1];dsimp only;rw[h2];dsimp only;rw[if_pos h3];exact⟨rfl,rfl,rfl⟩⟩
   ·rw[if_neg h3]at H
    exact⟨_,_,_,H,by unfold fin;rw[h1];dsimp only;rw[h2];dsimp only;rw[if_neg h3];exact⟨rfl,rfl,rfl⟩⟩
  | false=>
   rw[h2]at H;dsimp only at H;cases h4:QA b s.h (UA vs) with
   | none=>rw[h4]at H;exact H.elim
   | some v0=>
    rw[h4]at H;dsimp only at H;by_cases h3:GB s.esc (sB (List.length s.esc) s.esc (max b v0.top))=true
    ·rw[if_pos h3]at H
     cases h5:QA (sB (List.length s.esc) s.esc (max b v0.top)) s.h (UA vs) with
     | none=>rw[h5]at H;exact H.elim
     | some v=>
      rw[h5]at H;exact⟨_,_,_,H.2,by unfold fin;rw[h1];dsimp only;rw[h2];dsimp only;rw[h4];dsimp only;rw[if_pos h3,h5];exact⟨H.1,rfl,rfl,rfl⟩⟩
    ·rw[if_neg h3]at H
     exact⟨_,_,_,H,by unfold fin;rw[h1];dsimp only;rw[h2];dsimp only;rw[h4];dsimp only;rw[if_neg h3];exact⟨rfl,rfl,rfl⟩⟩
def Ctx.NoNext (X:Ctx):Prop:=∀f F,X.fn f=some F→(F.isDet||F.body.noNext)=true
theorem z5y (hD:D.Mono)(hC:Dt C D){F:AFun}{a:List AV}{h:aA}{K:kA}(hb:F.body.noNext=true)(H:lC C gl F a h K):∃v h' x,K v h' x∧lC D gl F a h fun v1 h1 x1=>v1=v∧h1=h'∧x1=x:=by
 unfold lC at H ⊢;cases hp:(if F.byref then some (a,h) else qA h a) with
 | none=>rw[hp]at H;exact H.elim
 | some q=>
  obtain⟨asv,h1⟩:=q;rw[hp]at H;obtain⟨hl,H⟩:=H;obtain⟨e,s',k1,g1⟩:=uF hD hC _ hb _ _ H;have mono:=fun(K K':Ex→St→Prop) (hK:∀e s,K e s→K' e s)=>BC (C:=D) (C':=D) (gl:=gl) (fun f a h K K' hK h=>hD _ _ _ _ _ hK h) F.body ⟨enter asv,h1,[]⟩ K K' hK
  cases e with
  | exit i=>exact k1.elim
  | normal=>
   obtain⟨v,h',x,k2,g2⟩:=z0Q k1;exact⟨v,h',x,k2,hl,mono _ _ (fun e1 s1 ⟨a1,a2⟩=>by subst a1;subst a2;exact g2) g1⟩
  | ret=>
   obtain⟨v,h',x,k2,g2⟩:=z0Q k1;exact⟨v,h',x,k2,hl,mono _ _ (fun e1 s1 ⟨a1,a2⟩=>by subst a1;subst a2;exact g2) g1⟩
theorem z4g {X:Ctx}(hX:X.NoNext):Dt (eA X) (eA X):=by
 intro f a h K H;refine H (fun f a h K=>∃v h' x,K v h' x∧eA X f a h fun v1 h1 x1=>v1=v∧h1=h'∧x1=x) ?_ ?_
 ·intro f a h K K' hK ⟨v,h',x,k,g⟩
  exact⟨v,h',x,hK _ _ _ k,g⟩
 ·intro f a h K H
  have hC:Dt (fun f a h K=>∃v h' x,K v h' x∧eA X f a h fun v1 h1 x1=>v1=v∧h1=h'∧x1=x) (eA X):=fun f a h K H=>H
  have hD:=eA.mono X
  unfold QB at H;split at H
  ·rename_i F hF
   unfold jD at H;cases hd:F.isDet with
   | true=>
    rw[hd]at H;obtain⟨v,h',x,k,H⟩:=H;refine⟨v,h',x,k,eA.fold ?_⟩;unfold QB;simp only[hF,jD,hd];exact⟨v,h',x,⟨rfl,rfl,rfl⟩,uN (fun f a h K K' hK ⟨v2,h2,x2,k2,g2⟩=>hD _ _ _ _ _ (fun v1 h1 x1 hv=>by obtain⟨rfl,rfl,rfl⟩:=hv;exact hK _ _ _ k2) g2) (fun _ _ _ h=>h) H⟩
   | false=>
    rw[hd]at H;obtain⟨v,h',x,k1,g1⟩:=z5y hD hC (by have:=hX f F hF;rw[hd]at this;simpa using this) H
    refine⟨v,h',x,k1,eA.fold ?_⟩;unfold QB;simp only[hF,jD,hd]
    exact g1
  ·rename_i hF
   split at H
   ·rename_i hx2
    refine⟨_,_,_,H,eA.fold ?_⟩;unfold QB;simp only[hF,hx2]
    exact⟨trivial,trivial,trivial⟩
   ·rename_i hx2
    split at H
    ·rename_i hp
     split at H
     ·rename_i hu
      split at H
      ·rename_i hx
       refine⟨_,_,_,H,eA.fold ?_⟩;unfold QB;simp only[hF,hx2,hp,hu,hx]
       exact⟨trivial,trivial,trivial⟩
      ·exact H.elim
     ·exact H.elim
    ·exact H.elim
theorem eA.one {X:Ctx}(hX:X.NoNext){f:Nat}{a:List AV}{h:aA}{Q:kA}(H:eA X f a h Q):∃v h' x,Q v h' x∧∀K:kA,eA X f a h K=K v h' x:=by
 obtain⟨v,h',x,k,g⟩:=z4g hX _ _ _ _ H;exact⟨v,h',x,k,fun K=>CA g⟩
end Go.Am
end
section
/- The abstract machine,part 29: its meaning once more,spelt so that a function's code can be printed asv a formula over its values (shallow),equal tov the deep one by computing. -/
set_option linter.unusedSimpArgs false
set_option linter.unusedVariables false
namespace Go.Am
def pK (o:Option AV)(k:AV→Prop):Prop:=match o with
 | some v=>k v
 | none=>False
def wK (o:Option (AV × aA × Esc))(k:AV→aA→Esc→Prop):Prop:=match o with
 | some y=>k y.1 y.2.1 y.2.2
 | none=>False
def sM (c a b:AV):Option AV:=match c with
 | .p (.bool t)=>some (bif t then a else b)
 | _=>none
def lM (x:AV)(h:aA):Option (AV×aA×Esc):=match x.cells with
 | some cs=>some (.ref h.length 0,h++[.box cs],[])
 | none=>none
def bM:List (Nat × Nat × AV)→List AV→Option (List AV)
 | [],cs=>some cs
 | (off,n,x)::r,cs=>match x.cells with
  | some vs=>if vs.length=n∧off+n≤cs.length then bM r (splice cs off vs) else none
  | none=>none
def iC (z:List AV)(ps:List (Nat × Nat × AV)):Option AV:=(bM ps z).map mkA
def cM (sh:Sh):List (Nat×AV)→aA→List PV→Option (List PV×aA)
 | [],h,xs=>some (xs,h)
 | (i,x)::r,h,xs=>match pur h x with
  | some (v,h')=>if v.shp sh∧i<xs.length then cM sh r h' (xs.set i v) else none
  | none=>none
def SF (own:Bool)(sh:Sh)(n:Nat)(z:PV)(ps:List (Nat × AV))(h:aA):Option (AV×aA×Esc):=match cM sh ps h (List.replicate n z) with
 | some (xs,h')=>if !z.shp sh then none else some (bif own then(.own h'.length n 0 n,h'++[.row sh xs 0],[]) else(.p (.sl sh xs),h',[]))
 | none=>none
def MB (sh:Sh)(a:AV)(h:aA):Option AV:=match a with
 | .ref id off=>match h[id]? with
  | some (.box cs)=>cut sh off cs
  | _=>none
 | .rref id g i off=>match h[id]? with
  | some (.row _ xs _)=>if g=xs.length then((xs[i]?).bind (bB sh off)).map .p else none
  | _=>none
 | .vp v=>(bB sh 0 v).map .p
 | .bt k off id g=>ldA sh k off id g h
 | _=>none
def KE (sh:Sh)(a x:AV)(h:aA):Option (AV×aA×Esc):=match a with
 | .ref id off=>match h[id]?,x.cells with
  | some (.box cs),some vs=>if vs.length=bA sh∧off+vs.length≤cs.length then some (.und,h.set id (.box (splice cs off vs)),gF id cs x) else none
  | _,_=>none
 | .rref id g i off=>match pur h x with
  | some (v,h1)=>match h1[id]? with
   | some (.row rsh xs fz)=>if g=xs.length∧fz≤i∧v.cells.length=bA sh∧v.cells.all PV.sc then match xs[i]? with
    | some (.agg cs)=>if off+v.cells.length≤cs.length then some (.und,h1.set id (.row rsh (xs.set i (.agg (splice cs off v.cells))) fz),[]) else none
    | some _=>if off=0∧v.sc then some (.und,h1.set id (.row rsh (xs.set i v) fz),[]) else none
    | none=>none
    else none
   | _=>none
  | none=>none
 | .bt k off id g=>stA sh k off id g x h
 | _=>none
def oE (x:AV):Option AV:=match x with
 | .ref _ _ | .rref _ _ _ _ | .vp _ | .fn _ _=>some x
 | .bt k _ _ _=>nlA k x
 | _=>none
def SA (op:BinOp)(x y:AV):Option AV:=match x,y with
 | .p a,.p b=>(zB op a b).map .p
 | _,_=>none
def PA (ks:List Nat)(neg:Bool)(x y:AV):Option AV:=match x,y with
 | .p (.agg asv),.p (.agg bs)=>if asv.map PV.kind=ks∧bs.map PV.kind=ks∧ks≠[] then(eqs asv bs).map fun t=>pbool (bif neg then !t else t) else none
 | .p (.bool a),.p (.bool b)=>if ks=[] then some (pbool (bif neg then !decide (a=b) else decide (a=b))) else none
 | _,_=>none
def oM (k:Nat)(neg:Bool)(x:AV):Option AV:=bif HG k x then some .anyb else(kM k x).map fun r=>pbool (bif neg then !r else r)
def yP (x:AV):Option AV:=if JG x then some .ifc else none
def oUn (op:UnOp)(x:AV):Option AV:=match x with
 | .p a=>(aun op a).map .p
 | _=>none
def CD (c:Cv)(x:AV)(h:aA):Option (AV×aA×Esc):=(WE h c x).map fun y=>(y.1,y.2,[])
def lJ (k:IntKind)(x:AV):Option AV:=match x with
 | .p (.int _ n)=>some (.p (.int k (k.wrap n)))
 | _=>none
def zP (sh:Sh)(z:PV)(len cap:AV)(h:aA):Option (AV×aA×Esc):=match ZA len,ZA cap with
 | some n,some m=>if n≤m∧m≤LA∧z.shp sh then some (.own h.length n 0 n,h++[.row sh (List.replicate n z) 0],[]) else none
 | _,_=>none
def dD (d:Nat):Option AV→Option Nat
 | none=>some d
 | some x=>ZA x
def tM (x:AV)(lo hi:Option AV):Option AV:=match x with
 | .p (.str s)=>match dD 0 lo,dD s.length hi with
  | some l,some r=>if l≤r∧r≤s.length then some (.p (.str (win s l (r-l)))) else none
  | _,_=>none
 | _=>none
def EH (sh:Sh)(x:AV)(lo hi mx:Option AV)(h:aA):Option AV:=match x with
 | .p (.sl sh' xs)=>match dD 0 lo,dD xs.length hi,dD xs.length mx with
  | some l,some r,some m=>if sh'=sh∧l≤r∧r≤m∧m≤xs.length then some (if mx.isSome∧m=l then .sl0 sh else .p (.sl sh (win xs l (r-l)))) else none
  | _,_,_=>none
 | .sl0 sh'=>match dD 0 lo,dD 0 hi,dD 0 mx with
  | some l,some r,some m=>if l=0∧r=0∧m=0 then some (.sl0 sh') else none
  | _,_,_=>none
 | .own id g off len=>match h[id]? with
  | some (.row rsh xs _)=>match dD 0 lo,dD len hi,dD len mx with
   | some l,some r,some m=>if rsh=sh∧g=xs.length∧off+len≤xs.length∧l≤r∧r≤m∧m≤len then some (if mx.isSome∧m=l then .sl0 sh else .own id g (off+l) (r-l)) else none
   | _,_,_=>none
  | _=>none
 | _=>none
def QC (off:Nat)(sh:Sh)(x:AV):Option AV:=match x with
 | .ref id o=>some (.ref id (o+off))
 | .rref id g i o=>some (.rref id g i (o+off))
 | .vp v=>(bB sh off v).map .vp
 | .bt k o id g=>faA k off o id g
 | _=>none
def nM (off:Nat)(sh:Sh)(x:AV):Option AV:=match x with
 | .p v=>match v with
  | .agg _=>(bB sh off v).map .p
  | _=>none
 | .agg cs=>cut sh off cs
 | _=>none
def XD (sh:Sh)(x i:AV)(h:aA):Option AV:=match x,ZA i with
 | .p (.sl sh' xs),some k=>if sh'=sh then(xs[k]?).map .vp else none
 | .own id g off len,some k=>match h[id]? with
  | some (.row rsh xs _)=>if rsh=sh∧g=xs.length∧off+len≤xs.length∧k<len then some (.rref id g (off+k) 0) else none
  | _=>none
 | .bt kk _ id g,some k=>iaA sh kk id g k h
 | _,_=>none
def DH (n:Nat)(sh:Sh)(x i:AV):Option AV:=match x,ZA i with
 | .ref id o,some k=>if k<n then some (.ref id (o+k*bA sh)) else none
 | .rref id g j o,some k=>if k<n then some (.rref id g j (o+k*bA sh)) else none
 | .vp v,some k=>if k<n then(bB sh (k*bA sh) v).map .vp else none
 | _,_=>none
def mJ (n:Nat)(sh:Sh)(x i:AV):Option AV:=match x,ZA i with
 | .p (.agg cs),some k=>if k<n then(bB sh (k*bA sh) (.agg cs)).map .p else none
 | _,_=>none
def nJ (x i:AV):Option AV:=match x,ZA i with
 | .p (.str s),some k=>(s[k]?).map fun b=>.p (.int .u8 b.toNat)
 | _,_=>none
def BH (x:AV)(i:Nat):Option AV:=match x with
 | .tup vs=>vs[i]?
 | _=>none
def UF (x:AV):Option AV:=match x with
 | .p (.sl _ xs)=>some (pint xs.length)
 | .sl0 _=>some (pint 0)
 | .own _ _ _ len=>some (pint len)
 | .bt k _ _ g=>lnA k g
 | _=>none
def qM (x:AV):Option AV:=match x with
 | .p (.str s)=>some (pint s.length)
 | _=>none
def kJ (sh:Sh)(s x:AV)(h:aA):Option (AV×aA×Esc):=match rds h x with
 | some (sh',ys)=>if sh'=sh then match s with
  | .sl0 _=>if ys.length≤LA then some (.own h.length ys.length 0 ys.length,h++[.row sh ys 0],[]) else none
  | .own id g off len=>match h[id]? with
   | some (.row rsh xs fz)=>if rsh=sh∧g=xs.length∧off=0∧len=xs.length∧len+ys.length≤LA∧fz≤xs.length then some (.own id (g+ys.length) off (len+ys.length),h.set id (.row sh (xs++ys) fz),[])
    else if rsh=sh∧g=xs.length∧off+len+ys.length≤xs.length∧fz≤off+len∧1≤ys.length∧len+ys.length≤LA∧sh=none∧xs.all PV.intP=true∧ys.all PV.intP=true then
     some (.p (.sl sh (win xs off len++ys)),h.set id (.row sh (splice xs (off+len) (List.replicate ys.length .unk)) (off+len+ys.length)),[])
    else none
   | _=>none
  | _=>none
  else none
 | none=>none
def wP (sh:Sh)(d s:AV)(h:aA):Option (AV×aA×Esc):=match d,rds h s with
 | .own id g off len,some (sh',ys)=>match h[id]? with
  | some (.row rsh xs fz)=>if rsh=sh∧sh'=sh∧g=xs.length∧off+len≤xs.length∧fz≤off then
   some (pint (min ys.length len),h.set id (.row sh (splice xs off (ys.take (min ys.length len))) fz),[])
   else none
  | _=>none
 | _,_=>none
def oClr (sh:Sh)(z:PV)(x:AV)(h:aA):Option (AV×aA×Esc):=match x with
 | .sl0 _=>some (.tup [],h,[])
 | .own id g off len=>match h[id]? with
  | some (.row rsh xs fz)=>if rsh=sh∧g=xs.length∧off+len≤xs.length∧fz≤off then
   some (.tup [],h.set id (.row sh (splice xs off (List.replicate len z)) fz),[])
   else none
  | _=>none
 | _=>none
def oMx (xs:List AV):Option AV:=match xs with
 | .p a::r=>((unp r).bind fun l=>l.foldlM EK a).map .p
 | _=>none
def oMn (xs:List AV):Option AV:=match xs with
 | .p a::r=>((unp r).bind fun l=>l.foldlM FK a).map .p
 | _=>none
def CB (kk:Sh × List Nat)(ok:Bool)(z x k:AV)(h:aA):Option AV:=match FC kk k with
 | some key=>match (match x with | .nilm=>some []|m=>(SB h m).map fun y=>y.2.1) with
  | some es=>match aC key es with
   | some r=>
    let v:=((r.bind (es[·]?)).map ME.val)
    some (bif ok then .tup [v.getD z,pbool v.isSome] else v.getD z)
   | none=>none
  | none=>none
 | none=>none
def NB (kk:Sh × List Nat)(m k x:AV)(h:aA):Option (AV×aA×Esc):=match FC kk k,SB h m,JG x with
 | some key,some (id,es,c),true=>match aC key es with
  | some (some i)=>some (.und,h.set id (.amap (es.modify i fun e=>{ e with val:=x }) c),vC id x)
  | some none=>some (.und,h.set id (.amap (es++[⟨key,x,c⟩]) (c+1)),vC id x)
  | none=>none
 | _,_,_=>none
def rM (kk:Sh × List Nat)(z m k:AV)(h:aA):Option (AV×aA×Esc):=match FC kk k,SB h m with
 | some key,some (id,es,c)=>match aC key es with
  | some (some i)=>(es[i]?).map fun e=>(.tup [e.val,pint e.born],h,[])
  | some none=>some (.tup [z,pint c],h.set id (.amap (es++[⟨key,z,c⟩]) (c+1)),[])
  | none=>none
 | _,_=>none
def mM (m s x:AV)(h:aA):Option (AV×aA×Esc):=match SB h m,ZA s,JG x with
 | some (id,es,c),some b,true=>match es.findIdx? (fun e=>e.born==b) with
  | some i=>some (.und,h.set id (.amap (es.modify i fun e=>{ e with val:=x }) c),vC id x)
  | none=>none
 | _,_,_=>none
def xP (kk:Sh × List Nat)(m k:AV)(h:aA):Option (AV×aA×Esc):=match FC kk k,SB h m with
 | some key,some (id,es,c)=>match aC key es with
  | some (some i)=>some (.und,h.set id (.amap (es.eraseIdx i) c),[])
  | some none=>some (.und,h,[])
  | none=>none
 | _,_=>none
def pM (x:AV)(h:aA):Option AV:=match x with
 | .nilm=>some (pint 0)
 | .mp id=>(SB h (.mp id)).map fun y=>pint y.2.1.length
 | _=>none
def pJ (x:AV)(h:aA):Option (AV×aA×Esc):=match SB h x with
 | some (id,_,c)=>some (.it h.length,h++[.iter (some id) c [] c],[])
 | none=>match x with
  | .nilm=>some (.it h.length,h++[.iter none 0 [] 0],[])
  | _=>none
def oJ (i:AV)(h:aA):Option (AV×aA×Esc):=match i with
 | .it id=>match h[id]? with
  | some (.iter (some m) _ seen last)=>match SB h (.mp m),seen.getLast? with
   | some (_,es,c),some b=>if c=last then(es.find? (fun e=>e.born==b)).map fun e=>(.tup [.p e.key,e.val],h,[]) else none
   | _,_=>none
  | _=>none
 | _=>none
def alK (z:List AV)(h:aA)(k:AV→aA→Esc→Prop):Prop:=k (.ref h.length 0) (h++[.box z]) []
def nwK (sh:Sh)(h:aA)(k:AV→aA→Esc→Prop):Prop:=k (.own h.length 0 0 0) (h++[.row sh [] 0]) []
def mmK (h:aA)(k:AV→aA→Esc→Prop):Prop:=k (.mp h.length) (h++[.amap [] 0]) []
def ev3 (ev:Opd→AV):List (Nat×Nat×Opd)→List (Nat×Nat×AV)
 | []=>[]
 | (a,b,x)::r=>(a,b,ev x)::ev3 ev r
def ev2 (ev:Opd→AV):List (Nat×Opd)→List (Nat×AV)
 | []=>[]
 | (a,x)::r=>(a,ev x)::ev2 ev r
def evO (ev:Opd→AV):Option Opd→Option AV
 | none=>none
 | some x=>some (ev x)
def ev1 (ev:Opd→AV):List Opd→List AV
 | []=>[]
 | x::r=>ev x::ev1 ev r
def opN (o:AO)(ev:Opd→AV)(h:aA)(k:AV→aA→Esc→Prop):Prop:=match o with
 | .mv x=>k (ev x) h []
 | .pick c a b=>pK (sM (ev c) (ev a) (ev b)) fun v=>k v h []
 | .alloc z=>alK z h k
 | .box x=>wK (lM (ev x) h) k
 | .build z ps=>pK (iC z (ev3 ev ps)) fun v=>k v h []
 | .bsl own sh n z ps=>wK (SF own sh n z (ev2 ev ps) h) k
 | .load sh a=>pK (MB sh (ev a) h) fun v=>k v h []
 | .store sh a x=>wK (KE sh (ev a) (ev x) h) k
 | .nilchk x=>pK (oE (ev x)) fun v=>k v h []
 | .bin op x y=>pK (SA op (ev x) (ev y)) fun v=>k v h []
 | .eqa ks neg x y=>pK (PA ks neg (ev x) (ev y)) fun v=>k v h []
 | .isnil n neg x=>pK (oM n neg (ev x)) fun v=>k v h []
 | .mkif x=>pK (yP (ev x)) fun v=>k v h []
 | .un op x=>pK (oUn op (ev x)) fun v=>k v h []
 | .conv (.i c) x=>pK (lJ c (ev x)) fun v=>k v h []
 | .mkfn f caps=>k (.fn f (ev1 ev caps)) h []
 | .slice sh x lo hi mx=>pK (EH sh (ev x) (evO ev lo) (evO ev hi) (evO ev mx) h) fun v=>k v h []
 | .slstr x lo hi=>pK (tM (ev x) (evO ev lo) (evO ev hi)) fun v=>k v h []
 | .mksl sh z len cap=>wK (zP sh z (ev len) (ev cap) h) k
 | .faddr off sh x=>pK (QC off sh (ev x)) fun v=>k v h []
 | .field off sh x=>pK (nM off sh (ev x)) fun v=>k v h []
 | .iaddr sh x i=>pK (XD sh (ev x) (ev i) h) fun v=>k v h []
 | .iaddra n sh x i=>pK (DH n sh (ev x) (ev i)) fun v=>k v h []
 | .idxa n sh x i=>pK (mJ n sh (ev x) (ev i)) fun v=>k v h []
 | .idxs x i=>pK (nJ (ev x) (ev i)) fun v=>k v h []
 | .ext x i=>pK (BH (ev x) i) fun v=>k v h []
 | .len x=>pK (UF (ev x)) fun v=>k v h []
 | .lens x=>pK (qM (ev x)) fun v=>k v h []
 | .app sh s x=>wK (kJ sh (ev s) (ev x) h) k
 | .copy sh d s=>wK (wP sh (ev d) (ev s) h) k
 | .uns m t xs=>wK (SE m t (ev1 ev xs) h) k
 | .clr sh z x=>wK (oClr sh z (ev x) h) k
 | .mx xs=>pK (oMx (ev1 ev xs)) fun v=>k v h []
 | .mn xs=>pK (oMn (ev1 ev xs)) fun v=>k v h []
 | .new0 sh=>nwK sh h k
 | .conv .s2b x=>wK (CD .s2b (ev x) h) k
 | .conv .b2s x=>wK (CD .b2s (ev x) h) k
 | .conv .r2s x=>wK (CD .r2s (ev x) h) k
 | .conv .same x=>wK (CD .same (ev x) h) k
 | .mkmap=>mmK h k
 | .look kk ok z x key=>pK (CB kk ok z (ev x) (ev key) h) fun v=>k v h []
 | .mupd kk m key x=>wK (NB kk (ev m) (ev key) (ev x) h) k
 | .ment kk z m key=>wK (rM kk z (ev m) (ev key) h) k
 | .estore m s x=>wK (mM (ev m) (ev s) (ev x) h) k
 | .mdel kk m key=>wK (xP kk (ev m) (ev key) h) k
 | .lenm x=>pK (pM (ev x) h) fun v=>k v h []
 | .mrange x=>wK (pJ (ev x) h) k
 | .mentry i=>wK (oJ (ev i) h) k
 | .call _ _ | .callv _ _ | .mnext _ _=>False
theorem z3R {o:Option (AV × aA × Esc)}{k:AV→aA→Esc→Prop}:FH o k=wK o k:=rfl
theorem nF {o:Option AV}{h:aA}{k:AV→aA→Esc→Prop}:wK (o.map fun v=>(v,h,[])) k=pK o fun v=>k v h []:=by cases o <;> rfl
theorem z0L (ev:Opd→AV):∀(ps:List (Nat×Nat×Opd)) (z:List AV),NF ev ps z=bM (ev3 ev ps) z
 | [],z=>rfl
 | (off,n,x)::r,z=>by
  simp only[NF,ev3,bM];cases (ev x).cells with
  | none=>rfl
  | some vs=>simp only[z0L ev r]
theorem z0M (ev:Opd→AV)(sh:Sh):∀(ps:List (Nat×Opd)) (h:aA) (z:List PV),OF ev sh ps h z=cM sh (ev2 ev ps) h z
 | [],h,z=>rfl
 | (i,x)::r,h,z=>by
  simp only[OF,ev2,cM];cases pur h (ev x) with
  | none=>rfl
  | some y=>simp only[z0M ev sh r]
theorem JY (ev:Opd→AV)(d:Nat)(o:Option Opd):bnd ev d o=dD d (evO ev o):=by cases o <;> rfl
theorem zam (ev:Opd→AV)(o:Option Opd):(evO ev o).isSome=o.isSome:=by cases o <;> rfl
theorem IF (ev:Opd→AV)(l:List Opd):l.map ev=ev1 ev l:=by
 induction l with
 | nil=>rfl
 | cons x r ih=>simp only[List.map_cons,ev1,ih]
theorem z5L (sh:Sh)(ev:Opd→AV)(h:aA)(x:AV)(lo hi mx:Option Opd):asl sh ev h x lo hi mx=EH sh x (evO ev lo) (evO ev hi) (evO ev mx) h:=by
 unfold asl EH;simp only[JY,zam];rfl
theorem BK {p:Prop}[Decidable p]{a:AV}{h:aA}{k:AV→aA→Esc→Prop}:wK (if p then some (a,h,[]) else none) k=pK (if p then some a else none) fun v=>k v h []:=by split <;> rfl
theorem TE {α:Type}{o:Option α}{f:α→AV}{h:aA}{k:AV→aA→Esc→Prop}:wK (o.map fun v=>(f v,h,[])) k=pK (o.map f) fun v=>k v h []:=by cases o <;> rfl
theorem WM {α:Type}{p:Prop}[Decidable p]{o:Option α}{f:α→AV}{h:aA}{k:AV→aA→Esc→Prop}:wK (if p then o.map (fun v=>(f v,h,[])) else none) k=pK (if p then o.map f else none) fun v=>k v h []:=by
 split
 ·exact TE
 ·rfl
theorem z1Y {o:AO}(hp:o.plain=true){ev:Opd→AV}{h:aA}{k:AV→aA→Esc→Prop}:FH (aop o ev h) k=opN o ev h k:=by
 rw[z3R];cases o <;> first|(cases hp;done)|skip
 case mv=>rfl
 case pick c a b=>
  simp only[aop,opN,sM];generalize ev c=v;cases v <;> try rfl
  rename_i p;cases p <;> rfl
 case alloc=>rfl
 case box=>rfl
 case build z ps=>simp only[aop,opN];rw[←nF,iC,z0L,Option.map_map];rfl
 case bsl=>simp only[aop,opN,SF,z0M];rfl
 case load sh a=>
  simp only[aop,opN,MB];generalize ev a=v;cases v with
  | ref id off=>dsimp only;cases h[id]? with
   | none=>rfl
   | some o=>cases o <;> first|rfl|exact nF
  | rref id g i off=>dsimp only;cases h[id]? with
   | none=>rfl
   | some o=>cases o <;> first|rfl|exact WM
  | vp v=>exact TE
  | p v=>cases v <;> rfl
  | bt _ _ _ _=>exact nF
  | _=>rfl
 case store=>simp only[aop,opN];rfl
 case nilchk x=>
  simp only[aop,opN,oE];generalize ev x=v;cases v <;> try rfl
  exact nF
 case bin op x y=>
  simp only[aop,opN,SA];generalize ev x=v;generalize ev y=u;cases v <;> try rfl
  cases u <;> try rfl
  exact TE
 case eqa ks neg x y=>
  simp only[aop,opN,PA];generalize ev x=v;generalize ev y=u;cases v <;> try rfl
  rename_i p;cases p <;> try rfl
  all_goals (cases u <;> try rfl)
  all_goals (rename_i q;cases q <;> try rfl)
  ·exact BK
  ·exact WM
 case isnil k neg p=>
  simp only[aop,opN,oM];cases HG k (ev p) with
  | true=>rfl
  | false=>exact TE
 case mkif=>exact BK
 case un op x=>
  simp only[aop,opN,oUn];generalize ev x=v;cases v <;> try rfl
  exact TE
 case conv c x=>
  cases c;case i k'=>
   simp only[aop,opN,lJ,WE];generalize ev x=v;cases v <;> try rfl
   rename_i p;cases p <;> rfl
  all_goals rfl
 case mkfn f caps=>simp only[aop,opN,IF];rfl
 case slice=>simp only[aop,opN,z5L];exact nF
 case slstr x lo hi=>
  simp only[aop,opN,tM,JY];generalize ev x=v;cases v <;> try rfl
  rename_i p;cases p <;> try rfl
  rename_i s;dsimp only;generalize dD 0 _=o1;generalize dD s.length _=o2;cases o1 <;> try rfl
  cases o2 <;> try rfl
  exact BK
 case mksl=>simp only[aop,opN];rfl
 case faddr off sh x=>
  simp only[aop,opN,QC];generalize ev x=v;cases v <;> try rfl
  ·exact TE
  ·exact nF
 case field off sh x=>
  simp only[aop,opN,nM];generalize ev x=v;cases v <;> try rfl
  ·rename_i p;cases p <;> try rfl
   exact TE
  ·exact nF
 case iaddr sh x i=>
  simp only[aop,opN,XD];generalize ev x=v;generalize ZA (ev i)=n;cases v <;> try rfl
  ·rename_i p;cases p <;> try rfl
   cases n <;> try rfl
   exact WM
  ·cases n <;> try rfl
   rename_i id g off len k;dsimp only;cases h[id]? with
   | none=>rfl
   | some o=>cases o <;> first|rfl|exact BK
  ·cases n <;> try rfl
   exact nF
 case iaddra m sh x i=>
  simp only[aop,opN,DH];generalize ev x=v;generalize ZA (ev i)=n;cases v <;> try rfl
  all_goals (cases n <;> try rfl)
  ·exact BK
  ·exact BK
  ·exact WM
 case idxa m sh x i=>
  simp only[aop,opN,mJ];generalize ev x=v;generalize ZA (ev i)=n;cases v <;> try rfl
  rename_i p;cases p <;> try rfl
  cases n <;> try rfl
  exact WM
 case idxs x i=>
  simp only[aop,opN,nJ];generalize ev x=v;generalize ZA (ev i)=n;cases v <;> try rfl
  rename_i p;cases p <;> try rfl
  cases n <;> try rfl
  exact TE
 case ext x i=>
  simp only[aop,opN,BH];generalize ev x=v;cases v <;> try rfl
  exact nF
 case len x=>
  simp only[aop,opN,UF];generalize ev x=v;cases v <;> try rfl
  ·rename_i p;cases p <;> rfl
  ·exact nF
 case lens x=>
  simp only[aop,opN,qM];generalize ev x=v;cases v <;> try rfl
  rename_i p;cases p <;> rfl
 case app=>simp only[aop,opN];rfl
 case copy=>simp only[aop,opN];rfl
 case uns=>simp only[aop,opN,IF,z3R]
 case clr=>simp only[aop,opN];rfl
 case mx xs=>
  simp only[aop,opN,IF,oMx];generalize ev1 ev xs=l;cases l <;> try rfl
  rename_i v r;cases v <;> try rfl
  exact TE
 case mn xs=>
  simp only[aop,opN,IF,oMn];generalize ev1 ev xs=l;cases l <;> try rfl
  rename_i v r;cases v <;> try rfl
  exact TE
 case new0=>rfl
 case look kk ok z x key=>
  simp only[aop,opN,CB];cases FC kk (ev key) <;> try rfl
  rename_i kk;generalize ev x=v;cases v <;> try rfl
  rename_i id;dsimp only;cases SB h (.mp id) <;> try rfl
  rename_i y;dsimp only[Option.map_some];cases aC kk y.2.1 <;> rfl
 case lenm x=>
  simp only[aop,opN,pM];generalize ev x=v;cases v <;> try rfl
  exact TE
 all_goals rfl
end Go.Am
end
section
/- The abstract machine,part 30: the meaning of code in the new spelling,and that it is the old one. -/
set_option linter.unusedSimpArgs false
set_option linter.unusedVariables false
namespace Go.Am
def gV (v:AV)(b:Bool)(h:aA)(A:(AV→aA→Esc→Prop)→Prop)(k:AV→aA→Esc→Prop):Prop:=cE v b (A k) (k .skp h [])
def gP (v:AV)(b:Bool)(o:Option AV)(h:aA)(k:AV→aA→Esc→Prop):Prop:=gV v b h (fun k=>pK o fun u=>k u h []) k
def gM (v:AV)(b:Bool)(u:AV)(h:aA)(k:AV→aA→Esc→Prop):Prop:=gV v b h (fun k=>k u h []) k
def upB (b:Bool):Bool:=(fun(_:AV→Bool→Option AV→aA→(AV→aA→Esc→Prop)→Prop)=>b) gP
def gK (g:Option (Nat × Bool))(e:List (Nat × AV))(h:aA)(A:(AV→aA→Esc→Prop)→Prop)(k:AV→aA→Esc→Prop):Prop:=match g with
 | none=>A k
 | some (t,b)=>gV (jA e t) b h A k
def opC (C:Hd)(o:AO)(ev:Opd→AV)(h:aA)(k:AV→aA→Esc→Prop):Prop:=match o with
 | .call f args=>C f (ev1 ev args) h k
 | .callv f args=>jG C (ev f) (ev1 ev args) h k
 | .mnext sh xs=>match mH h sh (ev1 ev xs) with
  | some l=>l≠[]∧∀y∈l,k y.1 y.2 []
  | none=>False
 | o=>opN o ev h k
def fE (C:Hd)(gl:Nat→Option PV):List AOp→List (Nat×AV)→aA→Esc→(List (Nat×AV)→aA→Esc→Prop)→Prop
 | [],e,h,x,L=>L e h x
 | o::r,e,h,x,L=>gK o.guard e h (opC C o.op (Opd.ev gl e) h) fun v h' x'=>fE C gl r (put o.dst v e) h' (x'++x) L
variable {C:Hd} {gl:Nat→Option PV}
theorem z1W {o:AO}{d:Option Nat}{r:List AOp}{e:List (Nat × AV)}{h:aA}{x:Esc}{L:List (Nat × AV)→aA→Esc→Prop} :
 JA C gl (⟨d,none,o⟩::r) e h x L=opC C o (Opd.ev gl e) h (zI C gl r d e x L):=by
 cases hp:o.plain with
 | true=>
  rw[z4o hp,z1Y hp];cases o <;> first|rfl|cases hp
 | false=>
  cases o <;> first|(cases hp;done)|skip
  all_goals first
   | (rw[QX,IF];rfl)
   | (rw[RX,IF];rfl)
   | (unfold JA opC;simp only[wanted,IF];rfl)
theorem ZX:∀ (ops:List AOp) (e:List (Nat × AV)) (h:aA) (x:Esc) (L:List (Nat × AV)→aA→Esc→Prop),JA C gl ops e h x L=fE C gl ops e h x L
 | [],e,h,x,L=>rfl
 | ⟨d,g,o⟩::r,e,h,x,L=>by
  have ih:(fun(v:AV) (h':aA) (x':Esc)=>fE C gl r (put d v e) h' (x'++x) L)=zI C gl r d e x L:=by
   funext v h' x';rw[←ZX r];rfl
  show _=gK g e h (opC C o (Opd.ev gl e) h) fun v h' x'=>fE C gl r (put d v e) h' (x'++x) L
  rw[ih];cases g with
  | none=>exact z1W
  | some tb=>
   obtain⟨t,b⟩:=tb;rw[TX,z1W];rfl
def opE (C:Hd)(o:AO)(ev:Opd→AV)(h:aA)(k:AV→aA→Esc→Prop):Prop:=match o with
 | .call f args=>XE C f (ev1 ev args) h k
 | .callv f args=>IK C (ev f) (ev1 ev args) h k
 | .mnext _ _=>False
 | o=>opN o ev h k
def sG (still eff:Bool)(h h':aA)(y:Esc)(Q:Prop):Prop:=match upB eff with
 | true=>Q
 | false=>match still with
  | true=>Q
  | false=>(h'=h∧y=[])∧Q
def ZH (C:Hd)(gl:Nat→Option PV)(q:AOp × List (Nat × AV) × AV)(g:aA):Prop:=
 gK q.1.guard q.2.1 g (opE C q.1.op (Opd.ev gl q.2.1) g) fun v1 h1 x1=>v1=q.2.2∧h1=g∧x1=[]
def JD (C:Hd)(gl:Nat→Option PV)(h:aA)(dn:pC)(Q:Prop):List Nat→Prop
 | []=>Q
 | j::r=>(match dn[j]? with|some q=>ZH C gl q h|none=>False)∧JD C gl h dn Q r
def QD (C:Hd)(gl:Nat→Option PV)(o:AOp)(e:List (Nat × AV))(v:AV)(hs:List aA)(Q:Prop):List Nat→Prop
 | []=>Q
 | k::r=>(match hs[k]? with|some g=>ZH C gl (o,e,v) g|none=>False)∧QD C gl o e v hs Q r
def FD (C:Hd)(gl:Nat→Option PV):List DOp→pC→List aA→List (Nat×AV)→aA→Esc→(List (Nat×AV)→aA→Esc→Prop)→Prop
 | [],_,_,e,h,x,L=>L e h x
 | o::r,dn,hs,e,h,x,L=>gK o.op.guard (xA (some o.rd) e) h (opE C o.op.op (Opd.ev gl (xA (some o.rd) e)) h) fun v h' y=>
  sG o.op.op.still o.eff h h' y (QD C gl o.op (xA (some o.rd) e) v hs (JD C gl h' dn (FD C gl r (dn++[(o.op,xA (some o.rd) e,v)]) (hs++[h]) (put o.op.dst v e) h' (y++x) L) o.again) o.early)
theorem z1X {o:AO}{d:Option Nat}{e:List (Nat × AV)}{h:aA}{R:AV→aA→Esc→Prop}:doK C gl ⟨d,none,o⟩ e h R=opE C o (Opd.ev gl e) h R:=by
 cases hp:o.plain with
 | true=>
  rw[z7S hp,z1Y hp];cases o <;> first|rfl|cases hp
 | false=>
  cases o <;> first|(cases hp;done)|skip
  all_goals first
   | (rw[tZ,IF];rfl)
   | (rw[uZ,IF];rfl)
   | (unfold doK ADo opE;simp [wanted])
theorem z1d {o:AOp}{e:List (Nat × AV)}{h:aA}{R:AV→aA→Esc→Prop}:doK C gl o e h R=gK o.guard e h (opE C o.op (Opd.ev gl e) h) R:=by
 obtain⟨d,g,op⟩:=o;cases g with
 | none=>exact z1X
 | some tb=>
  obtain⟨t,b⟩:=tb;rw[vZ,z1X];rfl
theorem z3k {q:AOp × List (Nat × AV) × AV}{g:aA}:doS C gl q g=ZH C gl q g:=by
 obtain⟨⟨d,gd,op⟩,e,v⟩:=q;rw[xZ,z1d];rfl
theorem qY {h:aA}{dn:pC}{Q:Prop}:∀{l:List Nat},JD C gl h dn Q l=(agK C gl h dn l∧Q)
 | []=>by simp [JD,agK]
 | j::r=>by
  unfold JD agK;rw[qY (l:=r)];cases dn[j]? with
  | none=>simp
  | some q=>simp only[z3k,and_assoc]
theorem RZ {o:AOp}{e:List (Nat × AV)}{v:AV}{hs:List aA}{Q:Prop}:∀{l:List Nat},QD C gl o e v hs Q l=(eaK C gl o e v hs l∧Q)
 | []=>by simp [QD,eaK]
 | j::r=>by
  unfold QD eaK;rw[RZ (l:=r)];cases hs[j]? with
  | none=>simp
  | some q=>simp only[z3k,and_assoc]
theorem z7T {o:AOp}(hs:o.op.still=true){e:List (Nat × AV)}{h:aA}{R:AV→aA→Esc→Prop}:doK C gl o e h (fun v h' y=>(h'=h∧y=[])∧R v h' y)=doK C gl o e h R:=by
 unfold doK;refine propext ⟨fun⟨v,h',y,H,_,r⟩=>⟨v,h',y,H,r⟩,fun⟨v,h',y,H,r⟩=>⟨v,h',y,H,z4l hs H,r⟩⟩
theorem YX:∀ (ds:List DOp) (dn:pC) (hs:List aA) (e:List (Nat × AV)) (h:aA) (x:Esc) (L:List (Nat × AV)→aA→Esc→Prop),KC C gl ds dn hs e h x L=FD C gl ds dn hs e h x L
 | [],dn,hs,e,h,x,L=>rfl
 | ⟨o,rd,eff,early,again⟩::r,dn,hs,e,h,x,L=>by
  rw[MX];show _=gK o.guard (xA (some rd) e) h (opE C o.op (Opd.ev gl (xA (some rd) e)) h) fun v h' y=>
   sG o.op.still eff h h' y (QD C gl o (xA (some rd) e) v hs (JD C gl h' dn (FD C gl r (dn++[(o,xA (some rd) e,v)]) (hs++[h]) (put o.dst v e) h' (y++x) L) again) early)
  rw[←z1d];have e1:MO C gl ⟨o,rd,eff,early,again⟩ r dn hs e h x L=fun v h' y=>(effK eff h h' y∧QD C gl o (xA (some rd) e) v hs (JD C gl h' dn (FD C gl r (dn++[(o,xA (some rd) e,v)]) (hs++[h]) (put o.dst v e) h' (y++x) L) again) early):=by
   funext v h' y
   rw[BZ,RZ,qY,←YX r]
  rw[e1];cases eff with
  | true=>
   congr 1;funext v h' y
   simp [effK,sG,upB]
  | false=>
   cases hs':o.op.still with
   | true=>
    have:=z7T (C:=C) (gl:=gl) (o:=o) hs' (e:=xA (some rd) e) (h:=h) (R:=fun v h' y=>QD C gl o (xA (some rd) e) v hs (JD C gl h' dn (FD C gl r (dn++[(o,xA (some rd) e,v)]) (hs++[h]) (put o.dst v e) h' (y++x) L) again) early)
    exact this
   | false=>rfl
def NW (C:Hd)(gl:Nat→Option PV):ACode→St→(Ex→St→Prop)→Prop
 | .skip,s,K=>K .normal s
 | .reg ops keep,s,K=>fE C gl ops s.env s.h s.esc fun e h x=>K .normal ⟨xA keep e,h,x⟩
 | .draw ds keep,s,K=>FD C gl ds [] [] s.env s.h s.esc fun e h x=>K .normal ⟨xA keep e,h,x⟩
 | .seq a b,s,K=>NW C gl a s fun e s'=>match e with
  | .normal=>NW C gl b s' K
  | .exit i=>K (.exit i) s'
  | .ret=>K .ret s'
 | .cond c a b,s,K=>OC (Opd.ev gl s.env c) (NW C gl a s K) (NW C gl b s K)
 | .condu c a b,s,K=>MK (Opd.ev gl s.env c) (NW C gl a s K) (NW C gl b s K)
 | .det b,s,K=>NW C gl b s K
 | .block id b,s,K=>NW C gl b s fun e s'=>match e with
  | .normal=>K .normal s'
  | .exit i=>bif Nat.beq i id then K .normal s' else K (.exit i) s'
  | .ret=>K .ret s'
 | .loop b,s,K=>ALoop (NW C gl b) K s
 | .scope b,s,K=>NW C gl b ⟨s.env,s.h,[]⟩ fun e s'=>K e (aE s.h.length s.esc s')
 | .pr l b,s,K=>NW C gl b ⟨xA (some l) s.env,s.h,s.esc⟩ K
 | .exit id,s,K=>K (.exit id) s
 | .ret,s,K=>K .ret s
 | .bad,_,_=>False
theorem sD:∀ (c:ACode) (s:St) (K:Ex→St→Prop),AW C gl c s K=NW C gl c s K
 | .skip,s,K=>rfl
 | .reg ops keep,s,K=>ZX _ _ _ _ _
 | .draw ds keep,s,K=>YX _ _ _ _ _ _ _
 | .seq a b,s,K=>by
  unfold AW NW;rw[sD a];congr 1;funext e s'
  cases e with
  | normal=>exact sD b s' K
  | _=>rfl
 | .cond c a b,s,K=>by
  unfold AW NW OC;rw[←sD a,←sD b];rfl
 | .condu c a b,s,K=>by
  unfold AW NW MK;rw[←sD a,←sD b];rfl
 | .det b,s,K=>sD b s K
 | .block id b,s,K=>by
  unfold AW NW;rw[sD b];congr 1;funext e s'
  cases e with
  | exit i=>
   dsimp only;by_cases hi:i=id
   ·subst hi;simp
   ·rw[if_neg hi]
    have:Nat.beq i id=false:=by cases h:Nat.beq i id with|false=>rfl|true=>exact absurd (Nat.eq_of_beq_eq_true h) hi
    rw[this];rfl
  | _=>rfl
 | .loop b,s,K=>by
  show ALoop (AW C gl b) K s=ALoop (NW C gl b) K s
  rw[show AW C gl b=NW C gl b from funext fun s=>funext fun K=>sD b s K]
 | .scope b,s,K=>sD b _ _
 | .pr l b,s,K=>sD b _ _
 | .exit id,s,K=>rfl
 | .ret,s,K=>rfl
 | .bad,s,K=>rfl
end Go.Am
end
section
/- The abstract machine,part 31: words in which a function's code is printed,and the rules of computing over them. -/
set_option linter.unusedSimpArgs false
set_option linter.unusedVariables false
namespace Go.Am
variable {C:Hd} {gl:Nat→Option PV} {e:List (Nat × AV)} {h:aA} {x:Esc} {K:Ex→St→Prop} {s:St}
abbrev AI (n:Int):AV:=.p (.int .i64 n)
abbrev AB (b:Bool):AV:=.p (.bool b)
def aG (C:Hd)(gl:Nat→Option PV)(b:ACode)(K:Ex→St→Prop)(e:Ex)(s:St):Prop:=match e with
 | .normal=>NW C gl b s K
 | .exit i=>K (.exit i) s
 | .ret=>K .ret s
def cD (id:Nat)(K:Ex→St→Prop)(e:Ex)(s:St):Prop:=match e with
 | .normal=>K .normal s
 | .exit i=>bif Nat.beq i id then K .normal s else K (.exit i) s
 | .ret=>K .ret s
def nqK (sh:Option Sh)(l:List AV)(h:aA)(k:AV→aA→Esc→Prop):Prop:=match mH h sh l with
 | some l=>l≠[]∧∀y∈l,k y.1 y.2 []
 | none=>False
def nxK (i:AV)(h:aA)(k:AV→aA→Esc→Prop):Prop:=match sP h i with
 | some l=>l≠[]∧∀y∈l,k y.1 y.2 []
 | none=>False
def gv (gl:Nat→Option PV)(n:Nat):AV:=match gl n with|some v=>.vp v|none=>.und
theorem z3u {b:ACode}:aG C gl b K .normal s=NW C gl b s K:=(rfl)
theorem z3v {b:ACode}:aG C gl b K .ret s=K .ret s:=(rfl)
theorem GY {i:Nat}:cD i K .normal s=K .normal s:=(rfl)
theorem IY {i:Nat}:cD i K (.exit i) s=K .normal s:=by simp [cD]
theorem HY {i:Nat}:cD i K .ret s=K .ret s:=(rfl)
theorem jI {b:ACode}:NW C gl (.scope b) ⟨e,h,x⟩ K=NW C gl b ⟨e,h,[]⟩ (z3r h.length x K):=(rfl)
theorem z44 {c:ACode}{s s':St}(hs:s=s'):NW C gl c s K=NW C gl c s' K:=by rw[hs]
def RA (C:Hd)(gl:Nat→Option PV)(b:ACode)(K:Ex→St→Prop)(e:List (Nat × AV))(h:aA)(x:Esc):Prop:=ALoop (NW C gl b) K ⟨e,h,x⟩
theorem XB {l:List Nat}{b:ACode}:NW C gl (.loop (.pr l b)) ⟨e,h,x⟩ K=RA C gl (.pr l b) K (xA (some l) e) h x:=by
 show ALoop _ _ _=ALoop _ _ _
 exact PX (funext fun R=>by show NW C gl b _ R=NW C gl b _ R;dsimp only;rw[z2p])
theorem GD {l:List Nat}{b:ACode}:NW C gl (.loop (.scope (.pr l b))) ⟨e,h,x⟩ K=RA C gl (.scope (.pr l b)) K (xA (some l) e) h x:=by
 show ALoop _ _ _=ALoop _ _ _
 exact PX (funext fun R=>by show NW C gl b _ _=NW C gl b _ _;dsimp only;rw[z2p])
theorem z43 {b:ACode}{e e':List (Nat × AV)}{h h':aA}{x x':Esc}(h1:e=e')(h2:h=h')(h3:x=x'):RA C gl b K e h x=RA C gl b K e' h' x':=by rw[h1,h2,h3]
theorem nB {σ:Type}{b:ACode}(S:σ→St)(P:σ→Prop)(m:σ→Nat)(t0:σ)(hs:(⟨e,h,x⟩:St)=S t0)(h0:P t0)(hr:∀ t,P t→NW C gl b (S t) (qP S P m K t)):RA C gl b K e h x:=by
 show ALoop (NW C gl b) K _
 rw[hs];have key:∀n t,m t<n→P t→ALoop (NW C gl b) K (S t):=by
  intro n;induction n with
  | zero=>intro t h;omega
  | succ n ih=>
   intro t hm hp;refine .mk _ _ (hr t hp) (fun s' h'=>?_) (fun i s' h'=>h') (fun s' h'=>h')
   obtain⟨u,rfl,hu,hlt⟩:=h';exact ih u (by omega) hu
 exact key _ t0 (Nat.lt_succ_self _) h0
theorem BA {X:Ctx}{f:Nat}{F:AFun}{a asv:List AV}{h h1:aA}{P:kA}(hf:X.fn f=some F)(hr:F.byref=false)(hp:qA h a=some (asv,h1))(hl:asv.length=F.nparams)(hd:F.isDet=false:=by rfl) :
 eA X f a h P=NW (eA X) X.gl F.body ⟨enter asv,h1,[]⟩ (sA F.results F.keep h.length P):=by
 rw[zgn hf hr hp hl hd,sD]
theorem tI {X:Ctx}{f:Nat}{F:AFun}{a asv:List AV}{h h1:aA}{P:kA}(hf:X.fn f=some F)(hr:F.byref=false)(hp:qA h a=some (asv,h1))(hl:asv.length=F.nparams)(hd:F.isDet=true:=by rfl) :
 eA X f a h P = ∃v h' x,P v h' x∧NW (eA X) X.gl F.body ⟨enter asv,h1,[]⟩ (sA F.results F.keep h.length fun v1 h1 x1=>v1=v∧h1=h'∧x1=x):=by
 rw[zgo hf hr hp hl hd];simp only[sD]
theorem sI {X:Ctx}{f:Nat}{F:AFun}{asv:List AV}{h:aA}{P:kA}(hf:X.fn f=some F)(hr:F.byref=true)(hl:asv.length=F.nparams)(hd:F.isDet=false:=by rfl) :
 eA X f asv h P=NW (eA X) X.gl F.body ⟨enter asv,h,[]⟩ (sA F.results F.keep h.length P):=by
 rw[zgk hf hr hl hd,sD]
theorem z2d {v:AV}{k:AV→Prop}:pK (some v) k=k v:=(rfl)
theorem z2c {k:AV→Prop}:pK none k=False:=(rfl)
theorem z3S {v:AV}{h:aA}{x:Esc}{k:AV→aA→Esc→Prop}:wK (some (v,h,x)) k=k v h x:=(rfl)
theorem z3Q {k:AV→aA→Esc→Prop}:wK none k=False:=(rfl)
theorem zcB {p:Prop}[Decidable p]{a b:Option AV}{k:AV→Prop}:pK (if p then a else b) k=if p then pK a k else pK b k:=by split <;> rfl
theorem zgO {p:Prop}[Decidable p]{a b:Option (AV × aA × Esc)}{k:AV→aA→Esc→Prop}:wK (if p then a else b) k=if p then wK a k else wK b k:=by split <;> rfl
theorem zcA {o o':Option AV}{k:AV→Prop}(h:o=o'):pK o k=pK o' k:=by rw[h]
theorem zgN {o o':Option (AV × aA × Esc)}{k:AV→aA→Esc→Prop}(h:o=o'):wK o k=wK o' k:=by rw[h]
theorem za9 {v v':AV}{b:Bool}{h:aA}{A:(AV→aA→Esc→Prop)→Prop}{k:AV→aA→Esc→Prop}(h1:v=v'):gV v b h A k=gV v' b h A k:=by rw[h1]
theorem za8 {v v':AV}{b:Bool}{o:Option AV}{h:aA}{k:AV→aA→Esc→Prop}(h1:v=v'):gP v b o h k=gP v' b o h k:=by rw[h1]
theorem za6 {v v':AV}{b:Bool}{u:AV}{h:aA}{k:AV→aA→Esc→Prop}(h1:v=v'):gM v b u h k=gM v' b u h k:=by rw[h1]
section
variable {A:(AV→aA→Esc→Prop)→Prop} {o:Option AV} {u:AV} {k:AV→aA→Esc→Prop} {t b:Bool}
theorem z1r:gV (.p (.bool true)) true h A k=A k:=(rfl)
theorem z1o:gV (.p (.bool false)) false h A k=A k:=(rfl)
theorem z1q:gV (.p (.bool true)) false h A k=k .skp h []:=(rfl)
theorem z1p:gV (.p (.bool false)) true h A k=k .skp h []:=(rfl)
theorem z1n:gP (.p (.bool true)) true o h k=pK o fun v=>k v h []:=(rfl)
theorem z1j:gP (.p (.bool false)) false o h k=pK o fun v=>k v h []:=(rfl)
theorem z1m:gP (.p (.bool true)) false o h k=k .skp h []:=(rfl)
theorem z1k:gP (.p (.bool false)) true o h k=k .skp h []:=(rfl)
theorem z1l:gP .skp b o h k=k .skp h []:=(rfl)
theorem za7:gP (.p (.bool t)) b o h k=cE (.p (.bool t)) b (pK o fun v=>k v h []) (k .skp h []):=(rfl)
theorem z1i:gM (.p (.bool true)) true u h k=k u h []:=(rfl)
theorem z1e:gM (.p (.bool false)) false u h k=k u h []:=(rfl)
theorem z1h:gM (.p (.bool true)) false u h k=k .skp h []:=(rfl)
theorem z1f:gM (.p (.bool false)) true u h k=k .skp h []:=(rfl)
theorem z1g:gM .skp b u h k=k .skp h []:=(rfl)
theorem za5:gM (.p (.bool t)) b u h k=cE (.p (.bool t)) b (k u h []) (k .skp h []):=(rfl)
end
section
variable {k k':IntKind} {a b:Int} {sa sb:List UInt8}
theorem z5T:SA .add (.p (.int k a)) (.p (.int k b))=some (.p (.int k (k.wrap (a+b)))):=by simp [SA,zB,NC]
theorem z6g:SA .sub (.p (.int k a)) (.p (.int k b))=some (.p (.int k (k.wrap (a-b)))):=by simp [SA,zB,NC]
theorem z6a:SA .mul (.p (.int k a)) (.p (.int k b))=some (.p (.int k (k.wrap (a*b)))):=by simp [SA,zB,NC]
theorem z6d:SA .quo (.p (.int k a)) (.p (.int k b))=if b=0 then none else some (.p (.int k (k.wrap (a.tdiv b)))):=by simp [SA,zB,NC] <;> split <;> rfl
theorem z6e:SA .rem (.p (.int k a)) (.p (.int k b))=if b=0 then none else some (.p (.int k (a.tmod b))):=by simp [SA,zB,NC] <;> split <;> rfl
theorem z5U:SA .and (.p (.int k a)) (.p (.int k b))=some (.p (.int k (BG k a b))):=by simp [SA,zB,NC]
theorem z5V:SA .eql (.p (.int k a)) (.p (.int k b))=some (.p (.bool (decide (a=b)))):=by simp [SA,zB,NC]
theorem z6b:SA .neq (.p (.int k a)) (.p (.int k b))=some (.p (.bool (!decide (a=b)))):=by simp [SA,zB,NC]
theorem z5Z:SA .lss (.p (.int k a)) (.p (.int k b))=some (.p (.bool (decide (a<b)))):=by simp [SA,zB,NC]
theorem z5Y:SA .leq (.p (.int k a)) (.p (.int k b))=some (.p (.bool (decide (a≤b)))):=by simp [SA,zB,NC]
theorem z5X:SA .gtr (.p (.int k a)) (.p (.int k b))=some (.p (.bool (decide (b<a)))):=by simp [SA,zB,NC]
theorem z5W:SA .geq (.p (.int k a)) (.p (.int k b))=some (.p (.bool (decide (b≤a)))):=by simp [SA,zB,NC]
theorem z6f:SA .shr (.p (.int k a)) (.p (.int k' b))=if b<0 then none else some (.p (.int k (yH k a b))):=by simp [SA,zB] <;> split <;> rfl
theorem zgv:SA .add (.p (.str sa)) (.p (.str sb))=if sa.length+sb.length≤xB then some (.p (.str (sa++sb))) else none:=by simp [SA,zB,cH] <;> split <;> rfl
theorem zgw:SA .eql (.p (.str sa)) (.p (.str sb))=some (.p (.bool (decide (sa=sb)))):=by simp [SA,zB,cH]
theorem zgy:SA .neq (.p (.str sa)) (.p (.str sb))=some (.p (.bool (!decide (sa=sb)))):=by simp [SA,zB,cH]
theorem zgJ {t:Bool}:oUn .not (.p (.bool t))=some (.p (.bool !t)):=(rfl)
theorem convI {k':IntKind}:lJ k (.p (.int k' a))=some (.p (.int k (k.wrap a))):=(rfl)
theorem zcz {i j:Nat}:oE (.ref i j)=some (.ref i j):=(rfl)
theorem ze4 {t:Bool}{u v:AV}:sM (.p (.bool t)) u v=some (bif t then u else v):=(rfl)
theorem zbO {sh:Sh}{xs:List PV}:UF (.p (.sl sh xs))=some (.p (.int .i64 xs.length)):=(rfl)
theorem zbN {i g o l:Nat}:UF (.own i g o l)=some (.p (.int .i64 l)):=(rfl)
theorem zbR:qM (.p (.str sa))=some (.p (.int .i64 sa.length)):=(rfl)
theorem ext_t {vs:List AV}{i:Nat}:BH (.tup vs) i=vs[i]?:=(rfl)
theorem zat {off i j:Nat}{sh:Sh}:QC off sh (.ref i j)=some (.ref i (j+off)):=(rfl)
theorem zay {off:Nat}{sh:Sh}{cs:List PV}:nM off sh (.p (.agg cs))=(bB sh off (.agg cs)).map .p:=(rfl)
def ldB (sh:Sh)(off:Nat):Option Obj→Option AV
 | some (.box cs)=>cut sh off cs
 | _=>none
def ldR (sh:Sh)(g i off:Nat):Option Obj→Option AV
 | some (.row _ xs _)=>if g=xs.length then((xs[i]?).bind (bB sh off)).map .p else none
 | _=>none
theorem zbV {sh:Sh}{i j:Nat}:MB sh (.ref i j) h=ldB sh j h[i]?:=by unfold MB ldB;rfl
theorem zbW {sh:Sh}{i g m n:Nat}:MB sh (.rref i g m n) h=ldR sh g m n h[i]?:=by unfold MB ldR;rfl
theorem z1E {sh:Sh}{v:PV}:MB sh (.vp v) h=(bB sh 0 v).map .p:=(rfl)
theorem zbI {sh:Sh}{off:Nat}{cs:List AV}:ldB sh off (some (.box cs))=cut sh off cs:=(rfl)
theorem zbJ {sh sh':Sh}{g i off fz:Nat}{xs:List PV}:ldR sh g i off (some (.row sh' xs fz))=if g=xs.length then((xs[i]?).bind (bB sh off)).map .p else none:=(rfl)
def stB (sh:Sh)(id off:Nat)(v:AV)(h:aA):Option Obj→Option (List AV)→Option (AV×aA×Esc)
 | some (.box cs),some vs=>if vs.length=bA sh∧off+vs.length≤cs.length then some (.und,h.set id (.box (splice cs off vs)),gF id cs v) else none
 | _,_=>none
theorem zgt {sh:Sh}{i j:Nat}{v:AV}:KE sh (.ref i j) v h=stB sh i j v h h[i]? v.cells:=by unfold KE stB;rfl
theorem zge {sh:Sh}{id off:Nat}{v:AV}{cs vs:List AV}:stB sh id off v h (some (.box cs)) (some vs)=if vs.length=bA sh∧off+vs.length≤cs.length then some (.und,h.set id (.box (splice cs off vs)),gF id cs v) else none:=(rfl)
theorem zah {id:Nat}{cs:List AV}{v:AV}(h:RF cs=false):gF id cs v=vC id v:=by
 unfold gF;rw[h];rfl
theorem zbd {a:AV}{v:PV}:RF [a,.p v]=false:=(rfl)
theorem zbb {a:AV}:RF [a]=false:=(rfl)
theorem zbc {a b c:AV}{l:List AV}:RF (a::b::c::l)=false:=by unfold RF;split <;> first|rfl|(rename_i h;simp at h)
def stE (sh:Sh)(id i off fz:Nat)(rsh:Sh)(xs:List PV)(v:PV)(h1:aA):Option PV→Option (AV×aA×Esc)
 | some (.agg cs)=>if off+v.cells.length≤cs.length then some (.und,h1.set id (.row rsh (xs.set i (.agg (splice cs off v.cells))) fz),[]) else none
 | some _=>if off=0∧v.sc then some (.und,h1.set id (.row rsh (xs.set i v) fz),[]) else none
 | none=>none
def stO (sh:Sh)(id g i off:Nat)(v:PV)(h1:aA):Option Obj→Option (AV×aA×Esc)
 | some (.row rsh xs fz)=>if g=xs.length∧fz≤i∧v.cells.length=bA sh∧v.cells.all PV.sc then stE sh id i off fz rsh xs v h1 xs[i]? else none
 | _=>none
def stR (sh:Sh)(id g i off:Nat):Option (PV×aA)→Option (AV×aA×Esc)
 | some y=>stO sh id g i off y.1 y.2 y.2[id]?
 | none=>none
theorem zgu {sh:Sh}{id g i off:Nat}{x:AV}:KE sh (.rref id g i off) x h=stR sh id g i off (pur h x):=by
 unfold KE stR;cases pur h x with
 | none=>rfl
 | some y=>
  obtain⟨v,h1⟩:=y;dsimp only;unfold stO;cases h1[id]? with
  | none=>rfl
  | some o=>cases o <;> rfl
theorem zgh {sh:Sh}{id g i off:Nat}{v:PV}{h1:aA}:stR sh id g i off (some (v,h1))=stO sh id g i off v h1 h1[id]?:=(rfl)
theorem zgg {sh rsh:Sh}{id g i off fz:Nat}{v:PV}{h1:aA}{xs:List PV}:stO sh id g i off v h1 (some (.row rsh xs fz))=if g=xs.length∧fz≤i∧v.cells.length=bA sh∧v.cells.all PV.sc then stE sh id i off fz rsh xs v h1 xs[i]? else none:=(rfl)
theorem zgf {sh rsh:Sh}{id i off fz:Nat}{v:PV}{h1:aA}{xs:List PV}{s:List UInt8}:stE sh id i off fz rsh xs v h1 (some (.str s))=if off=0∧v.sc then some (.und,h1.set id (.row rsh (xs.set i v) fz),[]) else none:=(rfl)
def iaS (xs:List PV):Option Nat→Option AV
 | some k=>(xs[k]?).map .vp
 | none=>none
theorem zaP {sh:Sh}{xs:List PV}{i:AV}:XD sh (.p (.sl sh xs)) i h=iaS xs (ZA i):=by
 unfold XD iaS;cases ZA i <;> simp
theorem zaL {xs:List PV}{n:Nat}:iaS xs (some n)=(xs[n]?).map .vp:=(rfl)
def iaO (sh:Sh)(id g off len:Nat):Option Obj→Option Nat→Option AV
 | some (.row rsh xs _),some k=>if rsh=sh∧g=xs.length∧off+len≤xs.length∧k<len then some (.rref id g (off+k) 0) else none
 | _,_=>none
theorem zaO {sh:Sh}{id g off len:Nat}{i:AV}:XD sh (.own id g off len) i h=iaO sh id g off len h[id]? (ZA i):=by
 unfold XD iaO;cases ZA i with
 | none=>dsimp only;cases h[id]? with
  | none=>rfl
  | some o=>cases o <;> rfl
 | some k=>dsimp only;cases h[id]? with
  | none=>rfl
  | some o=>cases o <;> rfl
theorem zaK {sh rsh:Sh}{id g off len k fz:Nat}{xs:List PV}:iaO sh id g off len (some (.row rsh xs fz)) (some k)=if rsh=sh∧g=xs.length∧off+len≤xs.length∧k<len then some (.rref id g (off+k) 0) else none:=(rfl)
theorem zaV {i:AV}:nJ (.p (.str sa)) i=(ZA i).bind fun n=>(sa[n]?).map fun b=>.p (.int .u8 b.toNat):=by
 unfold nJ;cases ZA i <;> rfl
end
theorem rY {z:List AV}{k:AV→aA→Esc→Prop}:alK z h k=k (.ref h.length 0) (h++[.box z]) []:=(rfl)
theorem z1V {sh:Sh}{k:AV→aA→Esc→Prop}:nwK sh h k=k (.own h.length 0 0 0) (h++[.row sh [] 0]) []:=(rfl)
theorem z1N {k:AV→aA→Esc→Prop}:mmK h k=k (.mp h.length) (h++[.amap [] 0]) []:=(rfl)
theorem z7D {A B:Prop}:MK (.p (.bool false)) A B=B:=(rfl)
theorem z7C {A B:Prop}:MK .anyb A B=(A∧B):=(rfl)
theorem zfc {t:Nat}{h:aA}:VA t [] h=([],h):=(rfl)
theorem zfe {h:aA}{s:Sh}{r:List AV}:VA 0 (.sl0 s::r) h=(.own h.length 0 0 0::(VA 0 r (h++[.row s [] 0])).1,(VA 0 r (h++[.row s [] 0])).2):=(rfl)
theorem zfa {h:aA}{r:List AV}:VA 1 (.sl0 none::r) h=(.bt 3 0 h.length 0::(VA 1 r (h++[.arow none []])).1,(VA 1 r (h++[.arow none []])).2):=(rfl)
theorem zfd {t:Nat}{h:aA}{v:PV}{r:List AV}:VA t (.p v::r) h=(.p v::(VA t r h).1,(VA t r h).2):=(rfl)
theorem zfb {t:Nat}{h:aA}{i:Nat}{r:List AV}:VA t (.mp i::r) h=(.mp i::(VA t r h).1,(VA t r h).2):=(rfl)
attribute [go_sem] zfc zfe zfa zfd zfb
def ldAr (sh:Sh)(off g:Nat):Option Obj→Option AV
 | some (.arow rsh cs)=>if g*bA rsh=cs.length then cut sh off cs else none
 | _=>none
theorem zbT {sh:Sh}{off id g:Nat}:MB sh (.bt 4 off id g) h=ldAr sh off g h[id]?:=by
 show ldA sh 4 off id g h=_
 unfold ldA ldAr;rfl
theorem zbH {sh rsh:Sh}{off g:Nat}{cs:List AV}:ldAr sh off g (some (.arow rsh cs))=if g*bA rsh=cs.length then cut sh off cs else none:=(rfl)
def iaAr (sh:Sh)(id g:Nat):Option Obj→Option Nat→Option AV
 | some (.arow rsh cs),some i=>if rsh=sh∧g*bA rsh=cs.length∧i<g then some (.bt 4 (i*bA sh) id g) else none
 | _,_=>none
theorem zaM {sh:Sh}{t id g:Nat}{i:AV}:XD sh (.bt 3 t id g) i h=iaAr sh id g h[id]? (ZA i):=by
 unfold XD iaAr;cases ZA i with
 | none=>cases h[id]? with
  | none=>rfl
  | some o=>cases o <;> rfl
 | some k=>
  show iaA sh 3 id g k h=_
  unfold iaA;cases h[id]? with
  | none=>rfl
  | some o=>cases o <;> rfl
theorem zaJ {sh rsh:Sh}{id g i:Nat}{cs:List AV}:iaAr sh id g (some (.arow rsh cs)) (some i)=if rsh=sh∧g*bA rsh=cs.length∧i<g then some (.bt 4 (i*bA sh) id g) else none:=(rfl)
theorem zbL {t id g:Nat}:UF (.bt 3 t id g)=some (.p (.int .i64 g)):=(rfl)
def apAr (sh:Sh)(h:aA)(t id g g':Nat):Option Obj→Option Obj→Option (AV×aA×Esc)
 | some (.arow rsh cs),some (.arow rsh' ds)=>if rsh=sh∧rsh'=sh∧g*bA sh=cs.length∧g'*bA sh=ds.length∧g+g'≤LA then
  some (.bt 3 t id (g+g'),h.set id (.arow sh (cs++ds)),bif decide (id<AV.tops ds) then [(id,AV.tops ds)] else []) else none
 | _,_=>none
theorem z5F {sh:Sh}{t id g t' id' g':Nat}:apA sh h (.bt 3 t id g) (.bt 3 t' id' g')=apAr sh h t id g g' h[id]? h[id']?:=by
 show(match h[id]?,h[id']? with|_,_=>_)=_
 unfold apAr;rfl
theorem z5H {sh rsh rsh':Sh}{t id g g':Nat}{cs ds:List AV}:apAr sh h t id g g' (some (.arow rsh cs)) (some (.arow rsh' ds))=if rsh=sh∧rsh'=sh∧g*bA sh=cs.length∧g'*bA sh=ds.length∧g+g'≤LA then
 some (.bt 3 t id (g+g'),h.set id (.arow sh (cs++ds)),bif decide (id<AV.tops ds) then [(id,AV.tops ds)] else []) else none:=(rfl)
theorem z7O:fC 0=none:=(rfl)
attribute [go_sem] zbT zbH zaM zaJ zbL z5F z5H z7O
attribute [go_sem] z3u z3v GY IY HY jI z2d z2c z3S z3Q zcB zgO z1r z1o z1q z1p z1n z1j z1m z1k z1l z1i z1e z1h z1f z1g z5T z6g z6a z6d z6e z5U z5V z6b z5Z z5Y z5X z5W z6f zgv zgw zgy zgJ convI zcz ze4 zbO zbN zbR ext_t zat zay zbV zbW z1E zbI zbJ zgt zge zgu zgh zgg zgf zah zbd zbb zbc zaP zaL zaO zaK zaV rY z1V z1N SE z3j upcB neqB lenB n64 rZ strB appB rds rd lM iC bM SF cM PA oM HG z7D z7C kM yP JG CD zP dD tM EH DH mJ kJ wP oClr oMx oMn CB NB rM mM xP pM pJ oJ
attribute [go_sem ↓] z2d z2c z3S z3Q z1r z1o z1q z1p z1n z1j z1m z1k z1l z1i z1e z1h z1f z1g kZ jZ z3u z3v GY IY HY rY z1V z1N z1I z1H z1J z3s z0O z0P
attribute [go_sem low] za7 za5
attribute [congr] z44 z43 zcA zgN za9 za8 za6
end Go.Am
end
section
/- The abstract machine,part X: the library's functions that have no Go text: comparing strings,finding a byte. -/
set_option linter.unusedSimpArgs false
set_option linter.unusedVariables false
namespace Go.Am
variable {P:Program}
structure ExtRow (P:Program) (f:Nat) (e:Array Value→Sem Value):Prop where
 row:∃fn,P.funcs[f]?=some fn∧fn.name ≠ "runtime.NumGoroutine" ∧ fn.body=none∧Extern.findNext fn=none∧Extern.find fn=some e
theorem ExtRow.run {f:Nat}{e:Array Value→Sem Value}(R:ExtRow P f e){us:Array Value}{w w':World}{x:Value}(he:(e us).run P w = .ok x w'):(callFunc f us).run P w = .ok (.value x) w':=by
 obtain⟨fn,h1,h2,h3,h4,h5⟩:=R.row;unfold callFunc;simp [h1,h2,h3,h4,h5,he]
theorem zid {f:Nat}{e:Array Value→Sem Value}(h:(match P.funcs[f]? with | some fn=>fn.name != "runtime.NumGoroutine" && fn.body.isNone&&(Extern.findNext fn).isNone | none=>false)=true)(h2:(P.funcs[f]?).bind Extern.find=some e):ExtRow P f e:=by
 cases hf:P.funcs[f]? with
 | none=>rw[hf]at h;cases h
 | some fn=>
  rw[hf]at h h2;simp only[Bool.and_eq_true,bne_iff_ne,ne_eq,Option.isNone_iff_eq_none]at h;exact⟨⟨fn,hf,h.1.1,h.1.2,h.2,h2⟩⟩
def DC (s:List UInt8)(c:UInt8):Int:=if s.findIdx (· == c)<s.length then(s.findIdx (· == c):Int) else -1
def DF:List UInt8→List UInt8→Int
 | [],[]=>0
 | [],_::_=>-1
 | _::_,[]=>1
 | a::asv,b::bs=>if a<b then -1 else if b<a then 1 else DF asv bs
theorem BY (s:List UInt8)(i:Nat):(⟨s.toArray⟩:ByteArray)[i]! = s.getD i 0:=by
 by_cases h:i<s.length
 ·rw[getElem!_pos (⟨s.toArray⟩:ByteArray) i h]
  show s.toArray[i]=_
  simp [h]
 ·rw[getElem!_neg (⟨s.toArray⟩:ByteArray) i h]
  simp [Nat.not_lt.1 h];rfl
theorem za0 (s:List UInt8)(c:UInt8):(match (List.range (⟨s.toArray⟩:ByteArray).size).find? fun i=>(⟨s.toArray⟩:ByteArray)[i]! == c with
 | some i=>(i:Int)
 | none=>-1)=DC s c:=by
 have hsz:(⟨s.toArray⟩:ByteArray).size=s.length:=rfl
 have hget:∀i,i<s.length→(⟨s.toArray⟩:ByteArray)[i]! = s.getD i 0:=by
  intro i hi;exact BY s i
 unfold DC;rw[hsz];by_cases h:s.findIdx (· == c)<s.length
 ·rw[if_pos h]
  have hf:(List.range s.length).find? (fun i=>(⟨s.toArray⟩:ByteArray)[i]! == c)=some (s.findIdx (· == c)):=by
   rw[List.find?_eq_some_iff_getElem];refine⟨?_,s.findIdx (· == c),by simpa using h,by simp,fun j hj=>?_⟩
   ·rw[hget _ h]
    have:=List.findIdx_getElem (w:=h);simpa [h] using this
   ·simp only[List.getElem_range]
    have hj':j<s.length:=by omega
    rw[hget _ hj'];have:=List.not_of_lt_findIdx hj;simpa [hj'] using this
  rw[hf]
 ·rw[if_neg h]
  have hf:(List.range s.length).find? (fun i=>(⟨s.toArray⟩:ByteArray)[i]! == c)=none:=by
   rw[List.find?_eq_none];intro i hi;rw[List.mem_range]at hi;rw[hget _ hi];intro hc;exact h (List.findIdx_lt_length_of_exists ⟨s[i],List.getElem_mem hi,by simpa [hi] using hc⟩)
  rw[hf]
theorem z78:∀ (a b:List UInt8),Extern.BytealgCompare.cmp ⟨a.toArray⟩ ⟨b.toArray⟩=DF a b:=by
 have key:∀(a b:List UInt8),(match (List.range (min a.length b.length)).find? fun i=>a.getD i 0 != b.getD i 0 with
  | some i=>if a.getD i 0<b.getD i 0 then(-1:Int) else 1
  | none=>if a.length<b.length then -1 else if a.length>b.length then 1 else 0)=DF a b:=by
  intro a;induction a with
  | nil=>intro b;cases b <;> simp [DF]
  | cons x a ih=>
   intro b;cases b with
   | nil=>simp [DF]
   | cons y b=>
    have hm:min (x::a).length (y::b).length=min a.length b.length+1:=by simp only[List.length_cons];omega
    rw[hm,List.range_succ_eq_map,List.find?_cons];simp only[List.getD_cons_zero];by_cases hxy:x=y
    ·subst hxy
     have hlt:¬x<x:=UInt8.lt_irrefl x
     simp only[bne_self_eq_false,List.find?_map,DF,hlt,if_false];rw[←ih b];have hc:((fun i=>(x::a).getD i 0 != (x::b).getD i 0) ∘ Nat.succ)=fun i=>a.getD i 0 != b.getD i 0:=by
      funext i;simp
     rw[hc];cases (List.range (min a.length b.length)).find? fun i=>a.getD i 0 != b.getD i 0 with
     | none=>simp
     | some i=>simp
    ·have:(x != y)=true:=by simpa using hxy
     rw[this];simp only[DF,List.getD_cons_zero];by_cases h1:x<y
     ·simp [h1]
     ·have h2:y<x:=by
       rcases UInt8.lt_or_lt_of_ne (a:=x) (b:=y) hxy with h|h
       ·exact absurd h h1
       ·exact h
      simp [h1,h2]
 intro a b;rw[←key a b];unfold Extern.BytealgCompare.cmp;have sa:(⟨a.toArray⟩:ByteArray).size=a.length:=rfl
 have sb:(⟨b.toArray⟩:ByteArray).size=b.length:=rfl
 simp only[sa,sb,BY];generalize List.find? _ _=q;cases q <;> rfl
def PI (fi fc:Nat)(f:Nat)(vs:List PV):Option PV:=
 bif Nat.beq f fi then(match vs with
  | [.str s,.int .u8 c]=>some (.int .i64 (DC s (UInt8.ofNat c.toNat)))
  | _=>none)
 else bif Nat.beq f fc then(match vs with
  | [.str a,.str b]=>some (.int .i64 (DF a b))
  | _=>none)
 else none
theorem extF_ok {fi fc:Nat}(h1:ExtRow P fi Extern.BytealgIndexByte.indexByte)(h2:ExtRow P fc Extern.BytealgCompare.compare){f:Nat}{vs:List PV}{r:PV}(h:PI fi fc f vs=some r):WX P f vs r:=by
 intro M w us hM hl hr;unfold PI at h;cases e1:Nat.beq f fi with
 | true=>
  rw[e1]at h;have e:=Nat.eq_of_beq_eq_true e1
  subst e;simp only[cond_true]at h;split at h
  ·rename_i s c
   injection h with h
   subst h;match us,hl with
   | [u,v],_=>
    have q1:=hr 0 _ u rfl rfl
    have q2:=hr 1 _ v rfl rfl
    cases q1;cases q2
    refine⟨.int .i64 (DC s (UInt8.ofNat c.toNat)),w,h1.run ?_,WExt.refl w,.int _ _⟩;rw[←za0];show(match (List.range (⟨s.toArray⟩:ByteArray).size).find? fun i=>(⟨s.toArray⟩:ByteArray)[i]! == UInt8.ofNat c.toNat with|some i=>(pure (goInt i):Sem Value)|none=>pure (goInt (-1))).run P w=_
    generalize List.find? _ _=q;cases q <;> rfl
  ·cases h
 | false=>
  rw[e1]at h;simp only[cond_false]at h;cases e2:Nat.beq f fc with
  | true=>
   rw[e2]at h;have e:=Nat.eq_of_beq_eq_true e2
   subst e;simp only[cond_true]at h;split at h
   ·rename_i a b
    injection h with h
    subst h;match us,hl with
    | [u,v],_=>
     have q1:=hr 0 _ u rfl rfl
     have q2:=hr 1 _ v rfl rfl
     cases q1;cases q2
     refine⟨.int .i64 (DF a b),w,h2.run ?_,WExt.refl w,.int _ _⟩;rw[←z78];rfl
   ·cases h
  | false=>rw[e2]at h;cases h
theorem zao {X:Ctx}{f:Nat}{asv:List AV}{vs:List PV}{h h1:aA}{r:PV}{K:kA}(hf:X.fn f=none)(h2:X.ex2 f asv h=none)(hp:qA h asv=some (vs.map .p,h1))(hu:unp (vs.map AV.p)=some vs)(hx:X.ext f vs=some r):eA X f asv h K=K (.p r) h1 []:=by
 refine propext (eA.eq (eA.fold ?_) K);unfold QB;simp only[hf,h2,hp,hu,hx];exact⟨trivial,trivial,trivial⟩
structure GrowRow (P:Program) (f:Nat) (sh:Sh):Prop where
 enter:∀us w,(callFunc f us).run P w = .ok (.enter f us) w
 room:∀a w,Calls P f #[.slice a 0 0,.int .i64 0] w fun e w'=>e = .returned (.slice a 0 0)∧w'=w
 grow:∀a (n:Nat) w,0<n→n≤1048576→Calls P f #[.slice a 0 0,.int .i64 n] w fun e w'=>∃G cs E,e = .returned (.slice (some ⟨w.heap.size,0,none⟩) 0 G)∧cs.size=G*bA sh∧w'=w.drew.alloc (.cells cs E)
def fJ:List (Nat × Sh)→Nat→List AV→aA→Option (AV × aA × Esc)
 | [],_,_,_=>none
 | (g,sh)::r,f,asv,h=>bif Nat.beq f g then(match asv with
  | [.sl0 _,.p (.int .i64 n)]=>bif decide (0≤n)&&decide (n≤1048576) then some (.own h.length 0 0 0,h++[.row sh [] 0],[]) else none
  | _=>none) else fJ r f asv h
theorem z10 {gl:Nat→Option PV}:∀(gs:List (Nat×Sh)),(∀g sh,(g,sh)∈gs→GrowRow P g sh)→∀{f:Nat} {asv:List AV} {h:aA} {v:AV} {h':aA} {x:Esc},fJ gs f asv h=some (v,h',x) →
 kC P gl f asv h fun v1 h1 x1=>v1=v∧h1=h'∧x1=x
 | [],_,f,asv,h,v,h',x,H=>by cases H
 | (g,sh)::r,hg,f,asv,h,v,h',x,H=>by
  unfold fJ at H;cases e1:Nat.beq f g with
  | false=>
   rw[e1]at H;exact z10 r (fun g sh hm=>hg g sh (by simp [hm])) H
  | true=>
   rw[e1]at H;have e:=Nat.eq_of_beq_eq_true e1
   subst e;have R:=hg f sh (by simp)
   simp only[cond_true]at H;split at H
   ·rename_i sh' n
    cases hb:(decide (0≤n)&&decide (n≤1048576)) with
    | false=>rw[hb]at H;cases H
    | true=>
     rw[hb]at H;simp only[cond_true,Option.some.injEq,Prod.mk.injEq]at H;obtain⟨rfl,rfl,rfl⟩:=H;simp only[Bool.and_eq_true,decide_eq_true_eq]at hb;intro μ w vs Hh Hg hl hr;match vs,hl with
     | [u1,u2],_=>
      have q1:=hr 0 _ u1 rfl rfl
      have q2:=(hr 1 _ u2 rfl rfl).p_inv
      cases q1;cases q2
      obtain⟨m,hm⟩:=Int.eq_ofNat_of_zero_le hb.1;subst hm;refine .inl ⟨R.enter _,?_⟩;rcases Nat.eq_zero_or_pos m with h0|h0
      ·subst h0
       refine(R.room _ w).mono fun e w' he=>?_
       obtain⟨rfl,rfl⟩:=he;obtain⟨n1,n2⟩:=uP Hh sh;refine⟨_,_,_,_,⟨rfl,rfl,rfl⟩,?_,n1,n2,oA.push (by simp [Obj.top])⟩
       exact .own h.length 0 0 0 _ 0 sh [] 0 none (Nat.le_refl _) (by simp) (by rw[←Hh.len];simp) (by simp) (by simp) (fun _=>rfl)
      ·refine(R.grow _ m w h0 (by omega)).mono fun e w' he=>?_
       obtain⟨G,cs,E,rfl,hcs,rfl⟩:=he;have hw:WExt w (w.drew.alloc (.cells cs E)):=(WExt.drew w _).trans (WExt.push _ _)
       obtain⟨n1,n2⟩:=AH (sh:=sh) (xs:=[]) Hh hw (b:=w.heap.size) (n:=cs.size) (Nat.le_refl _) (by show w.heap.size<(w.heap.push _).size;simp) (c:=cs) (NA.push (w:=w.drew) cs E) (by simp) (by simp) (by simp)
       refine⟨_,_,_,_,⟨rfl,rfl,rfl⟩,?_,n1,n2,oA.push (by simp [Obj.top])⟩
       refine .own h.length 0 0 0 _ G sh [] 0 (some (w.heap.size,cs.size)) (Nat.zero_le _) (by simp) (by rw[←Hh.len];simp) (by simp) (by simp) (fun _=>?_)
       exact .inr ⟨by simp,by simp [hcs]⟩
   ·cases H
end Go.Am
end
section
/- Short words for the printed code. -/
set_option linter.all false
namespace Go.Am
instance {n:Nat}:OfNat Opd n:=⟨.t n⟩
abbrev GL:=Nat→Option PV
abbrev KT:=Ex→St→Prop
def cI (n:Int):Opd:=.c (.p (.int .i64 n))
def cT:Opd:=.c (.p (.bool true))
def cF:Opd:=.c (.p (.bool false))
def cS (s:List UInt8):Opd:=.c (.p (.str s))
def uO (d:Nat)(o:AO):AOp:=⟨some d,none,o⟩
def wO (o:AO):AOp:=⟨none,none,o⟩
def gD (d g:Nat)(b:Bool)(o:AO):AOp:=⟨some d,some (g,b),o⟩
def mV (d:Nat)(x:Opd):AOp:=⟨some d,none,.mv x⟩
def bN (d:Nat)(b:BinOp)(x y:Opd):AOp:=⟨some d,none,.bin b x y⟩
def cL (d f:Nat)(l:List Opd):AOp:=⟨some d,none,.call f l⟩
def lD (d:Nat)(s:Sh)(x:Opd):AOp:=⟨some d,none,.load s x⟩
def iA (d:Nat)(s:Sh)(x y:Opd):AOp:=⟨some d,none,.iaddr s x y⟩
def fA (d o:Nat)(s:Sh)(x:Opd):AOp:=⟨some d,none,.faddr o s x⟩
def sT (d:Nat)(s:Sh)(x y:Opd):AOp:=⟨some d,none,.store s x y⟩
def lN (d:Nat)(x:Opd):AOp:=⟨some d,none,.len x⟩
def eX (d:Nat)(x:Opd)(i:Nat):AOp:=⟨some d,none,.ext x i⟩
def dF (o:AOp)(l:List Nat):DOp:=⟨o,l,false,[],[]⟩
def dT (o:AOp)(l:List Nat):DOp:=⟨o,l,true,[],[]⟩
def dA (o:AOp)(l:List Nat)(e:Bool)(a b:List Nat):DOp:=⟨o,l,e,a,b⟩
def rg (l:List AOp)(k:List Nat):ACode:=.reg l (some k)
def dr (l:List DOp)(k:List Nat):ACode:=.draw l (some k)
end Go.Am
end
section
/- A function's formula,computed out of its code. -/
set_option linter.all false
namespace Go.Am
abbrev En:=List (Nat × AV)
variable {C:Hd} {gl:Nat→Option PV} {e:En} {h h':aA} {x y:Esc} {K:Ex→St→Prop} {s:St} {L:En→aA→Esc→Prop} {k:AV→aA→Esc→Prop} {ev:Opd→AV} {r:List AOp} {q:List DOp} {dn:pC} {hs:List aA} {Q:Prop}
abbrev Sf (C:Hd)(gl:Nat→Option PV)(c:ACode)(e:En)(h:aA)(x:Esc)(K:Ex→St→Prop):Type:={P:Prop // NW C gl c ⟨e,h,x⟩ K=P}
def gO (G:AO→(Opd→AV)→aA→(AV→aA→Esc→Prop)→Prop)(t:AV)(g:Bool)(o:AO)(ev:Opd→AV)(h:aA)(k:AV→aA→Esc→Prop):Prop:=gV t g h (G o ev h) k
theorem agetB {e:En}{n m:Nat}{v:AV}:jA ((n,v)::e) m=match Nat.beq n m with|true=>v|false=>jA e m:=by
 show(if n=m then v else jA e m)=_
 cases hb:Nat.beq n m with
 | true=>rw[if_pos (Nat.eq_of_beq_eq_true hb)]
 | false=>rw[if_neg (Nat.ne_of_beq_eq_false hb)]
theorem wA:(∀ {C:Hd} {gl:GL} {e:En} {h:aA} {x:Esc} {K:KT} {l:List Nat} {b:ACode},NW C gl (.pr l b) ⟨e,h,x⟩ K=NW C gl b ⟨xA (some l) e,h,x⟩ K) ∧
 (∀{C:Hd} {gl:GL} {K:KT} {s:St} {a b:ACode},NW C gl (.seq a b) s K=NW C gl a s (aG C gl b K)) ∧
 (∀{C:Hd} {gl:GL} {K:KT} {s:St} {i:Nat} {b:ACode},NW C gl (.block i b) s K=NW C gl b s (cD i K)) ∧
 (∀{C:Hd} {gl:GL} {e:En} {h:aA} {x:Esc} {K:KT} {c:Opd} {a b:ACode},NW C gl (.cond c a b) ⟨e,h,x⟩ K=OC (Opd.ev gl e c) (NW C gl a ⟨e,h,x⟩ K) (NW C gl b ⟨e,h,x⟩ K)) ∧
 (∀{C:Hd} {gl:GL} {e:En} {h:aA} {x:Esc} {K:KT} {c:Opd} {a b:ACode},NW C gl (.condu c a b) ⟨e,h,x⟩ K=MK (Opd.ev gl e c) (NW C gl a ⟨e,h,x⟩ K) (NW C gl b ⟨e,h,x⟩ K)) ∧
 (∀{C:Hd} {gl:GL} {K:KT} {s:St} {b:ACode},NW C gl (.det b) s K=NW C gl b s K) ∧
 (∀{C:Hd} {gl:GL} {K:KT} {s:St},NW C gl .skip s K=K .normal s) ∧
 (∀{C:Hd} {gl:GL} {K:KT} {s:St} {i:Nat},NW C gl (.exit i) s K=K (.exit i) s) ∧
 (∀{C:Hd} {gl:GL} {K:KT} {s:St},NW C gl .ret s K=K .ret s) ∧
 (∀{C:Hd} {gl:GL} {K:KT} {s:St},NW C gl .bad s K=False) ∧
 (∀{C:Hd} {gl:GL} {e:En} {h:aA} {x:Esc} {K:KT} {l:List AOp} {o:List Nat},NW C gl (.reg l (some o)) ⟨e,h,x⟩ K=fE C gl l e h x fun e h x=>K .normal ⟨xA (some o) e,h,x⟩) ∧
 (∀{C:Hd} {gl:GL} {e:En} {h:aA} {x:Esc} {K:KT} {l:List AOp},NW C gl (.reg l none) ⟨e,h,x⟩ K=fE C gl l e h x fun e h x=>K .normal ⟨e,h,x⟩) ∧
 (∀{C:Hd} {gl:GL} {e:En} {h:aA} {x:Esc} {K:KT} {l:List DOp} {o:List Nat},NW C gl (.draw l (some o)) ⟨e,h,x⟩ K=FD C gl l [] [] e h x fun e h x=>K .normal ⟨xA (some o) e,h,x⟩) ∧
 (∀{C:Hd} {gl:GL} {e:En} {h:aA} {x:Esc} {K:KT} {l:List DOp},NW C gl (.draw l none) ⟨e,h,x⟩ K=FD C gl l [] [] e h x fun e h x=>K .normal ⟨e,h,x⟩) ∧
 (∀{C:Hd} {gl:GL} {e:En} {h:aA} {x:Esc} {L:En→aA→Esc→Prop},fE C gl [] e h x L=L e h x) ∧
 (∀{C:Hd} {gl:GL} {e:En} {h:aA} {x:Esc} {L:En→aA→Esc→Prop} {r:List AOp} {d:Option Nat} {o:AO},fE C gl (⟨d,none,o⟩::r) e h x L=opC C o (Opd.ev gl e) h fun v h' x'=>fE C gl r (put d v e) h' (x'++x) L) ∧
 (∀{C:Hd} {gl:GL} {e:En} {h:aA} {x:Esc} {L:En→aA→Esc→Prop} {r:List AOp} {d:Option Nat} {t:Nat} {b:Bool} {o:AO},fE C gl (⟨d,some (t,b),o⟩::r) e h x L=gO (opC C) (jA e t) b o (Opd.ev gl e) h fun v h' x'=>fE C gl r (put d v e) h' (x'++x) L) ∧
 (∀{C:Hd} {gl:GL} {e:En} {h:aA} {x:Esc} {L:En→aA→Esc→Prop} {dn:pC} {hs:List aA},FD C gl [] dn hs e h x L=L e h x) ∧
 (∀{C:Hd} {gl:GL} {e:En} {h:aA} {x:Esc} {L:En→aA→Esc→Prop} {q:List DOp} {dn:pC} {hs:List aA} {d:Option Nat} {o:AO} {rd a b:List Nat} {f:Bool},FD C gl (⟨⟨d,none,o⟩,rd,f,a,b⟩::q) dn hs e h x L=opE C o (Opd.ev gl (xA (some rd) e)) h fun v h' y=>
  sG o.still f h h' y (QD C gl ⟨d,none,o⟩ (xA (some rd) e) v hs (JD C gl h' dn (FD C gl q (dn++[(⟨d,none,o⟩,xA (some rd) e,v)]) (hs++[h]) (put d v e) h' (y++x) L) b) a)) ∧
 (∀{C:Hd} {gl:GL} {e:En} {h:aA} {x:Esc} {L:En→aA→Esc→Prop} {q:List DOp} {dn:pC} {hs:List aA} {d:Option Nat} {t:Nat} {g:Bool} {o:AO} {rd a b:List Nat} {f:Bool},FD C gl (⟨⟨d,some (t,g),o⟩,rd,f,a,b⟩::q) dn hs e h x L=gO (opE C) (jA (xA (some rd) e) t) g o (Opd.ev gl (xA (some rd) e)) h fun v h' y=>
  sG o.still f h h' y (QD C gl ⟨d,some (t,g),o⟩ (xA (some rd) e) v hs (JD C gl h' dn (FD C gl q (dn++[(⟨d,some (t,g),o⟩,xA (some rd) e,v)]) (hs++[h]) (put d v e) h' (y++x) L) b) a)) ∧
 (∀{h':aA} {h:aA} {y:Esc} {Q:Prop} {b:Bool},sG b true h h' y Q=Q) ∧
 (∀{h':aA} {h:aA} {y:Esc} {Q:Prop},sG true false h h' y Q=Q) ∧
 (∀{h':aA} {h:aA} {y:Esc} {Q:Prop},sG false false h h' y Q=((h'=h∧y=[])∧Q)) ∧
 (∀{C:Hd} {gl:GL} {h:aA} {dn:pC} {Q:Prop},JD C gl h dn Q []=Q) ∧
 (∀{C:Hd} {gl:GL} {h:aA} {dn:pC} {Q:Prop} {j:Nat} {l:List Nat},JD C gl h dn Q (j::l)=((match dn[j]? with|some q=>ZH C gl q h|none=>False)∧JD C gl h dn Q l)) ∧
 (∀{C:Hd} {gl:GL} {e:En} {hs:List aA} {Q:Prop} {o:AOp} {v:AV},QD C gl o e v hs Q []=Q) ∧
 (∀{C:Hd} {gl:GL} {e:En} {hs:List aA} {Q:Prop} {o:AOp} {v:AV} {j:Nat} {l:List Nat},QD C gl o e v hs Q (j::l)=((match hs[j]? with|some g=>ZH C gl (o,e,v) g|none=>False)∧QD C gl o e v hs Q l)) ∧
 (∀{C:Hd} {gl:GL} {e:En} {d:Option Nat} {o:AO} {v:AV} {g:aA},ZH C gl (⟨d,none,o⟩,e,v) g=opE C o (Opd.ev gl e) g fun v1 h1 x1=>v1=v∧h1=g∧x1=[]) ∧
 (∀{C:Hd} {gl:GL} {e:En} {d:Option Nat} {t:Nat} {b:Bool} {o:AO} {v:AV} {g:aA},ZH C gl (⟨d,some (t,b),o⟩,e,v) g=gO (opE C) (jA e t) b o (Opd.ev gl e) g fun v1 h1 x1=>v1=v∧h1=g∧x1=[]) ∧
 (∀{e:En} {d:Nat} {v:AV},put (some d) v e=(d,v)::e) ∧
 (∀{e:En} {v:AV},put none v e=e) ∧
 (∀{e:En} {n:Nat} {l:List Nat},xA (some (n::l)) e=(n,jA e n)::xA (some l) e) ∧
 (∀{e:En},xA (some []) e=[]) ∧
 (∀{e:En} {n m:Nat} {v:AV},jA ((n,v)::e) m=match Nat.beq n m with|true=>v|false=>jA e m) ∧
 (∀{gl:GL} {e:En} {n:Nat},Opd.ev gl e (.t n)=jA e n) ∧
 (∀{gl:GL} {e:En} {v:AV},Opd.ev gl e (.c v)=v) ∧
 (∀{gl:GL} {e:En} {n:Nat},Opd.ev gl e (.f n) = .fn n []) ∧
 (∀{gl:GL} {e:En} {n:Nat},Opd.ev gl e (.g n)=gv gl n) ∧
 (∀{n:Nat},(OfNat.ofNat n:Opd) = .t n) ∧
 (∀{C:Hd} {h:aA} {k:AV→aA→Esc→Prop} {ev:Opd→AV} {a:Opd},opC C (.mnext none [a]) ev h k=nxK (ev a) h k) ∧
 (∀{C:Hd} {h:aA} {k:AV→aA→Esc→Prop} {ev:Opd→AV} {sh:Sh} {l:List Opd},opC C (.mnext (some sh) l) ev h k=nqK (some sh) (ev1 ev l) h k) ∧
 (∀{C:Hd} {h:aA} {k:AV→aA→Esc→Prop} {ev:Opd→AV} {f:Nat} {a:List Opd},opC C (.call f a) ev h k=C f (ev1 ev a) h k) ∧
 (∀{C:Hd} {h:aA} {k:AV→aA→Esc→Prop} {ev:Opd→AV} {f:Opd} {a:List Opd},opC C (.callv f a) ev h k=jG C (ev f) (ev1 ev a) h k) ∧
 (∀{C:Hd} {h:aA} {k:AV→aA→Esc→Prop} {ev:Opd→AV} {f:Nat} {a:List Opd},opE C (.call f a) ev h k=XE C f (ev1 ev a) h k) ∧
 (∀{C:Hd} {h:aA} {k:AV→aA→Esc→Prop} {ev:Opd→AV} {f:Opd} {a:List Opd},opE C (.callv f a) ev h k=IK C (ev f) (ev1 ev a) h k) ∧
 (∀{ev:Opd→AV},ev1 ev []=[]) ∧
 (∀{ev:Opd→AV} {a:Opd} {l:List Opd},ev1 ev (a::l)=ev a::ev1 ev l) ∧
 (∀{ev:Opd→AV},ev2 ev []=[]) ∧
 (∀{ev:Opd→AV} {n:Nat} {a:Opd} {l:List (Nat×Opd)},ev2 ev ((n,a)::l)=(n,ev a)::ev2 ev l) ∧
 (∀{ev:Opd→AV},ev3 ev []=[]) ∧
 (∀{ev:Opd→AV} {n m:Nat} {a:Opd} {l:List (Nat×Nat×Opd)},ev3 ev ((n,m,a)::l)=(n,m,ev a)::ev3 ev l) ∧
 (∀{ev:Opd→AV},evO ev none=none) ∧
 (∀{ev:Opd→AV} {a:Opd},evO ev (some a)=some (ev a)):=
 ⟨(by intros;rfl),(by intros;rfl),(by intros;rfl),(by intros;rfl),(by intros;rfl),(by intros;rfl),(by intros;rfl),(by intros;rfl),(by intros;rfl),(by intros;rfl),(by intros;rfl),(by intros;rfl),(by intros;rfl),(by intros;rfl),(by intros;rfl),(by intros;rfl),(by intros;rfl),(by intros;rfl),(by intros;rfl),(by intros;rfl),(by intros;rfl),(by intros;rfl),(by intros;rfl),(by intros;rfl),(by intros;rfl),(by intros;rfl),(by intros;rfl),(by intros;rfl),(by intros;rfl),(by intros;rfl),(by intros;rfl),(by intros;rfl),(by intros;rfl),(by intro e n m v;exact agetB),(by intros;rfl),(by intros;rfl),(by intros;rfl),(by intros;rfl),(by intros;rfl),(by intros;rfl),(by intros;rfl),(by intros;rfl),(by intros;rfl),(by intros;rfl),(by intros;rfl),(by intros;rfl),(by intros;rfl),(by intros;rfl),(by intros;rfl),(by intros;rfl),(by intros;rfl),(by intros;rfl),(by intros;rfl)⟩
abbrev OpW (G:AO→(Opd→AV)→aA→(AV→aA→Esc→Prop)→Prop):Prop:=∀{ev:Opd→AV} {h:aA} {k:AV→aA→Esc→Prop},
 (∀{x},G (.mv x) ev h k=k (ev x) h [])∧(∀{c a b},G (.pick c a b) ev h k=pK (sM (ev c) (ev a) (ev b)) fun v=>k v h [])∧(∀{z},G (.alloc z) ev h k=alK z h k) ∧
 (∀{x},G (.box x) ev h k=wK (lM (ev x) h) k)∧(∀{z ps},G (.build z ps) ev h k=pK (iC z (ev3 ev ps)) fun v=>k v h [])∧(∀{o sh n z ps},G (.bsl o sh n z ps) ev h k=wK (SF o sh n z (ev2 ev ps) h) k) ∧
 (∀{sh a},G (.load sh a) ev h k=pK (MB sh (ev a) h) fun v=>k v h [])∧(∀{sh a x},G (.store sh a x) ev h k=wK (KE sh (ev a) (ev x) h) k)∧(∀{x},G (.nilchk x) ev h k=pK (oE (ev x)) fun v=>k v h []) ∧
 (∀{o x y},G (.bin o x y) ev h k=pK (SA o (ev x) (ev y)) fun v=>k v h [])∧(∀{l n x y},G (.eqa l n x y) ev h k=pK (PA l n (ev x) (ev y)) fun v=>k v h [])∧(∀{n b x},G (.isnil n b x) ev h k=pK (oM n b (ev x)) fun v=>k v h []) ∧
 (∀{x},G (.mkif x) ev h k=pK (yP (ev x)) fun v=>k v h [])∧(∀{o x},G (.un o x) ev h k=pK (oUn o (ev x)) fun v=>k v h [])∧(∀{c x},G (.conv (.i c) x) ev h k=pK (lJ c (ev x)) fun v=>k v h []) ∧
 (∀{f l},G (.mkfn f l) ev h k=k (.fn f (ev1 ev l)) h [])∧(∀{sh x a b c},G (.slice sh x a b c) ev h k=pK (EH sh (ev x) (evO ev a) (evO ev b) (evO ev c) h) fun v=>k v h [])∧(∀{x a b},G (.slstr x a b) ev h k=pK (tM (ev x) (evO ev a) (evO ev b)) fun v=>k v h []) ∧
 (∀{sh z a b},G (.mksl sh z a b) ev h k=wK (zP sh z (ev a) (ev b) h) k)∧(∀{o sh x},G (.faddr o sh x) ev h k=pK (QC o sh (ev x)) fun v=>k v h [])∧(∀{o sh x},G (.field o sh x) ev h k=pK (nM o sh (ev x)) fun v=>k v h []) ∧
 (∀{sh x i},G (.iaddr sh x i) ev h k=pK (XD sh (ev x) (ev i) h) fun v=>k v h [])∧(∀{n sh x i},G (.iaddra n sh x i) ev h k=pK (DH n sh (ev x) (ev i)) fun v=>k v h [])∧(∀{n sh x i},G (.idxa n sh x i) ev h k=pK (mJ n sh (ev x) (ev i)) fun v=>k v h []) ∧
 (∀{x i},G (.idxs x i) ev h k=pK (nJ (ev x) (ev i)) fun v=>k v h [])∧(∀{x i},G (.ext x i) ev h k=pK (BH (ev x) i) fun v=>k v h [])∧(∀{x},G (.len x) ev h k=pK (UF (ev x)) fun v=>k v h [])∧(∀{x},G (.lens x) ev h k=pK (qM (ev x)) fun v=>k v h []) ∧
 (∀{sh a x},G (.app sh a x) ev h k=wK (kJ sh (ev a) (ev x) h) k)∧(∀{sh a x},G (.copy sh a x) ev h k=wK (wP sh (ev a) (ev x) h) k)∧(∀{m t l},G (.uns m t l) ev h k=wK (SE m t (ev1 ev l) h) k)∧(∀{sh z x},G (.clr sh z x) ev h k=wK (oClr sh z (ev x) h) k) ∧
 (∀{l},G (.mx l) ev h k=pK (oMx (ev1 ev l)) fun v=>k v h [])∧(∀{l},G (.mn l) ev h k=pK (oMn (ev1 ev l)) fun v=>k v h [])∧(∀{sh},G (.new0 sh) ev h k=nwK sh h k)∧(∀{x},G (.conv .s2b x) ev h k=wK (CD .s2b (ev x) h) k)∧(∀{x},G (.conv .b2s x) ev h k=wK (CD .b2s (ev x) h) k) ∧
 (∀{x},G (.conv .r2s x) ev h k=wK (CD .r2s (ev x) h) k)∧(∀{x},G (.conv .same x) ev h k=wK (CD .same (ev x) h) k)∧(G .mkmap ev h k=mmK h k)∧(∀{n o z x y},G (.look n o z x y) ev h k=pK (CB n o z (ev x) (ev y) h) fun v=>k v h [])∧(∀{n m y x},G (.mupd n m y x) ev h k=wK (NB n (ev m) (ev y) (ev x) h) k) ∧
 (∀{n z m y},G (.ment n z m y) ev h k=wK (rM n z (ev m) (ev y) h) k)∧(∀{m a x},G (.estore m a x) ev h k=wK (mM (ev m) (ev a) (ev x) h) k)∧(∀{n m y},G (.mdel n m y) ev h k=wK (xP n (ev m) (ev y) h) k)∧(∀{x},G (.lenm x) ev h k=pK (pM (ev x) h) fun v=>k v h []) ∧
 (∀{x},G (.mrange x) ev h k=wK (pJ (ev x) h) k)∧(∀{i},G (.mentry i) ev h k=wK (oJ (ev i) h) k)
theorem w_op:∀ G,(G=opC C∨G=opE C)→OpW G:=by
 rintro G (rfl|rfl) <;> refine fun {_ _ _}=>⟨?_,?_,?_,?_,?_,?_,?_,?_,?_,?_,?_,?_,?_,?_,?_,?_,?_,?_,?_,?_,?_,?_,?_,?_,?_,?_,?_,?_,?_,?_,?_,?_,?_,?_,?_,?_,?_,?_,?_,?_,?_,?_,?_,?_,?_,?_,?_,?_⟩ <;> intros <;> rfl
theorem w_oc:OpW (opC C):=w_op _ (.inl rfl)
theorem w_oe:OpW (opE C):=w_op _ (.inr rfl)
abbrev OpG (G:AO→(Opd→AV)→aA→(AV→aA→Esc→Prop)→Prop):Prop:=∀{t:AV} {g:Bool} {ev:Opd→AV} {h:aA} {k:AV→aA→Esc→Prop},
 (∀{x},gO G t g (.mv x) ev h k=gM t g (ev x) h k) ∧
 (∀{c a b},gO G t g (.pick c a b) ev h k=gP t g (sM (ev c) (ev a) (ev b)) h k) ∧
 (∀{z},gO G t g (.alloc z) ev h k=gV t g h (fun k=>alK z h k) k) ∧
 (∀{x},gO G t g (.box x) ev h k=gV t g h (fun k=>wK (lM (ev x) h) k) k) ∧
 (∀{z ps},gO G t g (.build z ps) ev h k=gP t g (iC z (ev3 ev ps)) h k) ∧
 (∀{o sh n z ps},gO G t g (.bsl o sh n z ps) ev h k=gV t g h (fun k=>wK (SF o sh n z (ev2 ev ps) h) k) k) ∧
 (∀{sh a},gO G t g (.load sh a) ev h k=gP t g (MB sh (ev a) h) h k) ∧
 (∀{sh a x},gO G t g (.store sh a x) ev h k=gV t g h (fun k=>wK (KE sh (ev a) (ev x) h) k) k) ∧
 (∀{x},gO G t g (.nilchk x) ev h k=gP t g (oE (ev x)) h k) ∧
 (∀{o x y},gO G t g (.bin o x y) ev h k=gP t g (SA o (ev x) (ev y)) h k) ∧
 (∀{l n x y},gO G t g (.eqa l n x y) ev h k=gP t g (PA l n (ev x) (ev y)) h k) ∧
 (∀{n b x},gO G t g (.isnil n b x) ev h k=gP t g (oM n b (ev x)) h k) ∧
 (∀{x},gO G t g (.mkif x) ev h k=gP t g (yP (ev x)) h k) ∧
 (∀{o x},gO G t g (.un o x) ev h k=gP t g (oUn o (ev x)) h k) ∧
 (∀{c x},gO G t g (.conv (.i c) x) ev h k=gP t g (lJ c (ev x)) h k) ∧
 (∀{f l},gO G t g (.mkfn f l) ev h k=gM t g (.fn f (ev1 ev l)) h k) ∧
 (∀{sh x a b c},gO G t g (.slice sh x a b c) ev h k=gP t g (EH sh (ev x) (evO ev a) (evO ev b) (evO ev c) h) h k) ∧
 (∀{x a b},gO G t g (.slstr x a b) ev h k=gP t g (tM (ev x) (evO ev a) (evO ev b)) h k) ∧
 (∀{sh z a b},gO G t g (.mksl sh z a b) ev h k=gV t g h (fun k=>wK (zP sh z (ev a) (ev b) h) k) k) ∧
 (∀{o sh x},gO G t g (.faddr o sh x) ev h k=gP t g (QC o sh (ev x)) h k) ∧
 (∀{o sh x},gO G t g (.field o sh x) ev h k=gP t g (nM o sh (ev x)) h k) ∧
 (∀{sh x i},gO G t g (.iaddr sh x i) ev h k=gP t g (XD sh (ev x) (ev i) h) h k) ∧
 (∀{n sh x i},gO G t g (.iaddra n sh x i) ev h k=gP t g (DH n sh (ev x) (ev i)) h k) ∧
 (∀{n sh x i},gO G t g (.idxa n sh x i) ev h k=gP t g (mJ n sh (ev x) (ev i)) h k) ∧
 (∀{x i},gO G t g (.idxs x i) ev h k=gP t g (nJ (ev x) (ev i)) h k) ∧
 (∀{x i},gO G t g (.ext x i) ev h k=gP t g (BH (ev x) i) h k) ∧
 (∀{x},gO G t g (.len x) ev h k=gP t g (UF (ev x)) h k) ∧
 (∀{x},gO G t g (.lens x) ev h k=gP t g (qM (ev x)) h k) ∧
 (∀{sh a x},gO G t g (.app sh a x) ev h k=gV t g h (fun k=>wK (kJ sh (ev a) (ev x) h) k) k) ∧
 (∀{sh a x},gO G t g (.copy sh a x) ev h k=gV t g h (fun k=>wK (wP sh (ev a) (ev x) h) k) k) ∧
 (∀{m t2 l},gO G t g (.uns m t2 l) ev h k=gV t g h (fun k=>wK (SE m t2 (ev1 ev l) h) k) k) ∧
 (∀{sh z x},gO G t g (.clr sh z x) ev h k=gV t g h (fun k=>wK (oClr sh z (ev x) h) k) k) ∧
 (∀{l},gO G t g (.mx l) ev h k=gP t g (oMx (ev1 ev l)) h k) ∧
 (∀{l},gO G t g (.mn l) ev h k=gP t g (oMn (ev1 ev l)) h k) ∧
 (∀{sh},gO G t g (.new0 sh) ev h k=gV t g h (fun k=>nwK sh h k) k) ∧
 (∀{x},gO G t g (.conv .s2b x) ev h k=gV t g h (fun k=>wK (CD .s2b (ev x) h) k) k) ∧
 (∀{x},gO G t g (.conv .b2s x) ev h k=gV t g h (fun k=>wK (CD .b2s (ev x) h) k) k) ∧
 (∀{x},gO G t g (.conv .r2s x) ev h k=gV t g h (fun k=>wK (CD .r2s (ev x) h) k) k) ∧
 (∀{x},gO G t g (.conv .same x) ev h k=gV t g h (fun k=>wK (CD .same (ev x) h) k) k) ∧
 (gO G t g .mkmap ev h k=gV t g h (fun k=>mmK h k) k) ∧
 (∀{n o z x y},gO G t g (.look n o z x y) ev h k=gP t g (CB n o z (ev x) (ev y) h) h k) ∧
 (∀{n m y x},gO G t g (.mupd n m y x) ev h k=gV t g h (fun k=>wK (NB n (ev m) (ev y) (ev x) h) k) k) ∧
 (∀{n z m y},gO G t g (.ment n z m y) ev h k=gV t g h (fun k=>wK (rM n z (ev m) (ev y) h) k) k) ∧
 (∀{m a x},gO G t g (.estore m a x) ev h k=gV t g h (fun k=>wK (mM (ev m) (ev a) (ev x) h) k) k) ∧
 (∀{n m y},gO G t g (.mdel n m y) ev h k=gV t g h (fun k=>wK (xP n (ev m) (ev y) h) k) k) ∧
 (∀{x},gO G t g (.lenm x) ev h k=gP t g (pM (ev x) h) h k) ∧
 (∀{x},gO G t g (.mrange x) ev h k=gV t g h (fun k=>wK (pJ (ev x) h) k) k) ∧
 (∀{i},gO G t g (.mentry i) ev h k=gV t g h (fun k=>wK (oJ (ev i) h) k) k)
theorem w_og:∀ G,(G=opC C∨G=opE C)→OpG G:=by
 rintro G (rfl|rfl) <;> refine fun {_ _ _ _ _}=>⟨?_,?_,?_,?_,?_,?_,?_,?_,?_,?_,?_,?_,?_,?_,?_,?_,?_,?_,?_,?_,?_,?_,?_,?_,?_,?_,?_,?_,?_,?_,?_,?_,?_,?_,?_,?_,?_,?_,?_,?_,?_,?_,?_,?_,?_,?_,?_,?_⟩ <;> intros <;> rfl
theorem w_gc:OpG (opC C):=w_og _ (.inl rfl)
theorem w_ge:OpG (opE C):=w_og _ (.inr rfl)
theorem wG:(∀ {C:Hd} {t:AV} {g:Bool} {f:Nat} {a:List Opd} {ev:Opd→AV} {h:aA} {k:AV→aA→Esc→Prop},gO (opC C) t g (.call f a) ev h k=gV t g h (C f (ev1 ev a) h) k)∧(∀ {C:Hd} {t:AV} {g:Bool} {f:Opd} {a:List Opd} {ev:Opd→AV} {h:aA} {k:AV→aA→Esc→Prop},gO (opC C) t g (.callv f a) ev h k=gV t g h (jG C (ev f) (ev1 ev a) h) k) ∧
 (∀{C:Hd} {t:AV} {g:Bool} {f:Nat} {a:List Opd} {ev:Opd→AV} {h:aA} {k:AV→aA→Esc→Prop},gO (opE C) t g (.call f a) ev h k=gV t g h (XE C f (ev1 ev a) h) k)∧(∀{C:Hd} {t:AV} {g:Bool} {f:Opd} {a:List Opd} {ev:Opd→AV} {h:aA} {k:AV→aA→Esc→Prop},gO (opE C) t g (.callv f a) ev h k=gV t g h (IK C (ev f) (ev1 ev a) h) k):=⟨rfl,rfl,rfl,rfl⟩
theorem wB:(∀ {α:Type} {l:List α},[]++l=l)∧(∀ {α:Type} {a:α} {l m:List α},a::l++m=a::(l++m))∧(∀ {α:Type} {a:α} {l:List α},(a::l)[0]?=some a)∧(∀ {α:Type} {a:α} {l:List α} {i:Nat},(a::l)[i+1]?=l[i]?) ∧
 (∀{C:Hd} {gl:GL} {b:ACode} {K:KT} {s:St},aG C gl b K .normal s=NW C gl b s K)∧(∀{C:Hd} {gl:GL} {b:ACode} {K:KT} {s:St} {i:Nat},aG C gl b K (.exit i) s=K (.exit i) s)∧(∀{C:Hd} {gl:GL} {b:ACode} {K:KT} {s:St},aG C gl b K .ret s=K .ret s) ∧
 (∀{i:Nat} {K:KT} {s:St},cD i K .normal s=K .normal s)∧(∀{i j:Nat} {K:KT} {s:St},cD i K (.exit j) s=match Nat.beq j i with|true=>K .normal s|false=>K (.exit j) s)∧(∀{i:Nat} {K:KT} {s:St},cD i K .ret s=K .ret s):=
 ⟨by intros;rfl,by intros;rfl,by intros;rfl,by intros;rfl,by intros;rfl,by intros;rfl,by intros;rfl,by intros;rfl,by intro i j K s;show(bif Nat.beq j i then _ else _)=_;cases Nat.beq j i <;> rfl,by intros;rfl⟩
theorem wS:(∀ {n:Int},cI n = .c (.p (.int .i64 n)))∧(cT = .c (.p (.bool true)))∧(cF = .c (.p (.bool false)))∧(∀ {l:List UInt8},cS l = .c (.p (.str l)))∧(∀ {d:Nat} {o:AO},uO d o=⟨some d,none,o⟩)∧(∀ {o:AO},wO o=⟨none,none,o⟩)∧(∀ {d g:Nat} {b:Bool} {o:AO},gD d g b o=⟨some d,some (g,b),o⟩)∧(∀ {d:Nat} {x:Opd},mV d x=⟨some d,none,.mv x⟩) ∧
 (∀{d:Nat} {b:BinOp} {x y:Opd},bN d b x y=⟨some d,none,.bin b x y⟩)∧(∀{d f:Nat} {l:List Opd},cL d f l=⟨some d,none,.call f l⟩)∧(∀{d:Nat} {s:Sh} {x:Opd},lD d s x=⟨some d,none,.load s x⟩)∧(∀{d:Nat} {s:Sh} {x y:Opd},iA d s x y=⟨some d,none,.iaddr s x y⟩)∧(∀{d o:Nat} {s:Sh} {x:Opd},fA d o s x=⟨some d,none,.faddr o s x⟩) ∧
 (∀{d:Nat} {s:Sh} {x y:Opd},sT d s x y=⟨some d,none,.store s x y⟩)∧(∀{d:Nat} {x:Opd},lN d x=⟨some d,none,.len x⟩)∧(∀{d:Nat} {x:Opd} {i:Nat},eX d x i=⟨some d,none,.ext x i⟩)∧(∀{o:AOp} {l:List Nat},dF o l=⟨o,l,false,[],[]⟩)∧(∀{o:AOp} {l:List Nat},dT o l=⟨o,l,true,[],[]⟩)∧(∀{o:AOp} {l:List Nat} {e:Bool} {a b:List Nat},dA o l e a b=⟨o,l,e,a,b⟩) ∧
 (∀{l:List AOp} {k:List Nat},rg l k = .reg l (some k))∧(∀{l:List DOp} {k:List Nat},dr l k = .draw l (some k)):=
 ⟨rfl,rfl,rfl,rfl,rfl,rfl,rfl,rfl,rfl,rfl,rfl,rfl,rfl,rfl,rfl,rfl,rfl,rfl,rfl,rfl,rfl⟩
def wZ:=And.intro wA (And.intro wB (And.intro @w_oc (And.intro @w_oe (And.intro @w_gc (And.intro @w_ge (And.intro wG wS))))))
end Go.Am
end
