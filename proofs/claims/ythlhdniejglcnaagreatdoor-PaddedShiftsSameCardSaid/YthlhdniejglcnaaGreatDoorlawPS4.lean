/- Texts of the proof, laid together: Am26, Am27, Am28, Am29, Am30, Am31, AmX, AmS, AmW, CodesA. -/
import GoSem.Extern.Table
import Derived.Laws.World
import Derived.KernelRfl
import Derived.Test.YthlhdniejglcnaaGreatDoorlawPS3
set_option linter.all false
section
/- The abstract machine,part 26: QB calls are computed. -/
set_option linter.unusedSimpArgs false
set_option linter.unusedVariables false
namespace Go.Am
mutual
def PV.same:PV→PV→Bool
 | .int k a,.int k' b=>decide (k=k')&&decide (a=b)
 | .bool a,.bool b=>decide (a=b)
 | .str a,.str b=>decide (a=b)
 | .sl s xs,.sl t ys=>decide (s=t)&&PV.sames xs ys
 | .agg xs,.agg ys=>PV.sames xs ys
 | .nilp,.nilp=>true
 | _,_=>false
def PV.sames:List PV→List PV→Bool
 | [],[]=>true
 | a::asv,b::bs=>PV.same a b&&PV.sames asv bs
 | _,_=>false
end
mutual
theorem PV.same_eq:∀ (a b:PV),PV.same a b=true→a=b
 | .int k a,b,h=>by
  cases b <;> simp [PV.same]at h
  obtain⟨h1,h2⟩:=h;subst h1;subst h2;rfl
 | .bool a,b,h=>by cases b <;> simp [PV.same]at h;subst h;rfl
 | .str a,b,h=>by cases b <;> simp [PV.same]at h;subst h;rfl
 | .sl s xs,b,h=>by
  cases b <;> simp [PV.same]at h
  obtain⟨h1,h2⟩:=h;subst h1;rw[PV.sames_eq _ _ h2]
 | .agg xs,b,h=>by
  cases b <;> simp [PV.same]at h
  rw[PV.sames_eq _ _ h]
 | .nilp,b,h=>by cases b <;> simp [PV.same]at h;rfl
theorem PV.sames_eq:∀ (a b:List PV),PV.sames a b=true→a=b
 | [],b,h=>by cases b <;> simp [PV.sames]at h;rfl
 | x::xs,b,h=>by
  cases b <;> simp [PV.sames]at h
  rw[PV.same_eq _ _ h.1,PV.sames_eq _ _ h.2]
end
mutual
def AV.same:AV→AV→Bool
 | .p a,.p b=>PV.same a b
 | .own a b c d,.own a' b' c' d'=>decide (a=a')&&decide (b=b')&&decide (c=c')&&decide (d=d')
 | .sl0 a,.sl0 b=>decide (a=b)
 | .ref a b,.ref a' b'=>decide (a=a')&&decide (b=b')
 | .rref a b c d,.rref a' b' c' d'=>decide (a=a')&&decide (b=b')&&decide (c=c')&&decide (d=d')
 | .vp a,.vp b=>PV.same a b
 | .nilp,.nilp=>true
 | .nilm,.nilm=>true
 | .nilf,.nilf=>true
 | .nili,.nili=>true
 | .ifc,.ifc=>true
 | .mp a,.mp b=>decide (a=b)
 | .it a,.it b=>decide (a=b)
 | .fn a b,.fn a' b'=>decide (a=a')&&AV.sames b b'
 | .agg a,.agg b=>AV.sames a b
 | .tup a,.tup b=>AV.sames a b
 | .anyb,.anyb=>true
 | .skp,.skp=>true
 | .und,.und=>true
 | .anyp,.anyp=>true
 | .bt a b c d,.bt a' b' c' d'=>decide (a=a')&&decide (b=b')&&decide (c=c')&&decide (d=d')
 | _,_=>false
def AV.sames:List AV→List AV→Bool
 | [],[]=>true
 | a::asv,b::bs=>AV.same a b&&AV.sames asv bs
 | _,_=>false
end
mutual
theorem AV.same_eq:∀ (a b:AV),AV.same a b=true→a=b
 | .p a,b,h=>by cases b <;> simp [AV.same]at h;rw[PV.same_eq _ _ h]
 | .own _ _ _ _,b,h=>by cases b <;> simp [AV.same]at h;simp [h]
 | .sl0 _,b,h=>by cases b <;> simp [AV.same]at h;simp [h]
 | .ref _ _,b,h=>by cases b <;> simp [AV.same]at h;simp [h]
 | .rref _ _ _ _,b,h=>by cases b <;> simp [AV.same]at h;simp [h]
 | .vp a,b,h=>by cases b <;> simp [AV.same]at h;rw[PV.same_eq _ _ h]
 | .nilp,b,h=>by cases b <;> simp [AV.same]at h;rfl
 | .nilm,b,h=>by cases b <;> simp [AV.same]at h;rfl
 | .nilf,b,h=>by cases b <;> simp [AV.same]at h;rfl
 | .nili,b,h=>by cases b <;> simp [AV.same]at h;rfl
 | .ifc,b,h=>by cases b <;> simp [AV.same]at h;rfl
 | .mp _,b,h=>by cases b <;> simp [AV.same]at h;simp [h]
 | .it _,b,h=>by cases b <;> simp [AV.same]at h;simp [h]
 | .fn _ cs,b,h=>by cases b <;> simp [AV.same]at h;rw[h.1,AV.sames_eq _ _ h.2]
 | .agg cs,b,h=>by cases b <;> simp [AV.same]at h;rw[AV.sames_eq _ _ h]
 | .tup cs,b,h=>by cases b <;> simp [AV.same]at h;rw[AV.sames_eq _ _ h]
 | .anyb,b,h=>by cases b <;> simp [AV.same]at h;rfl
 | .skp,b,h=>by cases b <;> simp [AV.same]at h;rfl
 | .und,b,h=>by cases b <;> simp [AV.same]at h;rfl
 | .anyp,b,h=>by cases b <;> simp [AV.same]at h;rfl
 | .bt _ _ _ _,b,h=>by cases b <;> simp [AV.same]at h;simp [h]
theorem AV.sames_eq:∀ (a b:List AV),AV.sames a b=true→a=b
 | [],b,h=>by cases b <;> simp [AV.sames]at h;rfl
 | x::xs,b,h=>by
  cases b <;> simp [AV.sames]at h
  rw[AV.same_eq _ _ h.1,AV.sames_eq _ _ h.2]
end
abbrev EvC:=Nat→List AV→aA→Option (AV × aA × Esc)
def RJ (C:EvC)(gl:Nat→Option PV)(o:AOp)(e:List (Nat × AV))(h:aA):Option (AV×aA×Esc):=match wanted o.guard e with
 | some true=>match o.op with
  | .call f args=>C f (args.map (Opd.ev gl e)) h
  | .callv f args=>match Opd.ev gl e f with
   | .fn g caps=>C g (args.map (Opd.ev gl e)++caps) h
   | _=>none
  | .mnext _ _=>none
  | op=>aop op (Opd.ev gl e) h
 | some false=>some (.skp,h,[])
 | none=>none
def z2A (gl:Nat→Option PV)(o:AOp)(e:List (Nat × AV))(h:aA):Option (AV×aA):=match o.op with
 | .mnext sh xs=>match wanted o.guard e with
  | some true=>match aI h sh (xs.map (Opd.ev gl e)) with
   | some [y]=>some y
   | _=>none
  | _=>none
 | _=>none
def SJ (C:EvC)(gl:Nat→Option PV):List AOp→List (Nat×AV)→aA→Esc→Option (List (Nat×AV)×aA×Esc)
 | [],e,h,x=>some (e,h,x)
 | o::r,e,h,x=>match RJ C gl o e h with
  | some (v,h',x')=>SJ C gl r (put o.dst v e) h' (x'++x)
  | none=>match z2A gl o e h with
   | some (v,h')=>SJ C gl r (put o.dst v e) h' x
   | none=>none
def AO.still:AO→Bool
 | .mv _ | .pick _ _ _ | .build _ _ | .load _ _ | .nilchk _ | .bin _ _ _ | .eqa _ _ _ _ | .isnil _ _ _ | .mkif _ | .un _ _ | .mkfn _ _ | .slice _ _ _ _ _ | .slstr _ _ _ | .faddr _ _ _ | .field _ _ _ | .iaddr _ _ _
 | .iaddra _ _ _ _ | .idxa _ _ _ _ | .idxs _ _ | .look _ _ _ _ _ | .ext _ _ | .len _ | .lens _ | .lenm _ | .mx _ | .mn _=>true
 | _=>false
def AO.still2:AO→Bool
 | .conv (.i _) _=>true
 | o=>o.still
def ME.same (a b:ME):Bool:=PV.same a.key b.key&&AV.same a.val b.val&&decide (a.born=b.born)
def MEs.same:List ME→List ME→Bool
 | [],[]=>true
 | a::asv,b::bs=>ME.same a b&&MEs.same asv bs
 | _,_=>false
def Obj.same:Obj→Obj→Bool
 | .box a,.box b=>AV.sames a b
 | .row a b c,.row a' b' c'=>decide (a=a')&&PV.sames b b'&&decide (c=c')
 | .amap a b,.amap a' b'=>MEs.same a a'&&decide (b=b')
 | .iter a b c d,.iter a' b' c' d'=>decide (a=a')&&decide (b=b')&&decide (c=c')&&decide (d=d')
 | _,_=>false
def aA.same:List Obj→List Obj→Bool
 | [],[]=>true
 | a::asv,b::bs=>Obj.same a b&&aA.same asv bs
 | _,_=>false
theorem ME.same_eq {a b:ME}(h:ME.same a b=true):a=b:=by
 cases a;cases b
 simp only[ME.same,Bool.and_eq_true,decide_eq_true_eq]at h;obtain⟨⟨h1,h2⟩,h3⟩:=h;rw[PV.same_eq _ _ h1,AV.same_eq _ _ h2,h3]
theorem MEs.same_eq:∀ {a b:List ME},MEs.same a b=true→a=b
 | [],[],_=>rfl
 | [],_::_,h=>by simp [MEs.same]at h
 | _::_,[],h=>by simp [MEs.same]at h
 | a::asv,b::bs,h=>by
  simp only[MEs.same,Bool.and_eq_true]at h;rw[ME.same_eq h.1,MEs.same_eq h.2]
theorem Obj.same_eq {a b:Obj}(h:Obj.same a b=true):a=b:=by
 cases a <;> cases b <;> simp only[Obj.same,Bool.and_eq_true,decide_eq_true_eq]at h <;> first
  | (cases h;done)
  | (rw[AV.sames_eq _ _ h])
  | (obtain⟨⟨h1,h2⟩,h3⟩:=h;rw[h1,PV.sames_eq _ _ h2,h3])
  | (obtain⟨h1,h2⟩:=h;rw[MEs.same_eq h1,h2])
  | (obtain⟨⟨⟨h1,h2⟩,h3⟩,h4⟩:=h;rw[h1,h2,h3,h4])
theorem aA.same_eq:∀ {a b:List Obj},aA.same a b=true→a=b
 | [],[],_=>rfl
 | [],_::_,h=>by simp [aA.same]at h
 | _::_,[],h=>by simp [aA.same]at h
 | a::asv,b::bs,h=>by
  simp only[aA.same,Bool.and_eq_true]at h;rw[Obj.same_eq h.1,aA.same_eq h.2]
def RQ (C:EvC)(gl:Nat→Option PV)(o:AOp)(e:List (Nat × AV))(g:aA)(v:AV):Bool:=match RJ C gl o e g with
 | some (v',g',y)=>AV.same v' v&&y.isEmpty&&(o.op.still2||aA.same g' g)
 | none=>false
def QM (C:EvC)(gl:Nat→Option PV):List DOp→FC→List aA→List (Nat×AV)→aA→Esc→Option (List (Nat×AV)×aA×Esc)
 | [],_,_,e,h,x=>some (e,h,x)
 | o::r,dn,hs,e,h,x=>match RJ C gl o.op (CA (some o.rd) e) h with
  | some (v,h',y)=>
   if(o.eff||o.op.op.still2||y.isEmpty&&aA.same h' h)&&(o.early.all fun k=>match hs[k]? with|some g=>RQ C gl o.op (CA (some o.rd) e) g v|none=>false)
    && (o.again.all fun j=>match dn[j]? with|some q=>RQ C gl q.1 q.2.1 h' q.2.2|none=>false) then
    QM C gl r (dn++[(o.op,CA (some o.rd) e,v)]) (hs++[h]) (put o.op.dst v e) h' (y++x)
   else none
  | none=>none
def QQ (T:St→Option (Ex × St)):Nat→St→Option (Ex×St)
 | 0,_=>none
 | n+1,s=>match T s with
  | some (.normal,s')=>QQ T n s'
  | r=>r
def RB (C:EvC)(gl:Nat→Option PV)(n:Nat):ACode→St→Option (Ex×St)
 | .skip,s=>some (.normal,s)
 | .reg ops keep,s=>match SJ C gl ops s.env s.h s.esc with
  | some (e,h,x)=>some (.normal,⟨CA keep e,h,x⟩)
  | none=>none
 | .draw ds keep,s=>match QM C gl ds [] [] s.env s.h s.esc with
  | some (e,h,x)=>some (.normal,⟨CA keep e,h,x⟩)
  | none=>none
 | .seq a b,s=>match RB C gl n a s with
  | some (.normal,s')=>RB C gl n b s'
  | r=>r
 | .cond c a b,s=>match Opd.ev gl s.env c with
  | .p (.bool t)=>match t with
   | true=>RB C gl n a s
   | false=>RB C gl n b s
  | _=>none
 | .det b,s=>RB C gl n b s
 | .condu c a b,s=>match Opd.ev gl s.env c with
  | .p (.bool t)=>match t with
   | true=>RB C gl n a s
   | false=>RB C gl n b s
  | _=>none
 | .block id b,s=>match RB C gl n b s with
  | some (.exit i,s')=>if i=id then some (.normal,s') else some (.exit i,s')
  | r=>r
 | .loop b,s=>QQ (RB C gl n b) n s
 | .scope b,s=>match RB C gl n b ⟨s.env,s.h,[]⟩ with
  | some (e,s')=>some (e,PD s.h.length s.esc s')
  | none=>none
 | .pr l b,s=>RB C gl n b ⟨CA (some l) s.env,s.h,s.esc⟩
 | .exit id,s=>some (.exit id,s)
 | .ret,s=>some (.ret,s)
 | .bad,_=>none
def lX (F:AFun)(b:Nat)(s:St):Option (AV×aA×Esc):=match gE s F.results with
 | some vs=>match F.keep with
  | true=>
   let n:=IB s.esc.length s.esc (max b (jB vs).top)
   if QB s.esc n then some (jB vs,s.h.take n,s.esc.filter fun y=>decide (y.1<n)) else some (jB vs,s.h,s.esc)
  | false=>match aB b s.h (jB vs) with
   | some v0=>
    let n:=IB s.esc.length s.esc (max b v0.top)
    if QB s.esc n then match aB n s.h (jB vs) with
     | some v=>if v.top≤n then some (v,s.h.take n,s.esc.filter fun y=>decide (y.1<n)) else none
     | none=>none
    else some (jB vs,s.h,s.esc)
   | none=>none
 | none=>none
def jX (C:EvC)(gl:Nat→Option PV)(n:Nat)(F:AFun)(args:List AV)(h:aA):Option (AV×aA×Esc):=
 match (if F.byref then some (args,h) else oA h args) with
 | some (asv,h1)=>if asv.length=F.nparams then match RB C gl n F.body ⟨enter asv,h1,[]⟩ with
  | some (.exit _,_)=>none
  | some (_,s)=>lX F h.length s
  | none=>none
  else none
 | none=>none
def MH (C':EvC)(C:Hd):Prop:=∀f a h v h' x (K:jA),C' f a h=some (v,h',x)→K v h' x→C f a h K
variable {C':EvC} {C:Hd} {gl:Nat→Option PV}
theorem z26 (hC:MH C' C){o:AOp}{e:List (Nat × AV)}{h h':aA}{v:AV}{x:Esc}(H:RJ C' gl o e h=some (v,h',x)):ADo C gl o e h v h' x:=by
 unfold RJ at H;unfold ADo;split at H
 ·rename_i hw
  simp only[hw];obtain⟨dst,guard,op⟩:=o;cases op;case call f args=>exact hC _ _ _ _ _ _ _ H ⟨rfl,rfl,rfl⟩
  case callv f args=>
   dsimp only at H ⊢;split at H
   ·rename_i hf
    simp only[hf];exact hC _ _ _ _ _ _ _ H ⟨rfl,rfl,rfl⟩
   ·cases H
  case mnext sh xs=>cases H
  all_goals exact H
 ·rename_i hw
  simp only[hw];injection H with H
  injection H with h1 H
  injection H with h2 h3
  exact⟨h1.symm,h2.symm,h3.symm⟩
 ·cases H
theorem mX (hC:MH C' C):∀(ops:List AOp) e h x e' h' x' (K:List (Nat×AV)→aA→Esc→Prop),SJ C' gl ops e h x=some (e',h',x')→K e' h' x'→UA C gl ops e h x K
 | [],e,h,x,e',h',x',K,H,hK=>by
  simp only[SJ,Option.some.injEq,Prod.mk.injEq]at H;obtain⟨rfl,rfl,rfl⟩:=H;exact hK
 | o::r,e,h,x,e',h',x',K,H,hK=>by
  unfold SJ at H;split at H
  ·rename_i v h1 x1 hd
   have ih:=mX hC r _ _ _ _ _ _ K H hK
   unfold RJ at hd;unfold UA;split at hd
   ·rename_i hw
    simp only[hw];obtain⟨dst,guard,op⟩:=o;cases op;case call f args=>exact hC _ _ _ _ _ _ _ hd ih
    case callv f args=>
     dsimp only at hd ⊢;split at hd
     ·rename_i hf
      simp only[hf];exact hC _ _ _ _ _ _ _ hd ih
     ·cases hd
    case mnext sh xs=>cases hd
    all_goals
     dsimp only at hd ⊢;rw[hd];exact ih
   ·rename_i hw
    simp only[hw];injection hd with hd
    injection hd with h1 hd
    injection hd with h2 h3
    subst h1;subst h2;subst h3
    exact ih
   ·cases hd
  ·split at H
   ·rename_i v h1 hd
    have ih:=mX hC r _ _ _ _ _ _ K H hK
    unfold z2A at hd;unfold UA;split at hd
    ·rename_i sh xs hop
     split at hd
     ·rename_i hw
      simp only[hw,hop];split at hd
      ·rename_i y hm
       injection hd with hd
       subst hd;simp only[hm];refine⟨by simp,fun z hz=>?_⟩
       rw[List.mem_singleton]at hz;subst hz;exact ih
      ·cases hd
     ·cases hd
    ·cases hd
   ·cases H
theorem z8Y {o:AO}(hs:o.still=true){ev:Opd→AV}{h h':aA}{v:AV}{x:Esc}(H:aop o ev h=some (v,h',x)):h'=h∧x=[]:=by
 cases o <;> first|(cases hs;done)|skip
 all_goals
  unfold aop at H;dsimp only at H;repeat' split at H
  all_goals first
   | (cases H;done)
   | (simp only[Option.some.injEq,Prod.mk.injEq]at H;obtain⟨_,rfl,rfl⟩:=H;exact⟨rfl,rfl⟩)
   | (simp only[Option.map_eq_some_iff,Prod.mk.injEq]at H;obtain⟨_,_,_,rfl,rfl⟩:=H;exact⟨rfl,rfl⟩)
   | (have H2:=nilc (g:=[]) H;rename_i k neg p;cases hb:pH k (ev p) <;> rw[hb]at H <;> simp only[cond_true,cond_false,Option.map_eq_some_iff,Option.some.injEq,Prod.mk.injEq]at H <;> first|(obtain⟨_,rfl,rfl⟩:=H;exact⟨rfl,rfl⟩)|(obtain⟨_,_,_,rfl,rfl⟩:=H;exact⟨rfl,rfl⟩))
theorem z8Z {o:AO}(hs:o.still2=true){ev:Opd→AV}{h h':aA}{v:AV}{x:Esc}(H:aop o ev h=some (v,h',x)):h'=h∧x=[]:=by
 unfold AO.still2 at hs;split at hs
 ·simp only[aop,EF]at H
  split at H
  ·simp at H;exact⟨H.2.1.symm,H.2.2⟩
  ·simp at H
 ·exact z8Y hs H
theorem UT {o:AOp}(hs:o.op.still2=true){e:List (Nat × AV)}{h h':aA}{v:AV}{x:Esc}(H:ADo C gl o e h v h' x):h'=h∧x=[]:=by
 unfold ADo at H;split at H
 ·obtain⟨dst,guard,op⟩:=o
  cases op <;> first|(cases hs;done)|exact z8Z hs H
 ·exact H.2
 ·exact H.elim
theorem zld {o:AO}(h:o.still=true):o.still2=true:=by
 cases o <;> first|exact h|(cases h;done)
theorem z7q {o:AOp}(hs:o.op.still=true){e:List (Nat × AV)}{h h':aA}{v:AV}{x:Esc}(H:ADo C gl o e h v h' x):h'=h∧x=[]:=UT (zld hs) H
theorem z2B (hC:MH C' C){o:AOp}{e:List (Nat × AV)}{g:aA}{v:AV}(H:RQ C' gl o e g v=true):ADo C gl o e g v g []:=by
 unfold RQ at H;split at H
 ·rename_i v' g' y hd
  simp only[Bool.and_eq_true,Bool.or_eq_true,List.isEmpty_iff]at H;obtain⟨⟨h1,h2⟩,h3⟩:=H;have h1:=AV.same_eq _ _ h1
  have:=z26 (C:=C) hC hd;rcases h3 with hs|hs
  ·obtain⟨e1,e2⟩:=UT hs this
   subst e1;subst e2;subst h1
   exact this
  ·have e1:=aA.same_eq hs
   subst e1;subst h2;subst h1
   exact this
 ·cases H
theorem z27 (hC:MH C' C):∀(ds:List DOp) dn hs e h x e' h' x' (K:List (Nat×AV)→aA→Esc→Prop),QM C' gl ds dn hs e h x=some (e',h',x')→K e' h' x'→eD C gl ds dn hs e h x K
 | [],dn,hs,e,h,x,e',h',x',K,H,hK=>by
  simp only[QM,Option.some.injEq,Prod.mk.injEq]at H;obtain⟨rfl,rfl,rfl⟩:=H;exact hK
 | o::r,dn,hs,e,h,x,e',h',x',K,H,hK=>by
  unfold QM at H;split at H
  ·rename_i v h1 y hd
   split at H
   ·rename_i hc
    simp only[Bool.and_eq_true,Bool.or_eq_true,List.all_eq_true]at hc;obtain⟨⟨c1,c2⟩,c3⟩:=hc;have hdo:=z26 (C:=C) hC hd
    refine⟨v,h1,y,hdo,fun he=>?_,fun k hk=>?_,fun j hj=>?_,z27 hC r _ _ _ _ _ _ _ _ K H hK⟩
    ·rcases c1 with(c1|c1)|⟨c1,c4⟩
     ·rw[c1]at he;cases he
     ·exact UT c1 hdo
     ·rw[List.isEmpty_iff]at c1
      exact⟨aA.same_eq c4,c1⟩
    ·have:=c2 k hk
     split at this
     ·rename_i g hg
      exact⟨g,hg,z2B hC this⟩
     ·cases this
    ·have:=c3 j hj
     split at this
     ·rename_i q hq
      exact⟨q,hq,z2B hC this⟩
     ·cases this
   ·cases H
  ·cases H
theorem z29 {T':St→Option (Ex × St)}{T:St→(Ex→St→Prop)→Prop}(hT:∀ s e s' K,T' s=some (e,s')→K e s'→T s K):∀n s e s' K,QQ T' n s=some (e,s')→K e s'→ALoop T K s
 | 0,s,e,s',K,H,hK=>by cases H
 | n+1,s,e,s',K,H,hK=>by
  unfold QQ at H;split at H
  ·rename_i s1 h1
   refine .mk s (fun e2 s2=>e2 = .normal∧s2=s1) (hT _ _ _ _ h1 ⟨rfl,rfl⟩) (fun s2 ⟨_,h2⟩=>?_) (fun i s2 ⟨h2,_⟩=>by cases h2) (fun s2 ⟨h2,_⟩=>by cases h2)
   subst h2;exact z29 hT n _ _ _ K H hK
  ·rename_i hne
   have hne':e ≠ .normal:=fun he=>by subst he;exact hne _ H
   refine .mk s (fun e2 s2=>e2=e∧s2=s') (hT _ _ _ _ H ⟨rfl,rfl⟩) (fun s2 ⟨h2,_⟩=>(hne' h2.symm).elim) (fun i s2 ⟨h2,h3⟩=>by subst h3;rw[h2];exact hK) (fun s2 ⟨h2,h3⟩=>by subst h3;rw[h2];exact hK)
theorem YD (hC:MH C' C)(n:Nat):∀(c:ACode) s e s' (K:Ex→St→Prop),RB C' gl n c s=some (e,s')→K e s'→AW C gl c s K
 | .skip,s,e,s',K,H,hK=>by
  simp only[RB,Option.some.injEq,Prod.mk.injEq]at H;obtain⟨rfl,rfl⟩:=H;exact hK
 | .reg ops keep,s,e,s',K,H,hK=>by
  unfold RB at H;split at H
  ·rename_i h1
   simp only[Option.some.injEq,Prod.mk.injEq]at H;obtain⟨rfl,rfl⟩:=H;exact mX hC _ _ _ _ _ _ _ _ h1 hK
  ·cases H
 | .draw ds keep,s,e,s',K,H,hK=>by
  unfold RB at H;split at H
  ·rename_i h1
   simp only[Option.some.injEq,Prod.mk.injEq]at H;obtain⟨rfl,rfl⟩:=H;exact z27 hC _ _ _ _ _ _ _ _ _ _ h1 hK
  ·cases H
 | .seq a b,s,e,s',K,H,hK=>by
  unfold RB at H;unfold AW;split at H
  ·rename_i s1 h1
   exact YD hC n a s _ _ _ h1 (YD hC n b _ _ _ K H hK)
  ·rename_i hne
   have hne':e ≠ .normal:=fun he=>by subst he;exact hne _ H
   refine YD hC n a s _ _ _ H ?_;cases e with
   | normal=>exact(hne' rfl).elim
   | exit i=>exact hK
   | ret=>exact hK
 | .det b,s,e,s',K,H,hK=>by
  unfold RB at H;exact YD hC n b s _ _ K H hK
 | .condu c a b,s,e,s',K,H,hK=>by
  unfold RB at H;unfold AW;split at H
  ·rename_i t ht
   simp only[ht];split at H
   ·exact YD hC n a s _ _ _ H hK
   ·exact YD hC n b s _ _ _ H hK
  ·cases H
 | .cond c a b,s,e,s',K,H,hK=>by
  unfold RB at H;unfold AW;split at H
  ·rename_i t ht
   simp only[ht];split at H
   ·exact YD hC n a s _ _ _ H hK
   ·exact YD hC n b s _ _ _ H hK
  ·cases H
 | .block id b,s,e,s',K,H,hK=>by
  unfold RB at H;unfold AW;split at H
  ·rename_i i s1 h1
   refine YD hC n b s _ _ _ h1 ?_;dsimp only;split at H
   ·rw[if_pos ‹_›]
    simp only[Option.some.injEq,Prod.mk.injEq]at H;obtain⟨rfl,rfl⟩:=H;exact hK
   ·rw[if_neg ‹_›]
    simp only[Option.some.injEq,Prod.mk.injEq]at H;obtain⟨rfl,rfl⟩:=H;exact hK
  ·rename_i hne
   refine YD hC n b s _ _ _ H ?_;cases e with
   | normal=>exact hK
   | exit i=>exact(hne _ _ H).elim
   | ret=>exact hK
 | .loop b,s,e,s',K,H,hK=>by
  unfold RB at H;unfold AW;exact z29 (fun s e s' K h k=>YD hC n b s e s' K h k) n s e s' K H hK
 | .scope b,s,e,s',K,H,hK=>by
  unfold RB at H;unfold AW;split at H
  ·rename_i e1 s1 h1
   simp only[Option.some.injEq,Prod.mk.injEq]at H;obtain⟨rfl,rfl⟩:=H;exact YD hC n b _ _ _ _ h1 hK
  ·cases H
 | .pr l b,s,e,s',K,H,hK=>by
  unfold RB at H;unfold AW;exact YD hC n b _ _ _ K H hK
 | .exit id,s,e,s',K,H,hK=>by
  simp only[RB,Option.some.injEq,Prod.mk.injEq]at H;obtain⟨rfl,rfl⟩:=H;exact hK
 | .ret,s,e,s',K,H,hK=>by
  simp only[RB,Option.some.injEq,Prod.mk.injEq]at H;obtain⟨rfl,rfl⟩:=H;exact hK
 | .bad,s,e,s',K,H,hK=>by simp only[RB]at H;cases H
theorem z28 {F:AFun}{b:Nat}{s:St}{v:AV}{h:aA}{x:Esc}{K:jA}(H:lX F b s=some (v,h,x))(hK:K v h x):fin F b s K:=by
 unfold lX at H;unfold fin;split at H
 ·rename_i h1
  simp only[h1];split at H
  ·rename_i h2
   simp only[h2];dsimp only at H ⊢;split at H
   ·rw[if_pos ‹_›];simp only[Option.some.injEq,Prod.mk.injEq]at H;obtain⟨rfl,rfl,rfl⟩:=H;exact hK
   ·rw[if_neg ‹_›];simp only[Option.some.injEq,Prod.mk.injEq]at H;obtain⟨rfl,rfl,rfl⟩:=H;exact hK
  ·rename_i h2
   simp only[h2];split at H
   ·rename_i h3
    simp only[h3];dsimp only at H ⊢;split at H
    ·rw[if_pos ‹_›]
     split at H
     ·rename_i h4
      simp only[h4];split at H
      ·simp only[Option.some.injEq,Prod.mk.injEq]at H;obtain⟨rfl,rfl,rfl⟩:=H;exact⟨‹_›,hK⟩
      ·cases H
     ·cases H
    ·rw[if_neg ‹_›];simp only[Option.some.injEq,Prod.mk.injEq]at H;obtain⟨rfl,rfl,rfl⟩:=H;exact hK
   ·cases H
 ·cases H
theorem z25 (hC:MH C' C){n:Nat}{F:AFun}{a:List AV}{h:aA}{v:AV}{h':aA}{x:Esc}{K:jA}(H:jX C' gl n F a h=some (v,h',x))(hK:K v h' x):BC C gl F a h K:=by
 unfold jX at H;unfold BC;split at H
 ·rename_i asv h1 hp
  simp only[hp];split at H
  ·rename_i hl
   refine⟨hl,?_⟩;cases he:RB C' gl n F.body ⟨enter asv,h1,[]⟩ with
   | none=>rw[he]at H;cases H
   | some y=>
    obtain⟨e,s⟩:=y;rw[he]at H;refine YD hC n _ _ _ _ _ he ?_;cases e with
    | exit i=>cases H
    | normal=>exact z28 H hK
    | ret=>exact z28 H hK
  ·cases H
 ·cases H
def PM (X:Ctx)(o:Nat→List AV→Option AV)(n:Nat):Nat→EvC
 | 0,_,_,_=>none
 | d+1,f,a,h=>match o f a with
  | some v=>some (v,h,[])
  | none=>match X.fn f with
   | some F=>jX (PM X o n d) X.gl n F a h
   | none=>match X.ex2 f a h with
    | some r=>some r
    | none=>match oA h a with
     | some (asv,h1)=>match unp asv with
      | some vs=>match X.ext f vs with
       | some r=>some (.p r,h1,[])
       | none=>none
      | none=>none
     | none=>none
theorem kX (X:Ctx)(o:Nat→List AV→Option AV)(ho:∀ f a v,o f a=some v→∀ h (K:jA),K v h []→bA X f a h K)(n:Nat):∀d,MH (PM X o n d) (bA X)
 | 0,f,a,h,v,h',x,K,H,hK=>by cases H
 | d+1,f,a,h,v,h',x,K,H,hK=>by
  unfold PM at H;split at H
  ·rename_i v1 hv
   simp only[Option.some.injEq,Prod.mk.injEq]at H;obtain⟨rfl,rfl,rfl⟩:=H;exact ho _ _ _ hv _ _ hK
  refine bA.fold ?_;unfold jC;split at H
  ·rename_i F hF
   simp only[hF];unfold KD;cases hd:F.isDet with
   | true=>exact⟨v,h',x,hK,z25 (kX X o ho n d) H ⟨rfl,rfl,rfl⟩⟩
   | false=>exact z25 (kX X o ho n d) H hK
  ·rename_i hF
   simp only[hF];split at H
   ·rename_i hx2
    simp only[hx2];simp only[Option.some.injEq]at H;subst H;exact hK
   ·rename_i hx2
    simp only[hx2];split at H
    ·rename_i hp
     simp only[hp];split at H
     ·rename_i hu
      simp only[hu];split at H
      ·rename_i hx
       simp only[hx];simp only[Option.some.injEq,Prod.mk.injEq]at H;obtain⟨rfl,rfl,rfl⟩:=H;exact hK
      ·cases H
     ·cases H
    ·cases H
theorem z7m {X:Ctx}{f:Nat}{a:List AV}{h:aA}{v:AV}{h':aA}{x:Esc}{o:Nat→List AV→Option AV}(ho:∀ f a v,o f a=some v→∀ h (K:jA),K v h []→bA X f a h K)(n d:Nat)(H:PM X o n d f a h=some (v,h',x))(K:jA):bA X f a h K↔K v h' x:=
 bA.eq (kX X o ho n d _ _ _ _ _ _ _ H ⟨rfl,rfl,rfl⟩) K
end Go.Am
end
section
/- The abstract machine,part 27: loops,and the rules of computing asv one set. -/
set_option linter.unusedSimpArgs false
set_option linter.unusedVariables false
namespace Go.Am
variable {C:Hd} {gl:Nat→Option PV} {e:List (Nat × AV)} {h:aA} {x:Esc} {K:Ex→St→Prop} {s:St}
def qR {σ:Type}(S:σ→St)(P:σ→Prop)(m:σ→Nat)(K:Ex→St→Prop)(s:σ)(e:Ex)(s':St):Prop:=match e with
 | .normal=>∃t,s'=S t∧P t∧m t<m s
 | .exit i=>K (.exit i) s'
 | .ret=>K .ret s'
theorem z4G {σ:Type}{S:σ→St}{P:σ→Prop}{m:σ→Nat}{K:Ex→St→Prop}{t:σ}{s':St}:qR S P m K t .normal s' = ∃u,s'=S u∧P u∧m u<m t:=(rfl)
theorem z4F {σ:Type}{S:σ→St}{P:σ→Prop}{m:σ→Nat}{K:Ex→St→Prop}{t:σ}{s':St}{i:Nat}:qR S P m K t (.exit i) s'=K (.exit i) s':=(rfl)
theorem z4H {σ:Type}{S:σ→St}{P:σ→Prop}{m:σ→Nat}{K:Ex→St→Prop}{t:σ}{s':St}:qR S P m K t .ret s'=K .ret s':=(rfl)
theorem z02 {T:St→(Ex→St→Prop)→Prop}{K:Ex→St→Prop}{s s':St}(h:T s=T s'):ALoop T K s=ALoop T K s':=by
 refine propext ⟨fun H=>?_,fun H=>?_⟩
 ·cases H with|mk _ R a b c d=>exact .mk _ R (h ▸ a) b c d
 ·cases H with|mk _ R a b c d=>exact .mk _ R (h.symm ▸ a) b c d
theorem z8U {l:List Nat}{e:List (Nat × AV)}{t:Nat}(ht:t∈l):kA (CA (some l) e) t=kA e t:=by
 simp only[CA];induction l with
 | nil=>cases ht
 | cons k r ih=>
  simp only[List.map_cons,kA];split
  ·rename_i hk;rw[hk]
  ·rename_i hk
   rcases List.mem_cons.1 ht with h1|h1
   ·exact absurd h1.symm hk
   ·exact ih h1
theorem z5p {l:List Nat}{e:List (Nat × AV)}:CA (some l) (CA (some l) e)=CA (some l) e:=by
 show l.map _=l.map _
 exact List.map_congr_left fun t ht=>by rw[z8U ht]
theorem DD {α:Type}(h l:List α)(n:Nat):(h++l)[h.length+n]?=l[n]?:=by
 rw[List.getElem?_append_right (by omega)];congr 1;omega
theorem z1h {α:Type}(h l:List α):(h++l)[h.length]?=l[0]?:=by
 rw[List.getElem?_append_right (by omega)];congr 1;omega
theorem FF {α:Type}(h l:List α)(n:Nat)(o:α):(h++l).set (h.length+n) o=h++l.set n o:=by
 rw[List.set_append_right _ _ (by omega)];congr 2;omega
theorem z1i {α:Type}(h l:List α)(o:α):(h++l).set h.length o=h++l.set 0 o:=by
 rw[List.set_append_right _ _ (by omega)];congr 2;omega
theorem PH {α:Type}(h l:List α)(n:Nat):(h++l).take (h.length+n)=h++l.take n:=List.take_length_add_append ..
theorem YL {α:Type}(h l:List α):(h++l).take h.length=h:=List.take_left ..
theorem z1g (h l:aA)(n k:Nat):frz (h++l) (h.length+n) k=h++frz l n k:=by
 unfold frz;rw[DD];cases l[n]? with
 | none=>rfl
 | some o=>cases o <;> first|rfl|simp only[FF]
theorem LA (n:Int)(h1 : -9223372036854775808≤n)(h2:n≤9223372036854775807):IntKind.i64.wrap n=n:=by
 simp [IntKind.wrap,IntKind.bits,IntKind.signed];omega
def qA (rs:List ARes)(kp:Bool)(b:Nat)(P:jA)(e:Ex)(s:St):Prop:=match e with
 | .exit _=>False
 | _=>match gE s rs with
  | some vs=>match kp with
   | true=>
    let n:=IB s.esc.length s.esc (max b (jB vs).top)
    if QB s.esc n then P (jB vs) (s.h.take n) (s.esc.filter fun y=>decide (y.1<n)) else P (jB vs) s.h s.esc
   | false=>match aB b s.h (jB vs) with
    | some v0=>
     let n:=IB s.esc.length s.esc (max b v0.top)
     if QB s.esc n then match aB n s.h (jB vs) with
      | some v=>v.top≤n∧P v (s.h.take n) (s.esc.filter fun y=>decide (y.1<n))
      | none=>False
     else P (jB vs) s.h s.esc
    | none=>False
  | none=>False
theorem xX {F:AFun}{b:Nat}{P:jA}:finK F b P=qA F.results F.keep b P:=by
 funext e s;cases e <;> rfl
def wE (kp:Bool)(b:Nat)(P:jA)(o:Option (List AV))(h:aA)(x:Esc):Prop:=match o with
 | some vs=>match kp with
  | true=>
   let n:=IB x.length x (max b (jB vs).top)
   if QB x n then P (jB vs) (h.take n) (x.filter fun y=>decide (y.1<n)) else P (jB vs) h x
  | false=>match aB b h (jB vs) with
   | some v0=>
    let n:=IB x.length x (max b v0.top)
    if QB x n then match aB n h (jB vs) with
     | some v=>v.top≤n∧P v (h.take n) (x.filter fun y=>decide (y.1<n))
     | none=>False
    else P (jB vs) h x
   | none=>False
 | none=>False
theorem z3B {rs:List ARes}{kp:Bool}{b:Nat}{P:jA}{e:List (Nat × AV)}{h:aA}{x:Esc}:qA rs kp b P .normal ⟨e,h,x⟩=wE kp b P (gE ⟨e,h,x⟩ rs) h x:=(rfl)
theorem z3C {rs:List ARes}{kp:Bool}{b:Nat}{P:jA}{e:List (Nat × AV)}{h:aA}{x:Esc}:qA rs kp b P .ret ⟨e,h,x⟩=wE kp b P (gE ⟨e,h,x⟩ rs) h x:=(rfl)
theorem zea {rs:List ARes}{kp:Bool}{b:Nat}{P:jA}{ex ex':Ex}{s s':St}(he:ex=ex')(hs:s=s'):qA rs kp b P ex s=qA rs kp b P ex' s':=by rw[he,hs]
theorem RZ {b:Nat}{P:jA}{vs:List AV}{h:aA}(ht:(jB vs).top≤b)(hr:∀ b,aB b h (jB vs)=some (jB vs)):wE false b P (some vs) h []=P (jB vs) (h.take b) []:=by
 simp only[wE,hr,IB,List.length_nil,QB,List.all_nil,if_true,List.filter_nil,Nat.max_eq_left ht,ht,true_and]
theorem zj6 {b:Nat}{h:aA}{v:PV}:aB b h (.p v)=some (.p v):=(rfl)
theorem zjA {b:Nat}{h:aA}:sF b h []=some []:=(rfl)
theorem zjH {b:Nat}{P:jA}{v:PV}{h:aA}:wE false b P (some [.p v]) h []=P (.p v) (h.take b) []:=RZ (Nat.zero_le _) (fun _=>rfl)
theorem zjI {b:Nat}{P:jA}{v u:PV}{h:aA}:wE false b P (some [.p v,.p u]) h []=P (.tup [.p v,.p u]) (h.take b) []:=RZ (by simp [jB,AV.top,AV.tops]) (fun _=>rfl)
theorem zjG {b:Nat}{P:jA}{h:aA}:wE false b P (some []) h []=P (.tup []) (h.take b) []:=RZ (by simp [jB,AV.top,AV.tops]) (fun _=>rfl)
theorem zlq {h:aA}:h.take h.length=h:=List.take_length
theorem zge {v:AV}:jB [v]=v:=(rfl)
theorem zlb {X:Ctx}{f:Nat}{F:AFun}{a asv:List AV}{h h1:aA}{P:jA}(hf:X.fn f=some F)(hr:F.byref=false)(hp:oA h a=some (asv,h1))(hl:asv.length=F.nparams)(hd:F.isDet=false) :
 bA X f a h P=AW (bA X) X.gl F.body ⟨enter asv,h1,[]⟩ (qA F.results F.keep h.length P):=by
 rw[z0K hf hd,z0O hr hp hl,xX]
theorem zkY {X:Ctx}{f:Nat}{F:AFun}{asv:List AV}{h:aA}{P:jA}(hf:X.fn f=some F)(hr:F.byref=true)(hl:asv.length=F.nparams)(hd:F.isDet=false) :
 bA X f asv h P=AW (bA X) X.gl F.body ⟨enter asv,h,[]⟩ (qA F.results F.keep h.length P):=by
 rw[z0K hf hd,z8P hr hl,xX]
theorem zlc {X:Ctx}{f:Nat}{F:AFun}{a asv:List AV}{h h1:aA}{P:jA}(hf:X.fn f=some F)(hr:F.byref=false)(hp:oA h a=some (asv,h1))(hl:asv.length=F.nparams)(hd:F.isDet=true) :
 bA X f a h P = ∃v h' x,P v h' x∧AW (bA X) X.gl F.body ⟨enter asv,h1,[]⟩ (qA F.results F.keep h.length fun v1 h1 x1=>v1=v∧h1=h'∧x1=x):=by
 rw[z7C hf hd];simp only[z0O hr hp hl,xX]
theorem zA {X:Ctx}{f:Nat}{a:List AV}{h:aA}{v:AV}{h':aA}{x:Esc}{K:jA}(H:bA X f a h fun v1 h1 x1=>v1=v∧h1=h'∧x1=x):bA X f a h K=K v h' x:=propext (bA.eq H K)
theorem z4O {k:IntKind}{n:Nat}:qB (.p (.int k (n:Int)))=some n:=by simp [qB]
theorem zfI {k:IntKind}{n:Nat}:qB (.p (.int k (no_index (OfNat.ofNat n:Int))))=some (OfNat.ofNat n:Nat):=z4O (n:=n)
theorem TX {k:IntKind}{n:Int}(h:0≤n):qB (.p (.int k n))=some n.toNat:=by simp [qB,h]
theorem XB {α β:Type}(f:α→β){l:List α}{k:Nat}(h:k<l.length):(l.map f)[k]?=some (f l[k]):=by simp [h]
attribute [go_sem] eqs PV.eq1 PV.kind ne_eq not_false_eq_true not_true_eq_false Bool.and_self Bool.or_self Bool.not_eq_true
attribute [go_sem] Nat.max_le Nat.add_le_add_iff_left Option.isSome_none Option.isSome_some false_and and_false List.length_range Nat.sub_zero Nat.le_add_right
attribute [go_sem] z4O zfI Int.ofNat_lt Int.ofNat_le List.length_map
attribute [go_sem] z3B z3C zjG zjH zjI zlq List.zipIdx_cons List.zipIdx_nil List.map_cons List.map_nil Nat.reduceAdd Nat.reduceEqDiff if_true if_false Option.map_some Option.map_none List.append_nil List.nil_append decide_eq_true_eq
def doS (C:Hd)(gl:Nat→Option PV)(q:AOp × List (Nat × AV) × AV)(h:aA):Prop:=ADo C gl q.1 q.2.1 h q.2.2 h []
def agK (C:Hd)(gl:Nat→Option PV)(h:aA)(dn:FC):List Nat→Prop
 | []=>True
 | j::r=>(match dn[j]? with|some q=>doS C gl q h|none=>False)∧agK C gl h dn r
def eaK (C:Hd)(gl:Nat→Option PV)(o:AOp)(e:List (Nat × AV))(v:AV)(hs:List aA):List Nat→Prop
 | []=>True
 | k::r=>(match hs[k]? with|some g=>doS C gl (o,e,v) g|none=>False)∧eaK C gl o e v hs r
theorem z0X {C:Hd}{gl:Nat→Option PV}{h:aA}{dn:FC}:∀{l:List Nat},agK C gl h dn l↔∀j∈l,∃q,dn[j]?=some q∧ADo C gl q.1 q.2.1 h q.2.2 h []
 | []=>by simp [agK]
 | j::r=>by
  simp only[agK,List.mem_cons,forall_eq_or_imp];rw[z0X (l:=r)];refine and_congr_left (fun _=>?_)
  cases hd:dn[j]? with
  | none=>simp
  | some q=>simp [doS]
theorem z2u {C:Hd}{gl:Nat→Option PV}{o:AOp}{e:List (Nat × AV)}{v:AV}{hs:List aA}:∀{l:List Nat},eaK C gl o e v hs l↔∀k∈l,∃g,hs[k]?=some g∧ADo C gl o e g v g []
 | []=>by simp [eaK]
 | j::r=>by
  simp only[eaK,List.mem_cons,forall_eq_or_imp];rw[z2u (l:=r)];refine and_congr_left (fun _=>?_)
  cases hd:hs[j]? with
  | none=>simp
  | some q=>simp [doS]
def effK (b:Bool)(h h':aA)(y:Esc):Prop:=match b with
 | true=>True
 | false=>h'=h∧y=[]
theorem z2c {C:Hd}{gl:Nat→Option PV}{e:List (Nat × AV)}{h:aA}{x:Esc}{L:List (Nat × AV)→aA→Esc→Prop}{op:AOp}{rd early again:List Nat}{eff:Bool}{r:List DOp}{dn:FC}{hs:List aA}{v:AV}{h':aA}{y:Esc} :
 CQ C gl ⟨op,rd,eff,early,again⟩ r dn hs e h x L v h' y=(effK eff h h' y∧eaK C gl op (CA (some rd) e) v hs early∧agK C gl h' dn again∧eD C gl r (dn++[(op,CA (some rd) e,v)]) (hs++[h]) (put op.dst v e) h' (y++x) L):=by
 rw[zb3,←propext z2u,←propext z0X];cases eff <;> simp [effK]
theorem z2a {C:Hd}{gl:Nat→Option PV}{d:Option Nat}{g:Option (Nat × Bool)}{op:AO}{e:List (Nat × AV)}{v:AV}{h:aA}:doS C gl (⟨d,g,op⟩,e,v) h=doK C gl ⟨d,g,op⟩ e h (fun v1 h1 x1=>v1=v∧h1=h∧x1=[]):=by
 unfold doS doK;refine propext ⟨fun H=>⟨_,_,_,H,rfl,rfl,rfl⟩,fun⟨v1,h1,x1,H,a,b,c⟩=>by subst a;subst b;subst c;exact H⟩
theorem zbk {p:Prop}[Decidable p]{A B:Prop}:mD (.p (.bool (decide p))) A B=if p then A else B:=by rw[z1K];simp
def OG (C:Hd)(v:AV)(asv:List AV)(h:aA)(L:jA):Prop:=match v with
 | .fn g caps=>C g (asv++caps) h L
 | _=>False
theorem z04 {C:Hd}{gl:Nat→Option PV}{e:List (Nat × AV)}{h:aA}{x:Esc}{L:List (Nat × AV)→aA→Esc→Prop}{d:Option Nat}{f:Opd}{args:List Opd}{r:List AOp} :
 UA C gl (⟨d,none,.callv f args⟩::r) e h x L=OG C (Opd.ev gl e f) (args.map (Opd.ev gl e)) h (tJ C gl r d e x L):=by
 have h2:wanted none e=some true:=(rfl)
 rw[UA];simp only[h2];unfold OG;split <;> simp_all <;> rfl
def NG (C:Hd)(v:AV)(asv:List AV)(h:aA)(R:AV→aA→Esc→Prop):Prop:=match v with
 | .fn g caps=>UE C g (asv++caps) h R
 | _=>False
theorem z1Y {C:Hd}{gl:Nat→Option PV}{e:List (Nat × AV)}{h:aA}{R:AV→aA→Esc→Prop}{d:Option Nat}{f:Opd}{args:List Opd} :
 doK C gl ⟨d,none,.callv f args⟩ e h R=NG C (Opd.ev gl e f) (args.map (Opd.ev gl e)) h R:=by
 have h2:wanted none e=some true:=(rfl)
 unfold doK ADo;simp only[h2];unfold NG UE;split <;> simp_all
theorem zaR {C:Hd}{g:Nat}{caps asv:List AV}{h:aA}{L:jA}:OG C (.fn g caps) asv h L=C g (asv++caps) h L:=(rfl)
theorem zaP {C:Hd}{g:Nat}{caps asv:List AV}{h:aA}{R:AV→aA→Esc→Prop}:NG C (.fn g caps) asv h R=UE C g (asv++caps) h R:=(rfl)
theorem zaQ {C:Hd}{v v':AV}{asv asv':List AV}{h h':aA}{L:jA}(h1:v=v')(h2:asv=asv')(h3:h=h'):OG C v asv h L=OG C v' asv' h' L:=by rw[h1,h2,h3]
theorem zaO {C:Hd}{v v':AV}{asv asv':List AV}{h h':aA}{R:AV→aA→Esc→Prop}(h1:v=v')(h2:asv=asv')(h3:h=h'):NG C v asv h R=NG C v' asv' h' R:=by rw[h1,h2,h3]
attribute [go_sem] z04 z1Y zaR zaP
attribute [congr] zaQ zaO
theorem zbs {k:IntKind}{n:Int}:lB none 0 (.int k n)=some (.int k n):=(rfl)
theorem zbu {s:List UInt8}:lB none 0 (.str s)=some (.str s):=(rfl)
theorem zbr {off:Nat}{cs:List PV}:lB none off (.agg cs)=(cs[off]?).bind fun x=>if x.sc then some x else none:=(rfl)
theorem zbq {n off:Nat}{cs:List PV}:lB (some n) off (.agg cs)=if off+n≤cs.length then some (.agg ((cs.drop off).take n)) else none:=(rfl)
theorem zbt {v:PV}(h:v.sc=true):lB none 0 v=some v:=by cases v <;> first|rfl|cases h
attribute [go_sem] zbs zbu zbr zbq
theorem zdG {id:Nat}{v:PV}:qC id (.p v)=[]:=(rfl)
attribute [go_sem] List.take_succ_cons List.take_zero List.take_nil List.drop_succ_cons List.drop_zero List.drop_nil List.length_cons List.length_nil Nat.reduceLeDiff Nat.reduceLT Int.reduceLT Int.reduceLE Int.reduceAdd Int.reduceSub Int.reduceMul Int.reduceNeg Int.reduceEq Nat.reduceSub Nat.reduceMul Nat.le_refl List.append_assoc
theorem zl4 {b:Nat}{x0:Esc}{e:List (Nat × AV)}{h:aA}:PD b x0 ⟨e,h,[]⟩=⟨XE b e,h.take b,x0⟩:=(rfl)
theorem zba {n:Nat}:XE n []=[]:=(rfl)
theorem zaZ {n k:Nat}{v:AV}{r:List (Nat × AV)}:XE n ((k,v)::r)=(k,if v.top≤n then v else .und)::XE n r:=(rfl)
theorem top_p {v:PV}:AV.top (.p v)=0:=(rfl)
theorem z0p {id g o l:Nat}:AV.top (.own id g o l)=id+1:=by simp [AV.top]
theorem zlv {id o:Nat}:AV.top (.ref id o)=id+1:=by simp [AV.top]
theorem zlu {id:Nat}:AV.top (.mp id)=id+1:=by simp [AV.top]
theorem zlt {f:Nat}{cs:List AV}:AV.top (.fn f cs)=AV.tops cs:=by simp [AV.top]
theorem zlw {cs:List AV}:AV.top (.tup cs)=AV.tops cs:=by simp [AV.top]
theorem zl0:AV.tops []=0:=(rfl)
theorem zlx {v:AV}{r:List AV}:AV.tops (v::r)=max v.top (AV.tops r):=by simp [AV.tops]
theorem zjJ {b:Nat}{P:jA}{vs:List AV}{h:aA}:wE false b P (some vs) h []=match aB b h (jB vs) with
 | some v0=>match aB (max b v0.top) h (jB vs) with
  | some v=>v.top≤max b v0.top∧P v (h.take (max b v0.top)) []
  | none=>False
 | none=>False:=by
 simp only[wE,IB,List.length_nil,QB,List.all_nil,if_true,List.filter_nil]
theorem zj5 {b:Nat}{h:aA}{id g off len:Nat}:aB b h (.own id g off len)=if b≤id then(rd h (.own id g off len)).map fun y=>.p (.sl y.1 y.2) else some (.own id g off len):=by simp only[aB]
theorem zj8 {b:Nat}{h:aA}{cs:List AV}:aB b h (.tup cs)=(sF b h cs).map .tup:=by simp only[aB]
theorem zj7 {b:Nat}{h:aA}{id o:Nat}:aB b h (.ref id o)=some (.ref id o):=by simp only[aB]
theorem zj9 {b:Nat}{h:aA}{v:AV}{r:List AV}:sF b h (v::r)=(match aB b h v with|some x=>(sF b h r).map (x :: ·)|none=>none):=by rw[sF];cases aB b h v <;> rfl
theorem zgf {v u:AV}{r:List AV}:jB (v::u::r) = .tup (v::u::r):=(rfl)
theorem z66 {h l:aA}{id:Nat}{o:Obj}(hid:id<h.length):(h++l).set id o=h.set id o++l:=List.set_append_left _ _ hid
theorem z4p {h l:aA}{id:Nat}(hid:id<h.length):(h++l)[id]?=h[id]?:=List.getElem?_append_left hid
theorem z6u {h l:aA}{i n:Nat}{o:Obj}:(h.set i o++l)[h.length+n]?=l[n]?:=by
 have:=DD (h.set i o) l n;rwa [List.length_set]at this
theorem zk4 {h l:aA}{i:Nat}{o:Obj}:(h.set i o++l)[h.length]?=l[0]?:=z6u (n:=0)
theorem z6v {h l:aA}{i n:Nat}{o q:Obj}:(h.set i o++l).set (h.length+n) q=h.set i o++l.set n q:=by
 have:=FF (h.set i o) l n q;rwa [List.length_set]at this
theorem zk5 {h l:aA}{i:Nat}{o q:Obj}:(h.set i o++l).set h.length q=h.set i o++l.set 0 q:=z6v (n:=0)
theorem zk6 {h l:aA}{i n:Nat}{o:Obj}:(h.set i o++l).take (h.length+n)=h.set i o++l.take n:=by
 have:=PH (h.set i o) l n;rwa [List.length_set]at this
theorem zk7 {h l:aA}{i:Nat}{o:Obj}:(h.set i o++l).take h.length=h.set i o:=by
 have:=YL (h.set i o) l;rwa [List.length_set]at this
theorem zk3 {h l:aA}{i n k:Nat}{o:Obj}:frz (h.set i o++l) (h.length+n) k=h.set i o++frz l n k:=by
 have:=z1g (h.set i o) l n k;rwa [List.length_set]at this
theorem QE {α:Type}{l:List α}{n:Nat}(h:l.length=n):win l 0 n=l:=by subst h;simp [win]
attribute [go_sem] zl4 zba zaZ top_p z0p zlv zlu zlt zlw zl0 zlx Nat.max_zero Nat.zero_max Nat.zero_le zj6 zj5 zj8 zj7 zjA zj9 zgf DD z1h FF z1i PH YL z1g z6u zk4 z6v zk5 zk6 zk7 zk3 List.length_append Nat.add_le_add_iff_right Nat.zero_add Nat.add_zero
attribute [go_sem] yG PV.shp List.reduceReplicate cond_true cond_false Bool.not_true Bool.not_false Bool.false_eq_true Bool.true_and Bool.and_true Bool.false_and Bool.and_false Bool.true_or Bool.or_true Bool.false_or Bool.or_false beq_self_eq_true List.all_cons List.all_nil
attribute [go_sem low] zjJ
theorem zlr {h:aA}{id:Nat}{o:Obj}:(h.set id o).take h.length=h.set id o:=List.take_of_length_le (by simp)
attribute [go_sem] zlr Int.natCast_zero Int.natCast_one Int.cast_ofNat_Int
attribute [go_sem] aun EF WL XL List.foldlM_cons List.foldlM_nil Option.bind_some Option.pure_def Option.bind_eq_bind List.cons_append List.nil_append Int.zero_sub List.length_singleton
attribute [go_sem] gA zdG
attribute [go_sem] z0z z1X z1Z UE ex3' z2c z2a List.not_mem_nil List.mem_cons List.mem_singleton forall_eq_or_imp forall_eq false_implies true_implies implies_true forall_const and_true true_and List.cons_append and_self reduceCtorEq List.getElem?_cons_zero List.getElem?_cons_succ Option.some.injEq exists_eq_left' List.set_cons_zero List.set_cons_succ List.set_set List.length_set
attribute [congr] zaM z7k
attribute [congr] zea
attribute [go_sem] z61 z06 z03 z1M z1L zbk decide_true decide_false z4G z4F z4H aop Opd.ev kA put CA PB jD QH gE ares zge enter rd rds pur oL oA mkA unp cut AV.cells PV.cells PV.sc AV.sc splice pint pbool xG
attribute [go_sem low] z1K zlH zlG
attribute [congr] zbj
end Go.Am
end
section
/- The abstract machine,part 28: where no map is ranged over,a call that ends well ends in one way. -/
set_option linter.unusedSimpArgs false
set_option linter.unusedVariables false
namespace Go.Am
def AO.noNext:AO→Bool
 | .mnext _ _=>false
 | _=>true
def ACode.noNext:ACode→Bool
 | .reg ops _=>ops.all fun o=>o.op.noNext
 | .seq a b=>a.noNext&&b.noNext
 | .cond _ a b=>a.noNext&&b.noNext
 | .condu _ _ _=>false
 | .det _=>false
 | .block _ b=>b.noNext
 | .loop b=>b.noNext
 | .scope b=>b.noNext
 | .pr _ b=>b.noNext
 | _=>true
def Dt (C D:Hd):Prop:=∀f a h K,C f a h K→∃v h' x,K v h' x∧D f a h fun v1 h1 x1=>v1=v∧h1=h'∧x1=x
variable {C D:Hd} {gl:Nat→Option PV}
theorem UL (hD:D.Mono)(hC:Dt C D):∀(ops:List AOp) e h x K,(ops.all fun o=>o.op.noNext)=true→UA C gl ops e h x K→∃e' h' x',K e' h' x'∧UA D gl ops e h x fun e1 h1 x1=>e1=e'∧h1=h'∧x1=x'
 | [],e,h,x,K,_,H=>⟨e,h,x,H,rfl,rfl,rfl⟩
 | o::r,e,h,x,K,hn,H=>by
  obtain⟨dst,guard,op⟩:=o;simp only[List.all_cons,Bool.and_eq_true]at hn;obtain⟨hn1,hn2⟩:=hn;unfold UA at H;dsimp only at H;split at H
  ·rename_i hw
   cases op;case call f args=>
    obtain⟨v,h',x',H',G'⟩:=hC _ _ _ _ H;obtain⟨e2,h2,x2,k2,g2⟩:=UL hD hC r _ _ _ K hn2 H';refine⟨e2,h2,x2,k2,?_⟩;unfold UA;simp only[hw]
    exact hD _ _ _ _ _ (fun v1 h1 x1 ⟨a1,a2,a3⟩=>by subst a1;subst a2;subst a3;exact g2) G'
   case callv f args=>
    dsimp only at H;split at H
    ·rename_i hf
     obtain⟨v,h',x',H',G'⟩:=hC _ _ _ _ H;obtain⟨e2,h2,x2,k2,g2⟩:=UL hD hC r _ _ _ K hn2 H';refine⟨e2,h2,x2,k2,?_⟩;unfold UA;simp only[hw,hf]
     exact hD _ _ _ _ _ (fun v1 h1 x1 ⟨a1,a2,a3⟩=>by subst a1;subst a2;subst a3;exact g2) G'
    ·exact H.elim
   case mnext sh xs=>simp [AO.noNext]at hn1
   all_goals
    dsimp only at H;split at H
    ·rename_i ha
     obtain⟨e2,h2,x2,k2,g2⟩:=UL hD hC r _ _ _ K hn2 H;refine⟨e2,h2,x2,k2,?_⟩;unfold UA;simp only[hw,ha]
     exact g2
    ·exact H.elim
  ·rename_i hw
   obtain⟨e2,h2,x2,k2,g2⟩:=UL hD hC r _ _ _ K hn2 H;refine⟨e2,h2,x2,k2,?_⟩;unfold UA;simp only[hw]
   exact g2
  ·exact H.elim
theorem TT (hD:D.Mono)(hC:Dt C D){o:AOp}{e:List (Nat × AV)}{h h':aA}{v:AV}{x:Esc}(H:ADo C gl o e h v h' x):ADo D gl o e h v h' x:=by
 have key:∀f a h,C f a h (fun v1 h1 x1=>v1=v∧h1=h'∧x1=x)→D f a h (fun v1 h1 x1=>v1=v∧h1=h'∧x1=x):=fun f a h hc=>by
  obtain⟨v2,h2,x2,⟨e1,e2,e3⟩,hd⟩:=hC _ _ _ _ hc;subst e1;subst e2;subst e3
  exact hd
 unfold ADo at H ⊢;split at H
 ·split at H
  ·exact key _ _ _ H
  ·split at H
   ·exact key _ _ _ H
   ·exact H.elim
  ·exact H.elim
  ·exact H
 ·exact H
 ·exact H.elim
theorem z00 (hD:D.Mono)(hC:Dt C D):∀(ds:List DOp) dn hs e h x K,eD C gl ds dn hs e h x K→∃e' h' x',K e' h' x'∧eD D gl ds dn hs e h x fun e1 h1 x1=>e1=e'∧h1=h'∧x1=x'
 | [],dn,hs,e,h,x,K,H=>⟨e,h,x,H,rfl,rfl,rfl⟩
 | o::r,dn,hs,e,h,x,K,H=>by
  obtain⟨v,h',y,h1,h2,h3,h4,h5⟩:=H;obtain⟨e2,q2,x2,k2,g2⟩:=z00 hD hC r _ _ _ _ _ K h5;exact⟨e2,q2,x2,k2,v,h',y,TT hD hC h1,h2,fun k hk=>by obtain⟨g,a1,a2⟩:=h3 k hk;exact⟨g,a1,TT hD hC a2⟩,
   fun j hj=>by obtain⟨q,a1,a2⟩:=h4 j hj;exact⟨q,a1,TT hD hC a2⟩,g2⟩
theorem z7r {T U:St→(Ex→St→Prop)→Prop}(hT:∀ s K,T s K→∃ e s',K e s'∧U s fun e1 s1=>e1=e∧s1=s'){K:Ex→St→Prop}{s:St}(H:ALoop T K s):∃e s',K e s'∧ALoop U (fun e1 s1=>e1=e∧s1=s') s:=by
 induction H with
 | mk s R h hn he hr ih=>
  obtain⟨e,s',hR,hU⟩:=hT _ _ h;cases e with
  | normal=>
   obtain⟨e2,s2,k2,g2⟩:=ih s' hR;exact⟨e2,s2,k2,.mk _ _ hU (fun s1 ⟨_,h1⟩=>by subst h1;exact g2) (fun i s1 ⟨h1,_⟩=>by cases h1) (fun s1 ⟨h1,_⟩=>by cases h1)⟩
  | exit i=>exact⟨_,_,he i s' hR,.mk _ _ hU (fun s1 ⟨h1,_⟩=>by cases h1) (fun j s1 h1=>h1) (fun s1 ⟨h1,_⟩=>by cases h1)⟩
  | ret=>exact⟨_,_,hr s' hR,.mk _ _ hU (fun s1 ⟨h1,_⟩=>by cases h1) (fun j s1 ⟨h1,_⟩=>by cases h1) (fun s1 h1=>h1)⟩
theorem bG (hD:D.Mono)(hC:Dt C D):∀(c:ACode),c.noNext=true→∀s K,AW C gl c s K→∃e s',K e s'∧AW D gl c s fun e1 s1=>e1=e∧s1=s'
 | .skip,_,s,K,H=>⟨_,_,H,rfl,rfl⟩
 | .reg ops keep,hn,s,K,H=>by
  obtain⟨e,h,x,h1,h2⟩:=UL hD hC ops _ _ _ _ hn H;refine⟨_,_,h1,?_⟩;show UA D gl ops s.env s.h s.esc fun e1 h1 x1=>_
  exact KH (C:=D) (C':=D) (fun f a h K K' hK h=>hD _ _ _ _ _ hK h) ops _ _ _ _ _ (fun e1 h1 x1 ⟨a1,a2,a3⟩=>by subst a1;subst a2;subst a3;exact⟨rfl,rfl⟩) h2
 | .draw ds keep,_,s,K,H=>by
  obtain⟨e,h,x,h1,h2⟩:=z00 hD hC ds _ _ _ _ _ _ H;refine⟨_,_,h1,?_⟩;show eD D gl ds [] [] s.env s.h s.esc fun e1 h1 x1=>_
  exact VT (C:=D) (C':=D) (fun f a h K K' hK h=>hD _ _ _ _ _ hK h) ds _ _ _ _ _ _ _ (fun e1 h1 x1 ⟨a1,a2,a3⟩=>by subst a1;subst a2;subst a3;exact⟨rfl,rfl⟩) h2
 | .seq a b,hn,s,K,H=>by
  simp only[ACode.noNext,Bool.and_eq_true]at hn;obtain⟨e,s',h1,h2⟩:=bG hD hC a hn.1 _ _ H;have mono:=fun(K K':Ex→St→Prop) (hK:∀e s,K e s→K' e s)=>VC (C:=D) (C':=D) (gl:=gl) (fun f a h K K' hK h=>hD _ _ _ _ _ hK h) a s K K' hK
  cases e with
  | normal=>
   obtain⟨e2,s2,k2,g2⟩:=bG hD hC b hn.2 _ _ h1;refine⟨e2,s2,k2,mono _ _ (fun e1 s1 ⟨a1,a2⟩=>?_) h2⟩
   subst a1;subst a2;exact g2
  | exit i=>exact⟨_,_,h1,mono _ _ (fun e1 s1 ⟨a1,a2⟩=>by subst a1;subst a2;exact⟨rfl,rfl⟩) h2⟩
  | ret=>exact⟨_,_,h1,mono _ _ (fun e1 s1 ⟨a1,a2⟩=>by subst a1;subst a2;exact⟨rfl,rfl⟩) h2⟩
 | .condu c a b,hn,s,K,H=>by cases hn
 | .det b,hn,s,K,H=>by cases hn
 | .cond c a b,hn,s,K,H=>by
  simp only[ACode.noNext,Bool.and_eq_true]at hn;unfold AW at H;split at H
  ·rename_i t ht
   split at H
   ·obtain⟨e,s',h1,h2⟩:=bG hD hC a hn.1 _ _ H
    refine⟨e,s',h1,?_⟩;unfold AW;simp only[ht];exact h2
   ·obtain⟨e,s',h1,h2⟩:=bG hD hC b hn.2 _ _ H
    refine⟨e,s',h1,?_⟩;unfold AW;simp only[ht];exact h2
  ·exact H.elim
 | .block id b,hn,s,K,H=>by
  obtain⟨e,s',h1,h2⟩:=bG hD hC b hn _ _ H;have mono:=fun(K K':Ex→St→Prop) (hK:∀e s,K e s→K' e s)=>VC (C:=D) (C':=D) (gl:=gl) (fun f a h K K' hK h=>hD _ _ _ _ _ hK h) b s K K' hK
  cases e with
  | normal=>exact⟨_,_,h1,mono _ _ (fun e1 s1 ⟨a1,a2⟩=>by subst a1;subst a2;exact⟨rfl,rfl⟩) h2⟩
  | exit i=>
   dsimp only at h1;split at h1
   ·rename_i hi
    exact⟨_,_,h1,mono _ _ (fun e1 s1 ⟨a1,a2⟩=>by subst a1;subst a2;dsimp only;rw[if_pos hi];exact⟨rfl,rfl⟩) h2⟩
   ·rename_i hi
    exact⟨_,_,h1,mono _ _ (fun e1 s1 ⟨a1,a2⟩=>by subst a1;subst a2;dsimp only;rw[if_neg hi];exact⟨rfl,rfl⟩) h2⟩
  | ret=>exact⟨_,_,h1,mono _ _ (fun e1 s1 ⟨a1,a2⟩=>by subst a1;subst a2;exact⟨rfl,rfl⟩) h2⟩
 | .loop b,hn,s,K,H=>z7r (fun s K h=>bG hD hC b hn s K h) H
 | .scope b,hn,s,K,H=>by
  obtain⟨e,s',h1,h2⟩:=bG hD hC b hn _ _ H;exact⟨_,_,h1,VC (C:=D) (C':=D) (gl:=gl) (fun f a h K K' hK h=>hD _ _ _ _ _ hK h) b _ _ _ (fun e1 s1 ⟨a1,a2⟩=>by subst a1;subst a2;exact⟨rfl,rfl⟩) h2⟩
 | .pr l b,hn,s,K,H=>bG hD hC b hn _ K H
 | .exit id,_,s,K,H=>⟨_,_,H,rfl,rfl⟩
 | .ret,_,s,K,H=>⟨_,_,H,rfl,rfl⟩
 | .bad,_,s,K,H=>H.elim
theorem z3D {F:AFun}{b:Nat}{s:St}{K:jA}(H:fin F b s K):∃v h x,K v h x∧fin F b s fun v1 h1 x1=>v1=v∧h1=h∧x1=x:=by
 unfold fin at H;cases h1:gE s F.results with
 | none=>rw[h1]at H;exact H.elim
 | some vs=>
  rw[h1]at H;dsimp only at H;cases h2:F.keep with
  | true=>
   rw[h2]at H;dsimp only at H;by_cases h3:QB s.esc (IB (List.length s.esc) s.esc (max b (jB vs).top))=true
   ·rw[if_pos h3]at H
    exact⟨_,_,_,H,by unfold fin;rw[h1];dsimp only;rw[h2];dsimp only;rw[if_pos h3];exact⟨rfl,rfl,rfl⟩⟩
   ·rw[if_neg h3]at H
    exact⟨_,_,_,H,by unfold fin;rw[h1];dsimp only;rw[h2];dsimp only;rw[if_neg h3];exact⟨rfl,rfl,rfl⟩⟩
  | false=>
   rw[h2]at H;dsimp only at H;cases h4:aB b s.h (jB vs) with
   | none=>rw[h4]at H;exact H.elim
   | some v0=>
    rw[h4]at H;dsimp only at H;by_cases h3:QB s.esc (IB (List.length s.esc) s.esc (max b v0.top))=true
    ·rw[if_pos h3]at H
     cases h5:aB (IB (List.length s.esc) s.esc (max b v0.top)) s.h (jB vs) with
     | none=>rw[h5]at H;exact H.elim
     | some v=>
      rw[h5]at H;exact⟨_,_,_,H.2,by unfold fin;rw[h1];dsimp only;rw[h2];dsimp only;rw[h4];dsimp only;rw[if_pos h3,h5];exact⟨H.1,rfl,rfl,rfl⟩⟩
    ·rw[if_neg h3]at H
     exact⟨_,_,_,H,by unfold fin;rw[h1];dsimp only;rw[h2];dsimp only;rw[h4];dsimp only;rw[if_neg h3];exact⟨rfl,rfl,rfl⟩⟩
def Ctx.NoNext (X:Ctx):Prop:=∀f F,X.fn f=some F→(F.isDet||F.body.noNext)=true
theorem z8O (hD:D.Mono)(hC:Dt C D){F:AFun}{a:List AV}{h:aA}{K:jA}(hb:F.body.noNext=true)(H:BC C gl F a h K):∃v h' x,K v h' x∧BC D gl F a h fun v1 h1 x1=>v1=v∧h1=h'∧x1=x:=by
 unfold BC at H ⊢;cases hp:(if F.byref then some (a,h) else oA h a) with
 | none=>rw[hp]at H;exact H.elim
 | some q=>
  obtain⟨asv,h1⟩:=q;rw[hp]at H;obtain⟨hl,H⟩:=H;obtain⟨e,s',k1,g1⟩:=bG hD hC _ hb _ _ H;have mono:=fun(K K':Ex→St→Prop) (hK:∀e s,K e s→K' e s)=>VC (C:=D) (C':=D) (gl:=gl) (fun f a h K K' hK h=>hD _ _ _ _ _ hK h) F.body ⟨enter asv,h1,[]⟩ K K' hK
  cases e with
  | exit i=>exact k1.elim
  | normal=>
   obtain⟨v,h',x,k2,g2⟩:=z3D k1;exact⟨v,h',x,k2,hl,mono _ _ (fun e1 s1 ⟨a1,a2⟩=>by subst a1;subst a2;exact g2) g1⟩
  | ret=>
   obtain⟨v,h',x,k2,g2⟩:=z3D k1;exact⟨v,h',x,k2,hl,mono _ _ (fun e1 s1 ⟨a1,a2⟩=>by subst a1;subst a2;exact g2) g1⟩
theorem z7l {X:Ctx}(hX:X.NoNext):Dt (bA X) (bA X):=by
 intro f a h K H;refine H (fun f a h K=>∃v h' x,K v h' x∧bA X f a h fun v1 h1 x1=>v1=v∧h1=h'∧x1=x) ?_ ?_
 ·intro f a h K K' hK ⟨v,h',x,k,g⟩
  exact⟨v,h',x,hK _ _ _ k,g⟩
 ·intro f a h K H
  have hC:Dt (fun f a h K=>∃v h' x,K v h' x∧bA X f a h fun v1 h1 x1=>v1=v∧h1=h'∧x1=x) (bA X):=fun f a h K H=>H
  have hD:=bA.mono X
  unfold jC at H;split at H
  ·rename_i F hF
   unfold KD at H;cases hd:F.isDet with
   | true=>
    rw[hd]at H;obtain⟨v,h',x,k,H⟩:=H;refine⟨v,h',x,k,bA.fold ?_⟩;unfold jC;simp only[hF,KD,hd];exact⟨v,h',x,⟨rfl,rfl,rfl⟩,dP (fun f a h K K' hK ⟨v2,h2,x2,k2,g2⟩=>hD _ _ _ _ _ (fun v1 h1 x1 hv=>by obtain⟨rfl,rfl,rfl⟩:=hv;exact hK _ _ _ k2) g2) (fun _ _ _ h=>h) H⟩
   | false=>
    rw[hd]at H;obtain⟨v,h',x,k1,g1⟩:=z8O hD hC (by have:=hX f F hF;rw[hd]at this;simpa using this) H
    refine⟨v,h',x,k1,bA.fold ?_⟩;unfold jC;simp only[hF,KD,hd]
    exact g1
  ·rename_i hF
   split at H
   ·rename_i hx2
    refine⟨_,_,_,H,bA.fold ?_⟩;unfold jC;simp only[hF,hx2]
    exact⟨trivial,trivial,trivial⟩
   ·rename_i hx2
    split at H
    ·rename_i hp
     split at H
     ·rename_i hu
      split at H
      ·rename_i hx
       refine⟨_,_,_,H,bA.fold ?_⟩;unfold jC;simp only[hF,hx2,hp,hu,hx]
       exact⟨trivial,trivial,trivial⟩
      ·exact H.elim
     ·exact H.elim
    ·exact H.elim
theorem bA.one {X:Ctx}(hX:X.NoNext){f:Nat}{a:List AV}{h:aA}{Q:jA}(H:bA X f a h Q):∃v h' x,Q v h' x∧∀K:jA,bA X f a h K=K v h' x:=by
 obtain⟨v,h',x,k,g⟩:=z7l hX _ _ _ _ H;exact⟨v,h',x,k,fun K=>zA g⟩
end Go.Am
end
section
/- The abstract machine,part 29: its meaning once more,spelt so that a function's code can be printed asv a formula over its values (shallow),equal tov the deep one by computing. -/
set_option linter.unusedSimpArgs false
set_option linter.unusedVariables false
namespace Go.Am
def pK (o:Option AV)(k:AV→Prop):Prop:=match o with
 | some v=>k v
 | none=>False
def wK (o:Option (AV × aA × Esc))(k:AV→aA→Esc→Prop):Prop:=match o with
 | some y=>k y.1 y.2.1 y.2.2
 | none=>False
def UN (c a b:AV):Option AV:=match c with
 | .p (.bool t)=>some (bif t then a else b)
 | _=>none
def NN (x:AV)(h:aA):Option (AV×aA×Esc):=match x.cells with
 | some cs=>some (.ref h.length 0,h++[.box cs],[])
 | none=>none
def DN:List (Nat × Nat × AV)→List AV→Option (List AV)
 | [],cs=>some cs
 | (off,n,x)::r,cs=>match x.cells with
  | some vs=>if vs.length=n∧off+n≤cs.length then DN r (splice cs off vs) else none
  | none=>none
def xC (z:List AV)(ps:List (Nat × Nat × AV)):Option AV:=(DN ps z).map mkA
def EN (sh:Sh):List (Nat×AV)→aA→List PV→Option (List PV×aA)
 | [],h,xs=>some (xs,h)
 | (i,x)::r,h,xs=>match pur h x with
  | some (v,h')=>if v.shp sh∧i<xs.length then EN sh r h' (xs.set i v) else none
  | none=>none
def CG (own:Bool)(sh:Sh)(n:Nat)(z:PV)(ps:List (Nat × AV))(h:aA):Option (AV×aA×Esc):=match EN sh ps h (List.replicate n z) with
 | some (xs,h')=>if !z.shp sh then none else some (bif own then(.own h'.length n 0 n,h'++[.row sh xs 0],[]) else(.p (.sl sh xs),h',[]))
 | none=>none
def eC (sh:Sh)(a:AV)(h:aA):Option AV:=match a with
 | .ref id off=>match h[id]? with
  | some (.box cs)=>cut sh off cs
  | _=>none
 | .rref id g i off=>match h[id]? with
  | some (.row _ xs _)=>if g=xs.length then((xs[i]?).bind (lB sh off)).map .p else none
  | _=>none
 | .vp v=>(lB sh 0 v).map .p
 | .bt k off id g=>ldA sh k off id g h
 | _=>none
def nF (sh:Sh)(a x:AV)(h:aA):Option (AV×aA×Esc):=match a with
 | .ref id off=>match h[id]?,x.cells with
  | some (.box cs),some vs=>if vs.length=gA sh∧off+vs.length≤cs.length then some (.und,h.set id (.box (splice cs off vs)),MF id cs x) else none
  | _,_=>none
 | .rref id g i off=>match pur h x with
  | some (v,h1)=>match h1[id]? with
   | some (.row rsh xs fz)=>if g=xs.length∧fz≤i∧v.cells.length=gA sh∧v.cells.all PV.sc then match xs[i]? with
    | some (.agg cs)=>if off+v.cells.length≤cs.length then some (.und,h1.set id (.row rsh (xs.set i (.agg (splice cs off v.cells))) fz),[]) else none
    | some _=>if off=0∧v.sc then some (.und,h1.set id (.row rsh (xs.set i v) fz),[]) else none
    | none=>none
    else none
   | _=>none
  | none=>none
 | .bt k off id g=>stA sh k off id g x h
 | _=>none
def uE (x:AV):Option AV:=match x with
 | .ref _ _ | .rref _ _ _ _ | .vp _ | .fn _ _=>some x
 | .bt k _ _ _=>nlA k x
 | _=>none
def gB (op:BinOp)(x y:AV):Option AV:=match x,y with
 | .p a,.p b=>(PB op a b).map .p
 | _,_=>none
def OA (ks:List Nat)(neg:Bool)(x y:AV):Option AV:=match x,y with
 | .p (.agg asv),.p (.agg bs)=>if asv.map PV.kind=ks∧bs.map PV.kind=ks∧ks≠[] then(eqs asv bs).map fun t=>pbool (bif neg then !t else t) else none
 | .p (.bool a),.p (.bool b)=>if ks=[] then some (pbool (bif neg then !decide (a=b) else decide (a=b))) else none
 | _,_=>none
def QN (k:Nat)(neg:Bool)(x:AV):Option AV:=bif pH k x then some .anyb else(MN k x).map fun r=>pbool (bif neg then !r else r)
def yR (x:AV):Option AV:=if rH x then some .ifc else none
def oUn (op:UnOp)(x:AV):Option AV:=match x with
 | .p a=>(aun op a).map .p
 | _=>none
def cE (c:Cv)(x:AV)(h:aA):Option (AV×aA×Esc):=(EF h c x).map fun y=>(y.1,y.2,[])
def uK (k:IntKind)(x:AV):Option AV:=match x with
 | .p (.int _ n)=>some (.p (.int k (k.wrap n)))
 | _=>none
def zR (sh:Sh)(z:PV)(len cap:AV)(h:aA):Option (AV×aA×Esc):=match qB len,qB cap with
 | some n,some m=>if n≤m∧m≤RA∧z.shp sh then some (.own h.length n 0 n,h++[.row sh (List.replicate n z) 0],[]) else none
 | _,_=>none
def FD (d:Nat):Option AV→Option Nat
 | none=>some d
 | some x=>qB x
def VN (x:AV)(lo hi:Option AV):Option AV:=match x with
 | .p (.str s)=>match FD 0 lo,FD s.length hi with
  | some l,some r=>if l≤r∧r≤s.length then some (.p (.str (win s l (r-l)))) else none
  | _,_=>none
 | _=>none
def KI (sh:Sh)(x:AV)(lo hi mx:Option AV)(h:aA):Option AV:=match x with
 | .p (.sl sh' xs)=>match FD 0 lo,FD xs.length hi,FD xs.length mx with
  | some l,some r,some m=>if sh'=sh∧l≤r∧r≤m∧m≤xs.length then some (if mx.isSome∧m=l then .sl0 sh else .p (.sl sh (win xs l (r-l)))) else none
  | _,_,_=>none
 | .sl0 sh'=>match FD 0 lo,FD 0 hi,FD 0 mx with
  | some l,some r,some m=>if l=0∧r=0∧m=0 then some (.sl0 sh') else none
  | _,_,_=>none
 | .own id g off len=>match h[id]? with
  | some (.row rsh xs _)=>match FD 0 lo,FD len hi,FD len mx with
   | some l,some r,some m=>if rsh=sh∧g=xs.length∧off+len≤xs.length∧l≤r∧r≤m∧m≤len then some (if mx.isSome∧m=l then .sl0 sh else .own id g (off+l) (r-l)) else none
   | _,_,_=>none
  | _=>none
 | _=>none
def SC (off:Nat)(sh:Sh)(x:AV):Option AV:=match x with
 | .ref id o=>some (.ref id (o+off))
 | .rref id g i o=>some (.rref id g i (o+off))
 | .vp v=>(lB sh off v).map .vp
 | .bt k o id g=>faA k off o id g
 | _=>none
def PN (off:Nat)(sh:Sh)(x:AV):Option AV:=match x with
 | .p v=>match v with
  | .agg _=>(lB sh off v).map .p
  | _=>none
 | .agg cs=>cut sh off cs
 | _=>none
def tE (sh:Sh)(x i:AV)(h:aA):Option AV:=match x,qB i with
 | .p (.sl sh' xs),some k=>if sh'=sh then(xs[k]?).map .vp else none
 | .own id g off len,some k=>match h[id]? with
  | some (.row rsh xs _)=>if rsh=sh∧g=xs.length∧off+len≤xs.length∧k<len then some (.rref id g (off+k) 0) else none
  | _=>none
 | .bt kk _ id g,some k=>iaA sh kk id g k h
 | _,_=>none
def JI (n:Nat)(sh:Sh)(x i:AV):Option AV:=match x,qB i with
 | .ref id o,some k=>if k<n then some (.ref id (o+k*gA sh)) else none
 | .rref id g j o,some k=>if k<n then some (.rref id g j (o+k*gA sh)) else none
 | .vp v,some k=>if k<n then(lB sh (k*gA sh) v).map .vp else none
 | _,_=>none
def vK (n:Nat)(sh:Sh)(x i:AV):Option AV:=match x,qB i with
 | .p (.agg cs),some k=>if k<n then(lB sh (k*gA sh) (.agg cs)).map .p else none
 | _,_=>none
def xK (x i:AV):Option AV:=match x,qB i with
 | .p (.str s),some k=>(s[k]?).map fun b=>.p (.int .u8 b.toNat)
 | _,_=>none
def II (x:AV)(i:Nat):Option AV:=match x with
 | .tup vs=>vs[i]?
 | _=>none
def DG (x:AV):Option AV:=match x with
 | .p (.sl _ xs)=>some (pint xs.length)
 | .sl0 _=>some (pint 0)
 | .own _ _ _ len=>some (pint len)
 | .bt k _ _ g=>lnA k g
 | _=>none
def SN (x:AV):Option AV:=match x with
 | .p (.str s)=>some (pint s.length)
 | _=>none
def tK (sh:Sh)(s x:AV)(h:aA):Option (AV×aA×Esc):=match rds h x with
 | some (sh',ys)=>if sh'=sh then match s with
  | .sl0 _=>if ys.length≤RA then some (.own h.length ys.length 0 ys.length,h++[.row sh ys 0],[]) else none
  | .own id g off len=>match h[id]? with
   | some (.row rsh xs fz)=>if rsh=sh∧g=xs.length∧off=0∧len=xs.length∧len+ys.length≤RA∧fz≤xs.length then some (.own id (g+ys.length) off (len+ys.length),h.set id (.row sh (xs++ys) fz),[])
    else if rsh=sh∧g=xs.length∧off+len+ys.length≤xs.length∧fz≤off+len∧1≤ys.length∧len+ys.length≤RA∧sh=none∧xs.all PV.intP=true∧ys.all PV.intP=true then
     some (.p (.sl sh (win xs off len++ys)),h.set id (.row sh (splice xs (off+len) (List.replicate ys.length .unk)) (off+len+ys.length)),[])
    else none
   | _=>none
  | _=>none
  else none
 | none=>none
def wR (sh:Sh)(d s:AV)(h:aA):Option (AV×aA×Esc):=match d,rds h s with
 | .own id g off len,some (sh',ys)=>match h[id]? with
  | some (.row rsh xs fz)=>if rsh=sh∧sh'=sh∧g=xs.length∧off+len≤xs.length∧fz≤off then
   some (pint (min ys.length len),h.set id (.row sh (splice xs off (ys.take (min ys.length len))) fz),[])
   else none
  | _=>none
 | _,_=>none
def oClr (sh:Sh)(z:PV)(x:AV)(h:aA):Option (AV×aA×Esc):=match x with
 | .sl0 _=>some (.tup [],h,[])
 | .own id g off len=>match h[id]? with
  | some (.row rsh xs fz)=>if rsh=sh∧g=xs.length∧off+len≤xs.length∧fz≤off then
   some (.tup [],h.set id (.row sh (splice xs off (List.replicate len z)) fz),[])
   else none
  | _=>none
 | _=>none
def oMx (xs:List AV):Option AV:=match xs with
 | .p a::r=>((unp r).bind fun l=>l.foldlM WL a).map .p
 | _=>none
def oMn (xs:List AV):Option AV:=match xs with
 | .p a::r=>((unp r).bind fun l=>l.foldlM XL a).map .p
 | _=>none
def DB (kk:Sh × List Nat)(ok:Bool)(z x k:AV)(h:aA):Option AV:=match aD kk k with
 | some key=>match (match x with | .nilm=>some []|m=>(lC h m).map fun y=>y.2.1) with
  | some es=>match rC key es with
   | some r=>
    let v:=((r.bind (es[·]?)).map ME.val)
    some (bif ok then .tup [v.getD z,pbool v.isSome] else v.getD z)
   | none=>none
  | none=>none
 | none=>none
def LB (kk:Sh × List Nat)(m k x:AV)(h:aA):Option (AV×aA×Esc):=match aD kk k,lC h m,rH x with
 | some key,some (id,es,c),true=>match rC key es with
  | some (some i)=>some (.und,h.set id (.amap (es.modify i fun e=>{ e with val:=x }) c),qC id x)
  | some none=>some (.und,h.set id (.amap (es++[⟨key,x,c⟩]) (c+1)),qC id x)
  | none=>none
 | _,_,_=>none
def TN (kk:Sh × List Nat)(z m k:AV)(h:aA):Option (AV×aA×Esc):=match aD kk k,lC h m with
 | some key,some (id,es,c)=>match rC key es with
  | some (some i)=>(es[i]?).map fun e=>(.tup [e.val,pint e.born],h,[])
  | some none=>some (.tup [z,pint c],h.set id (.amap (es++[⟨key,z,c⟩]) (c+1)),[])
  | none=>none
 | _,_=>none
def ON (m s x:AV)(h:aA):Option (AV×aA×Esc):=match lC h m,qB s,rH x with
 | some (id,es,c),some b,true=>match es.findIdx? (fun e=>e.born==b) with
  | some i=>some (.und,h.set id (.amap (es.modify i fun e=>{ e with val:=x }) c),qC id x)
  | none=>none
 | _,_,_=>none
def xR (kk:Sh × List Nat)(m k:AV)(h:aA):Option (AV×aA×Esc):=match aD kk k,lC h m with
 | some key,some (id,es,c)=>match rC key es with
  | some (some i)=>some (.und,h.set id (.amap (es.eraseIdx i) c),[])
  | some none=>some (.und,h,[])
  | none=>none
 | _,_=>none
def RN (x:AV)(h:aA):Option AV:=match x with
 | .nilm=>some (pint 0)
 | .mp id=>(lC h (.mp id)).map fun y=>pint y.2.1.length
 | _=>none
def zK (x:AV)(h:aA):Option (AV×aA×Esc):=match lC h x with
 | some (id,_,c)=>some (.it h.length,h++[.iter (some id) c [] c],[])
 | none=>match x with
  | .nilm=>some (.it h.length,h++[.iter none 0 [] 0],[])
  | _=>none
def yK (i:AV)(h:aA):Option (AV×aA×Esc):=match i with
 | .it id=>match h[id]? with
  | some (.iter (some m) _ seen last)=>match lC h (.mp m),seen.getLast? with
   | some (_,es,c),some b=>if c=last then(es.find? (fun e=>e.born==b)).map fun e=>(.tup [.p e.key,e.val],h,[]) else none
   | _,_=>none
  | _=>none
 | _=>none
def alK (z:List AV)(h:aA)(k:AV→aA→Esc→Prop):Prop:=k (.ref h.length 0) (h++[.box z]) []
def nwK (sh:Sh)(h:aA)(k:AV→aA→Esc→Prop):Prop:=k (.own h.length 0 0 0) (h++[.row sh [] 0]) []
def mmK (h:aA)(k:AV→aA→Esc→Prop):Prop:=k (.mp h.length) (h++[.amap [] 0]) []
def ev3 (ev:Opd→AV):List (Nat×Nat×Opd)→List (Nat×Nat×AV)
 | []=>[]
 | (a,b,x)::r=>(a,b,ev x)::ev3 ev r
def ev2 (ev:Opd→AV):List (Nat×Opd)→List (Nat×AV)
 | []=>[]
 | (a,x)::r=>(a,ev x)::ev2 ev r
def evO (ev:Opd→AV):Option Opd→Option AV
 | none=>none
 | some x=>some (ev x)
def ev1 (ev:Opd→AV):List Opd→List AV
 | []=>[]
 | x::r=>ev x::ev1 ev r
def opN (o:AO)(ev:Opd→AV)(h:aA)(k:AV→aA→Esc→Prop):Prop:=match o with
 | .mv x=>k (ev x) h []
 | .pick c a b=>pK (UN (ev c) (ev a) (ev b)) fun v=>k v h []
 | .alloc z=>alK z h k
 | .box x=>wK (NN (ev x) h) k
 | .build z ps=>pK (xC z (ev3 ev ps)) fun v=>k v h []
 | .bsl own sh n z ps=>wK (CG own sh n z (ev2 ev ps) h) k
 | .load sh a=>pK (eC sh (ev a) h) fun v=>k v h []
 | .store sh a x=>wK (nF sh (ev a) (ev x) h) k
 | .nilchk x=>pK (uE (ev x)) fun v=>k v h []
 | .bin op x y=>pK (gB op (ev x) (ev y)) fun v=>k v h []
 | .eqa ks neg x y=>pK (OA ks neg (ev x) (ev y)) fun v=>k v h []
 | .isnil n neg x=>pK (QN n neg (ev x)) fun v=>k v h []
 | .mkif x=>pK (yR (ev x)) fun v=>k v h []
 | .un op x=>pK (oUn op (ev x)) fun v=>k v h []
 | .conv (.i c) x=>pK (uK c (ev x)) fun v=>k v h []
 | .mkfn f caps=>k (.fn f (ev1 ev caps)) h []
 | .slice sh x lo hi mx=>pK (KI sh (ev x) (evO ev lo) (evO ev hi) (evO ev mx) h) fun v=>k v h []
 | .slstr x lo hi=>pK (VN (ev x) (evO ev lo) (evO ev hi)) fun v=>k v h []
 | .mksl sh z len cap=>wK (zR sh z (ev len) (ev cap) h) k
 | .faddr off sh x=>pK (SC off sh (ev x)) fun v=>k v h []
 | .field off sh x=>pK (PN off sh (ev x)) fun v=>k v h []
 | .iaddr sh x i=>pK (tE sh (ev x) (ev i) h) fun v=>k v h []
 | .iaddra n sh x i=>pK (JI n sh (ev x) (ev i)) fun v=>k v h []
 | .idxa n sh x i=>pK (vK n sh (ev x) (ev i)) fun v=>k v h []
 | .idxs x i=>pK (xK (ev x) (ev i)) fun v=>k v h []
 | .ext x i=>pK (II (ev x) i) fun v=>k v h []
 | .len x=>pK (DG (ev x)) fun v=>k v h []
 | .lens x=>pK (SN (ev x)) fun v=>k v h []
 | .app sh s x=>wK (tK sh (ev s) (ev x) h) k
 | .copy sh d s=>wK (wR sh (ev d) (ev s) h) k
 | .uns m t xs=>wK (zF m t (ev1 ev xs) h) k
 | .clr sh z x=>wK (oClr sh z (ev x) h) k
 | .mx xs=>pK (oMx (ev1 ev xs)) fun v=>k v h []
 | .mn xs=>pK (oMn (ev1 ev xs)) fun v=>k v h []
 | .new0 sh=>nwK sh h k
 | .conv .s2b x=>wK (cE .s2b (ev x) h) k
 | .conv .b2s x=>wK (cE .b2s (ev x) h) k
 | .conv .r2s x=>wK (cE .r2s (ev x) h) k
 | .conv .same x=>wK (cE .same (ev x) h) k
 | .mkmap=>mmK h k
 | .look kk ok z x key=>pK (DB kk ok z (ev x) (ev key) h) fun v=>k v h []
 | .mupd kk m key x=>wK (LB kk (ev m) (ev key) (ev x) h) k
 | .ment kk z m key=>wK (TN kk z (ev m) (ev key) h) k
 | .estore m s x=>wK (ON (ev m) (ev s) (ev x) h) k
 | .mdel kk m key=>wK (xR kk (ev m) (ev key) h) k
 | .lenm x=>pK (RN (ev x) h) fun v=>k v h []
 | .mrange x=>wK (zK (ev x) h) k
 | .mentry i=>wK (yK (ev i) h) k
 | .call _ _ | .callv _ _ | .mnext _ _=>False
theorem z6X {o:Option (AV × aA × Esc)}{k:AV→aA→Esc→Prop}:LI o k=wK o k:=rfl
theorem UF {o:Option AV}{h:aA}{k:AV→aA→Esc→Prop}:wK (o.map fun v=>(v,h,[])) k=pK o fun v=>k v h []:=by cases o <;> rfl
theorem z38 (ev:Opd→AV):∀(ps:List (Nat×Nat×Opd)) (z:List AV),xG ev ps z=DN (ev3 ev ps) z
 | [],z=>rfl
 | (off,n,x)::r,z=>by
  simp only[xG,ev3,DN];cases (ev x).cells with
  | none=>rfl
  | some vs=>simp only[z38 ev r]
theorem z39 (ev:Opd→AV)(sh:Sh):∀(ps:List (Nat×Opd)) (h:aA) (z:List PV),yG ev sh ps h z=EN sh (ev2 ev ps) h z
 | [],h,z=>rfl
 | (i,x)::r,h,z=>by
  simp only[yG,ev2,EN];cases pur h (ev x) with
  | none=>rfl
  | some y=>simp only[z39 ev sh r]
theorem z1t (ev:Opd→AV)(d:Nat)(o:Option Opd):bnd ev d o=FD d (evO ev o):=by cases o <;> rfl
theorem zdM (ev:Opd→AV)(o:Option Opd):(evO ev o).isSome=o.isSome:=by cases o <;> rfl
theorem rG (ev:Opd→AV)(l:List Opd):l.map ev=ev1 ev l:=by
 induction l with
 | nil=>rfl
 | cons x r ih=>simp only[List.map_cons,ev1,ih]
theorem z9g (sh:Sh)(ev:Opd→AV)(h:aA)(x:AV)(lo hi mx:Option Opd):asl sh ev h x lo hi mx=KI sh x (evO ev lo) (evO ev hi) (evO ev mx) h:=by
 unfold asl KI;simp only[z1t,zdM];rfl
theorem TL {p:Prop}[Decidable p]{a:AV}{h:aA}{k:AV→aA→Esc→Prop}:wK (if p then some (a,h,[]) else none) k=pK (if p then some a else none) fun v=>k v h []:=by split <;> rfl
theorem AF {α:Type}{o:Option α}{f:α→AV}{h:aA}{k:AV→aA→Esc→Prop}:wK (o.map fun v=>(f v,h,[])) k=pK (o.map f) fun v=>k v h []:=by cases o <;> rfl
theorem GO {α:Type}{p:Prop}[Decidable p]{o:Option α}{f:α→AV}{h:aA}{k:AV→aA→Esc→Prop}:wK (if p then o.map (fun v=>(f v,h,[])) else none) k=pK (if p then o.map f else none) fun v=>k v h []:=by
 split
 ·exact AF
 ·rfl
theorem z4V {o:AO}(hp:o.plain=true){ev:Opd→AV}{h:aA}{k:AV→aA→Esc→Prop}:LI (aop o ev h) k=opN o ev h k:=by
 rw[z6X];cases o <;> first|(cases hp;done)|skip
 case mv=>rfl
 case pick c a b=>
  simp only[aop,opN,UN];generalize ev c=v;cases v <;> try rfl
  rename_i p;cases p <;> rfl
 case alloc=>rfl
 case box=>rfl
 case build z ps=>simp only[aop,opN];rw[←UF,xC,z38,Option.map_map];rfl
 case bsl=>simp only[aop,opN,CG,z39];rfl
 case load sh a=>
  simp only[aop,opN,eC];generalize ev a=v;cases v with
  | ref id off=>dsimp only;cases h[id]? with
   | none=>rfl
   | some o=>cases o <;> first|rfl|exact UF
  | rref id g i off=>dsimp only;cases h[id]? with
   | none=>rfl
   | some o=>cases o <;> first|rfl|exact GO
  | vp v=>exact AF
  | p v=>cases v <;> rfl
  | bt _ _ _ _=>exact UF
  | _=>rfl
 case store=>simp only[aop,opN];rfl
 case nilchk x=>
  simp only[aop,opN,uE];generalize ev x=v;cases v <;> try rfl
  exact UF
 case bin op x y=>
  simp only[aop,opN,gB];generalize ev x=v;generalize ev y=u;cases v <;> try rfl
  cases u <;> try rfl
  exact AF
 case eqa ks neg x y=>
  simp only[aop,opN,OA];generalize ev x=v;generalize ev y=u;cases v <;> try rfl
  rename_i p;cases p <;> try rfl
  all_goals (cases u <;> try rfl)
  all_goals (rename_i q;cases q <;> try rfl)
  ·exact TL
  ·exact GO
 case isnil k neg p=>
  simp only[aop,opN,QN];cases pH k (ev p) with
  | true=>rfl
  | false=>exact AF
 case mkif=>exact TL
 case un op x=>
  simp only[aop,opN,oUn];generalize ev x=v;cases v <;> try rfl
  exact AF
 case conv c x=>
  cases c;case i k'=>
   simp only[aop,opN,uK,EF];generalize ev x=v;cases v <;> try rfl
   rename_i p;cases p <;> rfl
  all_goals rfl
 case mkfn f caps=>simp only[aop,opN,rG];rfl
 case slice=>simp only[aop,opN,z9g];exact UF
 case slstr x lo hi=>
  simp only[aop,opN,VN,z1t];generalize ev x=v;cases v <;> try rfl
  rename_i p;cases p <;> try rfl
  rename_i s;dsimp only;generalize FD 0 _=o1;generalize FD s.length _=o2;cases o1 <;> try rfl
  cases o2 <;> try rfl
  exact TL
 case mksl=>simp only[aop,opN];rfl
 case faddr off sh x=>
  simp only[aop,opN,SC];generalize ev x=v;cases v <;> try rfl
  ·exact AF
  ·exact UF
 case field off sh x=>
  simp only[aop,opN,PN];generalize ev x=v;cases v <;> try rfl
  ·rename_i p;cases p <;> try rfl
   exact AF
  ·exact UF
 case iaddr sh x i=>
  simp only[aop,opN,tE];generalize ev x=v;generalize qB (ev i)=n;cases v <;> try rfl
  ·rename_i p;cases p <;> try rfl
   cases n <;> try rfl
   exact GO
  ·cases n <;> try rfl
   rename_i id g off len k;dsimp only;cases h[id]? with
   | none=>rfl
   | some o=>cases o <;> first|rfl|exact TL
  ·cases n <;> try rfl
   exact UF
 case iaddra m sh x i=>
  simp only[aop,opN,JI];generalize ev x=v;generalize qB (ev i)=n;cases v <;> try rfl
  all_goals (cases n <;> try rfl)
  ·exact TL
  ·exact TL
  ·exact GO
 case idxa m sh x i=>
  simp only[aop,opN,vK];generalize ev x=v;generalize qB (ev i)=n;cases v <;> try rfl
  rename_i p;cases p <;> try rfl
  cases n <;> try rfl
  exact GO
 case idxs x i=>
  simp only[aop,opN,xK];generalize ev x=v;generalize qB (ev i)=n;cases v <;> try rfl
  rename_i p;cases p <;> try rfl
  cases n <;> try rfl
  exact AF
 case ext x i=>
  simp only[aop,opN,II];generalize ev x=v;cases v <;> try rfl
  exact UF
 case len x=>
  simp only[aop,opN,DG];generalize ev x=v;cases v <;> try rfl
  ·rename_i p;cases p <;> rfl
  ·exact UF
 case lens x=>
  simp only[aop,opN,SN];generalize ev x=v;cases v <;> try rfl
  rename_i p;cases p <;> rfl
 case app=>simp only[aop,opN];rfl
 case copy=>simp only[aop,opN];rfl
 case uns=>simp only[aop,opN,rG,z6X]
 case clr=>simp only[aop,opN];rfl
 case mx xs=>
  simp only[aop,opN,rG,oMx];generalize ev1 ev xs=l;cases l <;> try rfl
  rename_i v r;cases v <;> try rfl
  exact AF
 case mn xs=>
  simp only[aop,opN,rG,oMn];generalize ev1 ev xs=l;cases l <;> try rfl
  rename_i v r;cases v <;> try rfl
  exact AF
 case new0=>rfl
 case look kk ok z x key=>
  simp only[aop,opN,DB];cases aD kk (ev key) <;> try rfl
  rename_i kk;generalize ev x=v;cases v <;> try rfl
  rename_i id;dsimp only;cases lC h (.mp id) <;> try rfl
  rename_i y;dsimp only[Option.map_some];cases rC kk y.2.1 <;> rfl
 case lenm x=>
  simp only[aop,opN,RN];generalize ev x=v;cases v <;> try rfl
  exact AF
 all_goals rfl
end Go.Am
end
section
/- The abstract machine,part 30: the meaning of code in the new spelling,and that it is the old one. -/
set_option linter.unusedSimpArgs false
set_option linter.unusedVariables false
namespace Go.Am
def gV (v:AV)(b:Bool)(h:aA)(A:(AV→aA→Esc→Prop)→Prop)(k:AV→aA→Esc→Prop):Prop:=AE v b (A k) (k .skp h [])
def gP (v:AV)(b:Bool)(o:Option AV)(h:aA)(k:AV→aA→Esc→Prop):Prop:=gV v b h (fun k=>pK o fun u=>k u h []) k
def gM (v:AV)(b:Bool)(u:AV)(h:aA)(k:AV→aA→Esc→Prop):Prop:=gV v b h (fun k=>k u h []) k
def upB (b:Bool):Bool:=(fun(_:AV→Bool→Option AV→aA→(AV→aA→Esc→Prop)→Prop)=>b) gP
def gK (g:Option (Nat × Bool))(e:List (Nat × AV))(h:aA)(A:(AV→aA→Esc→Prop)→Prop)(k:AV→aA→Esc→Prop):Prop:=match g with
 | none=>A k
 | some (t,b)=>gV (kA e t) b h A k
def opC (C:Hd)(o:AO)(ev:Opd→AV)(h:aA)(k:AV→aA→Esc→Prop):Prop:=match o with
 | .call f args=>C f (ev1 ev args) h k
 | .callv f args=>OG C (ev f) (ev1 ev args) h k
 | .mnext sh xs=>match aI h sh (ev1 ev xs) with
  | some l=>l≠[]∧∀y∈l,k y.1 y.2 []
  | none=>False
 | o=>opN o ev h k
def BE (C:Hd)(gl:Nat→Option PV):List AOp→List (Nat×AV)→aA→Esc→(List (Nat×AV)→aA→Esc→Prop)→Prop
 | [],e,h,x,L=>L e h x
 | o::r,e,h,x,L=>gK o.guard e h (opC C o.op (Opd.ev gl e) h) fun v h' x'=>BE C gl r (put o.dst v e) h' (x'++x) L
variable {C:Hd} {gl:Nat→Option PV}
theorem z4T {o:AO}{d:Option Nat}{r:List AOp}{e:List (Nat × AV)}{h:aA}{x:Esc}{L:List (Nat × AV)→aA→Esc→Prop} :
 UA C gl (⟨d,none,o⟩::r) e h x L=opC C o (Opd.ev gl e) h (tJ C gl r d e x L):=by
 cases hp:o.plain with
 | true=>
  rw[z7t hp,z4V hp];cases o <;> first|rfl|cases hp
 | false=>
  cases o <;> first|(cases hp;done)|skip
  all_goals first
   | (rw[z03,rG];rfl)
   | (rw[z04,rG];rfl)
   | (unfold UA opC;simp only[wanted,rG];rfl)
theorem z0F:∀ (ops:List AOp) (e:List (Nat × AV)) (h:aA) (x:Esc) (L:List (Nat × AV)→aA→Esc→Prop),UA C gl ops e h x L=BE C gl ops e h x L
 | [],e,h,x,L=>rfl
 | ⟨d,g,o⟩::r,e,h,x,L=>by
  have ih:(fun(v:AV) (h':aA) (x':Esc)=>BE C gl r (put d v e) h' (x'++x) L)=tJ C gl r d e x L:=by
   funext v h' x';rw[←z0F r];rfl
  show _=gK g e h (opC C o (Opd.ev gl e) h) fun v h' x'=>BE C gl r (put d v e) h' (x'++x) L
  rw[ih];cases g with
  | none=>exact z4T
  | some tb=>
   obtain⟨t,b⟩:=tb;rw[z06,z4T];rfl
def opE (C:Hd)(o:AO)(ev:Opd→AV)(h:aA)(k:AV→aA→Esc→Prop):Prop:=match o with
 | .call f args=>UE C f (ev1 ev args) h k
 | .callv f args=>NG C (ev f) (ev1 ev args) h k
 | .mnext _ _=>False
 | o=>opN o ev h k
def bH (still eff:Bool)(h h':aA)(y:Esc)(Q:Prop):Prop:=match upB eff with
 | true=>Q
 | false=>match still with
  | true=>Q
  | false=>(h'=h∧y=[])∧Q
def aJ (C:Hd)(gl:Nat→Option PV)(q:AOp × List (Nat × AV) × AV)(g:aA):Prop:=
 gK q.1.guard q.2.1 g (opE C q.1.op (Opd.ev gl q.2.1) g) fun v1 h1 x1=>v1=q.2.2∧h1=g∧x1=[]
def fE (C:Hd)(gl:Nat→Option PV)(h:aA)(dn:FC)(Q:Prop):List Nat→Prop
 | []=>Q
 | j::r=>(match dn[j]? with|some q=>aJ C gl q h|none=>False)∧fE C gl h dn Q r
def pE (C:Hd)(gl:Nat→Option PV)(o:AOp)(e:List (Nat × AV))(v:AV)(hs:List aA)(Q:Prop):List Nat→Prop
 | []=>Q
 | k::r=>(match hs[k]? with|some g=>aJ C gl (o,e,v) g|none=>False)∧pE C gl o e v hs Q r
def eE (C:Hd)(gl:Nat→Option PV):List DOp→FC→List aA→List (Nat×AV)→aA→Esc→(List (Nat×AV)→aA→Esc→Prop)→Prop
 | [],_,_,e,h,x,L=>L e h x
 | o::r,dn,hs,e,h,x,L=>gK o.op.guard (CA (some o.rd) e) h (opE C o.op.op (Opd.ev gl (CA (some o.rd) e)) h) fun v h' y=>
  bH o.op.op.still o.eff h h' y (pE C gl o.op (CA (some o.rd) e) v hs (fE C gl h' dn (eE C gl r (dn++[(o.op,CA (some o.rd) e,v)]) (hs++[h]) (put o.op.dst v e) h' (y++x) L) o.again) o.early)
theorem z4U {o:AO}{d:Option Nat}{e:List (Nat × AV)}{h:aA}{R:AV→aA→Esc→Prop}:doK C gl ⟨d,none,o⟩ e h R=opE C o (Opd.ev gl e) h R:=by
 cases hp:o.plain with
 | true=>
  rw[zb0 hp,z4V hp];cases o <;> first|rfl|cases hp
 | false=>
  cases o <;> first|(cases hp;done)|skip
  all_goals first
   | (rw[z1X,rG];rfl)
   | (rw[z1Y,rG];rfl)
   | (unfold doK ADo opE;simp [wanted])
theorem z3Q {o:AOp}{e:List (Nat × AV)}{h:aA}{R:AV→aA→Esc→Prop}:doK C gl o e h R=gK o.guard e h (opE C o.op (Opd.ev gl e) h) R:=by
 obtain⟨d,g,op⟩:=o;cases g with
 | none=>exact z4U
 | some tb=>
  obtain⟨t,b⟩:=tb;rw[z1Z,z4U];rfl
theorem z6s {q:AOp × List (Nat × AV) × AV}{g:aA}:doS C gl q g=aJ C gl q g:=by
 obtain⟨⟨d,gd,op⟩,e,v⟩:=q;rw[z2a,z3Q];rfl
theorem z0Y {h:aA}{dn:FC}{Q:Prop}:∀{l:List Nat},fE C gl h dn Q l=(agK C gl h dn l∧Q)
 | []=>by simp [fE,agK]
 | j::r=>by
  unfold fE agK;rw[z0Y (l:=r)];cases dn[j]? with
  | none=>simp
  | some q=>simp only[z6s,and_assoc]
theorem z2v {o:AOp}{e:List (Nat × AV)}{v:AV}{hs:List aA}{Q:Prop}:∀{l:List Nat},pE C gl o e v hs Q l=(eaK C gl o e v hs l∧Q)
 | []=>by simp [pE,eaK]
 | j::r=>by
  unfold pE eaK;rw[z2v (l:=r)];cases hs[j]? with
  | none=>simp
  | some q=>simp only[z6s,and_assoc]
theorem zb1 {o:AOp}(hs:o.op.still=true){e:List (Nat × AV)}{h:aA}{R:AV→aA→Esc→Prop}:doK C gl o e h (fun v h' y=>(h'=h∧y=[])∧R v h' y)=doK C gl o e h R:=by
 unfold doK;refine propext ⟨fun⟨v,h',y,H,_,r⟩=>⟨v,h',y,H,r⟩,fun⟨v,h',y,H,r⟩=>⟨v,h',y,H,z7q hs H,r⟩⟩
theorem z0E:∀ (ds:List DOp) (dn:FC) (hs:List aA) (e:List (Nat × AV)) (h:aA) (x:Esc) (L:List (Nat × AV)→aA→Esc→Prop),eD C gl ds dn hs e h x L=eE C gl ds dn hs e h x L
 | [],dn,hs,e,h,x,L=>rfl
 | ⟨o,rd,eff,early,again⟩::r,dn,hs,e,h,x,L=>by
  rw[z0z];show _=gK o.guard (CA (some rd) e) h (opE C o.op (Opd.ev gl (CA (some rd) e)) h) fun v h' y=>
   bH o.op.still eff h h' y (pE C gl o (CA (some rd) e) v hs (fE C gl h' dn (eE C gl r (dn++[(o,CA (some rd) e,v)]) (hs++[h]) (put o.dst v e) h' (y++x) L) again) early)
  rw[←z3Q];have e1:CQ C gl ⟨o,rd,eff,early,again⟩ r dn hs e h x L=fun v h' y=>(effK eff h h' y∧pE C gl o (CA (some rd) e) v hs (fE C gl h' dn (eE C gl r (dn++[(o,CA (some rd) e,v)]) (hs++[h]) (put o.dst v e) h' (y++x) L) again) early):=by
   funext v h' y
   rw[z2c,z2v,z0Y,←z0E r]
  rw[e1];cases eff with
  | true=>
   congr 1;funext v h' y
   simp [effK,bH,upB]
  | false=>
   cases hs':o.op.still with
   | true=>
    have:=zb1 (C:=C) (gl:=gl) (o:=o) hs' (e:=CA (some rd) e) (h:=h) (R:=fun v h' y=>pE C gl o (CA (some rd) e) v hs (fE C gl h' dn (eE C gl r (dn++[(o,CA (some rd) e,v)]) (hs++[h]) (put o.dst v e) h' (y++x) L) again) early)
    exact this
   | false=>rfl
def NW (C:Hd)(gl:Nat→Option PV):ACode→St→(Ex→St→Prop)→Prop
 | .skip,s,K=>K .normal s
 | .reg ops keep,s,K=>BE C gl ops s.env s.h s.esc fun e h x=>K .normal ⟨CA keep e,h,x⟩
 | .draw ds keep,s,K=>eE C gl ds [] [] s.env s.h s.esc fun e h x=>K .normal ⟨CA keep e,h,x⟩
 | .seq a b,s,K=>NW C gl a s fun e s'=>match e with
  | .normal=>NW C gl b s' K
  | .exit i=>K (.exit i) s'
  | .ret=>K .ret s'
 | .cond c a b,s,K=>mD (Opd.ev gl s.env c) (NW C gl a s K) (NW C gl b s K)
 | .condu c a b,s,K=>fM (Opd.ev gl s.env c) (NW C gl a s K) (NW C gl b s K)
 | .det b,s,K=>NW C gl b s K
 | .block id b,s,K=>NW C gl b s fun e s'=>match e with
  | .normal=>K .normal s'
  | .exit i=>bif Nat.beq i id then K .normal s' else K (.exit i) s'
  | .ret=>K .ret s'
 | .loop b,s,K=>ALoop (NW C gl b) K s
 | .scope b,s,K=>NW C gl b ⟨s.env,s.h,[]⟩ fun e s'=>K e (PD s.h.length s.esc s')
 | .pr l b,s,K=>NW C gl b ⟨CA (some l) s.env,s.h,s.esc⟩ K
 | .exit id,s,K=>K (.exit id) s
 | .ret,s,K=>K .ret s
 | .bad,_,_=>False
theorem RD:∀ (c:ACode) (s:St) (K:Ex→St→Prop),AW C gl c s K=NW C gl c s K
 | .skip,s,K=>rfl
 | .reg ops keep,s,K=>z0F _ _ _ _ _
 | .draw ds keep,s,K=>z0E _ _ _ _ _ _ _
 | .seq a b,s,K=>by
  unfold AW NW;rw[RD a];congr 1;funext e s'
  cases e with
  | normal=>exact RD b s' K
  | _=>rfl
 | .cond c a b,s,K=>by
  unfold AW NW mD;rw[←RD a,←RD b];rfl
 | .condu c a b,s,K=>by
  unfold AW NW fM;rw[←RD a,←RD b];rfl
 | .det b,s,K=>RD b s K
 | .block id b,s,K=>by
  unfold AW NW;rw[RD b];congr 1;funext e s'
  cases e with
  | exit i=>
   dsimp only;by_cases hi:i=id
   ·subst hi;simp
   ·rw[if_neg hi]
    have:Nat.beq i id=false:=by cases h:Nat.beq i id with|false=>rfl|true=>exact absurd (Nat.eq_of_beq_eq_true h) hi
    rw[this];rfl
  | _=>rfl
 | .loop b,s,K=>by
  show ALoop (AW C gl b) K s=ALoop (NW C gl b) K s
  rw[show AW C gl b=NW C gl b from funext fun s=>funext fun K=>RD b s K]
 | .scope b,s,K=>RD b _ _
 | .pr l b,s,K=>RD b _ _
 | .exit id,s,K=>rfl
 | .ret,s,K=>rfl
 | .bad,s,K=>rfl
end Go.Am
end
section
/- The abstract machine,part 31: words in which a function's code is printed,and the rules of computing over them. -/
set_option linter.unusedSimpArgs false
set_option linter.unusedVariables false
namespace Go.Am
variable {C:Hd} {gl:Nat→Option PV} {e:List (Nat × AV)} {h:aA} {x:Esc} {K:Ex→St→Prop} {s:St}
abbrev AI (n:Int):AV:=.p (.int .i64 n)
abbrev AB (b:Bool):AV:=.p (.bool b)
def HG (C:Hd)(gl:Nat→Option PV)(b:ACode)(K:Ex→St→Prop)(e:Ex)(s:St):Prop:=match e with
 | .normal=>NW C gl b s K
 | .exit i=>K (.exit i) s
 | .ret=>K .ret s
def ED (id:Nat)(K:Ex→St→Prop)(e:Ex)(s:St):Prop:=match e with
 | .normal=>K .normal s
 | .exit i=>bif Nat.beq i id then K .normal s else K (.exit i) s
 | .ret=>K .ret s
def nqK (sh:Option Sh)(l:List AV)(h:aA)(k:AV→aA→Esc→Prop):Prop:=match aI h sh l with
 | some l=>l≠[]∧∀y∈l,k y.1 y.2 []
 | none=>False
def nxK (i:AV)(h:aA)(k:AV→aA→Esc→Prop):Prop:=match sR h i with
 | some l=>l≠[]∧∀y∈l,k y.1 y.2 []
 | none=>False
def gv (gl:Nat→Option PV)(n:Nat):AV:=match gl n with|some v=>.vp v|none=>.und
theorem z63 {b:ACode}:HG C gl b K .normal s=NW C gl b s K:=(rfl)
theorem z64 {b:ACode}:HG C gl b K .ret s=K .ret s:=(rfl)
theorem z1q {i:Nat}:ED i K .normal s=K .normal s:=(rfl)
theorem z1s {i:Nat}:ED i K (.exit i) s=K .normal s:=by simp [ED]
theorem z1r {i:Nat}:ED i K .ret s=K .ret s:=(rfl)
theorem CF {b:ACode}:NW C gl (.scope b) ⟨e,h,x⟩ K=NW C gl b ⟨e,h,[]⟩ (z60 h.length x K):=(rfl)
theorem z79 {c:ACode}{s s':St}(hs:s=s'):NW C gl c s K=NW C gl c s' K:=by rw[hs]
def ZA (C:Hd)(gl:Nat→Option PV)(b:ACode)(K:Ex→St→Prop)(e:List (Nat × AV))(h:aA)(x:Esc):Prop:=ALoop (NW C gl b) K ⟨e,h,x⟩
theorem GC {l:List Nat}{b:ACode}:NW C gl (.loop (.pr l b)) ⟨e,h,x⟩ K=ZA C gl (.pr l b) K (CA (some l) e) h x:=by
 show ALoop _ _ _=ALoop _ _ _
 exact z02 (funext fun R=>by show NW C gl b _ R=NW C gl b _ R;dsimp only;rw[z5p])
theorem WC {l:List Nat}{b:ACode}:NW C gl (.loop (.scope (.pr l b))) ⟨e,h,x⟩ K=ZA C gl (.scope (.pr l b)) K (CA (some l) e) h x:=by
 show ALoop _ _ _=ALoop _ _ _
 exact z02 (funext fun R=>by show NW C gl b _ _=NW C gl b _ _;dsimp only;rw[z5p])
theorem z78 {b:ACode}{e e':List (Nat × AV)}{h h':aA}{x x':Esc}(h1:e=e')(h2:h=h')(h3:x=x'):ZA C gl b K e h x=ZA C gl b K e' h' x':=by rw[h1,h2,h3]
theorem yB {σ:Type}{b:ACode}(S:σ→St)(P:σ→Prop)(m:σ→Nat)(t0:σ)(hs:(⟨e,h,x⟩:St)=S t0)(h0:P t0)(hr:∀ t,P t→NW C gl b (S t) (qR S P m K t)):ZA C gl b K e h x:=by
 show ALoop (NW C gl b) K _
 rw[hs];have key:∀n t,m t<n→P t→ALoop (NW C gl b) K (S t):=by
  intro n;induction n with
  | zero=>intro t h;omega
  | succ n ih=>
   intro t hm hp;refine .mk _ _ (hr t hp) (fun s' h'=>?_) (fun i s' h'=>h') (fun s' h'=>h')
   obtain⟨u,rfl,hu,hlt⟩:=h';exact ih u (by omega) hu
 exact key _ t0 (Nat.lt_succ_self _) h0
theorem AA {X:Ctx}{f:Nat}{F:AFun}{a asv:List AV}{h h1:aA}{P:jA}(hf:X.fn f=some F)(hr:F.byref=false)(hp:oA h a=some (asv,h1))(hl:asv.length=F.nparams)(hd:F.isDet=false:=by rfl) :
 bA X f a h P=NW (bA X) X.gl F.body ⟨enter asv,h1,[]⟩ (qA F.results F.keep h.length P):=by
 rw[zlb hf hr hp hl hd,RD]
theorem TH {X:Ctx}{f:Nat}{F:AFun}{a asv:List AV}{h h1:aA}{P:jA}(hf:X.fn f=some F)(hr:F.byref=false)(hp:oA h a=some (asv,h1))(hl:asv.length=F.nparams)(hd:F.isDet=true:=by rfl) :
 bA X f a h P = ∃v h' x,P v h' x∧NW (bA X) X.gl F.body ⟨enter asv,h1,[]⟩ (qA F.results F.keep h.length fun v1 h1 x1=>v1=v∧h1=h'∧x1=x):=by
 rw[zlc hf hr hp hl hd];simp only[RD]
theorem pJ {X:Ctx}{f:Nat}{F:AFun}{asv:List AV}{h:aA}{P:jA}(hf:X.fn f=some F)(hr:F.byref=true)(hl:asv.length=F.nparams)(hd:F.isDet=false:=by rfl) :
 bA X f asv h P=NW (bA X) X.gl F.body ⟨enter asv,h,[]⟩ (qA F.results F.keep h.length P):=by
 rw[zkY hf hr hl hd,RD]
theorem z5a {v:AV}{k:AV→Prop}:pK (some v) k=k v:=(rfl)
theorem z4Z {k:AV→Prop}:pK none k=False:=(rfl)
theorem z6Y {v:AV}{h:aA}{x:Esc}{k:AV→aA→Esc→Prop}:wK (some (v,h,x)) k=k v h x:=(rfl)
theorem z6W {k:AV→aA→Esc→Prop}:wK none k=False:=(rfl)
theorem zgl {p:Prop}[Decidable p]{a b:Option AV}{k:AV→Prop}:pK (if p then a else b) k=if p then pK a k else pK b k:=by split <;> rfl
theorem zlF {p:Prop}[Decidable p]{a b:Option (AV × aA × Esc)}{k:AV→aA→Esc→Prop}:wK (if p then a else b) k=if p then wK a k else wK b k:=by split <;> rfl
theorem zgk {o o':Option AV}{k:AV→Prop}(h:o=o'):pK o k=pK o' k:=by rw[h]
theorem zlE {o o':Option (AV × aA × Esc)}{k:AV→aA→Esc→Prop}(h:o=o'):wK o k=wK o' k:=by rw[h]
theorem zel {v v':AV}{b:Bool}{h:aA}{A:(AV→aA→Esc→Prop)→Prop}{k:AV→aA→Esc→Prop}(h1:v=v'):gV v b h A k=gV v' b h A k:=by rw[h1]
theorem zek {v v':AV}{b:Bool}{o:Option AV}{h:aA}{k:AV→aA→Esc→Prop}(h1:v=v'):gP v b o h k=gP v' b o h k:=by rw[h1]
theorem zei {v v':AV}{b:Bool}{u:AV}{h:aA}{k:AV→aA→Esc→Prop}(h1:v=v'):gM v b u h k=gM v' b u h k:=by rw[h1]
section
variable {A:(AV→aA→Esc→Prop)→Prop} {o:Option AV} {u:AV} {k:AV→aA→Esc→Prop} {t b:Bool}
theorem z4e:gV (.p (.bool true)) true h A k=A k:=(rfl)
theorem z4b:gV (.p (.bool false)) false h A k=A k:=(rfl)
theorem z4d:gV (.p (.bool true)) false h A k=k .skp h []:=(rfl)
theorem z4c:gV (.p (.bool false)) true h A k=k .skp h []:=(rfl)
theorem z4a:gP (.p (.bool true)) true o h k=pK o fun v=>k v h []:=(rfl)
theorem z3W:gP (.p (.bool false)) false o h k=pK o fun v=>k v h []:=(rfl)
theorem z3Z:gP (.p (.bool true)) false o h k=k .skp h []:=(rfl)
theorem z3X:gP (.p (.bool false)) true o h k=k .skp h []:=(rfl)
theorem z3Y:gP .skp b o h k=k .skp h []:=(rfl)
theorem zej:gP (.p (.bool t)) b o h k=AE (.p (.bool t)) b (pK o fun v=>k v h []) (k .skp h []):=(rfl)
theorem z3V:gM (.p (.bool true)) true u h k=k u h []:=(rfl)
theorem z3R:gM (.p (.bool false)) false u h k=k u h []:=(rfl)
theorem z3U:gM (.p (.bool true)) false u h k=k .skp h []:=(rfl)
theorem z3S:gM (.p (.bool false)) true u h k=k .skp h []:=(rfl)
theorem z3T:gM .skp b u h k=k .skp h []:=(rfl)
theorem zeh:gM (.p (.bool t)) b u h k=AE (.p (.bool t)) b (k u h []) (k .skp h []):=(rfl)
end
section
variable {k k':IntKind} {a b:Int} {sa sb:List UInt8}
theorem z9o:gB .add (.p (.int k a)) (.p (.int k b))=some (.p (.int k (k.wrap (a+b)))):=by simp [gB,PB,jD]
theorem z91:gB .sub (.p (.int k a)) (.p (.int k b))=some (.p (.int k (k.wrap (a-b)))):=by simp [gB,PB,jD]
theorem z9v:gB .mul (.p (.int k a)) (.p (.int k b))=some (.p (.int k (k.wrap (a*b)))):=by simp [gB,PB,jD]
theorem z9y:gB .quo (.p (.int k a)) (.p (.int k b))=if b=0 then none else some (.p (.int k (k.wrap (a.tdiv b)))):=by simp [gB,PB,jD] <;> split <;> rfl
theorem z9z:gB .rem (.p (.int k a)) (.p (.int k b))=if b=0 then none else some (.p (.int k (a.tmod b))):=by simp [gB,PB,jD] <;> split <;> rfl
theorem z9p:gB .and (.p (.int k a)) (.p (.int k b))=some (.p (.int k (lH k a b))):=by simp [gB,PB,jD]
theorem z9q:gB .eql (.p (.int k a)) (.p (.int k b))=some (.p (.bool (decide (a=b)))):=by simp [gB,PB,jD]
theorem z9w:gB .neq (.p (.int k a)) (.p (.int k b))=some (.p (.bool (!decide (a=b)))):=by simp [gB,PB,jD]
theorem z9u:gB .lss (.p (.int k a)) (.p (.int k b))=some (.p (.bool (decide (a<b)))):=by simp [gB,PB,jD]
theorem z9t:gB .leq (.p (.int k a)) (.p (.int k b))=some (.p (.bool (decide (a≤b)))):=by simp [gB,PB,jD]
theorem z9s:gB .gtr (.p (.int k a)) (.p (.int k b))=some (.p (.bool (decide (b<a)))):=by simp [gB,PB,jD]
theorem z9r:gB .geq (.p (.int k a)) (.p (.int k b))=some (.p (.bool (decide (b≤a)))):=by simp [gB,PB,jD]
theorem z90:gB .shr (.p (.int k a)) (.p (.int k' b))=if b<0 then none else some (.p (.int k (DI k a b))):=by simp [gB,PB] <;> split <;> rfl
theorem zlj:gB .add (.p (.str sa)) (.p (.str sb))=if sa.length+sb.length≤CB then some (.p (.str (sa++sb))) else none:=by simp [gB,PB,QH] <;> split <;> rfl
theorem zlk:gB .eql (.p (.str sa)) (.p (.str sb))=some (.p (.bool (decide (sa=sb)))):=by simp [gB,PB,QH]
theorem zlm:gB .neq (.p (.str sa)) (.p (.str sb))=some (.p (.bool (!decide (sa=sb)))):=by simp [gB,PB,QH]
theorem zlA {t:Bool}:oUn .not (.p (.bool t))=some (.p (.bool !t)):=(rfl)
theorem convI {k':IntKind}:uK k (.p (.int k' a))=some (.p (.int k (k.wrap a))):=(rfl)
theorem zfX {i j:Nat}:uE (.ref i j)=some (.ref i j):=(rfl)
theorem zfY {i j m n:Nat}:uE (.rref i j m n)=some (.rref i j m n):=(rfl)
theorem zjl {t:Bool}{u v:AV}:UN (.p (.bool t)) u v=some (bif t then u else v):=(rfl)
theorem zfw {sh:Sh}{xs:List PV}:DG (.p (.sl sh xs))=some (.p (.int .i64 xs.length)):=(rfl)
theorem zfv {i g o l:Nat}:DG (.own i g o l)=some (.p (.int .i64 l)):=(rfl)
theorem zfz:SN (.p (.str sa))=some (.p (.int .i64 sa.length)):=(rfl)
theorem ext_t {vs:List AV}{i:Nat}:II (.tup vs) i=vs[i]?:=(rfl)
theorem zdS {off i j:Nat}{sh:Sh}:SC off sh (.ref i j)=some (.ref i (j+off)):=(rfl)
theorem zdT {off i j m n:Nat}{sh:Sh}:SC off sh (.rref i j m n)=some (.rref i j m (n+off)):=(rfl)
theorem zdU {off:Nat}{sh:Sh}{v:PV}:SC off sh (.vp v)=(lB sh off v).map .vp:=(rfl)
theorem zdZ {off:Nat}{sh:Sh}{cs:List PV}:PN off sh (.p (.agg cs))=(lB sh off (.agg cs)).map .p:=(rfl)
def ldB (sh:Sh)(off:Nat):Option Obj→Option AV
 | some (.box cs)=>cut sh off cs
 | _=>none
def ldR (sh:Sh)(g i off:Nat):Option Obj→Option AV
 | some (.row _ xs _)=>if g=xs.length then((xs[i]?).bind (lB sh off)).map .p else none
 | _=>none
theorem zf3 {sh:Sh}{i j:Nat}:eC sh (.ref i j) h=ldB sh j h[i]?:=by unfold eC ldB;rfl
theorem zf4 {sh:Sh}{i g m n:Nat}:eC sh (.rref i g m n) h=ldR sh g m n h[i]?:=by unfold eC ldR;rfl
theorem z4C {sh:Sh}{v:PV}:eC sh (.vp v) h=(lB sh 0 v).map .p:=(rfl)
theorem zfq {sh:Sh}{off:Nat}{cs:List AV}:ldB sh off (some (.box cs))=cut sh off cs:=(rfl)
theorem zfr {sh sh':Sh}{g i off fz:Nat}{xs:List PV}:ldR sh g i off (some (.row sh' xs fz))=if g=xs.length then((xs[i]?).bind (lB sh off)).map .p else none:=(rfl)
def stB (sh:Sh)(id off:Nat)(v:AV)(h:aA):Option Obj→Option (List AV)→Option (AV×aA×Esc)
 | some (.box cs),some vs=>if vs.length=gA sh∧off+vs.length≤cs.length then some (.und,h.set id (.box (splice cs off vs)),MF id cs v) else none
 | _,_=>none
theorem zlh {sh:Sh}{i j:Nat}{v:AV}:nF sh (.ref i j) v h=stB sh i j v h h[i]? v.cells:=by unfold nF stB;rfl
theorem zkS {sh:Sh}{id off:Nat}{v:AV}{cs vs:List AV}:stB sh id off v h (some (.box cs)) (some vs)=if vs.length=gA sh∧off+vs.length≤cs.length then some (.und,h.set id (.box (splice cs off vs)),MF id cs v) else none:=(rfl)
theorem zdH {id:Nat}{cs:List AV}{v:AV}(h:BG cs=false):MF id cs v=qC id v:=by
 unfold MF;rw[h];rfl
theorem ze9 {a:AV}{v:PV}:BG [a,.p v]=false:=(rfl)
theorem ze7 {a:AV}:BG [a]=false:=(rfl)
theorem ze8 {a b c:AV}{l:List AV}:BG (a::b::c::l)=false:=by unfold BG;split <;> first|rfl|(rename_i h;simp at h)
def stE (sh:Sh)(id i off fz:Nat)(rsh:Sh)(xs:List PV)(v:PV)(h1:aA):Option PV→Option (AV×aA×Esc)
 | some (.agg cs)=>if off+v.cells.length≤cs.length then some (.und,h1.set id (.row rsh (xs.set i (.agg (splice cs off v.cells))) fz),[]) else none
 | some _=>if off=0∧v.sc then some (.und,h1.set id (.row rsh (xs.set i v) fz),[]) else none
 | none=>none
def stO (sh:Sh)(id g i off:Nat)(v:PV)(h1:aA):Option Obj→Option (AV×aA×Esc)
 | some (.row rsh xs fz)=>if g=xs.length∧fz≤i∧v.cells.length=gA sh∧v.cells.all PV.sc then stE sh id i off fz rsh xs v h1 xs[i]? else none
 | _=>none
def stR (sh:Sh)(id g i off:Nat):Option (PV×aA)→Option (AV×aA×Esc)
 | some y=>stO sh id g i off y.1 y.2 y.2[id]?
 | none=>none
theorem zli {sh:Sh}{id g i off:Nat}{x:AV}:nF sh (.rref id g i off) x h=stR sh id g i off (pur h x):=by
 unfold nF stR;cases pur h x with
 | none=>rfl
 | some y=>
  obtain⟨v,h1⟩:=y;dsimp only;unfold stO;cases h1[id]? with
  | none=>rfl
  | some o=>cases o <;> rfl
theorem zkV {sh:Sh}{id g i off:Nat}{v:PV}{h1:aA}:stR sh id g i off (some (v,h1))=stO sh id g i off v h1 h1[id]?:=(rfl)
theorem zkU {sh rsh:Sh}{id g i off fz:Nat}{v:PV}{h1:aA}{xs:List PV}:stO sh id g i off v h1 (some (.row rsh xs fz))=if g=xs.length∧fz≤i∧v.cells.length=gA sh∧v.cells.all PV.sc then stE sh id i off fz rsh xs v h1 xs[i]? else none:=(rfl)
theorem zkT {sh rsh:Sh}{id i off fz:Nat}{v:PV}{h1:aA}{xs cs:List PV}:stE sh id i off fz rsh xs v h1 (some (.agg cs))=if off+v.cells.length≤cs.length then some (.und,h1.set id (.row rsh (xs.set i (.agg (splice cs off v.cells))) fz),[]) else none:=(rfl)
def iaS (xs:List PV):Option Nat→Option AV
 | some k=>(xs[k]?).map .vp
 | none=>none
theorem zew {sh:Sh}{xs:List PV}{i:AV}:tE sh (.p (.sl sh xs)) i h=iaS xs (qB i):=by
 unfold tE iaS;cases qB i <;> simp
theorem zes {xs:List PV}{n:Nat}:iaS xs (some n)=(xs[n]?).map .vp:=(rfl)
def iaO (sh:Sh)(id g off len:Nat):Option Obj→Option Nat→Option AV
 | some (.row rsh xs _),some k=>if rsh=sh∧g=xs.length∧off+len≤xs.length∧k<len then some (.rref id g (off+k) 0) else none
 | _,_=>none
theorem zev {sh:Sh}{id g off len:Nat}{i:AV}:tE sh (.own id g off len) i h=iaO sh id g off len h[id]? (qB i):=by
 unfold tE iaO;cases qB i with
 | none=>dsimp only;cases h[id]? with
  | none=>rfl
  | some o=>cases o <;> rfl
 | some k=>dsimp only;cases h[id]? with
  | none=>rfl
  | some o=>cases o <;> rfl
theorem zer {sh rsh:Sh}{id g off len k fz:Nat}{xs:List PV}:iaO sh id g off len (some (.row rsh xs fz)) (some k)=if rsh=sh∧g=xs.length∧off+len≤xs.length∧k<len then some (.rref id g (off+k) 0) else none:=(rfl)
theorem ze2 {i:AV}:xK (.p (.str sa)) i=(qB i).bind fun n=>(sa[n]?).map fun b=>.p (.int .u8 b.toNat):=by
 unfold xK;cases qB i <;> rfl
end
theorem z0Z {z:List AV}{k:AV→aA→Esc→Prop}:alK z h k=k (.ref h.length 0) (h++[.box z]) []:=(rfl)
theorem z4S {sh:Sh}{k:AV→aA→Esc→Prop}:nwK sh h k=k (.own h.length 0 0 0) (h++[.row sh [] 0]) []:=(rfl)
theorem z4L {k:AV→aA→Esc→Prop}:mmK h k=k (.mp h.length) (h++[.amap [] 0]) []:=(rfl)
theorem zbm {A B:Prop}:fM (.p (.bool false)) A B=B:=(rfl)
theorem zbl {A B:Prop}:fM .anyb A B=(A∧B):=(rfl)
theorem zjO {t:Nat}{h:aA}:iB t [] h=([],h):=(rfl)
theorem zjQ {h:aA}{s:Sh}{r:List AV}:iB 0 (.sl0 s::r) h=(.own h.length 0 0 0::(iB 0 r (h++[.row s [] 0])).1,(iB 0 r (h++[.row s [] 0])).2):=(rfl)
theorem zjM {h:aA}{r:List AV}:iB 1 (.sl0 none::r) h=(.bt 3 0 h.length 0::(iB 1 r (h++[.arow none []])).1,(iB 1 r (h++[.arow none []])).2):=(rfl)
theorem zjP {t:Nat}{h:aA}{v:PV}{r:List AV}:iB t (.p v::r) h=(.p v::(iB t r h).1,(iB t r h).2):=(rfl)
theorem zjN {t:Nat}{h:aA}{i:Nat}{r:List AV}:iB t (.mp i::r) h=(.mp i::(iB t r h).1,(iB t r h).2):=(rfl)
attribute [go_sem] zjO zjQ zjM zjP zjN
def ldAr (sh:Sh)(off g:Nat):Option Obj→Option AV
 | some (.arow rsh cs)=>if g*gA rsh=cs.length then cut sh off cs else none
 | _=>none
theorem zf1 {sh:Sh}{off id g:Nat}:eC sh (.bt 4 off id g) h=ldAr sh off g h[id]?:=by
 show ldA sh 4 off id g h=_
 unfold ldA ldAr;rfl
theorem zfp {sh rsh:Sh}{off g:Nat}{cs:List AV}:ldAr sh off g (some (.arow rsh cs))=if g*gA rsh=cs.length then cut sh off cs else none:=(rfl)
def iaAr (sh:Sh)(id g:Nat):Option Obj→Option Nat→Option AV
 | some (.arow rsh cs),some i=>if rsh=sh∧g*gA rsh=cs.length∧i<g then some (.bt 4 (i*gA sh) id g) else none
 | _,_=>none
theorem zet {sh:Sh}{t id g:Nat}{i:AV}:tE sh (.bt 3 t id g) i h=iaAr sh id g h[id]? (qB i):=by
 unfold tE iaAr;cases qB i with
 | none=>cases h[id]? with
  | none=>rfl
  | some o=>cases o <;> rfl
 | some k=>
  show iaA sh 3 id g k h=_
  unfold iaA;cases h[id]? with
  | none=>rfl
  | some o=>cases o <;> rfl
theorem zeq {sh rsh:Sh}{id g i:Nat}{cs:List AV}:iaAr sh id g (some (.arow rsh cs)) (some i)=if rsh=sh∧g*gA rsh=cs.length∧i<g then some (.bt 4 (i*gA sh) id g) else none:=(rfl)
theorem zft {t id g:Nat}:DG (.bt 3 t id g)=some (.p (.int .i64 g)):=(rfl)
def apAr (sh:Sh)(h:aA)(t id g g':Nat):Option Obj→Option Obj→Option (AV×aA×Esc)
 | some (.arow rsh cs),some (.arow rsh' ds)=>if rsh=sh∧rsh'=sh∧g*gA sh=cs.length∧g'*gA sh=ds.length∧g+g'≤RA then
  some (.bt 3 t id (g+g'),h.set id (.arow sh (cs++ds)),bif decide (id<AV.tops ds) then [(id,AV.tops ds)] else []) else none
 | _,_=>none
theorem z9a {sh:Sh}{t id g t' id' g':Nat}:apA sh h (.bt 3 t id g) (.bt 3 t' id' g')=apAr sh h t id g g' h[id]? h[id']?:=by
 show(match h[id]?,h[id']? with|_,_=>_)=_
 unfold apAr;rfl
theorem z9c {sh rsh rsh':Sh}{t id g g':Nat}{cs ds:List AV}:apAr sh h t id g g' (some (.arow rsh cs)) (some (.arow rsh' ds))=if rsh=sh∧rsh'=sh∧g*gA sh=cs.length∧g'*gA sh=ds.length∧g+g'≤RA then
 some (.bt 3 t id (g+g'),h.set id (.arow sh (cs++ds)),bif decide (id<AV.tops ds) then [(id,AV.tops ds)] else []) else none:=(rfl)
theorem zbv:vC 0=none:=(rfl)
attribute [go_sem] zf1 zfp zet zeq zft z9a z9c zbv
attribute [go_sem] z63 z64 z1q z1s z1r CF z5a z4Z z6Y z6W zgl zlF z4e z4b z4d z4c z4a z3W z3Z z3X z3Y z3V z3R z3U z3S z3T z9o z91 z9v z9y z9z z9p z9q z9w z9u z9t z9s z9r z90 zlj zlk zlm zlA convI zfX zfY zjl zfw zfv zfz ext_t zdS zdT zdU zdZ zf3 zf4 z4C zfq zfr zlh zkS zli zkV zkU zkT zdH ze9 ze7 ze8 zew zes zev zer ze2 z0Z z4S z4L zF z6r upcB neqB lenB n64 z1T strB appB rds rd NN xC DN CG EN OA QN pH zbm zbl MN yR rH cE zR FD VN KI JI vK tK wR oClr oMx oMn DB LB TN ON xR RN zK yK
attribute [go_sem ↓] z5a z4Z z6Y z6W z4e z4b z4d z4c z4a z3W z3Z z3X z3Y z3V z3R z3U z3S z3T z1M z1L z63 z64 z1q z1s z1r z0Z z4S z4L z4G z4F z4H z61 z3B z3C
attribute [go_sem low] zej zeh
attribute [congr] z79 z78 zgk zlE zel zek zei
end Go.Am
end
section
/- The abstract machine,part X: the library's functions that have no Go text: comparing strings,finding a byte. -/
set_option linter.unusedSimpArgs false
set_option linter.unusedVariables false
namespace Go.Am
variable {P:Program}
structure ExtRow (P:Program) (f:Nat) (e:Array Value→Sem Value):Prop where
 row:∃fn,P.funcs[f]?=some fn∧fn.name ≠ "runtime.NumGoroutine" ∧ fn.body=none∧Extern.findNext fn=none∧Extern.find fn=some e
theorem ExtRow.run {f:Nat}{e:Array Value→Sem Value}(R:ExtRow P f e){us:Array Value}{w w':World}{x:Value}(he:(e us).run P w = .ok x w'):(callFunc f us).run P w = .ok (.value x) w':=by
 obtain⟨fn,h1,h2,h3,h4,h5⟩:=R.row;unfold callFunc;simp [h1,h2,h3,h4,h5,he]
theorem znf {f:Nat}{e:Array Value→Sem Value}(h:(match P.funcs[f]? with | some fn=>fn.name != "runtime.NumGoroutine" && fn.body.isNone&&(Extern.findNext fn).isNone | none=>false)=true)(h2:(P.funcs[f]?).bind Extern.find=some e):ExtRow P f e:=by
 cases hf:P.funcs[f]? with
 | none=>rw[hf]at h;cases h
 | some fn=>
  rw[hf]at h h2;simp only[Bool.and_eq_true,bne_iff_ne,ne_eq,Option.isNone_iff_eq_none]at h;exact⟨⟨fn,hf,h.1.1,h.1.2,h.2,h2⟩⟩
def PC (s:List UInt8)(c:UInt8):Int:=if s.findIdx (· == c)<s.length then(s.findIdx (· == c):Int) else -1
def lG:List UInt8→List UInt8→Int
 | [],[]=>0
 | [],_::_=>-1
 | _::_,[]=>1
 | a::asv,b::bs=>if a<b then -1 else if b<a then 1 else lG asv bs
theorem z1l (s:List UInt8)(i:Nat):(⟨s.toArray⟩:ByteArray)[i]! = s.getD i 0:=by
 by_cases h:i<s.length
 ·rw[getElem!_pos (⟨s.toArray⟩:ByteArray) i h]
  show s.toArray[i]=_
  simp [h]
 ·rw[getElem!_neg (⟨s.toArray⟩:ByteArray) i h]
  simp [Nat.not_lt.1 h];rfl
theorem zeb (s:List UInt8)(c:UInt8):(match (List.range (⟨s.toArray⟩:ByteArray).size).find? fun i=>(⟨s.toArray⟩:ByteArray)[i]! == c with
 | some i=>(i:Int)
 | none=>-1)=PC s c:=by
 have hsz:(⟨s.toArray⟩:ByteArray).size=s.length:=rfl
 have hget:∀i,i<s.length→(⟨s.toArray⟩:ByteArray)[i]! = s.getD i 0:=by
  intro i hi;exact z1l s i
 unfold PC;rw[hsz];by_cases h:s.findIdx (· == c)<s.length
 ·rw[if_pos h]
  have hf:(List.range s.length).find? (fun i=>(⟨s.toArray⟩:ByteArray)[i]! == c)=some (s.findIdx (· == c)):=by
   rw[List.find?_eq_some_iff_getElem];refine⟨?_,s.findIdx (· == c),by simpa using h,by simp,fun j hj=>?_⟩
   ·rw[hget _ h]
    have:=List.findIdx_getElem (w:=h);simpa [h] using this
   ·simp only[List.getElem_range]
    have hj':j<s.length:=by omega
    rw[hget _ hj'];have:=List.not_of_lt_findIdx hj;simpa [hj'] using this
  rw[hf]
 ·rw[if_neg h]
  have hf:(List.range s.length).find? (fun i=>(⟨s.toArray⟩:ByteArray)[i]! == c)=none:=by
   rw[List.find?_eq_none];intro i hi;rw[List.mem_range]at hi;rw[hget _ hi];intro hc;exact h (List.findIdx_lt_length_of_exists ⟨s[i],List.getElem_mem hi,by simpa [hi] using hc⟩)
  rw[hf]
theorem zbi:∀ (a b:List UInt8),Extern.BytealgCompare.cmp ⟨a.toArray⟩ ⟨b.toArray⟩=lG a b:=by
 have key:∀(a b:List UInt8),(match (List.range (min a.length b.length)).find? fun i=>a.getD i 0 != b.getD i 0 with
  | some i=>if a.getD i 0<b.getD i 0 then(-1:Int) else 1
  | none=>if a.length<b.length then -1 else if a.length>b.length then 1 else 0)=lG a b:=by
  intro a;induction a with
  | nil=>intro b;cases b <;> simp [lG]
  | cons x a ih=>
   intro b;cases b with
   | nil=>simp [lG]
   | cons y b=>
    have hm:min (x::a).length (y::b).length=min a.length b.length+1:=by simp only[List.length_cons];omega
    rw[hm,List.range_succ_eq_map,List.find?_cons];simp only[List.getD_cons_zero];by_cases hxy:x=y
    ·subst hxy
     have hlt:¬x<x:=UInt8.lt_irrefl x
     simp only[bne_self_eq_false,List.find?_map,lG,hlt,if_false];rw[←ih b];have hc:((fun i=>(x::a).getD i 0 != (x::b).getD i 0) ∘ Nat.succ)=fun i=>a.getD i 0 != b.getD i 0:=by
      funext i;simp
     rw[hc];cases (List.range (min a.length b.length)).find? fun i=>a.getD i 0 != b.getD i 0 with
     | none=>simp
     | some i=>simp
    ·have:(x != y)=true:=by simpa using hxy
     rw[this];simp only[lG,List.getD_cons_zero];by_cases h1:x<y
     ·simp [h1]
     ·have h2:y<x:=by
       rcases UInt8.lt_or_lt_of_ne (a:=x) (b:=y) hxy with h|h
       ·exact absurd h h1
       ·exact h
      simp [h1,h2]
 intro a b;rw[←key a b];unfold Extern.BytealgCompare.cmp;have sa:(⟨a.toArray⟩:ByteArray).size=a.length:=rfl
 have sb:(⟨b.toArray⟩:ByteArray).size=b.length:=rfl
 simp only[sa,sb,z1l];generalize List.find? _ _=q;cases q <;> rfl
def TJ (fi fc:Nat)(f:Nat)(vs:List PV):Option PV:=
 bif Nat.beq f fi then(match vs with
  | [.str s,.int .u8 c]=>some (.int .i64 (PC s (UInt8.ofNat c.toNat)))
  | _=>none)
 else bif Nat.beq f fc then(match vs with
  | [.str a,.str b]=>some (.int .i64 (lG a b))
  | _=>none)
 else none
theorem extF_ok {fi fc:Nat}(h1:ExtRow P fi Extern.BytealgIndexByte.indexByte)(h2:ExtRow P fc Extern.BytealgCompare.compare){f:Nat}{vs:List PV}{r:PV}(h:TJ fi fc f vs=some r):z0B P f vs r:=by
 intro M w us hM hl hr;unfold TJ at h;cases e1:Nat.beq f fi with
 | true=>
  rw[e1]at h;have e:=Nat.eq_of_beq_eq_true e1
  subst e;simp only[cond_true]at h;split at h
  ·rename_i s c
   injection h with h
   subst h;match us,hl with
   | [u,v],_=>
    have q1:=hr 0 _ u rfl rfl
    have q2:=hr 1 _ v rfl rfl
    cases q1;cases q2
    refine⟨.int .i64 (PC s (UInt8.ofNat c.toNat)),w,h1.run ?_,WExt.refl w,.int _ _⟩;rw[←zeb];show(match (List.range (⟨s.toArray⟩:ByteArray).size).find? fun i=>(⟨s.toArray⟩:ByteArray)[i]! == UInt8.ofNat c.toNat with|some i=>(pure (goInt i):Sem Value)|none=>pure (goInt (-1))).run P w=_
    generalize List.find? _ _=q;cases q <;> rfl
  ·cases h
 | false=>
  rw[e1]at h;simp only[cond_false]at h;cases e2:Nat.beq f fc with
  | true=>
   rw[e2]at h;have e:=Nat.eq_of_beq_eq_true e2
   subst e;simp only[cond_true]at h;split at h
   ·rename_i a b
    injection h with h
    subst h;match us,hl with
    | [u,v],_=>
     have q1:=hr 0 _ u rfl rfl
     have q2:=hr 1 _ v rfl rfl
     cases q1;cases q2
     refine⟨.int .i64 (lG a b),w,h2.run ?_,WExt.refl w,.int _ _⟩;rw[←zbi];rfl
   ·cases h
  | false=>rw[e2]at h;cases h
theorem zdO {X:Ctx}{f:Nat}{asv:List AV}{vs:List PV}{h h1:aA}{r:PV}{K:jA}(hf:X.fn f=none)(h2:X.ex2 f asv h=none)(hp:oA h asv=some (vs.map .p,h1))(hu:unp (vs.map AV.p)=some vs)(hx:X.ext f vs=some r):bA X f asv h K=K (.p r) h1 []:=by
 refine propext (bA.eq (bA.fold ?_) K);unfold jC;simp only[hf,h2,hp,hu,hx];exact⟨trivial,trivial,trivial⟩
structure GrowRow (P:Program) (f:Nat) (sh:Sh):Prop where
 enter:∀us w,(callFunc f us).run P w = .ok (.enter f us) w
 room:∀a w,Calls P f #[.slice a 0 0,.int .i64 0] w fun e w'=>e = .returned (.slice a 0 0)∧w'=w
 grow:∀a (n:Nat) w,0<n→n≤1048576→Calls P f #[.slice a 0 0,.int .i64 n] w fun e w'=>∃G cs E,e = .returned (.slice (some ⟨w.heap.size,0,none⟩) 0 G)∧cs.size=G*gA sh∧w'=w.drew.alloc (.cells cs E)
def oK:List (Nat × Sh)→Nat→List AV→aA→Option (AV × aA × Esc)
 | [],_,_,_=>none
 | (g,sh)::r,f,asv,h=>bif Nat.beq f g then(match asv with
  | [.sl0 _,.p (.int .i64 n)]=>bif decide (0≤n)&&decide (n≤1048576) then some (.own h.length 0 0 0,h++[.row sh [] 0],[]) else none
  | _=>none) else oK r f asv h
theorem z4s {gl:Nat→Option PV}:∀(gs:List (Nat×Sh)),(∀g sh,(g,sh)∈gs→GrowRow P g sh)→∀{f:Nat} {asv:List AV} {h:aA} {v:AV} {h':aA} {x:Esc},oK gs f asv h=some (v,h',x) →
 AC P gl f asv h fun v1 h1 x1=>v1=v∧h1=h'∧x1=x
 | [],_,f,asv,h,v,h',x,H=>by cases H
 | (g,sh)::r,hg,f,asv,h,v,h',x,H=>by
  unfold oK at H;cases e1:Nat.beq f g with
  | false=>
   rw[e1]at H;exact z4s r (fun g sh hm=>hg g sh (by simp [hm])) H
  | true=>
   rw[e1]at H;have e:=Nat.eq_of_beq_eq_true e1
   subst e;have R:=hg f sh (by simp)
   simp only[cond_true]at H;split at H
   ·rename_i sh' n
    cases hb:(decide (0≤n)&&decide (n≤1048576)) with
    | false=>rw[hb]at H;cases H
    | true=>
     rw[hb]at H;simp only[cond_true,Option.some.injEq,Prod.mk.injEq]at H;obtain⟨rfl,rfl,rfl⟩:=H;simp only[Bool.and_eq_true,decide_eq_true_eq]at hb;intro μ w vs Hh Hg hl hr;match vs,hl with
     | [u1,u2],_=>
      have q1:=hr 0 _ u1 rfl rfl
      have q2:=(hr 1 _ u2 rfl rfl).p_inv
      cases q1;cases q2
      obtain⟨m,hm⟩:=Int.eq_ofNat_of_zero_le hb.1;subst hm;refine .inl ⟨R.enter _,?_⟩;rcases Nat.eq_zero_or_pos m with h0|h0
      ·subst h0
       refine(R.room _ w).mono fun e w' he=>?_
       obtain⟨rfl,rfl⟩:=he;obtain⟨n1,n2⟩:=uR Hh sh;refine⟨_,_,_,_,⟨rfl,rfl,rfl⟩,?_,n1,n2,rA.push (by simp [Obj.top])⟩
       exact .own h.length 0 0 0 _ 0 sh [] 0 none (Nat.le_refl _) (by simp) (by rw[←Hh.len];simp) (by simp) (by simp) (fun _=>rfl)
      ·refine(R.grow _ m w h0 (by omega)).mono fun e w' he=>?_
       obtain⟨G,cs,E,rfl,hcs,rfl⟩:=he;have hw:WExt w (w.drew.alloc (.cells cs E)):=(WExt.drew w _).trans (WExt.push _ _)
       obtain⟨n1,n2⟩:=GI (sh:=sh) (xs:=[]) Hh hw (b:=w.heap.size) (n:=cs.size) (Nat.le_refl _) (by show w.heap.size<(w.heap.push _).size;simp) (c:=cs) (YA.push (w:=w.drew) cs E) (by simp) (by simp) (by simp)
       refine⟨_,_,_,_,⟨rfl,rfl,rfl⟩,?_,n1,n2,rA.push (by simp [Obj.top])⟩
       refine .own h.length 0 0 0 _ G sh [] 0 (some (w.heap.size,cs.size)) (Nat.zero_le _) (by simp) (by rw[←Hh.len];simp) (by simp) (by simp) (fun _=>?_)
       exact .inr ⟨by simp,by simp [hcs]⟩
   ·cases H
end Go.Am
end
section
/- Short words for the printed code. -/
set_option linter.all false
namespace Go.Am
instance {n:Nat}:OfNat Opd n:=⟨.t n⟩
abbrev GL:=Nat→Option PV
abbrev KT:=Ex→St→Prop
def cI (n:Int):Opd:=.c (.p (.int .i64 n))
def cT:Opd:=.c (.p (.bool true))
def cF:Opd:=.c (.p (.bool false))
def cS (s:List UInt8):Opd:=.c (.p (.str s))
def uO (d:Nat)(o:AO):AOp:=⟨some d,none,o⟩
def wO (o:AO):AOp:=⟨none,none,o⟩
def gD (d g:Nat)(b:Bool)(o:AO):AOp:=⟨some d,some (g,b),o⟩
def mV (d:Nat)(x:Opd):AOp:=⟨some d,none,.mv x⟩
def bN (d:Nat)(b:BinOp)(x y:Opd):AOp:=⟨some d,none,.bin b x y⟩
def cL (d f:Nat)(l:List Opd):AOp:=⟨some d,none,.call f l⟩
def lD (d:Nat)(s:Sh)(x:Opd):AOp:=⟨some d,none,.load s x⟩
def iA (d:Nat)(s:Sh)(x y:Opd):AOp:=⟨some d,none,.iaddr s x y⟩
def fA (d o:Nat)(s:Sh)(x:Opd):AOp:=⟨some d,none,.faddr o s x⟩
def sT (d:Nat)(s:Sh)(x y:Opd):AOp:=⟨some d,none,.store s x y⟩
def lN (d:Nat)(x:Opd):AOp:=⟨some d,none,.len x⟩
def eX (d:Nat)(x:Opd)(i:Nat):AOp:=⟨some d,none,.ext x i⟩
def dF (o:AOp)(l:List Nat):DOp:=⟨o,l,false,[],[]⟩
def dT (o:AOp)(l:List Nat):DOp:=⟨o,l,true,[],[]⟩
def dA (o:AOp)(l:List Nat)(e:Bool)(a b:List Nat):DOp:=⟨o,l,e,a,b⟩
def rg (l:List AOp)(k:List Nat):ACode:=.reg l (some k)
def dr (l:List DOp)(k:List Nat):ACode:=.draw l (some k)
end Go.Am
end
section
/- A function's formula,computed out of its code. -/
set_option linter.all false
namespace Go.Am
abbrev En:=List (Nat × AV)
variable {C:Hd} {gl:Nat→Option PV} {e:En} {h h':aA} {x y:Esc} {K:Ex→St→Prop} {s:St} {L:En→aA→Esc→Prop} {k:AV→aA→Esc→Prop} {ev:Opd→AV} {r:List AOp} {q:List DOp} {dn:FC} {hs:List aA} {Q:Prop}
abbrev Sf (C:Hd)(gl:Nat→Option PV)(c:ACode)(e:En)(h:aA)(x:Esc)(K:Ex→St→Prop):Type:={P:Prop // NW C gl c ⟨e,h,x⟩ K=P}
def gO (G:AO→(Opd→AV)→aA→(AV→aA→Esc→Prop)→Prop)(t:AV)(g:Bool)(o:AO)(ev:Opd→AV)(h:aA)(k:AV→aA→Esc→Prop):Prop:=gV t g h (G o ev h) k
theorem agetB {e:En}{n m:Nat}{v:AV}:kA ((n,v)::e) m=match Nat.beq n m with|true=>v|false=>kA e m:=by
 show(if n=m then v else kA e m)=_
 cases hb:Nat.beq n m with
 | true=>rw[if_pos (Nat.eq_of_beq_eq_true hb)]
 | false=>rw[if_neg (Nat.ne_of_beq_eq_false hb)]
theorem wA:(∀ {C:Hd} {gl:GL} {e:En} {h:aA} {x:Esc} {K:KT} {l:List Nat} {b:ACode},NW C gl (.pr l b) ⟨e,h,x⟩ K=NW C gl b ⟨CA (some l) e,h,x⟩ K) ∧
 (∀{C:Hd} {gl:GL} {K:KT} {s:St} {a b:ACode},NW C gl (.seq a b) s K=NW C gl a s (HG C gl b K)) ∧
 (∀{C:Hd} {gl:GL} {K:KT} {s:St} {i:Nat} {b:ACode},NW C gl (.block i b) s K=NW C gl b s (ED i K)) ∧
 (∀{C:Hd} {gl:GL} {e:En} {h:aA} {x:Esc} {K:KT} {c:Opd} {a b:ACode},NW C gl (.cond c a b) ⟨e,h,x⟩ K=mD (Opd.ev gl e c) (NW C gl a ⟨e,h,x⟩ K) (NW C gl b ⟨e,h,x⟩ K)) ∧
 (∀{C:Hd} {gl:GL} {e:En} {h:aA} {x:Esc} {K:KT} {c:Opd} {a b:ACode},NW C gl (.condu c a b) ⟨e,h,x⟩ K=fM (Opd.ev gl e c) (NW C gl a ⟨e,h,x⟩ K) (NW C gl b ⟨e,h,x⟩ K)) ∧
 (∀{C:Hd} {gl:GL} {K:KT} {s:St} {b:ACode},NW C gl (.det b) s K=NW C gl b s K) ∧
 (∀{C:Hd} {gl:GL} {K:KT} {s:St},NW C gl .skip s K=K .normal s) ∧
 (∀{C:Hd} {gl:GL} {K:KT} {s:St} {i:Nat},NW C gl (.exit i) s K=K (.exit i) s) ∧
 (∀{C:Hd} {gl:GL} {K:KT} {s:St},NW C gl .ret s K=K .ret s) ∧
 (∀{C:Hd} {gl:GL} {K:KT} {s:St},NW C gl .bad s K=False) ∧
 (∀{C:Hd} {gl:GL} {e:En} {h:aA} {x:Esc} {K:KT} {l:List AOp} {o:List Nat},NW C gl (.reg l (some o)) ⟨e,h,x⟩ K=BE C gl l e h x fun e h x=>K .normal ⟨CA (some o) e,h,x⟩) ∧
 (∀{C:Hd} {gl:GL} {e:En} {h:aA} {x:Esc} {K:KT} {l:List AOp},NW C gl (.reg l none) ⟨e,h,x⟩ K=BE C gl l e h x fun e h x=>K .normal ⟨e,h,x⟩) ∧
 (∀{C:Hd} {gl:GL} {e:En} {h:aA} {x:Esc} {K:KT} {l:List DOp} {o:List Nat},NW C gl (.draw l (some o)) ⟨e,h,x⟩ K=eE C gl l [] [] e h x fun e h x=>K .normal ⟨CA (some o) e,h,x⟩) ∧
 (∀{C:Hd} {gl:GL} {e:En} {h:aA} {x:Esc} {K:KT} {l:List DOp},NW C gl (.draw l none) ⟨e,h,x⟩ K=eE C gl l [] [] e h x fun e h x=>K .normal ⟨e,h,x⟩) ∧
 (∀{C:Hd} {gl:GL} {e:En} {h:aA} {x:Esc} {L:En→aA→Esc→Prop},BE C gl [] e h x L=L e h x) ∧
 (∀{C:Hd} {gl:GL} {e:En} {h:aA} {x:Esc} {L:En→aA→Esc→Prop} {r:List AOp} {d:Option Nat} {o:AO},BE C gl (⟨d,none,o⟩::r) e h x L=opC C o (Opd.ev gl e) h fun v h' x'=>BE C gl r (put d v e) h' (x'++x) L) ∧
 (∀{C:Hd} {gl:GL} {e:En} {h:aA} {x:Esc} {L:En→aA→Esc→Prop} {r:List AOp} {d:Option Nat} {t:Nat} {b:Bool} {o:AO},BE C gl (⟨d,some (t,b),o⟩::r) e h x L=gO (opC C) (kA e t) b o (Opd.ev gl e) h fun v h' x'=>BE C gl r (put d v e) h' (x'++x) L) ∧
 (∀{C:Hd} {gl:GL} {e:En} {h:aA} {x:Esc} {L:En→aA→Esc→Prop} {dn:FC} {hs:List aA},eE C gl [] dn hs e h x L=L e h x) ∧
 (∀{C:Hd} {gl:GL} {e:En} {h:aA} {x:Esc} {L:En→aA→Esc→Prop} {q:List DOp} {dn:FC} {hs:List aA} {d:Option Nat} {o:AO} {rd a b:List Nat} {f:Bool},eE C gl (⟨⟨d,none,o⟩,rd,f,a,b⟩::q) dn hs e h x L=opE C o (Opd.ev gl (CA (some rd) e)) h fun v h' y=>
  bH o.still f h h' y (pE C gl ⟨d,none,o⟩ (CA (some rd) e) v hs (fE C gl h' dn (eE C gl q (dn++[(⟨d,none,o⟩,CA (some rd) e,v)]) (hs++[h]) (put d v e) h' (y++x) L) b) a)) ∧
 (∀{C:Hd} {gl:GL} {e:En} {h:aA} {x:Esc} {L:En→aA→Esc→Prop} {q:List DOp} {dn:FC} {hs:List aA} {d:Option Nat} {t:Nat} {g:Bool} {o:AO} {rd a b:List Nat} {f:Bool},eE C gl (⟨⟨d,some (t,g),o⟩,rd,f,a,b⟩::q) dn hs e h x L=gO (opE C) (kA (CA (some rd) e) t) g o (Opd.ev gl (CA (some rd) e)) h fun v h' y=>
  bH o.still f h h' y (pE C gl ⟨d,some (t,g),o⟩ (CA (some rd) e) v hs (fE C gl h' dn (eE C gl q (dn++[(⟨d,some (t,g),o⟩,CA (some rd) e,v)]) (hs++[h]) (put d v e) h' (y++x) L) b) a)) ∧
 (∀{h':aA} {h:aA} {y:Esc} {Q:Prop} {b:Bool},bH b true h h' y Q=Q) ∧
 (∀{h':aA} {h:aA} {y:Esc} {Q:Prop},bH true false h h' y Q=Q) ∧
 (∀{h':aA} {h:aA} {y:Esc} {Q:Prop},bH false false h h' y Q=((h'=h∧y=[])∧Q)) ∧
 (∀{C:Hd} {gl:GL} {h:aA} {dn:FC} {Q:Prop},fE C gl h dn Q []=Q) ∧
 (∀{C:Hd} {gl:GL} {h:aA} {dn:FC} {Q:Prop} {j:Nat} {l:List Nat},fE C gl h dn Q (j::l)=((match dn[j]? with|some q=>aJ C gl q h|none=>False)∧fE C gl h dn Q l)) ∧
 (∀{C:Hd} {gl:GL} {e:En} {hs:List aA} {Q:Prop} {o:AOp} {v:AV},pE C gl o e v hs Q []=Q) ∧
 (∀{C:Hd} {gl:GL} {e:En} {hs:List aA} {Q:Prop} {o:AOp} {v:AV} {j:Nat} {l:List Nat},pE C gl o e v hs Q (j::l)=((match hs[j]? with|some g=>aJ C gl (o,e,v) g|none=>False)∧pE C gl o e v hs Q l)) ∧
 (∀{C:Hd} {gl:GL} {e:En} {d:Option Nat} {o:AO} {v:AV} {g:aA},aJ C gl (⟨d,none,o⟩,e,v) g=opE C o (Opd.ev gl e) g fun v1 h1 x1=>v1=v∧h1=g∧x1=[]) ∧
 (∀{C:Hd} {gl:GL} {e:En} {d:Option Nat} {t:Nat} {b:Bool} {o:AO} {v:AV} {g:aA},aJ C gl (⟨d,some (t,b),o⟩,e,v) g=gO (opE C) (kA e t) b o (Opd.ev gl e) g fun v1 h1 x1=>v1=v∧h1=g∧x1=[]) ∧
 (∀{e:En} {d:Nat} {v:AV},put (some d) v e=(d,v)::e) ∧
 (∀{e:En} {v:AV},put none v e=e) ∧
 (∀{e:En} {n:Nat} {l:List Nat},CA (some (n::l)) e=(n,kA e n)::CA (some l) e) ∧
 (∀{e:En},CA (some []) e=[]) ∧
 (∀{e:En} {n m:Nat} {v:AV},kA ((n,v)::e) m=match Nat.beq n m with|true=>v|false=>kA e m) ∧
 (∀{gl:GL} {e:En} {n:Nat},Opd.ev gl e (.t n)=kA e n) ∧
 (∀{gl:GL} {e:En} {v:AV},Opd.ev gl e (.c v)=v) ∧
 (∀{gl:GL} {e:En} {n:Nat},Opd.ev gl e (.f n) = .fn n []) ∧
 (∀{gl:GL} {e:En} {n:Nat},Opd.ev gl e (.g n)=gv gl n) ∧
 (∀{n:Nat},(OfNat.ofNat n:Opd) = .t n) ∧
 (∀{C:Hd} {h:aA} {k:AV→aA→Esc→Prop} {ev:Opd→AV} {a:Opd},opC C (.mnext none [a]) ev h k=nxK (ev a) h k) ∧
 (∀{C:Hd} {h:aA} {k:AV→aA→Esc→Prop} {ev:Opd→AV} {sh:Sh} {l:List Opd},opC C (.mnext (some sh) l) ev h k=nqK (some sh) (ev1 ev l) h k) ∧
 (∀{C:Hd} {h:aA} {k:AV→aA→Esc→Prop} {ev:Opd→AV} {f:Nat} {a:List Opd},opC C (.call f a) ev h k=C f (ev1 ev a) h k) ∧
 (∀{C:Hd} {h:aA} {k:AV→aA→Esc→Prop} {ev:Opd→AV} {f:Opd} {a:List Opd},opC C (.callv f a) ev h k=OG C (ev f) (ev1 ev a) h k) ∧
 (∀{C:Hd} {h:aA} {k:AV→aA→Esc→Prop} {ev:Opd→AV} {f:Nat} {a:List Opd},opE C (.call f a) ev h k=UE C f (ev1 ev a) h k) ∧
 (∀{C:Hd} {h:aA} {k:AV→aA→Esc→Prop} {ev:Opd→AV} {f:Opd} {a:List Opd},opE C (.callv f a) ev h k=NG C (ev f) (ev1 ev a) h k) ∧
 (∀{ev:Opd→AV},ev1 ev []=[]) ∧
 (∀{ev:Opd→AV} {a:Opd} {l:List Opd},ev1 ev (a::l)=ev a::ev1 ev l) ∧
 (∀{ev:Opd→AV},ev2 ev []=[]) ∧
 (∀{ev:Opd→AV} {n:Nat} {a:Opd} {l:List (Nat×Opd)},ev2 ev ((n,a)::l)=(n,ev a)::ev2 ev l) ∧
 (∀{ev:Opd→AV},ev3 ev []=[]) ∧
 (∀{ev:Opd→AV} {n m:Nat} {a:Opd} {l:List (Nat×Nat×Opd)},ev3 ev ((n,m,a)::l)=(n,m,ev a)::ev3 ev l) ∧
 (∀{ev:Opd→AV},evO ev none=none) ∧
 (∀{ev:Opd→AV} {a:Opd},evO ev (some a)=some (ev a)):=
 ⟨(by intros;rfl),(by intros;rfl),(by intros;rfl),(by intros;rfl),(by intros;rfl),(by intros;rfl),(by intros;rfl),(by intros;rfl),(by intros;rfl),(by intros;rfl),(by intros;rfl),(by intros;rfl),(by intros;rfl),(by intros;rfl),(by intros;rfl),(by intros;rfl),(by intros;rfl),(by intros;rfl),(by intros;rfl),(by intros;rfl),(by intros;rfl),(by intros;rfl),(by intros;rfl),(by intros;rfl),(by intros;rfl),(by intros;rfl),(by intros;rfl),(by intros;rfl),(by intros;rfl),(by intros;rfl),(by intros;rfl),(by intros;rfl),(by intros;rfl),(by intro e n m v;exact agetB),(by intros;rfl),(by intros;rfl),(by intros;rfl),(by intros;rfl),(by intros;rfl),(by intros;rfl),(by intros;rfl),(by intros;rfl),(by intros;rfl),(by intros;rfl),(by intros;rfl),(by intros;rfl),(by intros;rfl),(by intros;rfl),(by intros;rfl),(by intros;rfl),(by intros;rfl),(by intros;rfl),(by intros;rfl)⟩
abbrev OpW (G:AO→(Opd→AV)→aA→(AV→aA→Esc→Prop)→Prop):Prop:=∀{ev:Opd→AV} {h:aA} {k:AV→aA→Esc→Prop},
 (∀{x},G (.mv x) ev h k=k (ev x) h [])∧(∀{c a b},G (.pick c a b) ev h k=pK (UN (ev c) (ev a) (ev b)) fun v=>k v h [])∧(∀{z},G (.alloc z) ev h k=alK z h k) ∧
 (∀{x},G (.box x) ev h k=wK (NN (ev x) h) k)∧(∀{z ps},G (.build z ps) ev h k=pK (xC z (ev3 ev ps)) fun v=>k v h [])∧(∀{o sh n z ps},G (.bsl o sh n z ps) ev h k=wK (CG o sh n z (ev2 ev ps) h) k) ∧
 (∀{sh a},G (.load sh a) ev h k=pK (eC sh (ev a) h) fun v=>k v h [])∧(∀{sh a x},G (.store sh a x) ev h k=wK (nF sh (ev a) (ev x) h) k)∧(∀{x},G (.nilchk x) ev h k=pK (uE (ev x)) fun v=>k v h []) ∧
 (∀{o x y},G (.bin o x y) ev h k=pK (gB o (ev x) (ev y)) fun v=>k v h [])∧(∀{l n x y},G (.eqa l n x y) ev h k=pK (OA l n (ev x) (ev y)) fun v=>k v h [])∧(∀{n b x},G (.isnil n b x) ev h k=pK (QN n b (ev x)) fun v=>k v h []) ∧
 (∀{x},G (.mkif x) ev h k=pK (yR (ev x)) fun v=>k v h [])∧(∀{o x},G (.un o x) ev h k=pK (oUn o (ev x)) fun v=>k v h [])∧(∀{c x},G (.conv (.i c) x) ev h k=pK (uK c (ev x)) fun v=>k v h []) ∧
 (∀{f l},G (.mkfn f l) ev h k=k (.fn f (ev1 ev l)) h [])∧(∀{sh x a b c},G (.slice sh x a b c) ev h k=pK (KI sh (ev x) (evO ev a) (evO ev b) (evO ev c) h) fun v=>k v h [])∧(∀{x a b},G (.slstr x a b) ev h k=pK (VN (ev x) (evO ev a) (evO ev b)) fun v=>k v h []) ∧
 (∀{sh z a b},G (.mksl sh z a b) ev h k=wK (zR sh z (ev a) (ev b) h) k)∧(∀{o sh x},G (.faddr o sh x) ev h k=pK (SC o sh (ev x)) fun v=>k v h [])∧(∀{o sh x},G (.field o sh x) ev h k=pK (PN o sh (ev x)) fun v=>k v h []) ∧
 (∀{sh x i},G (.iaddr sh x i) ev h k=pK (tE sh (ev x) (ev i) h) fun v=>k v h [])∧(∀{n sh x i},G (.iaddra n sh x i) ev h k=pK (JI n sh (ev x) (ev i)) fun v=>k v h [])∧(∀{n sh x i},G (.idxa n sh x i) ev h k=pK (vK n sh (ev x) (ev i)) fun v=>k v h []) ∧
 (∀{x i},G (.idxs x i) ev h k=pK (xK (ev x) (ev i)) fun v=>k v h [])∧(∀{x i},G (.ext x i) ev h k=pK (II (ev x) i) fun v=>k v h [])∧(∀{x},G (.len x) ev h k=pK (DG (ev x)) fun v=>k v h [])∧(∀{x},G (.lens x) ev h k=pK (SN (ev x)) fun v=>k v h []) ∧
 (∀{sh a x},G (.app sh a x) ev h k=wK (tK sh (ev a) (ev x) h) k)∧(∀{sh a x},G (.copy sh a x) ev h k=wK (wR sh (ev a) (ev x) h) k)∧(∀{m t l},G (.uns m t l) ev h k=wK (zF m t (ev1 ev l) h) k)∧(∀{sh z x},G (.clr sh z x) ev h k=wK (oClr sh z (ev x) h) k) ∧
 (∀{l},G (.mx l) ev h k=pK (oMx (ev1 ev l)) fun v=>k v h [])∧(∀{l},G (.mn l) ev h k=pK (oMn (ev1 ev l)) fun v=>k v h [])∧(∀{sh},G (.new0 sh) ev h k=nwK sh h k)∧(∀{x},G (.conv .s2b x) ev h k=wK (cE .s2b (ev x) h) k)∧(∀{x},G (.conv .b2s x) ev h k=wK (cE .b2s (ev x) h) k) ∧
 (∀{x},G (.conv .r2s x) ev h k=wK (cE .r2s (ev x) h) k)∧(∀{x},G (.conv .same x) ev h k=wK (cE .same (ev x) h) k)∧(G .mkmap ev h k=mmK h k)∧(∀{n o z x y},G (.look n o z x y) ev h k=pK (DB n o z (ev x) (ev y) h) fun v=>k v h [])∧(∀{n m y x},G (.mupd n m y x) ev h k=wK (LB n (ev m) (ev y) (ev x) h) k) ∧
 (∀{n z m y},G (.ment n z m y) ev h k=wK (TN n z (ev m) (ev y) h) k)∧(∀{m a x},G (.estore m a x) ev h k=wK (ON (ev m) (ev a) (ev x) h) k)∧(∀{n m y},G (.mdel n m y) ev h k=wK (xR n (ev m) (ev y) h) k)∧(∀{x},G (.lenm x) ev h k=pK (RN (ev x) h) fun v=>k v h []) ∧
 (∀{x},G (.mrange x) ev h k=wK (zK (ev x) h) k)∧(∀{i},G (.mentry i) ev h k=wK (yK (ev i) h) k)
theorem w_op:∀ G,(G=opC C∨G=opE C)→OpW G:=by
 rintro G (rfl|rfl) <;> refine fun {_ _ _}=>⟨?_,?_,?_,?_,?_,?_,?_,?_,?_,?_,?_,?_,?_,?_,?_,?_,?_,?_,?_,?_,?_,?_,?_,?_,?_,?_,?_,?_,?_,?_,?_,?_,?_,?_,?_,?_,?_,?_,?_,?_,?_,?_,?_,?_,?_,?_,?_,?_⟩ <;> intros <;> rfl
theorem w_oc:OpW (opC C):=w_op _ (.inl rfl)
theorem w_oe:OpW (opE C):=w_op _ (.inr rfl)
abbrev OpG (G:AO→(Opd→AV)→aA→(AV→aA→Esc→Prop)→Prop):Prop:=∀{t:AV} {g:Bool} {ev:Opd→AV} {h:aA} {k:AV→aA→Esc→Prop},
 (∀{x},gO G t g (.mv x) ev h k=gM t g (ev x) h k) ∧
 (∀{c a b},gO G t g (.pick c a b) ev h k=gP t g (UN (ev c) (ev a) (ev b)) h k) ∧
 (∀{z},gO G t g (.alloc z) ev h k=gV t g h (fun k=>alK z h k) k) ∧
 (∀{x},gO G t g (.box x) ev h k=gV t g h (fun k=>wK (NN (ev x) h) k) k) ∧
 (∀{z ps},gO G t g (.build z ps) ev h k=gP t g (xC z (ev3 ev ps)) h k) ∧
 (∀{o sh n z ps},gO G t g (.bsl o sh n z ps) ev h k=gV t g h (fun k=>wK (CG o sh n z (ev2 ev ps) h) k) k) ∧
 (∀{sh a},gO G t g (.load sh a) ev h k=gP t g (eC sh (ev a) h) h k) ∧
 (∀{sh a x},gO G t g (.store sh a x) ev h k=gV t g h (fun k=>wK (nF sh (ev a) (ev x) h) k) k) ∧
 (∀{x},gO G t g (.nilchk x) ev h k=gP t g (uE (ev x)) h k) ∧
 (∀{o x y},gO G t g (.bin o x y) ev h k=gP t g (gB o (ev x) (ev y)) h k) ∧
 (∀{l n x y},gO G t g (.eqa l n x y) ev h k=gP t g (OA l n (ev x) (ev y)) h k) ∧
 (∀{n b x},gO G t g (.isnil n b x) ev h k=gP t g (QN n b (ev x)) h k) ∧
 (∀{x},gO G t g (.mkif x) ev h k=gP t g (yR (ev x)) h k) ∧
 (∀{o x},gO G t g (.un o x) ev h k=gP t g (oUn o (ev x)) h k) ∧
 (∀{c x},gO G t g (.conv (.i c) x) ev h k=gP t g (uK c (ev x)) h k) ∧
 (∀{f l},gO G t g (.mkfn f l) ev h k=gM t g (.fn f (ev1 ev l)) h k) ∧
 (∀{sh x a b c},gO G t g (.slice sh x a b c) ev h k=gP t g (KI sh (ev x) (evO ev a) (evO ev b) (evO ev c) h) h k) ∧
 (∀{x a b},gO G t g (.slstr x a b) ev h k=gP t g (VN (ev x) (evO ev a) (evO ev b)) h k) ∧
 (∀{sh z a b},gO G t g (.mksl sh z a b) ev h k=gV t g h (fun k=>wK (zR sh z (ev a) (ev b) h) k) k) ∧
 (∀{o sh x},gO G t g (.faddr o sh x) ev h k=gP t g (SC o sh (ev x)) h k) ∧
 (∀{o sh x},gO G t g (.field o sh x) ev h k=gP t g (PN o sh (ev x)) h k) ∧
 (∀{sh x i},gO G t g (.iaddr sh x i) ev h k=gP t g (tE sh (ev x) (ev i) h) h k) ∧
 (∀{n sh x i},gO G t g (.iaddra n sh x i) ev h k=gP t g (JI n sh (ev x) (ev i)) h k) ∧
 (∀{n sh x i},gO G t g (.idxa n sh x i) ev h k=gP t g (vK n sh (ev x) (ev i)) h k) ∧
 (∀{x i},gO G t g (.idxs x i) ev h k=gP t g (xK (ev x) (ev i)) h k) ∧
 (∀{x i},gO G t g (.ext x i) ev h k=gP t g (II (ev x) i) h k) ∧
 (∀{x},gO G t g (.len x) ev h k=gP t g (DG (ev x)) h k) ∧
 (∀{x},gO G t g (.lens x) ev h k=gP t g (SN (ev x)) h k) ∧
 (∀{sh a x},gO G t g (.app sh a x) ev h k=gV t g h (fun k=>wK (tK sh (ev a) (ev x) h) k) k) ∧
 (∀{sh a x},gO G t g (.copy sh a x) ev h k=gV t g h (fun k=>wK (wR sh (ev a) (ev x) h) k) k) ∧
 (∀{m t2 l},gO G t g (.uns m t2 l) ev h k=gV t g h (fun k=>wK (zF m t2 (ev1 ev l) h) k) k) ∧
 (∀{sh z x},gO G t g (.clr sh z x) ev h k=gV t g h (fun k=>wK (oClr sh z (ev x) h) k) k) ∧
 (∀{l},gO G t g (.mx l) ev h k=gP t g (oMx (ev1 ev l)) h k) ∧
 (∀{l},gO G t g (.mn l) ev h k=gP t g (oMn (ev1 ev l)) h k) ∧
 (∀{sh},gO G t g (.new0 sh) ev h k=gV t g h (fun k=>nwK sh h k) k) ∧
 (∀{x},gO G t g (.conv .s2b x) ev h k=gV t g h (fun k=>wK (cE .s2b (ev x) h) k) k) ∧
 (∀{x},gO G t g (.conv .b2s x) ev h k=gV t g h (fun k=>wK (cE .b2s (ev x) h) k) k) ∧
 (∀{x},gO G t g (.conv .r2s x) ev h k=gV t g h (fun k=>wK (cE .r2s (ev x) h) k) k) ∧
 (∀{x},gO G t g (.conv .same x) ev h k=gV t g h (fun k=>wK (cE .same (ev x) h) k) k) ∧
 (gO G t g .mkmap ev h k=gV t g h (fun k=>mmK h k) k) ∧
 (∀{n o z x y},gO G t g (.look n o z x y) ev h k=gP t g (DB n o z (ev x) (ev y) h) h k) ∧
 (∀{n m y x},gO G t g (.mupd n m y x) ev h k=gV t g h (fun k=>wK (LB n (ev m) (ev y) (ev x) h) k) k) ∧
 (∀{n z m y},gO G t g (.ment n z m y) ev h k=gV t g h (fun k=>wK (TN n z (ev m) (ev y) h) k) k) ∧
 (∀{m a x},gO G t g (.estore m a x) ev h k=gV t g h (fun k=>wK (ON (ev m) (ev a) (ev x) h) k) k) ∧
 (∀{n m y},gO G t g (.mdel n m y) ev h k=gV t g h (fun k=>wK (xR n (ev m) (ev y) h) k) k) ∧
 (∀{x},gO G t g (.lenm x) ev h k=gP t g (RN (ev x) h) h k) ∧
 (∀{x},gO G t g (.mrange x) ev h k=gV t g h (fun k=>wK (zK (ev x) h) k) k) ∧
 (∀{i},gO G t g (.mentry i) ev h k=gV t g h (fun k=>wK (yK (ev i) h) k) k)
theorem w_og:∀ G,(G=opC C∨G=opE C)→OpG G:=by
 rintro G (rfl|rfl) <;> refine fun {_ _ _ _ _}=>⟨?_,?_,?_,?_,?_,?_,?_,?_,?_,?_,?_,?_,?_,?_,?_,?_,?_,?_,?_,?_,?_,?_,?_,?_,?_,?_,?_,?_,?_,?_,?_,?_,?_,?_,?_,?_,?_,?_,?_,?_,?_,?_,?_,?_,?_,?_,?_,?_⟩ <;> intros <;> rfl
theorem w_gc:OpG (opC C):=w_og _ (.inl rfl)
theorem w_ge:OpG (opE C):=w_og _ (.inr rfl)
theorem wG:(∀ {C:Hd} {t:AV} {g:Bool} {f:Nat} {a:List Opd} {ev:Opd→AV} {h:aA} {k:AV→aA→Esc→Prop},gO (opC C) t g (.call f a) ev h k=gV t g h (C f (ev1 ev a) h) k)∧(∀ {C:Hd} {t:AV} {g:Bool} {f:Opd} {a:List Opd} {ev:Opd→AV} {h:aA} {k:AV→aA→Esc→Prop},gO (opC C) t g (.callv f a) ev h k=gV t g h (OG C (ev f) (ev1 ev a) h) k) ∧
 (∀{C:Hd} {t:AV} {g:Bool} {f:Nat} {a:List Opd} {ev:Opd→AV} {h:aA} {k:AV→aA→Esc→Prop},gO (opE C) t g (.call f a) ev h k=gV t g h (UE C f (ev1 ev a) h) k)∧(∀{C:Hd} {t:AV} {g:Bool} {f:Opd} {a:List Opd} {ev:Opd→AV} {h:aA} {k:AV→aA→Esc→Prop},gO (opE C) t g (.callv f a) ev h k=gV t g h (NG C (ev f) (ev1 ev a) h) k):=⟨rfl,rfl,rfl,rfl⟩
theorem wB:(∀ {α:Type} {l:List α},[]++l=l)∧(∀ {α:Type} {a:α} {l m:List α},a::l++m=a::(l++m))∧(∀ {α:Type} {a:α} {l:List α},(a::l)[0]?=some a)∧(∀ {α:Type} {a:α} {l:List α} {i:Nat},(a::l)[i+1]?=l[i]?) ∧
 (∀{C:Hd} {gl:GL} {b:ACode} {K:KT} {s:St},HG C gl b K .normal s=NW C gl b s K)∧(∀{C:Hd} {gl:GL} {b:ACode} {K:KT} {s:St} {i:Nat},HG C gl b K (.exit i) s=K (.exit i) s)∧(∀{C:Hd} {gl:GL} {b:ACode} {K:KT} {s:St},HG C gl b K .ret s=K .ret s) ∧
 (∀{i:Nat} {K:KT} {s:St},ED i K .normal s=K .normal s)∧(∀{i j:Nat} {K:KT} {s:St},ED i K (.exit j) s=match Nat.beq j i with|true=>K .normal s|false=>K (.exit j) s)∧(∀{i:Nat} {K:KT} {s:St},ED i K .ret s=K .ret s):=
 ⟨by intros;rfl,by intros;rfl,by intros;rfl,by intros;rfl,by intros;rfl,by intros;rfl,by intros;rfl,by intros;rfl,by intro i j K s;show(bif Nat.beq j i then _ else _)=_;cases Nat.beq j i <;> rfl,by intros;rfl⟩
theorem wS:(∀ {n:Int},cI n = .c (.p (.int .i64 n)))∧(cT = .c (.p (.bool true)))∧(cF = .c (.p (.bool false)))∧(∀ {l:List UInt8},cS l = .c (.p (.str l)))∧(∀ {d:Nat} {o:AO},uO d o=⟨some d,none,o⟩)∧(∀ {o:AO},wO o=⟨none,none,o⟩)∧(∀ {d g:Nat} {b:Bool} {o:AO},gD d g b o=⟨some d,some (g,b),o⟩)∧(∀ {d:Nat} {x:Opd},mV d x=⟨some d,none,.mv x⟩) ∧
 (∀{d:Nat} {b:BinOp} {x y:Opd},bN d b x y=⟨some d,none,.bin b x y⟩)∧(∀{d f:Nat} {l:List Opd},cL d f l=⟨some d,none,.call f l⟩)∧(∀{d:Nat} {s:Sh} {x:Opd},lD d s x=⟨some d,none,.load s x⟩)∧(∀{d:Nat} {s:Sh} {x y:Opd},iA d s x y=⟨some d,none,.iaddr s x y⟩)∧(∀{d o:Nat} {s:Sh} {x:Opd},fA d o s x=⟨some d,none,.faddr o s x⟩) ∧
 (∀{d:Nat} {s:Sh} {x y:Opd},sT d s x y=⟨some d,none,.store s x y⟩)∧(∀{d:Nat} {x:Opd},lN d x=⟨some d,none,.len x⟩)∧(∀{d:Nat} {x:Opd} {i:Nat},eX d x i=⟨some d,none,.ext x i⟩)∧(∀{o:AOp} {l:List Nat},dF o l=⟨o,l,false,[],[]⟩)∧(∀{o:AOp} {l:List Nat},dT o l=⟨o,l,true,[],[]⟩)∧(∀{o:AOp} {l:List Nat} {e:Bool} {a b:List Nat},dA o l e a b=⟨o,l,e,a,b⟩) ∧
 (∀{l:List AOp} {k:List Nat},rg l k = .reg l (some k))∧(∀{l:List DOp} {k:List Nat},dr l k = .draw l (some k)):=
 ⟨rfl,rfl,rfl,rfl,rfl,rfl,rfl,rfl,rfl,rfl,rfl,rfl,rfl,rfl,rfl,rfl,rfl,rfl,rfl,rfl,rfl⟩
def wZ:=And.intro wA (And.intro wB (And.intro @w_oc (And.intro @w_oe (And.intro @w_gc (And.intro @w_ge (And.intro wG wS))))))
end Go.Am
end
section
/- The functions asv abstract code,and asv formulas over their values: printed by program out of the translation. -/
set_option linter.all false
set_option maxRecDepth 100000
namespace Go.Am
def MR:ACode:=.pr [3,4,6,7,8,39,40] (rg [mV 50 8,
mV 51 7,
fA 52 3 none 6,
lD 53 none 52,
iA 54 (some 2) 53 (cI 0),
fA 55 1 none 54,
lD 56 none 55,
uO 57 (.callv 51 [56]),
uO 58 (.build [.p (.int .i64 0),.p (.int .i64 0),.p (.int .i64 0),.p (.str []),.p (.str []),.p (.str [])] [(0,1,(cI 8)),(3,1,57)]),
uO 59 (.bsl false (some 6) 1 (.agg [.int .i64 0,.int .i64 0,.int .i64 0,.str [],.str [],.str []]) [(0,58)]),
uO 60 (.app (some 6) 50 59),
mV 8 60] [3,4,6,7,8,39,40])
def uJ (C:Hd)(gl:GL)(e:En)(h:aA)(x:Esc)(K:KT):Sf C gl MR e h x K:=⟨_,by simp only[MR,↓wZ,AO.still];rfl⟩
theorem DQ {C gl e h x K}:NW C gl MR ⟨e,h,x⟩ K=(uJ C gl e h x K).1:=(uJ C gl e h x K).2
def NR:ACode:=.pr [3,4,6,7,8,39,40] (rg [bN 61 .add 40 (cI 1),
mV 40 61] [3,4,6,7,8,39,40])
def vJ (C:Hd)(gl:GL)(e:En)(h:aA)(x:Esc)(K:KT):Sf C gl NR e h x K:=⟨_,by simp only[NR,↓wZ,AO.still];rfl⟩
theorem FQ {C gl e h x K}:NW C gl NR ⟨e,h,x⟩ K=(vJ C gl e h x K).1:=(vJ C gl e h x K).2
def HK:ACode:=.pr [3,4,6,7,8,39,40] (.seq (rg [bN 41 .lss 40 39] [3,4,6,7,8,39,40,41])
(.seq (.cond 41 .skip
(.exit 0))
(.seq (.block 1 (.seq (.seq (rg [lD 42 none 3,
cL 43 NF [42,(cI 4)]] [3,4,6,7,8,39,40,43])
(.cond 43 (rg [mV 44 8,
lD 45 none 3,
cL 46 OF [45,(cI 0),(cI 3)],
uO 47 (.build [.p (.int .i64 0),.p (.int .i64 0),.p (.int .i64 0),.p (.str []),.p (.str []),.p (.str [])] [(0,1,(cI 9)),(2,1,46)]),
uO 48 (.bsl false (some 6) 1 (.agg [.int .i64 0,.int .i64 0,.int .i64 0,.str [],.str [],.str []]) [(0,47)]),
uO 49 (.app (some 6) 44 48),
mV 8 49] [3,4,6,7,8,39,40])
.skip))
MR))
NR)))
def dI (C:Hd)(gl:GL)(e:En)(h:aA)(x:Esc)(K:KT):Sf C gl HK e h x K:=⟨_,by simp only[HK,↓wZ,AO.still];rfl⟩
theorem HM {C gl e h x K}:NW C gl HK ⟨e,h,x⟩ K=(dI C gl e h x K).1:=(dI C gl e h x K).2
theorem zeK {C gl e h x K}:NW C gl (.loop (.scope HK)) ⟨e,h,x⟩ K=ZA C gl (.scope HK) K [(3,kA e 3),(4,kA e 4),(6,kA e 6),(7,kA e 7),(8,kA e 8),(39,kA e 39),(40,kA e 40)] h x:=WC
def OR:ACode:=.pr [4,6,8] (.seq (rg [mV 63 4,
fA 64 0 none 6,
lD 65 none 64,
mV 66 8,
cL 67 xI [63,65,66],
mV 62 67,
eX 68 62 0,
eX 69 62 1,
mV 9 68,
mV 10 69] [4,6,8,9,10])
(.seq (rg [lD 71 (some 5) 6,
uO 72 (.bsl false (some 5) 1 (.agg [.str [],.int .i64 0,.int .i64 0,.sl (some 2) [],.sl (some 2) []]) [(0,71)]),
mV 73 8,
cL 74 kH [72,73],
mV 70 74,
eX 75 70 0,
eX 76 70 1,
mV 11 75,
mV 12 76] [4,8,9,10,11,12])
(.seq (rg [mV 78 4,
mV 79 9,
cL 80 kH [78,79],
mV 77 80,
eX 81 77 0,
eX 82 77 1,
mV 13 81,
mV 14 82] [8,9,10,11,12,13,14])
(.seq (rg [mV 83 10,
mV 84 12,
mV 85 14,
uO 86 (.bsl false none 3 (.int .i64 0) [(0,83),(1,84),(2,85)]),
cL 87 oI [86],
bN 88 .eql 87 (cI 0),
mV 89 88,
gD 90 89 true (.mv 9),
gD 91 89 true (.len 90),
gD 92 89 true (.mv 8),
gD 93 89 true (.len 92),
gD 94 89 true (.bin .add 93 (cI 4)),
gD 95 89 true (.bin .eql 91 94),
uO 96 (.pick 89 95 cF),
mV 97 96,
gD 98 97 true (.mv 13),
gD 99 97 true (.len 98),
gD 100 97 true (.mv 9),
gD 101 97 true (.len 100),
gD 102 97 true (.bin .eql 99 101),
uO 103 (.pick 97 102 cF),
mV 104 103,
gD 105 104 true (.mv 13),
gD 106 104 true (.slice none 105 (some (cI 4)) none none),
gD 107 104 true (.mv 11),
gD 108 104 true (.call iN [106,107]),
uO 109 (.pick 104 108 cF),
mV 110 109,
gD 111 110 true (.call pI []),
uO 112 (.pick 110 111 cF),
mV 2 112] [2])
.ret))))
def kM (C:Hd)(gl:GL)(e:En)(h:aA)(x:Esc)(K:KT):Sf C gl OR e h x K:=⟨_,by simp only[OR,↓wZ,AO.still];rfl⟩
theorem OW {C gl e h x K}:NW C gl OR ⟨e,h,x⟩ K=(kM C gl e h x K).1:=(kM C gl e h x K).2
def gY:ACode:=(.seq (rg [mV 2 cF] [0])
(.seq (rg [mV 15 0,
uO 16 (.build [.sl0 none,.p (.int .i64 0)] [(0,1,15)]),
uO 17 (.box 16),
uO 3 (.alloc [.nilp]),
wO (.store none 3 17)] [3])
(.seq (rg [lD 18 none 3,
cL 19 UM [18],
mV 4 19] [3,4])
(.seq (.seq (rg [mV 20 4,
cL 21 WM [20],
bN 22 .neq 21 (cI 0)] [3,4,22])
(.cond 22 (.seq (rg [cL 23 pI [],
mV 2 23] [2])
.ret)
.skip))
(.seq (rg [lD 24 none 3,
mV 25 4,
lN 26 25,
cL 27 qE [24,26],
mV 5 27] [3,4,5])
(.seq (rg [mV 28 4,
mV 29 5,
iA 30 (some 5) 28 29,
lD 31 (some 5) 30,
uO 6 (.alloc [.p (.str []),.p (.int .i64 0),.p (.int .i64 0),.sl0 (some 2),.sl0 (some 2)]),
wO (.store (some 5) 6 31)] [3,4,6])
(.seq (rg [uO 32 (.mkfn nI [3]),
mV 7 32] [3,4,6,7])
(.seq (rg [fA 33 1 none 6,
lD 34 none 33,
cL 35 MA [(cS [48]),34],
uO 36 (.build [.p (.int .i64 0),.p (.int .i64 0),.p (.int .i64 0),.p (.str []),.p (.str []),.p (.str [])] [(0,1,(cI 7)),(3,1,35)]),
uO 37 (.bsl true (some 6) 1 (.agg [.int .i64 0,.int .i64 0,.int .i64 0,.str [],.str [],.str []]) [(0,36)]),
mV 8 37] [3,4,6,7,8])
(.seq (.seq (rg [lD 38 none 3,
cL 39 OF [38,(cI 0),(cI 4)],
mV 40 (cI 0)] [3,4,6,7,8,39,40])
(.block 0 (.loop (.scope HK))))
OR)))))))))
def jU:AFun:=⟨1,[.t 2],gY,false,false⟩
def jM (C:Hd)(gl:GL)(e:En)(h:aA)(x:Esc)(K:KT):Sf C gl gY e h x K:=⟨_,by simp only[gY,↓wZ,AO.still];rfl⟩
theorem zbU {C gl v0 h x K}:NW C gl jU.body ⟨enter [v0],h,x⟩ K=(jM C gl [(0,v0)] h x K).1:=(jM C gl [(0,v0)] h x K).2
def UR:ACode:=.pr [0,3,6,8,9,10] (rg [mV 57 3,
lD 58 (some 5) 6,
uO 59 (.bsl false (some 5) 1 (.agg [.str [],.int .i64 0,.int .i64 0,.sl (some 2) [],.sl (some 2) []]) [(0,58)]),
uO 60 (.app (some 5) 57 59),
mV 3 60] [0,3,8,9,10])
def ZE (C:Hd)(gl:GL)(e:En)(h:aA)(x:Esc)(K:KT):Sf C gl UR e h x K:=⟨_,by simp only[UR,↓wZ,AO.still];rfl⟩
theorem oG {C gl e h x K}:NW C gl UR ⟨e,h,x⟩ K=(ZE C gl e h x K).1:=(ZE C gl e h x K).2
def VR:ACode:=.pr [0,3,8,9,10] (rg [bN 61 .add 10 (cI 1),
mV 10 61] [0,3,8,9,10])
def FE (C:Hd)(gl:GL)(e:En)(h:aA)(x:Esc)(K:KT):Sf C gl VR e h x K:=⟨_,by simp only[VR,↓wZ,AO.still];rfl⟩
theorem LF {C gl e h x K}:NW C gl VR ⟨e,h,x⟩ K=(FE C gl e h x K).1:=(FE C gl e h x K).2
def KK:ACode:=.pr [0,3,8,9,10] (.seq (rg [bN 11 .lss 10 9] [0,3,8,9,10,11])
(.seq (.cond 11 .skip
(.exit 0))
(.seq (.block 1 (.seq (rg [iA 12 none 8 10,
lD 13 none 12,
mV 5 13] [0,3,5,8,9,10])
(.seq (.seq (rg [mV 14 0,
cL 15 NF [14,(cI 3)],
mV 16 15,
gD 17 16 true (.mv 3),
gD 18 16 true (.len 17),
gD 19 16 true (.bin .gtr 18 (cI 0)),
uO 20 (.pick 16 19 cF)] [0,3,5,8,9,10,20])
(.cond 20 (.exit 1)
.skip))
(.seq (rg [mV 21 5,
mV 22 0,
cL 23 OF [22,(cI 2),(cI 4)],
mV 24 0,
uO 25 (.bsl false none 4 (.int .i64 0) [(0,(cI 0)),(1,(cI 0)),(2,(cI 5)),(3,(cI 257))]),
cL 26 fH [24,25],
uO 27 (.build [.p (.str []),.p (.int .i64 0),.p (.int .i64 0),.sl0 (some 2),.sl0 (some 2)] [(0,1,21),(1,1,23),(2,1,26)]),
uO 6 (.alloc [.p (.str []),.p (.int .i64 0),.p (.int .i64 0),.sl0 (some 2),.sl0 (some 2)]),
wO (.store (some 5) 6 27)] [0,3,6,8,9,10])
(.seq (rg [mV 28 0,
cL 29 OF [28,(cI 1),(cI 4)],
uO 30 (.build [.p (.str []),.p (.int .i64 0)] [(0,1,(cS [100,97,116,97])),(1,1,29)]),
uO 31 (.bsl true (some 2) 1 (.agg [.str [],.int .i64 0]) [(0,30)]),
fA 32 3 none 6,
wO (.store none 32 31)] [0,3,6,8,9,10])
(.seq (rg [fA 33 1 none 6,
lD 34 none 33,
cL 35 MA [(cS [48]),34],
uO 36 (.build [.p (.str []),.p (.str [])] [(0,1,35),(1,1,(cS [100,97,116,97]))]),
uO 37 (.bsl true (some 2) 1 (.agg [.str [],.str []]) [(0,36)]),
fA 38 4 none 6,
wO (.store none 38 37)] [0,3,6,8,9,10])
(.seq (.seq (rg [fA 39 2 none 6,
lD 40 none 39,
bN 41 .neq 40 (cI 0),
mV 42 41,
gD 43 42 true (.mv 0),
gD 44 42 true (.call NF [43,(cI 2)]),
uO 45 (.pick 42 44 cF)] [0,3,6,8,9,10,45])
(.cond 45 (dr [dF (fA 46 4 none 6) [6],
dF (lD 47 none 46) [46],
dF (fA 48 1 none 6) [6],
dF (lD 49 none 48) [48],
dF (bN 50 .sub 49 (cI 1)) [49],
dA (cL 51 MA [(cS [48]),50]) [50] true [] [1],
dF (bN 52 .add (cS [49]) 51) [51],
dF (uO 53 (.build [.p (.str []),.p (.str [])] [(0,1,52),(1,1,(cS [105,100,99,111,100,101]))])) [52],
dF (uO 54 (.bsl false (some 2) 1 (.agg [.str [],.str []]) [(0,53)])) [53],
dT (uO 55 (.app (some 2) 47 54)) [47,54],
dF (fA 56 4 none 6) [6],
dT (wO (.store none 56 55)) [56,55]] [0,3,6,8,9,10])
.skip))
UR)))))))
VR)))
def kE (C:Hd)(gl:GL)(e:En)(h:aA)(x:Esc)(K:KT):Sf C gl KK e h x K:=⟨_,by simp only[KK,↓wZ,AO.still];rfl⟩
theorem gF {C gl e h x K}:NW C gl KK ⟨e,h,x⟩ K=(kE C gl e h x K).1:=(kE C gl e h x K).2
theorem zeN {C gl e h x K}:NW C gl (.loop (.scope KK)) ⟨e,h,x⟩ K=ZA C gl (.scope KK) K [(0,kA e 0),(3,kA e 3),(8,kA e 8),(9,kA e 9),(10,kA e 10)] h x:=WC
def XN:ACode:=.pr [3] (.seq (rg [mV 100 3,
mV 2 100] [2])
.ret)
def xJ (C:Hd)(gl:GL)(e:En)(h:aA)(x:Esc)(K:KT):Sf C gl XN e h x K:=⟨_,by simp only[XN,↓wZ,AO.still];rfl⟩
theorem HQ {C gl e h x K}:NW C gl XN ⟨e,h,x⟩ K=(xJ C gl e h x K).1:=(xJ C gl e h x K).2
def YN:ACode:=.pr [0,3] (.seq (.seq (rg [mV 62 0,
cL 63 NF [62,(cI 20)]] [0,3,63])
(.cond 63 (.seq (rg [mV 64 3,
mV 65 0,
mV 66 3,
lN 67 66,
cL 68 qE [65,67],
iA 69 (some 5) 64 68,
mV 7 69] [0,3,7])
(dr [dF (mV 70 7) [7],
dF (mV 71 7) [7],
dF (mV 72 7) [7],
dF (mV 73 0) [0],
dF (mV 74 7) [7],
dF (uO 75 (.nilchk 74)) [74],
dF (fA 76 0 none 75) [75],
dF (lD 77 none 76) [76],
dF (uO 78 (.bsl false none 3 (.str []) [(0,77),(1,(cS [])),(2,(cS [117]))])) [77],
dT (cL 79 gH [73,78]) [73,78],
dF (mV 80 0) [0],
dF (mV 81 7) [7],
dF (uO 82 (.nilchk 81)) [81],
dF (fA 83 1 none 82) [82],
dA (lD 84 none 83) [83] false [9] [],
dA (uO 85 (.bsl false none 3 (.int .i64 0) [(0,84),(1,(cI 1)),(2,(cI 33))])) [84] false [9] [],
dT (cL 86 fH [80,85]) [80,85],
dF (mV 87 0) [0],
dF (mV 88 7) [7],
dF (uO 89 (.nilchk 88)) [88],
dF (fA 90 2 none 89) [89],
dA (lD 91 none 90) [90] false [9,16] [],
dA (uO 92 (.bsl false none 3 (.int .i64 0) [(0,91),(1,(cI 4)),(2,(cI (-1)))])) [91] false [9,16] [],
dT (cL 93 fH [87,92]) [87,92],
dF (uO 94 (.nilchk 70)) [70],
dF (fA 95 0 none 94) [94],
dT (wO (.store none 95 79)) [95,79],
dF (uO 96 (.nilchk 71)) [71],
dF (fA 97 1 none 96) [96],
dT (wO (.store none 97 86)) [97,86],
dF (uO 98 (.nilchk 72)) [72],
dF (fA 99 2 none 98) [98],
dT (wO (.store none 99 93)) [99,93]] [3]))
.skip))
XN)
def fI (C:Hd)(gl:GL)(e:En)(h:aA)(x:Esc)(K:KT):Sf C gl YN e h x K:=⟨_,by simp only[YN,↓wZ,AO.still];rfl⟩
theorem IQ {C gl e h x K}:NW C gl YN ⟨e,h,x⟩ K=(fI C gl e h x K).1:=(fI C gl e h x K).2
def lY:ACode:=(.seq (rg [mV 2 (.c (.p (.sl (some 5) [])))] [0])
(.seq (rg [uO 3 (.new0 (some 5))] [0,3])
(.seq (.seq (rg [uO 8 (.bsl false none 3 (.str []) [(0,(cS [117])),(1,(cS [118])),(2,(cS [119]))]),
lN 9 8,
mV 10 (cI 0)] [0,3,8,9,10])
(.block 0 (.loop (.scope KK))))
YN)))
def mU:AFun:=⟨1,[.t 2],lY,false,false⟩
def DP (C:Hd)(gl:GL)(e:En)(h:aA)(x:Esc)(K:KT):Sf C gl lY e h x K:=⟨_,by simp only[lY,↓wZ,AO.still];rfl⟩
theorem zcb {C gl v0 h x K}:NW C gl mU.body ⟨enter [v0],h,x⟩ K=(DP C gl [(0,v0)] h x K).1:=(DP C gl [(0,v0)] h x K).2
def pY:ACode:=(.seq (rg [mV 6 (cI 0)] [0,1,2])
(.seq (.seq (rg [mV 7 2,
mV 8 1,
bN 9 .lss 7 8] [0,1,2,9])
(.cond 9 (.seq (rg [mV 10 1,
mV 6 10] [6])
.ret)
.skip))
(.seq (rg [mV 11 1,
mV 12 0,
mV 13 2,
mV 14 1,
bN 15 .sub 13 14,
bN 16 .add 15 (cI 1),
cL 17 qE [12,16],
bN 18 .add 11 17,
mV 6 18] [6])
.ret)))
def qU:AFun:=⟨3,[.t 6],pY,false,false⟩
def GP (C:Hd)(gl:GL)(e:En)(h:aA)(x:Esc)(K:KT):Sf C gl pY e h x K:=⟨_,by simp only[pY,↓wZ,AO.still];rfl⟩
theorem zcf {C gl v0 v1 v2 h x K}:NW C gl qU.body ⟨enter [v0,v1,v2],h,x⟩ K=(GP C gl [(0,v0),(1,v1),(2,v2)] h x K).1:=(GP C gl [(0,v0),(1,v1),(2,v2)] h x K).2
def kZ:ACode:=(.seq (rg [mV 4 (.c (.p (.sl none []))),
mV 5 (cI 0)] [0,1])
(.seq (.seq (rg [mV 7 0,
mV 8 1,
cL 9 eK [7,8],
mV 6 9] [0,1,6])
(.seq (rg [mV 10 6,
bN 11 .neq 10 (cI 0)] [0,1,6,11])
(.cond 11 (.seq (rg [mV 12 6,
mV 4 (.c (.p (.sl none []))),
mV 5 12] [4,5])
.ret)
.skip)))
(.seq (rg [mV 13 0,
mV 14 1,
cL 15 BN [13,14],
mV 4 15,
mV 5 (cI 0)] [4,5])
.ret)))
def jV:AFun:=⟨2,[.t 4,.t 5],kZ,false,false⟩
def AM (C:Hd)(gl:GL)(e:En)(h:aA)(x:Esc)(K:KT):Sf C gl kZ e h x K:=⟨_,by simp only[kZ,↓wZ,AO.still];rfl⟩
theorem zdk {C gl v0 v1 h x K}:NW C gl jV.body ⟨enter [v0,v1],h,x⟩ K=(AM C gl [(0,v0),(1,v1)] h x K).1:=(AM C gl [(0,v0),(1,v1)] h x K).2
def LK:ACode:=.pr [0,14,15,16] (.seq (rg [bN 17 .lss 16 15] [0,14,15,16,17])
(.seq (.cond 17 .skip
(.exit 1))
(.seq (.block 2 (.seq (rg [mV 18 16,
iA 19 (some 5) 14 16,
lD 20 (some 5) 19,
uO 4 (.alloc [.p (.str []),.p (.int .i64 0),.p (.int .i64 0),.sl0 (some 2),.sl0 (some 2)]),
mV 3 18,
wO (.store (some 5) 4 20)] [0,3,4,14,15,16])
(.seq (.block 3 (.seq (rg [fA 22 0 none 4,
lD 23 none 22,
cL 24 UJ [23],
uO 25 (.un .not 24),
mV 21 25] [0,3,4,14,15,16,21])
(.cond 21 (.seq (rg [mV 2 (cI 5)] [2])
.ret)
(.seq (rg [mV 27 0,
mV 28 3,
uO 29 (.slice (some 5) 27 none (some 28) none),
uO 30 (.mkfn XM [4]),
cL 31 VJ [29,30],
mV 26 31] [0,4,14,15,16,26])
(.cond 26 (.seq (rg [mV 2 (cI 6)] [2])
.ret)
(.seq (rg [fA 33 1 none 4,
lD 34 none 33,
cL 35 iH [34,(cI 2),(cI 32)],
uO 36 (.un .not 35),
mV 37 36,
gD 38 37 false (.faddr 2 none 4),
gD 39 37 false (.load none 38),
gD 40 37 false (.call iH [39,(cI 0),(cI 4294967295)]),
gD 41 37 false (.un .not 40),
uO 42 (.pick 37 cT 41),
mV 32 42] [0,4,14,15,16,32])
(.cond 32 (.seq (rg [mV 2 (cI 1)] [2])
.ret)
(.seq (rg [fA 44 2 none 4,
lD 45 none 44,
bN 46 .neq 45 (cI 0),
mV 47 46,
gD 48 47 true (.faddr 2 none 4),
gD 49 47 true (.load none 48),
gD 50 47 true (.bin .rem 49 (cI 2)),
gD 51 47 true (.bin .eql 50 (cI 0)),
uO 52 (.pick 47 51 cF),
mV 43 52] [0,4,14,15,16,43])
(.cond 43 (.seq (rg [mV 2 (cI 3)] [2])
.ret)
.skip)))))))))
(.seq (rg [lD 53 (some 5) 4,
cL 54 cN [53],
mV 5 54] [0,5,14,15,16])
(.seq (rg [mV 55 5,
bN 56 .neq 55 (cI 0)] [0,5,14,15,16,56])
(.cond 56 (.seq (rg [mV 57 5,
mV 2 57] [2])
.ret)
.skip))))))
(rg [bN 58 .add 16 (cI 1),
mV 16 58] [0,14,15,16]))))
def lE (C:Hd)(gl:GL)(e:En)(h:aA)(x:Esc)(K:KT):Sf C gl LK e h x K:=⟨_,by simp only[LK,↓wZ,AO.still];rfl⟩
theorem iF {C gl e h x K}:NW C gl LK ⟨e,h,x⟩ K=(lE C gl e h x K).1:=(lE C gl e h x K).2
theorem zeO {C gl e h x K}:NW C gl (.loop (.scope LK)) ⟨e,h,x⟩ K=ZA C gl (.scope LK) K [(0,kA e 0),(14,kA e 14),(15,kA e 15),(16,kA e 16)] h x:=WC
def WR:ACode:=.pr [] (.seq (rg [mV 2 (cI 0)] [2])
.ret)
def IP (C:Hd)(gl:GL)(e:En)(h:aA)(x:Esc)(K:KT):Sf C gl WR e h x K:=⟨_,by simp only[WR,↓wZ,AO.still];rfl⟩
theorem z2l {C gl e h x K}:NW C gl WR ⟨e,h,x⟩ K=(IP C gl e h x K).1:=(IP C gl e h x K).2
def sY:ACode:=(.seq (rg [mV 2 (cI 0)] [0])
(.seq (.block 0 (.seq (rg [mV 7 0,
lN 8 7,
bN 9 .eql 8 (cI 0),
mV 6 9] [0,6])
(.cond 6 (.seq (rg [mV 2 (cI 8)] [2])
.ret)
(.seq (rg [mV 11 0,
lN 12 11,
bN 13 .gtr 12 (cI 20),
mV 10 13] [0,10])
(.cond 10 (.seq (rg [mV 2 (cI 2)] [2])
.ret)
.skip)))))
(.seq (.seq (rg [mV 14 0,
lN 15 14,
mV 16 (cI 0)] [0,14,15,16])
(.block 1 (.loop (.scope LK))))
WR)))
def tU:AFun:=⟨1,[.t 2],sY,false,false⟩
def yJ (C:Hd)(gl:GL)(e:En)(h:aA)(x:Esc)(K:KT):Sf C gl sY e h x K:=⟨_,by simp only[sY,↓wZ,AO.still];rfl⟩
theorem zci {C gl v0 h x K}:NW C gl tU.body ⟨enter [v0],h,x⟩ K=(yJ C gl [(0,v0)] h x K).1:=(yJ C gl [(0,v0)] h x K).2
def OK:ACode:=.pr [0,1,12,13] (.seq (rg [bN 14 .lss 13 12] [0,1,12,13,14])
(.seq (.cond 14 .skip
(.exit 0))
(.seq (.block 1 (.seq (rg [mV 15 13,
mV 5 15] [0,1,5,12,13])
(.seq (dr [dF (mV 16 0) [0],
dF (mV 17 5) [5],
dF (iA 18 none 16 17) [16,17],
dF (lD 19 none 18) [18],
dF (mV 20 1) [1],
dF (mV 21 5) [5],
dF (iA 22 none 20 21) [20,21],
dF (lD 23 none 22) [22],
dF (bN 24 .neq 19 23) [19,23]] [0,1,12,13,24])
(.cond 24 (.seq (rg [mV 4 cF] [4])
.ret)
.skip))))
(rg [bN 25 .add 13 (cI 1),
mV 13 25] [0,1,12,13]))))
def fW (C:Hd)(gl:GL)(e:En)(h:aA)(x:Esc)(K:KT):Sf C gl OK e h x K:=⟨_,by simp only[OK,↓wZ,AO.still];rfl⟩
theorem zcx {C gl e h x K}:NW C gl OK ⟨e,h,x⟩ K=(fW C gl e h x K).1:=(fW C gl e h x K).2
theorem zeR {C gl e h x K}:NW C gl (.loop OK) ⟨e,h,x⟩ K=ZA C gl OK K [(0,kA e 0),(1,kA e 1),(12,kA e 12),(13,kA e 13)] h x:=GC
def YR:ACode:=.pr [] (.seq (rg [mV 4 cT] [4])
.ret)
def gW (C:Hd)(gl:GL)(e:En)(h:aA)(x:Esc)(K:KT):Sf C gl YR e h x K:=⟨_,by simp only[YR,↓wZ,AO.still];rfl⟩
theorem zcy {C gl e h x K}:NW C gl YR ⟨e,h,x⟩ K=(gW C gl e h x K).1:=(gW C gl e h x K).2
def GY:ACode:=(.seq (rg [mV 4 cF] [0,1])
(.seq (.seq (rg [mV 6 0,
lN 7 6,
mV 8 1,
lN 9 8,
bN 10 .neq 7 9] [0,1,10])
(.cond 10 (.seq (rg [mV 4 cF] [4])
.ret)
.skip))
(.seq (.seq (rg [mV 11 0,
lN 12 11,
mV 13 (cI 0)] [0,1,12,13])
(.block 0 (.loop OK)))
YR)))
def HU:AFun:=⟨2,[.t 4],GY,false,false⟩
def pM (C:Hd)(gl:GL)(e:En)(h:aA)(x:Esc)(K:KT):Sf C gl GY e h x K:=⟨_,by simp only[GY,↓wZ,AO.still];rfl⟩
theorem zcw {C gl v0 v1 h x K}:NW C gl HU.body ⟨enter [v0,v1],h,x⟩ K=(pM C gl [(0,v0),(1,v1)] h x K).1:=(pM C gl [(0,v0),(1,v1)] h x K).2
def JK:ACode:=.pr [5,6,7] (.seq (rg [bN 8 .lss 7 6] [5,6,7,8])
(.seq (.cond 8 .skip
(.exit 0))
(.seq (.block 1 (.seq (rg [iA 9 none 5 7,
lD 10 none 9,
mV 4 10] [4,5,6,7])
(.seq (rg [mV 11 4,
bN 12 .neq 11 (cI 0)] [4,5,6,7,12])
(.cond 12 (.seq (rg [mV 13 4,
mV 2 13] [2])
.ret)
.skip))))
(rg [bN 14 .add 7 (cI 1),
mV 7 14] [5,6,7]))))
def cW (C:Hd)(gl:GL)(e:En)(h:aA)(x:Esc)(K:KT):Sf C gl JK e h x K:=⟨_,by simp only[JK,↓wZ,AO.still];rfl⟩
theorem zbX {C gl e h x K}:NW C gl JK ⟨e,h,x⟩ K=(cW C gl e h x K).1:=(cW C gl e h x K).2
theorem zeM {C gl e h x K}:NW C gl (.loop JK) ⟨e,h,x⟩ K=ZA C gl JK K [(5,kA e 5),(6,kA e 6),(7,kA e 7)] h x:=GC
def QR:ACode:=.pr [] (.seq (rg [mV 2 (cI 0)] [2])
.ret)
def dW (C:Hd)(gl:GL)(e:En)(h:aA)(x:Esc)(K:KT):Sf C gl QR e h x K:=⟨_,by simp only[QR,↓wZ,AO.still];rfl⟩
theorem zbY {C gl e h x K}:NW C gl QR ⟨e,h,x⟩ K=(dW C gl e h x K).1:=(dW C gl e h x K).2
def jY:ACode:=(.seq (rg [mV 2 (cI 0)] [0])
(.seq (.seq (rg [mV 5 0,
lN 6 5,
mV 7 (cI 0)] [5,6,7])
(.block 0 (.loop JK)))
QR))
def MO:AFun:=⟨1,[.t 2],jY,false,false⟩
def BP (C:Hd)(gl:GL)(e:En)(h:aA)(x:Esc)(K:KT):Sf C gl jY e h x K:=⟨_,by simp only[jY,↓wZ,AO.still];rfl⟩
theorem zbW {C gl v0 h x K}:NW C gl MO.body ⟨enter [v0],h,x⟩ K=(BP C gl [(0,v0)] h x K).1:=(BP C gl [(0,v0)] h x K).2
def nY:ACode:=(.seq (rg [mV 4 (cI 0)] [0,1])
(.seq (rg [mV 7 0,
uO 8 (.nilchk 7),
fA 9 1 none 8,
lD 10 none 9,
bN 11 .add 10 (cI 1),
uO 12 (.nilchk 7),
fA 13 1 none 12,
wO (.store none 13 11)] [0,1])
(.seq (.seq (rg [mV 14 0,
uO 15 (.nilchk 14),
fA 16 0 none 15,
lD 17 none 16,
lN 18 17,
bN 19 .eql 18 (cI 0)] [0,1,19])
(.cond 19 (.seq (rg [mV 20 0,
uO 21 (.nilchk 20),
fA 22 1 none 21,
lD 23 none 22,
bN 24 .mul 23 (cI 7919),
mV 25 1,
cL 26 qI [24,25],
mV 4 26] [4])
.ret)
.skip))
(.seq (dr [dF (mV 27 0) [0],
dF (uO 28 (.nilchk 27)) [27],
dF (fA 29 1 none 28) [28],
dF (lD 30 none 29) [29],
dF (bN 31 .sub 30 (cI 1)) [30],
dF (mV 32 0) [0],
dF (uO 33 (.nilchk 32)) [32],
dF (fA 34 0 none 33) [33],
dF (lD 35 none 34) [34],
dF (lN 36 35) [35],
dF (bN 37 .rem 31 36) [31,36],
dF (mV 5 37) [37]] [0,1,5])
(.seq (dr [dF (mV 38 0) [0],
dF (uO 39 (.nilchk 38)) [38],
dF (fA 40 1 none 39) [39],
dF (lD 41 none 40) [40],
dF (bN 42 .sub 41 (cI 1)) [41],
dF (mV 43 0) [0],
dF (uO 44 (.nilchk 43)) [43],
dF (fA 45 0 none 44) [44],
dF (lD 46 none 45) [45],
dF (lN 47 46) [46],
dF (bN 48 .quo 42 47) [42,47],
dF (mV 6 48) [48]] [0,1,5,6])
(.seq (rg [mV 49 0,
uO 50 (.nilchk 49),
fA 51 0 none 50,
lD 52 none 51,
mV 53 5,
iA 54 none 52 53,
lD 55 none 54,
cL 56 qI [55,(cI 1073741824)],
mV 57 6,
mV 58 5,
bN 59 .add (cI 7919) 58,
bN 60 .mul 57 59,
bN 61 .add 56 60,
mV 62 1,
cL 63 qI [61,62],
mV 4 63] [4])
.ret))))))
def oU:AFun:=⟨2,[.t 4],nY,false,false⟩
def lM (C:Hd)(gl:GL)(e:En)(h:aA)(x:Esc)(K:KT):Sf C gl nY e h x K:=⟨_,by simp only[nY,↓wZ,AO.still];rfl⟩
theorem zcd {C gl v0 v1 h x K}:NW C gl oU.body ⟨enter [v0,v1],h,x⟩ K=(lM C gl [(0,v0),(1,v1)] h x K).1:=(lM C gl [(0,v0),(1,v1)] h x K).2
def IK:ACode:=.pr [1,4,5,6] (.seq (rg [bN 7 .lss 6 5] [1,4,5,6,7])
(.seq (.cond 7 .skip
(.exit 0))
(.seq (.block 1 (rg [mV 8 4,
lD 9 none 1,
uO 10 (.bsl false none 2 (.str []) [(0,(cS [48])),(1,(cS [49]))]),
cL 11 gH [9,10],
bN 12 .add 8 11,
mV 4 12] [1,4,5,6]))
(rg [bN 13 .add 6 (cI 1),
mV 6 13] [1,4,5,6]))))
def wJ (C:Hd)(gl:GL)(e:En)(h:aA)(x:Esc)(K:KT):Sf C gl IK e h x K:=⟨_,by simp only[IK,↓wZ,AO.still];rfl⟩
theorem GQ {C gl e h x K}:NW C gl IK ⟨e,h,x⟩ K=(wJ C gl e h x K).1:=(wJ C gl e h x K).2
theorem zeL {C gl e h x K}:NW C gl (.loop IK) ⟨e,h,x⟩ K=ZA C gl IK K [(1,kA e 1),(4,kA e 4),(5,kA e 5),(6,kA e 6)] h x:=GC
def PR:ACode:=.pr [4] (.seq (rg [mV 14 4,
mV 3 14] [3])
.ret)
def AP (C:Hd)(gl:GL)(e:En)(h:aA)(x:Esc)(K:KT):Sf C gl PR e h x K:=⟨_,by simp only[PR,↓wZ,AO.still];rfl⟩
theorem z2k {C gl e h x K}:NW C gl PR ⟨e,h,x⟩ K=(AP C gl e h x K).1:=(AP C gl e h x K).2
def iY:ACode:=(.seq (rg [mV 3 (cS [])] [0,1])
(.seq (rg [mV 4 (cS [])] [0,1,4])
(.seq (.seq (rg [mV 5 0,
mV 6 (cI 0)] [1,4,5,6])
(.block 0 (.loop IK)))
PR)))
def kU:AFun:=⟨2,[.t 3],iY,false,false⟩
def zP (C:Hd)(gl:GL)(e:En)(h:aA)(x:Esc)(K:KT):Sf C gl iY e h x K:=⟨_,by simp only[iY,↓wZ,AO.still];rfl⟩
theorem zbV {C gl v0 v1 h x K}:NW C gl kU.body ⟨enter [v0,v1],h,x⟩ K=(zP C gl [(0,v0),(1,v1)] h x K).1:=(zP C gl [(0,v0),(1,v1)] h x K).2
def qY:ACode:=(.seq (rg [mV 4 (cS [])] [0,1])
(.seq (rg [mV 5 1,
mV 6 0,
mV 7 1,
lN 8 7,
cL 9 qE [6,8],
iA 10 none 5 9,
lD 11 none 10,
mV 4 11] [4])
.ret))
def rU:AFun:=⟨2,[.t 4],qY,false,false⟩
def HP (C:Hd)(gl:GL)(e:En)(h:aA)(x:Esc)(K:KT):Sf C gl qY e h x K:=⟨_,by simp only[qY,↓wZ,AO.still];rfl⟩
theorem zcg {C gl v0 v1 h x K}:NW C gl rU.body ⟨enter [v0,v1],h,x⟩ K=(HP C gl [(0,v0),(1,v1)] h x K).1:=(HP C gl [(0,v0),(1,v1)] h x K).2
def mY:ACode:=(.seq (rg [mV 4 cF] [0,1])
(.seq (rg [mV 5 0,
mV 6 1,
cL 7 qE [5,6],
bN 8 .eql 7 (cI 0),
mV 4 8] [4])
.ret))
def nU:AFun:=⟨2,[.t 4],mY,false,false⟩
def EP (C:Hd)(gl:GL)(e:En)(h:aA)(x:Esc)(K:KT):Sf C gl mY e h x K:=⟨_,by simp only[mY,↓wZ,AO.still];rfl⟩
theorem zcc {C gl v0 v1 h x K}:NW C gl nU.body ⟨enter [v0,v1],h,x⟩ K=(EP C gl [(0,v0),(1,v1)] h x K).1:=(EP C gl [(0,v0),(1,v1)] h x K).2
end Go.Am
end
