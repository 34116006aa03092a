/- Texts of the proof, laid together: Am26, Am27, Am28, Am29, Am30, Am31, AmX, AmS. -/
import GoSem.Extern.Table
import Derived.Laws.World
import Derived.Test.YtipnhkhacbdlkaaGreatDoorlawBZ3
set_option linter.all false
section
/- The abstract machine,part 26: z0L calls are computed. -/
set_option linter.unusedSimpArgs false
set_option linter.unusedVariables false
namespace Go.Am
mutual
def PV.same:PV→PV→Bool
 | .int k a,.int k' b=>decide (k=k')&&decide (a=b)
 | .bool a,.bool b=>decide (a=b)
 | .str a,.str b=>decide (a=b)
 | .sl s xs,.sl t ys=>decide (s=t)&&PV.sames xs ys
 | .agg xs,.agg ys=>PV.sames xs ys
 | .nilp,.nilp=>true
 | _,_=>false
def PV.sames:List PV→List PV→Bool
 | [],[]=>true
 | a::asv,b::bs=>PV.same a b&&PV.sames asv bs
 | _,_=>false
end
mutual
theorem PV.same_eq:∀ (a b:PV),PV.same a b=true→a=b
 | .int k a,b,h=>by
  cases b <;> simp [PV.same] at h
  obtain⟨h1,h2⟩:=h;subst h1;subst h2;rfl
 | .bool a,b,h=>by cases b <;> simp [PV.same] at h;subst h;rfl
 | .str a,b,h=>by cases b <;> simp [PV.same] at h;subst h;rfl
 | .sl s xs,b,h=>by
  cases b <;> simp [PV.same] at h
  obtain⟨h1,h2⟩:=h;subst h1;rw[PV.sames_eq _ _ h2]
 | .agg xs,b,h=>by
  cases b <;> simp [PV.same] at h
  rw[PV.sames_eq _ _ h]
 | .nilp,b,h=>by cases b <;> simp [PV.same] at h;rfl
theorem PV.sames_eq:∀ (a b:List PV),PV.sames a b=true→a=b
 | [],b,h=>by cases b <;> simp [PV.sames] at h;rfl
 | x::xs,b,h=>by
  cases b <;> simp [PV.sames] at h
  rw[PV.same_eq _ _ h.1,PV.sames_eq _ _ h.2]
end
mutual
def AV.same:AV→AV→Bool
 | .p a,.p b=>PV.same a b
 | .own a b c d,.own a' b' c' d'=>decide (a=a')&&decide (b=b')&&decide (c=c')&&decide (d=d')
 | .sl0 a,.sl0 b=>decide (a=b)
 | .ref a b,.ref a' b'=>decide (a=a')&&decide (b=b')
 | .rref a b c d,.rref a' b' c' d'=>decide (a=a')&&decide (b=b')&&decide (c=c')&&decide (d=d')
 | .vp a,.vp b=>PV.same a b
 | .nilp,.nilp=>true
 | .nilm,.nilm=>true
 | .nilf,.nilf=>true
 | .nili,.nili=>true
 | .ifc,.ifc=>true
 | .mp a,.mp b=>decide (a=b)
 | .it a,.it b=>decide (a=b)
 | .fn a b,.fn a' b'=>decide (a=a')&&AV.sames b b'
 | .agg a,.agg b=>AV.sames a b
 | .tup a,.tup b=>AV.sames a b
 | .anyb,.anyb=>true
 | .skp,.skp=>true
 | .und,.und=>true
 | .anyp,.anyp=>true
 | .bt a b c d,.bt a' b' c' d'=>decide (a=a')&&decide (b=b')&&decide (c=c')&&decide (d=d')
 | _,_=>false
def AV.sames:List AV→List AV→Bool
 | [],[]=>true
 | a::asv,b::bs=>AV.same a b&&AV.sames asv bs
 | _,_=>false
end
mutual
theorem AV.same_eq:∀ (a b:AV),AV.same a b=true→a=b
 | .p a,b,h=>by cases b <;> simp [AV.same] at h;rw[PV.same_eq _ _ h]
 | .own _ _ _ _,b,h=>by cases b <;> simp [AV.same] at h;simp [h]
 | .sl0 _,b,h=>by cases b <;> simp [AV.same] at h;simp [h]
 | .ref _ _,b,h=>by cases b <;> simp [AV.same] at h;simp [h]
 | .rref _ _ _ _,b,h=>by cases b <;> simp [AV.same] at h;simp [h]
 | .vp a,b,h=>by cases b <;> simp [AV.same] at h;rw[PV.same_eq _ _ h]
 | .nilp,b,h=>by cases b <;> simp [AV.same] at h;rfl
 | .nilm,b,h=>by cases b <;> simp [AV.same] at h;rfl
 | .nilf,b,h=>by cases b <;> simp [AV.same] at h;rfl
 | .nili,b,h=>by cases b <;> simp [AV.same] at h;rfl
 | .ifc,b,h=>by cases b <;> simp [AV.same] at h;rfl
 | .mp _,b,h=>by cases b <;> simp [AV.same] at h;simp [h]
 | .it _,b,h=>by cases b <;> simp [AV.same] at h;simp [h]
 | .fn _ cs,b,h=>by cases b <;> simp [AV.same] at h;rw[h.1,AV.sames_eq _ _ h.2]
 | .agg cs,b,h=>by cases b <;> simp [AV.same] at h;rw[AV.sames_eq _ _ h]
 | .tup cs,b,h=>by cases b <;> simp [AV.same] at h;rw[AV.sames_eq _ _ h]
 | .anyb,b,h=>by cases b <;> simp [AV.same] at h;rfl
 | .skp,b,h=>by cases b <;> simp [AV.same] at h;rfl
 | .und,b,h=>by cases b <;> simp [AV.same] at h;rfl
 | .anyp,b,h=>by cases b <;> simp [AV.same] at h;rfl
 | .bt _ _ _ _,b,h=>by cases b <;> simp [AV.same] at h;simp [h]
theorem AV.sames_eq:∀ (a b:List AV),AV.sames a b=true→a=b
 | [],b,h=>by cases b <;> simp [AV.sames] at h;rfl
 | x::xs,b,h=>by
  cases b <;> simp [AV.sames] at h
  rw[AV.same_eq _ _ h.1,AV.sames_eq _ _ h.2]
end
abbrev EvC:=Nat→List AV→Heap→Option (AV × Heap × Esc)
def evDo (C:EvC) (gl:Nat→Option PV) (o:AOp) (e:List (Nat × AV)) (h:Heap):Option (AV × Heap × Esc):=match wanted o.guard e with
 | some true=>match o.op with
  | .call f args=>C f (args.map (Opd.ev gl e)) h
  | .callv f args=>match Opd.ev gl e f with
   | .fn g caps=>C g (args.map (Opd.ev gl e)++caps) h
   | _=>none
  | .mnext _ _=>none
  | op=>aop op (Opd.ev gl e) h
 | some false=>some (.skp,h,[])
 | none=>none
def zs1 (gl:Nat→Option PV) (o:AOp) (e:List (Nat × AV)) (h:Heap):Option (AV × Heap):=match o.op with
 | .mnext sh xs=>match wanted o.guard e with
  | some true=>match z4s h sh (xs.map (Opd.ev gl e)) with
   | some [y]=>some y
   | _=>none
  | _=>none
 | _=>none
def zgI (C:EvC) (gl:Nat→Option PV):List AOp→List (Nat × AV)→Heap→Esc→Option (List (Nat × AV) × Heap × Esc)
 | [],e,h,x=>some (e,h,x)
 | o::r,e,h,x=>match evDo C gl o e h with
  | some (v,h',x')=>zgI C gl r (put o.dst v e) h' (x'++x)
  | none=>match zs1 gl o e h with
   | some (v,h')=>zgI C gl r (put o.dst v e) h' x
   | none=>none
def AO.still:AO→Bool
 | .mv _ | .pick _ _ _ | .build _ _ | .load _ _ | .nilchk _ | .bin _ _ _ | .eqa _ _ _ _ | .isnil _ _ _ | .mkif _ | .un _ _ | .mkfn _ _ | .slice _ _ _ _ _ | .slstr _ _ _ | .faddr _ _ _ | .field _ _ _ | .iaddr _ _ _
 | .iaddra _ _ _ _ | .idxa _ _ _ _ | .idxs _ _ | .look _ _ _ _ _ | .ext _ _ | .len _ | .lens _ | .lenm _ | .mx _ | .mn _=>true
 | _=>false
def AO.still2:AO→Bool
 | .conv (.i _) _=>true
 | o=>o.still
def ME.same (a b:ME):Bool:=PV.same a.key b.key&&AV.same a.val b.val&&decide (a.born=b.born)
def MEs.same:List ME→List ME→Bool
 | [],[]=>true
 | a::asv,b::bs=>ME.same a b&&MEs.same asv bs
 | _,_=>false
def Obj.same:Obj→Obj→Bool
 | .box a,.box b=>AV.sames a b
 | .row a b c,.row a' b' c'=>decide (a=a')&&PV.sames b b'&&decide (c=c')
 | .amap a b,.amap a' b'=>MEs.same a a'&&decide (b=b')
 | .iter a b c d,.iter a' b' c' d'=>decide (a=a')&&decide (b=b')&&decide (c=c')&&decide (d=d')
 | _,_=>false
def Heap.same:List Obj→List Obj→Bool
 | [],[]=>true
 | a::asv,b::bs=>Obj.same a b&&Heap.same asv bs
 | _,_=>false
theorem ME.same_eq {a b:ME} (h:ME.same a b=true):a=b:=by
 cases a;cases b
 simp only[ME.same,Bool.and_eq_true,decide_eq_true_eq] at h
 obtain⟨⟨h1,h2⟩,h3⟩:=h
 rw[PV.same_eq _ _ h1,AV.same_eq _ _ h2,h3]
theorem MEs.same_eq:∀ {a b:List ME},MEs.same a b=true→a=b
 | [],[],_=>rfl
 | [],_::_,h=>by simp [MEs.same] at h
 | _::_,[],h=>by simp [MEs.same] at h
 | a::asv,b::bs,h=>by
  simp only[MEs.same,Bool.and_eq_true] at h
  rw[ME.same_eq h.1,MEs.same_eq h.2]
theorem Obj.same_eq {a b:Obj} (h:Obj.same a b=true):a=b:=by
 cases a <;> cases b <;> simp only[Obj.same,Bool.and_eq_true,decide_eq_true_eq] at h <;> first
  | (cases h;done)
  | (rw[AV.sames_eq _ _ h])
  | (obtain⟨⟨h1,h2⟩,h3⟩:=h;rw[h1,PV.sames_eq _ _ h2,h3])
  | (obtain⟨h1,h2⟩:=h;rw[MEs.same_eq h1,h2])
  | (obtain⟨⟨⟨h1,h2⟩,h3⟩,h4⟩:=h;rw[h1,h2,h3,h4])
theorem Heap.same_eq:∀ {a b:List Obj},Heap.same a b=true→a=b
 | [],[],_=>rfl
 | [],_::_,h=>by simp [Heap.same] at h
 | _::_,[],h=>by simp [Heap.same] at h
 | a::asv,b::bs,h=>by
  simp only[Heap.same,Bool.and_eq_true] at h
  rw[Obj.same_eq h.1,Heap.same_eq h.2]
def zfo (C:EvC) (gl:Nat→Option PV) (o:AOp) (e:List (Nat × AV)) (g:Heap) (v:AV):Bool:=match evDo C gl o e g with
 | some (v',g',y)=>AV.same v' v&&y.isEmpty&&(o.op.still2||Heap.same g' g)
 | none=>false
def zck (C:EvC) (gl:Nat→Option PV):List DOp→Done→List Heap→List (Nat × AV)→Heap→Esc→Option (List (Nat × AV) × Heap × Esc)
 | [],_,_,e,h,x=>some (e,h,x)
 | o::r,dn,hs,e,h,x=>match evDo C gl o.op (z01 (some o.rd) e) h with
  | some (v,h',y)=>
   if (o.eff||o.op.op.still2||y.isEmpty&&Heap.same h' h)&&(o.early.all fun k=>match hs[k]? with | some g=>zfo C gl o.op (z01 (some o.rd) e) g v | none=>false)
    && (o.again.all fun j=>match dn[j]? with | some q=>zfo C gl q.1 q.2.1 h' q.2.2 | none=>false) then
    zck C gl r (dn++[(o.op,z01 (some o.rd) e,v)]) (hs++[h]) (put o.op.dst v e) h' (y++x)
   else none
  | none=>none
def zfn (T:St→Option (Ex × St)):Nat→St→Option (Ex × St)
 | 0,_=>none
 | n+1,s=>match T s with
  | some (.normal,s')=>zfn T n s'
  | r=>r
def z0S (C:EvC) (gl:Nat→Option PV) (n:Nat):ACode→St→Option (Ex × St)
 | .skip,s=>some (.normal,s)
 | .reg ops keep,s=>match zgI C gl ops s.env s.h s.esc with
  | some (e,h,x)=>some (.normal,⟨z01 keep e,h,x⟩)
  | none=>none
 | .draw ds keep,s=>match zck C gl ds [] [] s.env s.h s.esc with
  | some (e,h,x)=>some (.normal,⟨z01 keep e,h,x⟩)
  | none=>none
 | .seq a b,s=>match z0S C gl n a s with
  | some (.normal,s')=>z0S C gl n b s'
  | r=>r
 | .cond c a b,s=>match Opd.ev gl s.env c with
  | .p (.bool t)=>match t with
   | true=>z0S C gl n a s
   | false=>z0S C gl n b s
  | _=>none
 | .det b,s=>z0S C gl n b s
 | .condu c a b,s=>match Opd.ev gl s.env c with
  | .p (.bool t)=>match t with
   | true=>z0S C gl n a s
   | false=>z0S C gl n b s
  | _=>none
 | .block id b,s=>match z0S C gl n b s with
  | some (.exit i,s')=>if i=id then some (.normal,s') else some (.exit i,s')
  | r=>r
 | .loop b,s=>zfn (z0S C gl n b) n s
 | .scope b,s=>match z0S C gl n b ⟨s.env,s.h,[]⟩ with
  | some (e,s')=>some (e,z5W s.h.length s.esc s')
  | none=>none
 | .pr l b,s=>z0S C gl n b ⟨z01 (some l) s.env,s.h,s.esc⟩
 | .exit id,s=>some (.exit id,s)
 | .ret,s=>some (.ret,s)
 | .bad,_=>none
def zuz (F:AFun) (b:Nat) (s:St):Option (AV × Heap × Esc):=match z1C s F.results with
 | some vs=>match F.keep with
  | true=>
   let n:=close s.esc.length s.esc (max b (z0D vs).top)
   if z0L s.esc n then some (z0D vs,s.h.take n,s.esc.filter fun y=>decide (y.1<n)) else some (z0D vs,s.h,s.esc)
  | false=>match reif b s.h (z0D vs) with
   | some v0=>
    let n:=close s.esc.length s.esc (max b v0.top)
    if z0L s.esc n then match reif n s.h (z0D vs) with
     | some v=>if v.top≤n then some (v,s.h.take n,s.esc.filter fun y=>decide (y.1<n)) else none
     | none=>none
    else some (z0D vs,s.h,s.esc)
   | none=>none
 | none=>none
def zlB (C:EvC) (gl:Nat→Option PV) (n:Nat) (F:AFun) (args:List AV) (h:Heap):Option (AV × Heap × Esc):=
 match (if F.byref then some (args,h) else z0u h args) with
 | some (asv,h1)=>if asv.length=F.nparams then match z0S C gl n F.body ⟨enter asv,h1,[]⟩ with
  | some (.exit _,_)=>none
  | some (_,s)=>zuz F h.length s
  | none=>none
  else none
 | none=>none
def EvOk (C':EvC) (C:Hd):Prop:=∀ f a h v h' x (K:Post),C' f a h=some (v,h',x)→K v h' x→C f a h K
variable {C':EvC} {C:Hd} {gl:Nat→Option PV}
theorem zlC (hC:EvOk C' C) {o:AOp} {e:List (Nat × AV)} {h h':Heap} {v:AV} {x:Esc} (H:evDo C' gl o e h=some (v,h',x)):ADo C gl o e h v h' x:=by
 unfold evDo at H
 unfold ADo
 split at H
 ·rename_i hw
  simp only[hw]
  obtain⟨dst,guard,op⟩:=o
  cases op
  case call f args=>exact hC _ _ _ _ _ _ _ H ⟨rfl,rfl,rfl⟩
  case callv f args=>
   dsimp only at H ⊢
   split at H
   ·rename_i hf
    simp only[hf]
    exact hC _ _ _ _ _ _ _ H ⟨rfl,rfl,rfl⟩
   ·cases H
  case mnext sh xs=>cases H
  all_goals exact H
 ·rename_i hw
  simp only[hw]
  injection H with H
  injection H with h1 H
  injection H with h2 h3
  exact⟨h1.symm,h2.symm,h3.symm⟩
 ·cases H
theorem zac (hC:EvOk C' C):∀ (ops:List AOp) e h x e' h' x' (K:List (Nat × AV)→Heap→Esc→Prop),zgI C' gl ops e h x=some (e',h',x')→K e' h' x'→AReg C gl ops e h x K
 | [],e,h,x,e',h',x',K,H,hK=>by
  simp only[zgI,Option.some.injEq,Prod.mk.injEq] at H
  obtain⟨rfl,rfl,rfl⟩:=H
  exact hK
 | o::r,e,h,x,e',h',x',K,H,hK=>by
  unfold zgI at H
  split at H
  ·rename_i v h1 x1 hd
   have ih:=zac hC r _ _ _ _ _ _ K H hK
   unfold evDo at hd
   unfold AReg
   split at hd
   ·rename_i hw
    simp only[hw]
    obtain⟨dst,guard,op⟩:=o
    cases op
    case call f args=>exact hC _ _ _ _ _ _ _ hd ih
    case callv f args=>
     dsimp only at hd ⊢
     split at hd
     ·rename_i hf
      simp only[hf]
      exact hC _ _ _ _ _ _ _ hd ih
     ·cases hd
    case mnext sh xs=>cases hd
    all_goals
     dsimp only at hd ⊢
     rw[hd]
     exact ih
   ·rename_i hw
    simp only[hw]
    injection hd with hd
    injection hd with h1 hd
    injection hd with h2 h3
    subst h1;subst h2;subst h3
    exact ih
   ·cases hd
  ·split at H
   ·rename_i v h1 hd
    have ih:=zac hC r _ _ _ _ _ _ K H hK
    unfold zs1 at hd
    unfold AReg
    split at hd
    ·rename_i sh xs hop
     split at hd
     ·rename_i hw
      simp only[hw,hop]
      split at hd
      ·rename_i y hm
       injection hd with hd
       subst hd
       simp only[hm]
       refine⟨by simp,fun z hz=>?_⟩
       rw[List.mem_singleton] at hz
       subst hz
       exact ih
      ·cases hd
     ·cases hd
    ·cases hd
   ·cases H
theorem zjj {o:AO} (hs:o.still=true) {ev:Opd→AV} {h h':Heap} {v:AV} {x:Esc} (H:aop o ev h=some (v,h',x)):h'=h∧x=[]:=by
 cases o <;> first | (cases hs;done) | skip
 all_goals
  unfold aop at H
  dsimp only at H
  repeat' split at H
  all_goals first
   | (cases H;done)
   | (simp only[Option.some.injEq,Prod.mk.injEq] at H;obtain⟨_,rfl,rfl⟩:=H;exact⟨rfl,rfl⟩)
   | (simp only[Option.map_eq_some_iff,Prod.mk.injEq] at H;obtain⟨_,_,_,rfl,rfl⟩:=H;exact⟨rfl,rfl⟩)
   | (have H2:=nilc (g:=[]) H;rename_i k neg p;cases hb:z6v k (ev p) <;> rw[hb] at H <;> simp only[cond_true,cond_false,Option.map_eq_some_iff,Option.some.injEq,Prod.mk.injEq] at H <;> first | (obtain⟨_,rfl,rfl⟩:=H;exact⟨rfl,rfl⟩) | (obtain⟨_,_,_,rfl,rfl⟩:=H;exact⟨rfl,rfl⟩))
theorem zg5 {o:AO} (hs:o.still2=true) {ev:Opd→AV} {h h':Heap} {v:AV} {x:Esc} (H:aop o ev h=some (v,h',x)):h'=h∧x=[]:=by
 unfold AO.still2 at hs
 split at hs
 ·simp only[aop,z8v] at H
  split at H
  ·simp at H;exact⟨H.2.1.symm,H.2.2⟩
  ·simp at H
 ·exact zjj hs H
theorem z5H {o:AOp} (hs:o.op.still2=true) {e:List (Nat × AV)} {h h':Heap} {v:AV} {x:Esc} (H:ADo C gl o e h v h' x):h'=h∧x=[]:=by
 unfold ADo at H
 split at H
 ·obtain⟨dst,guard,op⟩:=o
  cases op <;> first | (cases hs;done) | exact zg5 hs H
 ·exact H.2
 ·exact H.elim
theorem zpe {o:AO} (h:o.still=true):o.still2=true:=by
 cases o <;> first | exact h | (cases h;done)
theorem zh2 {o:AOp} (hs:o.op.still=true) {e:List (Nat × AV)} {h h':Heap} {v:AV} {x:Esc} (H:ADo C gl o e h v h' x):h'=h∧x=[]:=z5H (zpe hs) H
theorem zcn (hC:EvOk C' C) {o:AOp} {e:List (Nat × AV)} {g:Heap} {v:AV} (H:zfo C' gl o e g v=true):ADo C gl o e g v g []:=by
 unfold zfo at H
 split at H
 ·rename_i v' g' y hd
  simp only[Bool.and_eq_true,Bool.or_eq_true,List.isEmpty_iff] at H
  obtain⟨⟨h1,h2⟩,h3⟩:=H
  have h1:=AV.same_eq _ _ h1
  have:=zlC (C:=C) hC hd
  rcases h3 with hs | hs
  ·obtain⟨e1,e2⟩:=z5H hs this
   subst e1;subst e2;subst h1
   exact this
  ·have e1:=Heap.same_eq hs
   subst e1;subst h2;subst h1
   exact this
 ·cases H
theorem zcl (hC:EvOk C' C):∀ (ds:List DOp) dn hs e h x e' h' x' (K:List (Nat × AV)→Heap→Esc→Prop),zck C' gl ds dn hs e h x=some (e',h',x')→K e' h' x'→z1U C gl ds dn hs e h x K
 | [],dn,hs,e,h,x,e',h',x',K,H,hK=>by
  simp only[zck,Option.some.injEq,Prod.mk.injEq] at H
  obtain⟨rfl,rfl,rfl⟩:=H
  exact hK
 | o::r,dn,hs,e,h,x,e',h',x',K,H,hK=>by
  unfold zck at H
  split at H
  ·rename_i v h1 y hd
   split at H
   ·rename_i hc
    simp only[Bool.and_eq_true,Bool.or_eq_true,List.all_eq_true] at hc
    obtain⟨⟨c1,c2⟩,c3⟩:=hc
    have hdo:=zlC (C:=C) hC hd
    refine⟨v,h1,y,hdo,fun he=>?_,fun k hk=>?_,fun j hj=>?_,zcl hC r _ _ _ _ _ _ _ _ K H hK⟩
    ·rcases c1 with (c1 | c1) | ⟨c1,c4⟩
     ·rw[c1] at he;cases he
     ·exact z5H c1 hdo
     ·rw[List.isEmpty_iff] at c1
      exact⟨Heap.same_eq c4,c1⟩
    ·have:=c2 k hk
     split at this
     ·rename_i g hg
      exact⟨g,hg,zcn hC this⟩
     ·cases this
    ·have:=c3 j hj
     split at this
     ·rename_i q hq
      exact⟨q,hq,zcn hC this⟩
     ·cases this
   ·cases H
  ·cases H
theorem zcm {T':St→Option (Ex × St)} {T:St→(Ex→St→Prop)→Prop} (hT:∀ s e s' K,T' s=some (e,s')→K e s'→T s K):∀ n s e s' K,zfn T' n s=some (e,s')→K e s'→ALoop T K s
 | 0,s,e,s',K,H,hK=>by cases H
 | n+1,s,e,s',K,H,hK=>by
  unfold zfn at H
  split at H
  ·rename_i s1 h1
   refine .mk s (fun e2 s2=>e2 = .normal∧s2=s1) (hT _ _ _ _ h1 ⟨rfl,rfl⟩) (fun s2 ⟨_,h2⟩=>?_) (fun i s2 ⟨h2,_⟩=>by cases h2) (fun s2 ⟨h2,_⟩=>by cases h2)
   subst h2
   exact zcm hT n _ _ _ K H hK
  ·rename_i hne
   have hne':e ≠ .normal:=fun he=>by subst he;exact hne _ H
   refine .mk s (fun e2 s2=>e2=e∧s2=s') (hT _ _ _ _ H ⟨rfl,rfl⟩) (fun s2 ⟨h2,_⟩=>(hne' h2.symm).elim) (fun i s2 ⟨h2,h3⟩=>by subst h3;rw[h2];exact hK) (fun s2 ⟨h2,h3⟩=>by subst h3;rw[h2];exact hK)
theorem z0P (hC:EvOk C' C) (n:Nat):∀ (c:ACode) s e s' (K:Ex→St→Prop),z0S C' gl n c s=some (e,s')→K e s'→AW C gl c s K
 | .skip,s,e,s',K,H,hK=>by
  simp only[z0S,Option.some.injEq,Prod.mk.injEq] at H
  obtain⟨rfl,rfl⟩:=H;exact hK
 | .reg ops keep,s,e,s',K,H,hK=>by
  unfold z0S at H
  split at H
  ·rename_i h1
   simp only[Option.some.injEq,Prod.mk.injEq] at H
   obtain⟨rfl,rfl⟩:=H
   exact zac hC _ _ _ _ _ _ _ _ h1 hK
  ·cases H
 | .draw ds keep,s,e,s',K,H,hK=>by
  unfold z0S at H
  split at H
  ·rename_i h1
   simp only[Option.some.injEq,Prod.mk.injEq] at H
   obtain⟨rfl,rfl⟩:=H
   exact zcl hC _ _ _ _ _ _ _ _ _ _ h1 hK
  ·cases H
 | .seq a b,s,e,s',K,H,hK=>by
  unfold z0S at H
  unfold AW
  split at H
  ·rename_i s1 h1
   exact z0P hC n a s _ _ _ h1 (z0P hC n b _ _ _ K H hK)
  ·rename_i hne
   have hne':e ≠ .normal:=fun he=>by subst he;exact hne _ H
   refine z0P hC n a s _ _ _ H ?_
   cases e with
   | normal=>exact (hne' rfl).elim
   | exit i=>exact hK
   | ret=>exact hK
 | .det b,s,e,s',K,H,hK=>by
  unfold z0S at H
  exact z0P hC n b s _ _ K H hK
 | .condu c a b,s,e,s',K,H,hK=>by
  unfold z0S at H
  unfold AW
  split at H
  ·rename_i t ht
   simp only[ht]
   split at H
   ·exact z0P hC n a s _ _ _ H hK
   ·exact z0P hC n b s _ _ _ H hK
  ·cases H
 | .cond c a b,s,e,s',K,H,hK=>by
  unfold z0S at H
  unfold AW
  split at H
  ·rename_i t ht
   simp only[ht]
   split at H
   ·exact z0P hC n a s _ _ _ H hK
   ·exact z0P hC n b s _ _ _ H hK
  ·cases H
 | .block id b,s,e,s',K,H,hK=>by
  unfold z0S at H
  unfold AW
  split at H
  ·rename_i i s1 h1
   refine z0P hC n b s _ _ _ h1 ?_
   dsimp only
   split at H
   ·rw[if_pos ‹_›]
    simp only[Option.some.injEq,Prod.mk.injEq] at H
    obtain⟨rfl,rfl⟩:=H;exact hK
   ·rw[if_neg ‹_›]
    simp only[Option.some.injEq,Prod.mk.injEq] at H
    obtain⟨rfl,rfl⟩:=H;exact hK
  ·rename_i hne
   refine z0P hC n b s _ _ _ H ?_
   cases e with
   | normal=>exact hK
   | exit i=>exact (hne _ _ H).elim
   | ret=>exact hK
 | .loop b,s,e,s',K,H,hK=>by
  unfold z0S at H
  unfold AW
  exact zcm (fun s e s' K h k=>z0P hC n b s e s' K h k) n s e s' K H hK
 | .scope b,s,e,s',K,H,hK=>by
  unfold z0S at H
  unfold AW
  split at H
  ·rename_i e1 s1 h1
   simp only[Option.some.injEq,Prod.mk.injEq] at H
   obtain⟨rfl,rfl⟩:=H
   exact z0P hC n b _ _ _ _ h1 hK
  ·cases H
 | .pr l b,s,e,s',K,H,hK=>by
  unfold z0S at H
  unfold AW
  exact z0P hC n b _ _ _ K H hK
 | .exit id,s,e,s',K,H,hK=>by
  simp only[z0S,Option.some.injEq,Prod.mk.injEq] at H
  obtain⟨rfl,rfl⟩:=H;exact hK
 | .ret,s,e,s',K,H,hK=>by
  simp only[z0S,Option.some.injEq,Prod.mk.injEq] at H
  obtain⟨rfl,rfl⟩:=H;exact hK
 | .bad,s,e,s',K,H,hK=>by simp only[z0S] at H;cases H
theorem zfm {F:AFun} {b:Nat} {s:St} {v:AV} {h:Heap} {x:Esc} {K:Post} (H:zuz F b s=some (v,h,x)) (hK:K v h x):fin F b s K:=by
 unfold zuz at H
 unfold fin
 split at H
 ·rename_i h1
  simp only[h1]
  split at H
  ·rename_i h2
   simp only[h2]
   dsimp only at H ⊢
   split at H
   ·rw[if_pos ‹_›];simp only[Option.some.injEq,Prod.mk.injEq] at H;obtain⟨rfl,rfl,rfl⟩:=H;exact hK
   ·rw[if_neg ‹_›];simp only[Option.some.injEq,Prod.mk.injEq] at H;obtain⟨rfl,rfl,rfl⟩:=H;exact hK
  ·rename_i h2
   simp only[h2]
   split at H
   ·rename_i h3
    simp only[h3]
    dsimp only at H ⊢
    split at H
    ·rw[if_pos ‹_›]
     split at H
     ·rename_i h4
      simp only[h4]
      split at H
      ·simp only[Option.some.injEq,Prod.mk.injEq] at H;obtain⟨rfl,rfl,rfl⟩:=H;exact⟨‹_›,hK⟩
      ·cases H
     ·cases H
    ·rw[if_neg ‹_›];simp only[Option.some.injEq,Prod.mk.injEq] at H;obtain⟨rfl,rfl,rfl⟩:=H;exact hK
   ·cases H
 ·cases H
theorem zcj (hC:EvOk C' C) {n:Nat} {F:AFun} {a:List AV} {h:Heap} {v:AV} {h':Heap} {x:Esc} {K:Post} (H:zlB C' gl n F a h=some (v,h',x)) (hK:K v h' x):z2w C gl F a h K:=by
 unfold zlB at H
 unfold z2w
 split at H
 ·rename_i asv h1 hp
  simp only[hp]
  split at H
  ·rename_i hl
   refine⟨hl,?_⟩
   cases he:z0S C' gl n F.body ⟨enter asv,h1,[]⟩ with
   | none=>rw[he] at H;cases H
   | some y=>
    obtain⟨e,s⟩:=y
    rw[he] at H
    refine z0P hC n _ _ _ _ _ he ?_
    cases e with
    | exit i=>cases H
    | normal=>exact zfm H hK
    | ret=>exact zfm H hK
  ·cases H
 ·cases H
def z7s (X:Ctx) (o:Nat→List AV→Option AV) (n:Nat):Nat→EvC
 | 0,_,_,_=>none
 | d+1,f,a,h=>match o f a with
  | some v=>some (v,h,[])
  | none=>match X.fn f with
   | some F=>zlB (z7s X o n d) X.gl n F a h
   | none=>match X.ex2 f a h with
    | some r=>some r
    | none=>match z0u h a with
     | some (asv,h1)=>match unp asv with
      | some vs=>match X.ext f vs with
       | some r=>some (.p r,h1,[])
       | none=>none
      | none=>none
     | none=>none
theorem z5P (X:Ctx) (o:Nat→List AV→Option AV) (ho:∀ f a v,o f a=some v→∀ h (K:Post),K v h []→z0d X f a h K) (n:Nat):∀ d,EvOk (z7s X o n d) (z0d X)
 | 0,f,a,h,v,h',x,K,H,hK=>by cases H
 | d+1,f,a,h,v,h',x,K,H,hK=>by
  unfold z7s at H
  split at H
  ·rename_i v1 hv
   simp only[Option.some.injEq,Prod.mk.injEq] at H
   obtain⟨rfl,rfl,rfl⟩:=H
   exact ho _ _ _ hv _ _ hK
  refine z0d.fold ?_
  unfold Step
  split at H
  ·rename_i F hF
   simp only[hF]
   unfold z4t
   cases hd:F.isDet with
   | true=>exact⟨v,h',x,hK,zcj (z5P X o ho n d) H ⟨rfl,rfl,rfl⟩⟩
   | false=>exact zcj (z5P X o ho n d) H hK
  ·rename_i hF
   simp only[hF]
   split at H
   ·rename_i hx2
    simp only[hx2]
    simp only[Option.some.injEq] at H
    subst H;exact hK
   ·rename_i hx2
    simp only[hx2]
    split at H
    ·rename_i hp
     simp only[hp]
     split at H
     ·rename_i hu
      simp only[hu]
      split at H
      ·rename_i hx
       simp only[hx]
       simp only[Option.some.injEq,Prod.mk.injEq] at H
       obtain⟨rfl,rfl,rfl⟩:=H;exact hK
      ·cases H
     ·cases H
    ·cases H
theorem zh0 {X:Ctx} {f:Nat} {a:List AV} {h:Heap} {v:AV} {h':Heap} {x:Esc} {o:Nat→List AV→Option AV} (ho:∀ f a v,o f a=some v→∀ h (K:Post),K v h []→z0d X f a h K) (n d:Nat) (H:z7s X o n d f a h=some (v,h',x)) (K:Post):z0d X f a h K↔K v h' x:=
 z0d.eq (z5P X o ho n d _ _ _ _ _ _ _ H ⟨rfl,rfl,rfl⟩) K
end Go.Am
end
section
/- The abstract machine,part 27: loops,and the rules of computing asv one set. -/
set_option linter.unusedSimpArgs false
set_option linter.unusedVariables false
namespace Go.Am
variable {C:Hd} {gl:Nat→Option PV} {e:List (Nat × AV)} {h:Heap} {x:Esc} {K:Ex→St→Prop} {s:St}
def zd6 {σ:Type} (S:σ→St) (P:σ→Prop) (m:σ→Nat) (K:Ex→St→Prop) (s:σ) (e:Ex) (s':St):Prop:=match e with
 | .normal=>∃ t,s'=S t∧P t∧m t<m s
 | .exit i=>K (.exit i) s'
 | .ret=>K .ret s'
theorem z6u {σ:Type} {S:σ→St} {P:σ→Prop} {m:σ→Nat} {K:Ex→St→Prop} {t:σ} {s':St}:zd6 S P m K t .normal s' = ∃ u,s'=S u∧P u∧m u<m t:=(rfl)
theorem z9i {σ:Type} {S:σ→St} {P:σ→Prop} {m:σ→Nat} {K:Ex→St→Prop} {t:σ} {s':St} {i:Nat}:zd6 S P m K t (.exit i) s'=K (.exit i) s':=(rfl)
theorem zcx {σ:Type} {S:σ→St} {P:σ→Prop} {m:σ→Nat} {K:Ex→St→Prop} {t:σ} {s':St}:zd6 S P m K t .ret s'=K .ret s':=(rfl)
theorem zd7 {σ:Type} {S:σ→St} {P:σ→Prop} {m:σ→Nat} {K:Ex→St→Prop} {t:σ} {ex ex':Ex} {s s':St} (he:ex=ex') (hs:s=s'):zd6 S P m K t ex s=zd6 S P m K t ex' s':=by rw[he,hs]
theorem z3N {T:St→(Ex→St→Prop)→Prop} {K:Ex→St→Prop} {s s':St} (h:T s=T s'):ALoop T K s=ALoop T K s':=by
 refine propext ⟨fun H=>?_,fun H=>?_⟩
 ·cases H with | mk _ R a b c d=>exact .mk _ R (h ▸ a) b c d
 ·cases H with | mk _ R a b c d=>exact .mk _ R (h.symm ▸ a) b c d
theorem z8w {l:List Nat} {e:List (Nat × AV)} {t:Nat} (ht:t∈l):aget (z01 (some l) e) t=aget e t:=by
 simp only[z01]
 induction l with
 | nil=>cases ht
 | cons k r ih=>
  simp only[List.map_cons,aget]
  split
  ·rename_i hk;rw[hk]
  ·rename_i hk
   rcases List.mem_cons.1 ht with h1 | h1
   ·exact absurd h1.symm hk
   ·exact ih h1
theorem z3i {l:List Nat} {e:List (Nat × AV)}:z01 (some l) (z01 (some l) e)=z01 (some l) e:=by
 show l.map _=l.map _
 exact List.map_congr_left fun t ht=>by rw[z8w ht]
def LoopP (C:Hd) (gl:Nat→Option PV) (l:List Nat) (b:ACode) (K:Ex→St→Prop) (e:List (Nat × AV)) (h:Heap) (x:Esc):Prop:=AW C gl (.loop (.pr l b)) ⟨e,h,x⟩ K
def LoopS (C:Hd) (gl:Nat→Option PV) (l:List Nat) (b:ACode) (K:Ex→St→Prop) (e:List (Nat × AV)) (h:Heap) (x:Esc):Prop:=AW C gl (.loop (.scope (.pr l b))) ⟨e,h,x⟩ K
theorem zpD {l:List Nat} {b:ACode}:AW C gl (.loop (.pr l b)) ⟨e,h,x⟩ K=LoopP C gl l b K (z01 (some l) e) h x:=by
 show ALoop _ _ _=ALoop _ _ _
 exact z3N (funext fun R=>by show AW C gl b _ R=AW C gl b _ R;dsimp only;rw[z3i])
theorem zpE {l:List Nat} {b:ACode}:AW C gl (.loop (.scope (.pr l b))) ⟨e,h,x⟩ K=LoopS C gl l b K (z01 (some l) e) h x:=by
 show ALoop _ _ _=ALoop _ _ _
 exact z3N (funext fun R=>by show AW C gl b _ _=AW C gl b _ _;dsimp only;rw[z3i])
theorem zdm {α:Type} (h l:List α) (n:Nat):(h++l)[h.length+n]?=l[n]?:=by
 rw[List.getElem?_append_right (by omega)];congr 1;omega
theorem zpN {α:Type} (h l:List α):(h++l)[h.length]?=l[0]?:=by
 rw[List.getElem?_append_right (by omega)];congr 1;omega
theorem zdn {α:Type} (h l:List α) (n:Nat) (o:α):(h++l).set (h.length+n) o=h++l.set n o:=by
 rw[List.set_append_right _ _ (by omega)];congr 2;omega
theorem zpO {α:Type} (h l:List α) (o:α):(h++l).set h.length o=h++l.set 0 o:=by
 rw[List.set_append_right _ _ (by omega)];congr 2;omega
theorem ze6 {α:Type} (h l:List α) (n:Nat):(h++l).take (h.length+n)=h++l.take n:=List.take_length_add_append ..
theorem zaT {α:Type} (h l:List α):(h++l).take h.length=h:=List.take_left ..
theorem zdl (h l:Heap) (n k:Nat):frz (h++l) (h.length+n) k=h++frz l n k:=by
 unfold frz
 rw[zdm]
 cases l[n]? with
 | none=>rfl
 | some o=>cases o <;> first | rfl | simp only[zdn]
theorem zpM (h l:Heap) (k:Nat):frz (h++l) h.length k=h++frz l 0 k:=zdl h l 0 k
theorem z0k (n:Int) (h1 : -9223372036854775808≤n) (h2:n≤9223372036854775807):IntKind.i64.wrap n=n:=by
 simp [IntKind.wrap,IntKind.bits,IntKind.signed];omega
def finR (rs:List ARes) (kp:Bool) (b:Nat) (P:Post) (e:Ex) (s:St):Prop:=match e with
 | .exit _=>False
 | _=>match z1C s rs with
  | some vs=>match kp with
   | true=>
    let n:=close s.esc.length s.esc (max b (z0D vs).top)
    if z0L s.esc n then P (z0D vs) (s.h.take n) (s.esc.filter fun y=>decide (y.1<n)) else P (z0D vs) s.h s.esc
   | false=>match reif b s.h (z0D vs) with
    | some v0=>
     let n:=close s.esc.length s.esc (max b v0.top)
     if z0L s.esc n then match reif n s.h (z0D vs) with
      | some v=>v.top≤n∧P v (s.h.take n) (s.esc.filter fun y=>decide (y.1<n))
      | none=>False
     else P (z0D vs) s.h s.esc
    | none=>False
  | none=>False
theorem zlM {F:AFun} {b:Nat} {P:Post}:finK F b P=finR F.results F.keep b P:=by
 funext e s;cases e <;> rfl
theorem zlN {rs:List ARes} {kp:Bool} {b:Nat} {P:Post} {i:Nat} {s:St}:finR rs kp b P (.exit i) s=False:=(rfl)
def retK (kp:Bool) (b:Nat) (P:Post) (o:Option (List AV)) (h:Heap) (x:Esc):Prop:=match o with
 | some vs=>match kp with
  | true=>
   let n:=close x.length x (max b (z0D vs).top)
   if z0L x n then P (z0D vs) (h.take n) (x.filter fun y=>decide (y.1<n)) else P (z0D vs) h x
  | false=>match reif b h (z0D vs) with
   | some v0=>
    let n:=close x.length x (max b v0.top)
    if z0L x n then match reif n h (z0D vs) with
     | some v=>v.top≤n∧P v (h.take n) (x.filter fun y=>decide (y.1<n))
     | none=>False
    else P (z0D vs) h x
   | none=>False
 | none=>False
theorem z79 {rs:List ARes} {kp:Bool} {b:Nat} {P:Post} {e:List (Nat × AV)} {h:Heap} {x:Esc}:finR rs kp b P .normal ⟨e,h,x⟩=retK kp b P (z1C ⟨e,h,x⟩ rs) h x:=(rfl)
theorem zfx {rs:List ARes} {kp:Bool} {b:Nat} {P:Post} {e:List (Nat × AV)} {h:Heap} {x:Esc}:finR rs kp b P .ret ⟨e,h,x⟩=retK kp b P (z1C ⟨e,h,x⟩ rs) h x:=(rfl)
theorem zgN {rs:List ARes} {kp:Bool} {b:Nat} {P:Post} {ex ex':Ex} {s s':St} (he:ex=ex') (hs:s=s'):finR rs kp b P ex s=finR rs kp b P ex' s':=by rw[he,hs]
theorem z3F {b:Nat} {P:Post} {vs:List AV} {h:Heap} (ht:(z0D vs).top≤b) (hr:∀ b,reif b h (z0D vs)=some (z0D vs)):retK false b P (some vs) h []=P (z0D vs) (h.take b) []:=by
 simp only[retK,hr,close,List.length_nil,z0L,List.all_nil,if_true,List.filter_nil,Nat.max_eq_left ht,ht,true_and]
theorem reif_p {b:Nat} {h:Heap} {v:PV}:reif b h (.p v)=some (.p v):=(rfl)
theorem zoB {b:Nat} {h:Heap}:z59 b h []=some []:=(rfl)
theorem retK_1 {b:Nat} {P:Post} {v:PV} {h:Heap}:retK false b P (some [.p v]) h []=P (.p v) (h.take b) []:=z3F (Nat.zero_le _) (fun _=>rfl)
theorem retK_2 {b:Nat} {P:Post} {v u:PV} {h:Heap}:retK false b P (some [.p v,.p u]) h []=P (.tup [.p v,.p u]) (h.take b) []:=z3F (by simp [z0D,AV.top,AV.tops]) (fun _=>rfl)
theorem retK_3 {b:Nat} {P:Post} {v u w:PV} {h:Heap}:retK false b P (some [.p v,.p u,.p w]) h []=P (.tup [.p v,.p u,.p w]) (h.take b) []:=z3F (by simp [z0D,AV.top,AV.tops]) (fun _=>rfl)
theorem retK_4 {b:Nat} {P:Post} {v u w z:PV} {h:Heap}:retK false b P (some [.p v,.p u,.p w,.p z]) h []=P (.tup [.p v,.p u,.p w,.p z]) (h.take b) []:=z3F (by simp [z0D,AV.top,AV.tops]) (fun _=>rfl)
theorem retK_0 {b:Nat} {P:Post} {h:Heap}:retK false b P (some []) h []=P (.tup []) (h.take b) []:=z3F (by simp [z0D,AV.top,AV.tops]) (fun _=>rfl)
theorem zrC {h:Heap}:h.take h.length=h:=List.take_length
theorem zvg {v:AV}:z0D [v]=v:=(rfl)
theorem zr8 {X:Ctx} {f:Nat} {F:AFun} {a asv:List AV} {h h1:Heap} {P:Post} (hf:X.fn f=some F) (hr:F.byref=false) (hp:z0u h a=some (asv,h1)) (hl:asv.length=F.nparams) (hd:F.isDet=false) :
 z0d X f a h P=AW (z0d X) X.gl F.body ⟨enter asv,h1,[]⟩ (finR F.results F.keep h.length P):=by
 rw[zi4 hf hd,zaP hr hp hl,zlM]
theorem zr7 {X:Ctx} {f:Nat} {F:AFun} {asv:List AV} {h:Heap} {P:Post} (hf:X.fn f=some F) (hr:F.byref=true) (hl:asv.length=F.nparams) (hd:F.isDet=false) :
 z0d X f asv h P=AW (z0d X) X.gl F.body ⟨enter asv,h,[]⟩ (finR F.results F.keep h.length P):=by
 rw[zi4 hf hd,zje hr hl,zlM]
theorem zcR {X:Ctx} {f:Nat} {F:AFun} {a asv:List AV} {h h1:Heap} {P:Post} (hf:X.fn f=some F) (hr:F.byref=false) (hp:z0u h a=some (asv,h1)) (hl:asv.length=F.nparams) (hd:F.isDet=true) :
 z0d X f a h P = ∃ v h' x,P v h' x∧AW (z0d X) X.gl F.body ⟨enter asv,h1,[]⟩ (finR F.results F.keep h.length fun v1 h1 x1=>v1=v∧h1=h'∧x1=x):=by
 rw[zpH hf hd]
 simp only[zaP hr hp hl,zlM]
theorem rule {X:Ctx} {f:Nat} {a:List AV} {h:Heap} {v:AV} {h':Heap} {x:Esc} {K:Post} (H:z0d X f a h fun v1 h1 x1=>v1=v∧h1=h'∧x1=x):z0d X f a h K=K v h' x:=propext (z0d.eq H K)
theorem zc0 {k:IntKind} {n:Nat}:z1a (.p (.int k (n:Int)))=some n:=by simp [z1a]
theorem zmL {k:IntKind} {n:Nat}:z1a (.p (.int k (no_index (OfNat.ofNat n:Int))))=some (OfNat.ofNat n:Nat):=zc0 (n:=n)
theorem zuV {k:IntKind}:z1a (.p (.int k 0))=some 0:=(rfl)
theorem zuW {k:IntKind}:z1a (.p (.int k 1))=some 1:=(rfl)
theorem z7G {k:IntKind} {n:Int} (h:0≤n):z1a (.p (.int k n))=some n.toNat:=by simp [z1a,h]
theorem z0X {α β:Type} (f:α→β) {l:List α} {k:Nat} (h:k<l.length):(l.map f)[k]?=some (f l[k]):=by simp [h]
attribute [go_sem] eqs PV.eq1 PV.kind ne_eq not_false_eq_true not_true_eq_false Bool.and_self Bool.or_self Bool.not_eq_true
attribute [go_sem] Nat.max_le Nat.add_le_add_iff_left Option.isSome_none Option.isSome_some false_and and_false List.length_range Nat.sub_zero Nat.le_add_right
attribute [go_sem] zc0 zuV zuW zmL Int.ofNat_lt Int.ofNat_le List.length_map
attribute [go_sem] zlN z79 zfx retK_0 retK_1 retK_2 retK_3 retK_4 zrC List.zipIdx_cons List.zipIdx_nil List.map_cons List.map_nil Nat.reduceAdd Nat.reduceEqDiff if_true if_false Option.map_some Option.map_none List.append_nil List.nil_append decide_eq_true_eq
def doS (C:Hd) (gl:Nat→Option PV) (q:AOp × List (Nat × AV) × AV) (h:Heap):Prop:=ADo C gl q.1 q.2.1 h q.2.2 h []
def agK (C:Hd) (gl:Nat→Option PV) (h:Heap) (dn:Done):List Nat→Prop
 | []=>True
 | j::r=>(match dn[j]? with | some q=>doS C gl q h | none=>False)∧agK C gl h dn r
def eaK (C:Hd) (gl:Nat→Option PV) (o:AOp) (e:List (Nat × AV)) (v:AV) (hs:List Heap):List Nat→Prop
 | []=>True
 | k::r=>(match hs[k]? with | some g=>doS C gl (o,e,v) g | none=>False)∧eaK C gl o e v hs r
theorem zjf {C:Hd} {gl:Nat→Option PV} {h:Heap} {dn:Done}:∀ {l:List Nat},agK C gl h dn l↔∀ j∈l,∃ q,dn[j]?=some q∧ADo C gl q.1 q.2.1 h q.2.2 h []
 | []=>by simp [agK]
 | j::r=>by
  simp only[agK,List.mem_cons,forall_eq_or_imp]
  rw[zjf (l:=r)]
  refine and_congr_left (fun _=>?_)
  cases hd:dn[j]? with
  | none=>simp
  | some q=>simp [doS]
theorem zlz {C:Hd} {gl:Nat→Option PV} {o:AOp} {e:List (Nat × AV)} {v:AV} {hs:List Heap}:∀ {l:List Nat},eaK C gl o e v hs l↔∀ k∈l,∃ g,hs[k]?=some g∧ADo C gl o e g v g []
 | []=>by simp [eaK]
 | j::r=>by
  simp only[eaK,List.mem_cons,forall_eq_or_imp]
  rw[zlz (l:=r)]
  refine and_congr_left (fun _=>?_)
  cases hd:hs[j]? with
  | none=>simp
  | some q=>simp [doS]
def effK (b:Bool) (h h':Heap) (y:Esc):Prop:=match b with
 | true=>True
 | false=>h'=h∧y=[]
theorem zcd {C:Hd} {gl:Nat→Option PV} {e:List (Nat × AV)} {h:Heap} {x:Esc} {L:List (Nat × AV)→Heap→Esc→Prop} {op:AOp} {rd early again:List Nat} {eff:Bool} {r:List DOp} {dn:Done} {hs:List Heap} {v:AV} {h':Heap} {y:Esc} :
 zqw C gl ⟨op,rd,eff,early,again⟩ r dn hs e h x L v h' y=(effK eff h h' y∧eaK C gl op (z01 (some rd) e) v hs early∧agK C gl h' dn again∧z1U C gl r (dn++[(op,z01 (some rd) e,v)]) (hs++[h]) (put op.dst v e) h' (y++x) L):=by
 rw[zqx,← propext zlz,← propext zjf]
 cases eff <;> simp [effK]
theorem zl1 {h h':Heap} {y:Esc}:effK true h h' y=True:=(rfl)
theorem zl0 {h:Heap}:effK false h h []=True:=by simp [effK]
theorem ztI {C:Hd} {gl:Nat→Option PV} {h:Heap} {dn:Done}:agK C gl h dn []=True:=(rfl)
theorem zpJ {C:Hd} {gl:Nat→Option PV} {h:Heap} {dn:Done} {j:Nat} {r:List Nat}:agK C gl h dn (j::r)=((match dn[j]? with | some q=>doS C gl q h | none=>False)∧agK C gl h dn r):=(rfl)
theorem zux {C:Hd} {gl:Nat→Option PV} {o:AOp} {e:List (Nat × AV)} {v:AV} {hs:List Heap}:eaK C gl o e v hs []=True:=(rfl)
theorem zqy {C:Hd} {gl:Nat→Option PV} {o:AOp} {e:List (Nat × AV)} {v:AV} {hs:List Heap} {j:Nat} {r:List Nat}:eaK C gl o e v hs (j::r)=((match hs[j]? with | some g=>doS C gl (o,e,v) g | none=>False)∧eaK C gl o e v hs r):=(rfl)
theorem zsz {C:Hd} {gl:Nat→Option PV} {d:Option Nat} {g:Option (Nat × Bool)} {op:AO} {e:List (Nat × AV)} {v:AV} {h:Heap}:doS C gl (⟨d,g,op⟩,e,v) h=doK C gl ⟨d,g,op⟩ e h (fun v1 h1 x1=>v1=v∧h1=h∧x1=[]):=by
 unfold doS doK
 refine propext ⟨fun H=>⟨_,_,_,H,rfl,rfl,rfl⟩,fun ⟨v1,h1,x1,H,a,b,c⟩=>by subst a;subst b;subst c;exact H⟩
theorem zj8 {p:Prop} [Decidable p] {A B:Prop}:z0l (.p (.bool (decide p))) A B=if p then A else B:=by rw[z8F];simp
def z6d (C:Hd) (v:AV) (asv:List AV) (h:Heap) (L:Post):Prop:=match v with
 | .fn g caps=>C g (asv++caps) h L
 | _=>False
theorem z6F {C:Hd} {gl:Nat→Option PV} {e:List (Nat × AV)} {h:Heap} {x:Esc} {L:List (Nat × AV)→Heap→Esc→Prop} {d:Option Nat} {f:Opd} {args:List Opd} {r:List AOp} :
 AReg C gl (⟨d,none,.callv f args⟩::r) e h x L=z6d C (Opd.ev gl e f) (args.map (Opd.ev gl e)) h (z0C C gl r d e x L):=by
 have h2:wanted none e=some true:=(rfl)
 rw[AReg]
 simp only[h2]
 unfold z6d
 split <;> simp_all <;> rfl
def z6O (C:Hd) (v:AV) (asv:List AV) (h:Heap) (R:AV→Heap→Esc→Prop):Prop:=match v with
 | .fn g caps=>z1J C g (asv++caps) h R
 | _=>False
theorem z8N {C:Hd} {gl:Nat→Option PV} {e:List (Nat × AV)} {h:Heap} {R:AV→Heap→Esc→Prop} {d:Option Nat} {f:Opd} {args:List Opd} :
 doK C gl ⟨d,none,.callv f args⟩ e h R=z6O C (Opd.ev gl e f) (args.map (Opd.ev gl e)) h R:=by
 have h2:wanted none e=some true:=(rfl)
 unfold doK ADo
 simp only[h2]
 unfold z6O z1J
 split <;> simp_all
theorem zjv {C:Hd} {g:Nat} {caps asv:List AV} {h:Heap} {L:Post}:z6d C (.fn g caps) asv h L=C g (asv++caps) h L:=(rfl)
theorem zju {C:Hd} {g:Nat} {caps asv:List AV} {h:Heap} {R:AV→Heap→Esc→Prop}:z6O C (.fn g caps) asv h R=z1J C g (asv++caps) h R:=(rfl)
theorem zaZ {C:Hd} {v v':AV} {asv asv':List AV} {h h':Heap} {L:Post} (h1:v=v') (h2:asv=asv') (h3:h=h'):z6d C v asv h L=z6d C v' asv' h' L:=by rw[h1,h2,h3]
theorem zaY {C:Hd} {v v':AV} {asv asv':List AV} {h h':Heap} {R:AV→Heap→Esc→Prop} (h1:v=v') (h2:asv=asv') (h3:h=h'):z6O C v asv h R=z6O C v' asv' h' R:=by rw[h1,h2,h3]
attribute [go_sem] z6F z8N zjv zju
attribute [congr] zaZ zaY
theorem zqc {k:IntKind} {n:Int}:cutP none 0 (.int k n)=some (.int k n):=(rfl)
theorem zjC {b:Bool}:cutP none 0 (.bool b)=some (.bool b):=(rfl)
theorem zqd {s:List UInt8}:cutP none 0 (.str s)=some (.str s):=(rfl)
theorem zun {sh:Sh} {xs:List PV}:cutP none 0 (.sl sh xs)=some (.sl sh xs):=(rfl)
theorem zjE:cutP none 0 .nilp=some .nilp:=(rfl)
theorem zjD {off:Nat} {cs:List PV}:cutP none off (.agg cs)=(cs[off]?).bind fun x=>if x.sc then some x else none:=(rfl)
theorem zqb {n off:Nat} {cs:List PV}:cutP (some n) off (.agg cs)=if off+n≤cs.length then some (.agg ((cs.drop off).take n)) else none:=(rfl)
theorem zum {v:PV} (h:v.sc=true):cutP none 0 v=some v:=by cases v <;> first | rfl | cases h
attribute [go_sem] zqc zjC zqd zun zjE zjD zqb
theorem zuy {id:Nat} {v:PV}:z1X id (.p v)=[]:=(rfl)
attribute [go_sem] List.take_succ_cons List.take_zero List.take_nil List.drop_succ_cons List.drop_zero List.drop_nil List.length_cons List.length_nil Nat.reduceLeDiff Nat.reduceLT Int.reduceLT Int.reduceLE Int.reduceAdd Int.reduceSub Int.reduceMul Int.reduceNeg Int.reduceEq Nat.reduceSub Nat.reduceMul Nat.le_refl List.append_assoc
theorem zpl {b:Nat} {x0:Esc} {e:List (Nat × AV)} {h:Heap}:z5W b x0 ⟨e,h,[]⟩=⟨z8y b e,h.take b,x0⟩:=(rfl)
theorem zj4 {n:Nat}:z8y n []=[]:=(rfl)
theorem zgA {n k:Nat} {v:AV} {r:List (Nat × AV)}:z8y n ((k,v)::r)=(k,if v.top≤n then v else .und)::z8y n r:=(rfl)
theorem top_p {v:PV}:AV.top (.p v)=0:=(rfl)
theorem zph {id g o l:Nat}:AV.top (.own id g o l)=id+1:=by simp [AV.top]
theorem zvL {id o:Nat}:AV.top (.ref id o)=id+1:=by simp [AV.top]
theorem zrI {id g i o:Nat}:AV.top (.rref id g i o)=id+1:=by simp [AV.top]
theorem top_mp {id:Nat}:AV.top (.mp id)=id+1:=by simp [AV.top]
theorem top_it {id:Nat}:AV.top (.it id)=id+1:=by simp [AV.top]
theorem top_fn {f:Nat} {cs:List AV}:AV.top (.fn f cs)=AV.tops cs:=by simp [AV.top]
theorem zvJ {cs:List AV}:AV.top (.agg cs)=AV.tops cs:=by simp [AV.top]
theorem zvO {cs:List AV}:AV.top (.tup cs)=AV.tops cs:=by simp [AV.top]
theorem top_vp {v:PV}:AV.top (.vp v)=0:=(rfl)
theorem zvP:AV.top .und=0:=(rfl)
theorem zvM:AV.top .skp=0:=(rfl)
theorem zrD:AV.top .anyp=0:=(rfl)
theorem top_bt {k t id g:Nat}:AV.top (.bt k t id g)=id+1:=by simp [AV.top]
theorem zvN {sh:Sh}:AV.top (.sl0 sh)=0:=(rfl)
theorem zrH:AV.top .nilp=0:=(rfl)
theorem zrG:AV.top .nilm=0:=(rfl)
theorem zrE:AV.top .nilf=0:=(rfl)
theorem zrF:AV.top .nili=0:=(rfl)
theorem zvK:AV.top .ifc=0:=(rfl)
theorem zrJ:AV.tops []=0:=(rfl)
theorem zpi {v:AV} {r:List AV}:AV.tops (v::r)=max v.top (AV.tops r):=by simp [AV.tops]
theorem zrq {b:Nat} {P:Post} {vs:List AV} {h:Heap}:retK false b P (some vs) h []=match reif b h (z0D vs) with
 | some v0=>match reif (max b v0.top) h (z0D vs) with
  | some v=>v.top≤max b v0.top∧P v (h.take (max b v0.top)) []
  | none=>False
 | none=>False:=by
 simp only[retK,close,List.length_nil,z0L,List.all_nil,if_true,List.filter_nil]
theorem zrm {b:Nat} {h:Heap} {id g off len:Nat}:reif b h (.own id g off len)=if b≤id then (rd h (.own id g off len)).map fun y=>.p (.sl y.1 y.2) else some (.own id g off len):=by simp only[reif]
theorem zro {b:Nat} {h:Heap} {sh:Sh}:reif b h (.sl0 sh)=some (.p (.sl sh [])):=by simp only[reif]
theorem zrl {b:Nat} {h:Heap} {cs:List AV}:reif b h (.agg cs)=(z59 b h cs).map mkA:=by simp only[reif]
theorem zrp {b:Nat} {h:Heap} {cs:List AV}:reif b h (.tup cs)=(z59 b h cs).map .tup:=by simp only[reif]
theorem zrn {b:Nat} {h:Heap} {id o:Nat}:reif b h (.ref id o)=some (.ref id o):=by simp only[reif]
theorem zvo {b:Nat} {h:Heap} {id:Nat}:reif b h (.mp id)=some (.mp id):=by simp only[reif]
theorem zvn {b f:Nat} {h:Heap} {cs:List AV}:reif b h (.fn f cs)=some (.fn f cs):=by simp only[reif]
theorem zhg {b:Nat} {h:Heap} {v:AV} {r:List AV}:z59 b h (v::r)=(match reif b h v with | some x=>(z59 b h r).map (x :: ·) | none=>none):=by rw[z59];cases reif b h v <;> rfl
theorem zvh {v u:AV} {r:List AV}:z0D (v::u::r) = .tup (v::u::r):=(rfl)
theorem zvf:z0D [] = .tup []:=(rfl)
theorem zoY {h l:Heap} {id:Nat} {o:Obj} (hid:id<h.length):(h++l).set id o=h.set id o++l:=List.set_append_left _ _ hid
theorem zlY {h l:Heap} {id:Nat} (hid:id<h.length):(h++l)[id]?=h[id]?:=List.getElem?_append_left hid
theorem zfX {h l:Heap} {i n:Nat} {o:Obj}:(h.set i o++l)[h.length+n]?=l[n]?:=by
 have:=zdm (h.set i o) l n;rwa [List.length_set] at this
theorem zoU {h l:Heap} {i:Nat} {o:Obj}:(h.set i o++l)[h.length]?=l[0]?:=zfX (n:=0)
theorem zfY {h l:Heap} {i n:Nat} {o q:Obj}:(h.set i o++l).set (h.length+n) q=h.set i o++l.set n q:=by
 have:=zdn (h.set i o) l n q;rwa [List.length_set] at this
theorem zoV {h l:Heap} {i:Nat} {o q:Obj}:(h.set i o++l).set h.length q=h.set i o++l.set 0 q:=zfY (n:=0)
theorem zoW {h l:Heap} {i n:Nat} {o:Obj}:(h.set i o++l).take (h.length+n)=h.set i o++l.take n:=by
 have:=ze6 (h.set i o) l n;rwa [List.length_set] at this
theorem zhn {h l:Heap} {i:Nat} {o:Obj}:(h.set i o++l).take h.length=h.set i o:=by
 have:=zaT (h.set i o) l;rwa [List.length_set] at this
theorem zfW {h l:Heap} {i n k:Nat} {o:Obj}:frz (h.set i o++l) (h.length+n) k=h.set i o++frz l n k:=by
 have:=zdl (h.set i o) l n k;rwa [List.length_set] at this
theorem zoT {h l:Heap} {i k:Nat} {o:Obj}:frz (h.set i o++l) h.length k=h.set i o++frz l 0 k:=zfW (n:=0)
theorem za1 {α:Type} {l:List α} {n:Nat} (h:l.length=n):win l 0 n=l:=by subst h;simp [win]
theorem zvU {α:Type} (l:List α):win l 0 l.length=l:=by simp [win]
attribute [go_sem] zpl zj4 zgA top_p zph zvL zrI top_mp top_it top_fn zvJ zvO top_vp zvP zvM zvN zrH zrG zrE zrF zvK zrD top_bt zrJ zpi Nat.max_zero Nat.zero_max Nat.zero_le reif_p zrm zro zrl zrp zrn zvo zvn zoB zhg zvh zvf zdm zpN zdn zpO ze6 zaT zdl zpM zfX zoU zfY zoV zoW zhn zfW zoT List.length_append zvU Nat.add_le_add_iff_right Nat.zero_add Nat.add_zero
attribute [go_sem] zae PV.shp List.reduceReplicate cond_true cond_false Bool.not_true Bool.not_false Bool.false_eq_true Bool.true_and Bool.and_true Bool.false_and Bool.and_false Bool.true_or Bool.or_true Bool.false_or Bool.or_false beq_self_eq_true List.all_cons List.all_nil
attribute [go_sem low] zrq
theorem zcU {h:Heap} {id:Nat} {o:Obj}:(h.set id o).take h.length=h.set id o:=List.take_of_length_le (by simp)
attribute [go_sem] zcU Int.natCast_zero Int.natCast_one Int.cast_ofNat_Int
attribute [go_sem] aun z8v zjh zji List.foldlM_cons List.foldlM_nil Option.bind_some Option.pure_def Option.bind_eq_bind List.cons_append List.nil_append Int.zero_sub List.length_singleton
attribute [go_sem] zqa z0a zuy
attribute [congr] zdx
attribute [go_sem] ztC zh3 z82 doK_mv zqv zkf zus zkg zut zqm zkq zgG zur zuu zkl zqr doK_un zqg zqq zkm zqs zkn zko zki zkj zkk zgD zqi zqj zqn zqt zqp zgC zqo zuv zuw zql zqk zuq zqh doK_mx doK_mn zgF zgE zqu zff zcc z1J ex3' zcd zl1 zl0 ztI zpJ zux zqy zsz List.not_mem_nil List.mem_cons List.mem_singleton forall_eq_or_imp forall_eq false_implies true_implies implies_true forall_const and_true true_and List.cons_append and_self reduceCtorEq List.getElem?_cons_zero List.getElem?_cons_succ Option.some.injEq exists_eq_left' List.set_cons_zero List.set_cons_succ List.set_set List.length_set
attribute [congr] zkh zdq zda zcZ
attribute [congr] zgN
attribute [go_sem] zpD zpE
attribute [go_sem] ztE AW_ret ztD AW_bad AW_reg AW_seq ztB zp5 zp7 AW_pr zvm zdK zoX zr0 z9P zdo zg8 zcN zp4 zt8 zhK zgo zpz zgp zp0 zhB zgy zdf zpy zp1 zgu zhG ztA zh5 zhF zgv zhH zgw zgx zgr zgs zgt zdc zh7 zh8 zhC zhI zhE zdb zhD zp2 zp3 zhA zh9 zpx zh6 zt9 zt7 zde zdd zhJ z85 za5 zmU zmT zre zc6 z8G z6Z zj8 zcY decide_true decide_false z6u z9i zcx aop Opd.ev aget put z01 abin aint astr z1C ares zvg enter rd rds pur purs z0u mkA unp cut AV.cells PV.cells PV.sc AV.sc splice pint pbool zad
attribute [go_sem low] z8F zhx zdT
theorem zgh {A B:Prop}:z20 (.p (.bool true)) true A B=A:=(rfl)
theorem zge {A B:Prop}:z20 (.p (.bool false)) false A B=A:=(rfl)
theorem zgg {A B:Prop}:z20 (.p (.bool true)) false A B=B:=(rfl)
theorem zgf {A B:Prop}:z20 (.p (.bool false)) true A B=B:=(rfl)
attribute [go_sem] zgh zge zgg zgf
attribute [congr] zdv zdS zgZ zgq zp6 zhf zho zaV zcM zd7
end Go.Am
end
section
/- The abstract machine,part 28: where no map is ranged over,a call that ends well ends in one way. -/
set_option linter.unusedSimpArgs false
set_option linter.unusedVariables false
namespace Go.Am
def AO.noNext:AO→Bool
 | .mnext _ _=>false
 | _=>true
def ACode.noNext:ACode→Bool
 | .reg ops _=>ops.all fun o=>o.op.noNext
 | .seq a b=>a.noNext&&b.noNext
 | .cond _ a b=>a.noNext&&b.noNext
 | .condu _ _ _=>false
 | .det _=>false
 | .block _ b=>b.noNext
 | .loop b=>b.noNext
 | .scope b=>b.noNext
 | .pr _ b=>b.noNext
 | _=>true
def Dt (C D:Hd):Prop:=∀ f a h K,C f a h K→∃ v h' x,K v h' x∧D f a h fun v1 h1 x1=>v1=v∧h1=h'∧x1=x
variable {C D:Hd} {gl:Nat→Option PV}
theorem z41 (hD:D.Mono) (hC:Dt C D):∀ (ops:List AOp) e h x K,(ops.all fun o=>o.op.noNext)=true→AReg C gl ops e h x K→∃ e' h' x',K e' h' x'∧AReg D gl ops e h x fun e1 h1 x1=>e1=e'∧h1=h'∧x1=x'
 | [],e,h,x,K,_,H=>⟨e,h,x,H,rfl,rfl,rfl⟩
 | o::r,e,h,x,K,hn,H=>by
  obtain⟨dst,guard,op⟩:=o
  simp only[List.all_cons,Bool.and_eq_true] at hn
  obtain⟨hn1,hn2⟩:=hn
  unfold AReg at H
  dsimp only at H
  split at H
  ·rename_i hw
   cases op
   case call f args=>
    obtain⟨v,h',x',H',G'⟩:=hC _ _ _ _ H
    obtain⟨e2,h2,x2,k2,g2⟩:=z41 hD hC r _ _ _ K hn2 H'
    refine⟨e2,h2,x2,k2,?_⟩
    unfold AReg;simp only[hw]
    exact hD _ _ _ _ _ (fun v1 h1 x1 ⟨a1,a2,a3⟩=>by subst a1;subst a2;subst a3;exact g2) G'
   case callv f args=>
    dsimp only at H
    split at H
    ·rename_i hf
     obtain⟨v,h',x',H',G'⟩:=hC _ _ _ _ H
     obtain⟨e2,h2,x2,k2,g2⟩:=z41 hD hC r _ _ _ K hn2 H'
     refine⟨e2,h2,x2,k2,?_⟩
     unfold AReg;simp only[hw,hf]
     exact hD _ _ _ _ _ (fun v1 h1 x1 ⟨a1,a2,a3⟩=>by subst a1;subst a2;subst a3;exact g2) G'
    ·exact H.elim
   case mnext sh xs=>simp [AO.noNext] at hn1
   all_goals
    dsimp only at H
    split at H
    ·rename_i ha
     obtain⟨e2,h2,x2,k2,g2⟩:=z41 hD hC r _ _ _ K hn2 H
     refine⟨e2,h2,x2,k2,?_⟩
     unfold AReg;simp only[hw,ha]
     exact g2
    ·exact H.elim
  ·rename_i hw
   obtain⟨e2,h2,x2,k2,g2⟩:=z41 hD hC r _ _ _ K hn2 H
   refine⟨e2,h2,x2,k2,?_⟩
   unfold AReg;simp only[hw]
   exact g2
  ·exact H.elim
theorem z5G (hD:D.Mono) (hC:Dt C D) {o:AOp} {e:List (Nat × AV)} {h h':Heap} {v:AV} {x:Esc} (H:ADo C gl o e h v h' x):ADo D gl o e h v h' x:=by
 have key:∀ f a h,C f a h (fun v1 h1 x1=>v1=v∧h1=h'∧x1=x)→D f a h (fun v1 h1 x1=>v1=v∧h1=h'∧x1=x):=fun f a h hc=>by
  obtain⟨v2,h2,x2,⟨e1,e2,e3⟩,hd⟩:=hC _ _ _ _ hc
  subst e1;subst e2;subst e3
  exact hd
 unfold ADo at H ⊢
 split at H
 ·split at H
  ·exact key _ _ _ H
  ·split at H
   ·exact key _ _ _ H
   ·exact H.elim
  ·exact H.elim
  ·exact H
 ·exact H
 ·exact H.elim
theorem za4 (hD:D.Mono) (hC:Dt C D):∀ (ds:List DOp) dn hs e h x K,z1U C gl ds dn hs e h x K→∃ e' h' x',K e' h' x'∧z1U D gl ds dn hs e h x fun e1 h1 x1=>e1=e'∧h1=h'∧x1=x'
 | [],dn,hs,e,h,x,K,H=>⟨e,h,x,H,rfl,rfl,rfl⟩
 | o::r,dn,hs,e,h,x,K,H=>by
  obtain⟨v,h',y,h1,h2,h3,h4,h5⟩:=H
  obtain⟨e2,q2,x2,k2,g2⟩:=za4 hD hC r _ _ _ _ _ K h5
  exact⟨e2,q2,x2,k2,v,h',y,z5G hD hC h1,h2,fun k hk=>by obtain⟨g,a1,a2⟩:=h3 k hk;exact⟨g,a1,z5G hD hC a2⟩,
   fun j hj=>by obtain⟨q,a1,a2⟩:=h4 j hj;exact⟨q,a1,z5G hD hC a2⟩,g2⟩
theorem zh4 {T U:St→(Ex→St→Prop)→Prop} (hT:∀ s K,T s K→∃ e s',K e s'∧U s fun e1 s1=>e1=e∧s1=s') {K:Ex→St→Prop} {s:St} (H:ALoop T K s):∃ e s',K e s'∧ALoop U (fun e1 s1=>e1=e∧s1=s') s:=by
 induction H with
 | mk s R h hn he hr ih=>
  obtain⟨e,s',hR,hU⟩:=hT _ _ h
  cases e with
  | normal=>
   obtain⟨e2,s2,k2,g2⟩:=ih s' hR
   exact⟨e2,s2,k2,.mk _ _ hU (fun s1 ⟨_,h1⟩=>by subst h1;exact g2) (fun i s1 ⟨h1,_⟩=>by cases h1) (fun s1 ⟨h1,_⟩=>by cases h1)⟩
  | exit i=>exact⟨_,_,he i s' hR,.mk _ _ hU (fun s1 ⟨h1,_⟩=>by cases h1) (fun j s1 h1=>h1) (fun s1 ⟨h1,_⟩=>by cases h1)⟩
  | ret=>exact⟨_,_,hr s' hR,.mk _ _ hU (fun s1 ⟨h1,_⟩=>by cases h1) (fun j s1 ⟨h1,_⟩=>by cases h1) (fun s1 h1=>h1)⟩
theorem z42 (hD:D.Mono) (hC:Dt C D):∀ (c:ACode),c.noNext=true→∀ s K,AW C gl c s K→∃ e s',K e s'∧AW D gl c s fun e1 s1=>e1=e∧s1=s'
 | .skip,_,s,K,H=>⟨_,_,H,rfl,rfl⟩
 | .reg ops keep,hn,s,K,H=>by
  obtain⟨e,h,x,h1,h2⟩:=z41 hD hC ops _ _ _ _ hn H
  refine⟨_,_,h1,?_⟩
  show AReg D gl ops s.env s.h s.esc fun e1 h1 x1=>_
  exact z2b (C:=D) (C':=D) (fun f a h K K' hK h=>hD _ _ _ _ _ hK h) ops _ _ _ _ _ (fun e1 h1 x1 ⟨a1,a2,a3⟩=>by subst a1;subst a2;subst a3;exact⟨rfl,rfl⟩) h2
 | .draw ds keep,_,s,K,H=>by
  obtain⟨e,h,x,h1,h2⟩:=za4 hD hC ds _ _ _ _ _ _ H
  refine⟨_,_,h1,?_⟩
  show z1U D gl ds [] [] s.env s.h s.esc fun e1 h1 x1=>_
  exact z5I (C:=D) (C':=D) (fun f a h K K' hK h=>hD _ _ _ _ _ hK h) ds _ _ _ _ _ _ _ (fun e1 h1 x1 ⟨a1,a2,a3⟩=>by subst a1;subst a2;subst a3;exact⟨rfl,rfl⟩) h2
 | .seq a b,hn,s,K,H=>by
  simp only[ACode.noNext,Bool.and_eq_true] at hn
  obtain⟨e,s',h1,h2⟩:=z42 hD hC a hn.1 _ _ H
  have mono:=fun (K K':Ex→St→Prop) (hK:∀ e s,K e s→K' e s)=>z1e (C:=D) (C':=D) (gl:=gl) (fun f a h K K' hK h=>hD _ _ _ _ _ hK h) a s K K' hK
  cases e with
  | normal=>
   obtain⟨e2,s2,k2,g2⟩:=z42 hD hC b hn.2 _ _ h1
   refine⟨e2,s2,k2,mono _ _ (fun e1 s1 ⟨a1,a2⟩=>?_) h2⟩
   subst a1;subst a2;exact g2
  | exit i=>exact⟨_,_,h1,mono _ _ (fun e1 s1 ⟨a1,a2⟩=>by subst a1;subst a2;exact⟨rfl,rfl⟩) h2⟩
  | ret=>exact⟨_,_,h1,mono _ _ (fun e1 s1 ⟨a1,a2⟩=>by subst a1;subst a2;exact⟨rfl,rfl⟩) h2⟩
 | .condu c a b,hn,s,K,H=>by cases hn
 | .det b,hn,s,K,H=>by cases hn
 | .cond c a b,hn,s,K,H=>by
  simp only[ACode.noNext,Bool.and_eq_true] at hn
  unfold AW at H
  split at H
  ·rename_i t ht
   split at H
   ·obtain⟨e,s',h1,h2⟩:=z42 hD hC a hn.1 _ _ H
    refine⟨e,s',h1,?_⟩
    unfold AW;simp only[ht];exact h2
   ·obtain⟨e,s',h1,h2⟩:=z42 hD hC b hn.2 _ _ H
    refine⟨e,s',h1,?_⟩
    unfold AW;simp only[ht];exact h2
  ·exact H.elim
 | .block id b,hn,s,K,H=>by
  obtain⟨e,s',h1,h2⟩:=z42 hD hC b hn _ _ H
  have mono:=fun (K K':Ex→St→Prop) (hK:∀ e s,K e s→K' e s)=>z1e (C:=D) (C':=D) (gl:=gl) (fun f a h K K' hK h=>hD _ _ _ _ _ hK h) b s K K' hK
  cases e with
  | normal=>exact⟨_,_,h1,mono _ _ (fun e1 s1 ⟨a1,a2⟩=>by subst a1;subst a2;exact⟨rfl,rfl⟩) h2⟩
  | exit i=>
   dsimp only at h1
   split at h1
   ·rename_i hi
    exact⟨_,_,h1,mono _ _ (fun e1 s1 ⟨a1,a2⟩=>by subst a1;subst a2;dsimp only;rw[if_pos hi];exact⟨rfl,rfl⟩) h2⟩
   ·rename_i hi
    exact⟨_,_,h1,mono _ _ (fun e1 s1 ⟨a1,a2⟩=>by subst a1;subst a2;dsimp only;rw[if_neg hi];exact⟨rfl,rfl⟩) h2⟩
  | ret=>exact⟨_,_,h1,mono _ _ (fun e1 s1 ⟨a1,a2⟩=>by subst a1;subst a2;exact⟨rfl,rfl⟩) h2⟩
 | .loop b,hn,s,K,H=>zh4 (fun s K h=>z42 hD hC b hn s K h) H
 | .scope b,hn,s,K,H=>by
  obtain⟨e,s',h1,h2⟩:=z42 hD hC b hn _ _ H
  exact⟨_,_,h1,z1e (C:=D) (C':=D) (gl:=gl) (fun f a h K K' hK h=>hD _ _ _ _ _ hK h) b _ _ _ (fun e1 s1 ⟨a1,a2⟩=>by subst a1;subst a2;exact⟨rfl,rfl⟩) h2⟩
 | .pr l b,hn,s,K,H=>z42 hD hC b hn _ K H
 | .exit id,_,s,K,H=>⟨_,_,H,rfl,rfl⟩
 | .ret,_,s,K,H=>⟨_,_,H,rfl,rfl⟩
 | .bad,_,s,K,H=>H.elim
theorem zlO {F:AFun} {b:Nat} {s:St} {K:Post} (H:fin F b s K):∃ v h x,K v h x∧fin F b s fun v1 h1 x1=>v1=v∧h1=h∧x1=x:=by
 unfold fin at H
 cases h1:z1C s F.results with
 | none=>rw[h1] at H;exact H.elim
 | some vs=>
  rw[h1] at H
  dsimp only at H
  cases h2:F.keep with
  | true=>
   rw[h2] at H
   dsimp only at H
   by_cases h3:z0L s.esc (close (List.length s.esc) s.esc (max b (z0D vs).top))=true
   ·rw[if_pos h3] at H
    exact⟨_,_,_,H,by unfold fin;rw[h1];dsimp only;rw[h2];dsimp only;rw[if_pos h3];exact⟨rfl,rfl,rfl⟩⟩
   ·rw[if_neg h3] at H
    exact⟨_,_,_,H,by unfold fin;rw[h1];dsimp only;rw[h2];dsimp only;rw[if_neg h3];exact⟨rfl,rfl,rfl⟩⟩
  | false=>
   rw[h2] at H
   dsimp only at H
   cases h4:reif b s.h (z0D vs) with
   | none=>rw[h4] at H;exact H.elim
   | some v0=>
    rw[h4] at H
    dsimp only at H
    by_cases h3:z0L s.esc (close (List.length s.esc) s.esc (max b v0.top))=true
    ·rw[if_pos h3] at H
     cases h5:reif (close (List.length s.esc) s.esc (max b v0.top)) s.h (z0D vs) with
     | none=>rw[h5] at H;exact H.elim
     | some v=>
      rw[h5] at H
      exact⟨_,_,_,H.2,by unfold fin;rw[h1];dsimp only;rw[h2];dsimp only;rw[h4];dsimp only;rw[if_pos h3,h5];exact⟨H.1,rfl,rfl,rfl⟩⟩
    ·rw[if_neg h3] at H
     exact⟨_,_,_,H,by unfold fin;rw[h1];dsimp only;rw[h2];dsimp only;rw[h4];dsimp only;rw[if_neg h3];exact⟨rfl,rfl,rfl⟩⟩
def Ctx.NoNext (X:Ctx):Prop:=∀ f F,X.fn f=some F→(F.isDet||F.body.noNext)=true
theorem zjd (hD:D.Mono) (hC:Dt C D) {F:AFun} {a:List AV} {h:Heap} {K:Post} (hb:F.body.noNext=true) (H:z2w C gl F a h K):∃ v h' x,K v h' x∧z2w D gl F a h fun v1 h1 x1=>v1=v∧h1=h'∧x1=x:=by
 unfold z2w at H ⊢
 cases hp:(if F.byref then some (a,h) else z0u h a) with
 | none=>rw[hp] at H;exact H.elim
 | some q=>
  obtain⟨asv,h1⟩:=q
  rw[hp] at H
  obtain⟨hl,H⟩:=H
  obtain⟨e,s',k1,g1⟩:=z42 hD hC _ hb _ _ H
  have mono:=fun (K K':Ex→St→Prop) (hK:∀ e s,K e s→K' e s)=>z1e (C:=D) (C':=D) (gl:=gl) (fun f a h K K' hK h=>hD _ _ _ _ _ hK h) F.body ⟨enter asv,h1,[]⟩ K K' hK
  cases e with
  | exit i=>exact k1.elim
  | normal=>
   obtain⟨v,h',x,k2,g2⟩:=zlO k1
   exact⟨v,h',x,k2,hl,mono _ _ (fun e1 s1 ⟨a1,a2⟩=>by subst a1;subst a2;exact g2) g1⟩
  | ret=>
   obtain⟨v,h',x,k2,g2⟩:=zlO k1
   exact⟨v,h',x,k2,hl,mono _ _ (fun e1 s1 ⟨a1,a2⟩=>by subst a1;subst a2;exact g2) g1⟩
theorem zhz {X:Ctx} (hX:X.NoNext):Dt (z0d X) (z0d X):=by
 intro f a h K H
 refine H (fun f a h K=>∃ v h' x,K v h' x∧z0d X f a h fun v1 h1 x1=>v1=v∧h1=h'∧x1=x) ?_ ?_
 ·intro f a h K K' hK ⟨v,h',x,k,g⟩
  exact⟨v,h',x,hK _ _ _ k,g⟩
 ·intro f a h K H
  have hC:Dt (fun f a h K=>∃ v h' x,K v h' x∧z0d X f a h fun v1 h1 x1=>v1=v∧h1=h'∧x1=x) (z0d X):=fun f a h K H=>H
  have hD:=z0d.mono X
  unfold Step at H
  split at H
  ·rename_i F hF
   unfold z4t at H
   cases hd:F.isDet with
   | true=>
    rw[hd] at H
    obtain⟨v,h',x,k,H⟩:=H
    refine⟨v,h',x,k,z0d.fold ?_⟩
    unfold Step
    simp only[hF,z4t,hd]
    exact⟨v,h',x,⟨rfl,rfl,rfl⟩,z3O (fun f a h K K' hK ⟨v2,h2,x2,k2,g2⟩=>hD _ _ _ _ _ (fun v1 h1 x1 hv=>by obtain⟨rfl,rfl,rfl⟩:=hv;exact hK _ _ _ k2) g2) (fun _ _ _ h=>h) H⟩
   | false=>
    rw[hd] at H
    obtain⟨v,h',x,k1,g1⟩:=zjd hD hC (by have:=hX f F hF;rw[hd] at this;simpa using this) H
    refine⟨v,h',x,k1,z0d.fold ?_⟩
    unfold Step;simp only[hF,z4t,hd]
    exact g1
  ·rename_i hF
   split at H
   ·rename_i hx2
    refine⟨_,_,_,H,z0d.fold ?_⟩
    unfold Step;simp only[hF,hx2]
    exact⟨trivial,trivial,trivial⟩
   ·rename_i hx2
    split at H
    ·rename_i hp
     split at H
     ·rename_i hu
      split at H
      ·rename_i hx
       refine⟨_,_,_,H,z0d.fold ?_⟩
       unfold Step;simp only[hF,hx2,hp,hu,hx]
       exact⟨trivial,trivial,trivial⟩
      ·exact H.elim
     ·exact H.elim
    ·exact H.elim
theorem z0d.one {X:Ctx} (hX:X.NoNext) {f:Nat} {a:List AV} {h:Heap} {Q:Post} (H:z0d X f a h Q):∃ v h' x,Q v h' x∧∀ K:Post,z0d X f a h K=K v h' x:=by
 obtain⟨v,h',x,k,g⟩:=zhz hX _ _ _ _ H
 exact⟨v,h',x,k,fun K=>rule g⟩
end Go.Am
end
section
/- The abstract machine,part 29: its meaning once more,spelt so that a function's code can be printed asv a formula over its values (shallow),equal tov the deep one by computing. -/
set_option linter.unusedSimpArgs false
set_option linter.unusedVariables false
namespace Go.Am
def pK (o:Option AV) (k:AV→Prop):Prop:=match o with
 | some v=>k v
 | none=>False
def wK (o:Option (AV × Heap × Esc)) (k:AV→Heap→Esc→Prop):Prop:=match o with
 | some y=>k y.1 y.2.1 y.2.2
 | none=>False
def z0M (c a b:AV):Option AV:=match c with
 | .p (.bool t)=>some (bif t then a else b)
 | _=>none
def oBox (x:AV) (h:Heap):Option (AV × Heap × Esc):=match x.cells with
 | some cs=>some (.ref h.length 0,h++[.box cs],[])
 | none=>none
def zlK:List (Nat × Nat × AV)→List AV→Option (List AV)
 | [],cs=>some cs
 | (off,n,x)::r,cs=>match x.cells with
  | some vs=>if vs.length=n∧off+n≤cs.length then zlK r (splice cs off vs) else none
  | none=>none
def z0G (z:List AV) (ps:List (Nat × Nat × AV)):Option AV:=(zlK ps z).map mkA
def zlL (sh:Sh):List (Nat × AV)→Heap→List PV→Option (List PV × Heap)
 | [],h,xs=>some (xs,h)
 | (i,x)::r,h,xs=>match pur h x with
  | some (v,h')=>if v.shp sh∧i<xs.length then zlL sh r h' (xs.set i v) else none
  | none=>none
def oBsl (own:Bool) (sh:Sh) (n:Nat) (z:PV) (ps:List (Nat × AV)) (h:Heap):Option (AV × Heap × Esc):=match zlL sh ps h (List.replicate n z) with
 | some (xs,h')=>if !z.shp sh then none else some (bif own then (.own h'.length n 0 n,h'++[.row sh xs 0],[]) else (.p (.sl sh xs),h',[]))
 | none=>none
def z0e (sh:Sh) (a:AV) (h:Heap):Option AV:=match a with
 | .ref id off=>match h[id]? with
  | some (.box cs)=>cut sh off cs
  | _=>none
 | .rref id g i off=>match h[id]? with
  | some (.row _ xs _)=>if g=xs.length then ((xs[i]?).bind (cutP sh off)).map .p else none
  | _=>none
 | .vp v=>(cutP sh 0 v).map .p
 | .bt k off id g=>ldA sh k off id g h
 | _=>none
def z0n (sh:Sh) (a x:AV) (h:Heap):Option (AV × Heap × Esc):=match a with
 | .ref id off=>match h[id]?,x.cells with
  | some (.box cs),some vs=>if vs.length=z0a sh∧off+vs.length≤cs.length then some (.und,h.set id (.box (splice cs off vs)),escS id cs x) else none
  | _,_=>none
 | .rref id g i off=>match pur h x with
  | some (v,h1)=>match h1[id]? with
   | some (.row rsh xs fz)=>if g=xs.length∧fz≤i∧v.cells.length=z0a sh∧v.cells.all PV.sc then match xs[i]? with
    | some (.agg cs)=>if off+v.cells.length≤cs.length then some (.und,h1.set id (.row rsh (xs.set i (.agg (splice cs off v.cells))) fz),[]) else none
    | some _=>if off=0∧v.sc then some (.und,h1.set id (.row rsh (xs.set i v) fz),[]) else none
    | none=>none
    else none
   | _=>none
  | none=>none
 | .bt k off id g=>stA sh k off id g x h
 | _=>none
def oNil (x:AV):Option AV:=match x with
 | .ref _ _ | .rref _ _ _ _ | .vp _ | .fn _ _=>some x
 | .bt k _ _ _=>nlA k x
 | _=>none
def oBin (op:BinOp) (x y:AV):Option AV:=match x,y with
 | .p a,.p b=>(abin op a b).map .p
 | _,_=>none
def oEqa (ks:List Nat) (neg:Bool) (x y:AV):Option AV:=match x,y with
 | .p (.agg asv),.p (.agg bs)=>if asv.map PV.kind=ks∧bs.map PV.kind=ks∧ks≠[] then (eqs asv bs).map fun t=>pbool (bif neg then !t else t) else none
 | .p (.bool a),.p (.bool b)=>if ks=[] then some (pbool (bif neg then !decide (a=b) else decide (a=b))) else none
 | _,_=>none
def zc4 (k:Nat) (neg:Bool) (x:AV):Option AV:=bif z6v k x then some .anyb else (zmO k x).map fun r=>pbool (bif neg then !r else r)
def oMkif (x:AV):Option AV:=if okIn x then some .ifc else none
def oUn (op:UnOp) (x:AV):Option AV:=match x with
 | .p a=>(aun op a).map .p
 | _=>none
def zgY (c:Cv) (x:AV) (h:Heap):Option (AV × Heap × Esc):=(z8v h c x).map fun y=>(y.1,y.2,[])
def zfE (k:IntKind) (x:AV):Option AV:=match x with
 | .p (.int _ n)=>some (.p (.int k (k.wrap n)))
 | _=>none
def zvc (sh:Sh) (z:PV) (len cap:AV) (h:Heap):Option (AV × Heap × Esc):=match z1a len,z1a cap with
 | some n,some m=>if n≤m∧m≤z1f∧z.shp sh then some (.own h.length n 0 n,h++[.row sh (List.replicate n z) 0],[]) else none
 | _,_=>none
def bndV (d:Nat):Option AV→Option Nat
 | none=>some d
 | some x=>z1a x
def zfG (x:AV) (lo hi:Option AV):Option AV:=match x with
 | .p (.str s)=>match bndV 0 lo,bndV s.length hi with
  | some l,some r=>if l≤r∧r≤s.length then some (.p (.str (win s l (r-l)))) else none
  | _,_=>none
 | _=>none
def z4m (sh:Sh) (x:AV) (lo hi mx:Option AV) (h:Heap):Option AV:=match x with
 | .p (.sl sh' xs)=>match bndV 0 lo,bndV xs.length hi,bndV xs.length mx with
  | some l,some r,some m=>if sh'=sh∧l≤r∧r≤m∧m≤xs.length then some (if mx.isSome∧m=l then .sl0 sh else .p (.sl sh (win xs l (r-l)))) else none
  | _,_,_=>none
 | .sl0 sh'=>match bndV 0 lo,bndV 0 hi,bndV 0 mx with
  | some l,some r,some m=>if l=0∧r=0∧m=0 then some (.sl0 sh') else none
  | _,_,_=>none
 | .own id g off len=>match h[id]? with
  | some (.row rsh xs _)=>match bndV 0 lo,bndV len hi,bndV len mx with
   | some l,some r,some m=>if rsh=sh∧g=xs.length∧off+len≤xs.length∧l≤r∧r≤m∧m≤len then some (if mx.isSome∧m=l then .sl0 sh else .own id g (off+l) (r-l)) else none
   | _,_,_=>none
  | _=>none
 | _=>none
def z0c (off:Nat) (sh:Sh) (x:AV):Option AV:=match x with
 | .ref id o=>some (.ref id (o+off))
 | .rref id g i o=>some (.rref id g i (o+off))
 | .vp v=>(cutP sh off v).map .vp
 | .bt k o id g=>faA k off o id g
 | _=>none
def zfF (off:Nat) (sh:Sh) (x:AV):Option AV:=match x with
 | .p v=>match v with
  | .agg _=>(cutP sh off v).map .p
  | _=>none
 | .agg cs=>cut sh off cs
 | _=>none
def z0y (sh:Sh) (x i:AV) (h:Heap):Option AV:=match x,z1a i with
 | .p (.sl sh' xs),some k=>if sh'=sh then (xs[k]?).map .vp else none
 | .own id g off len,some k=>match h[id]? with
  | some (.row rsh xs _)=>if rsh=sh∧g=xs.length∧off+len≤xs.length∧k<len then some (.rref id g (off+k) 0) else none
  | _=>none
 | .bt kk _ id g,some k=>iaA sh kk id g k h
 | _,_=>none
def z7H (n:Nat) (sh:Sh) (x i:AV):Option AV:=match x,z1a i with
 | .ref id o,some k=>if k<n then some (.ref id (o+k*z0a sh)) else none
 | .rref id g j o,some k=>if k<n then some (.rref id g j (o+k*z0a sh)) else none
 | .vp v,some k=>if k<n then (cutP sh (k*z0a sh) v).map .vp else none
 | _,_=>none
def zva (n:Nat) (sh:Sh) (x i:AV):Option AV:=match x,z1a i with
 | .p (.agg cs),some k=>if k<n then (cutP sh (k*z0a sh) (.agg cs)).map .p else none
 | _,_=>none
def zc3 (x i:AV):Option AV:=match x,z1a i with
 | .p (.str s),some k=>(s[k]?).map fun b=>.p (.int .u8 b.toNat)
 | _,_=>none
def oExt (x:AV) (i:Nat):Option AV:=match x with
 | .tup vs=>vs[i]?
 | _=>none
def oLen (x:AV):Option AV:=match x with
 | .p (.sl _ xs)=>some (pint xs.length)
 | .sl0 _=>some (pint 0)
 | .own _ _ _ len=>some (pint len)
 | .bt k _ _ g=>lnA k g
 | _=>none
def zd9 (x:AV):Option AV:=match x with
 | .p (.str s)=>some (pint s.length)
 | _=>none
def oApp (sh:Sh) (s x:AV) (h:Heap):Option (AV × Heap × Esc):=match rds h x with
 | some (sh',ys)=>if sh'=sh then match s with
  | .sl0 _=>if ys.length≤z1f then some (.own h.length ys.length 0 ys.length,h++[.row sh ys 0],[]) else none
  | .own id g off len=>match h[id]? with
   | some (.row rsh xs fz)=>if rsh=sh∧g=xs.length∧off=0∧len=xs.length∧len+ys.length≤z1f∧fz≤xs.length then some (.own id (g+ys.length) off (len+ys.length),h.set id (.row sh (xs++ys) fz),[])
    else if rsh=sh∧g=xs.length∧off+len+ys.length≤xs.length∧fz≤off+len∧1≤ys.length∧len+ys.length≤z1f∧sh=none∧xs.all PV.intP=true∧ys.all PV.intP=true then
     some (.p (.sl sh (win xs off len++ys)),h.set id (.row sh (splice xs (off+len) (List.replicate ys.length .unk)) (off+len+ys.length)),[])
    else none
   | _=>none
  | _=>none
  else none
 | none=>none
def oCopy (sh:Sh) (d s:AV) (h:Heap):Option (AV × Heap × Esc):=match d,rds h s with
 | .own id g off len,some (sh',ys)=>match h[id]? with
  | some (.row rsh xs fz)=>if rsh=sh∧sh'=sh∧g=xs.length∧off+len≤xs.length∧fz≤off then
   some (pint (min ys.length len),h.set id (.row sh (splice xs off (ys.take (min ys.length len))) fz),[])
   else none
  | _=>none
 | _,_=>none
def oClr (sh:Sh) (z:PV) (x:AV) (h:Heap):Option (AV × Heap × Esc):=match x with
 | .sl0 _=>some (.tup [],h,[])
 | .own id g off len=>match h[id]? with
  | some (.row rsh xs fz)=>if rsh=sh∧g=xs.length∧off+len≤xs.length∧fz≤off then
   some (.tup [],h.set id (.row sh (splice xs off (List.replicate len z)) fz),[])
   else none
  | _=>none
 | _=>none
def oMx (xs:List AV):Option AV:=match xs with
 | .p a::r=>((unp r).bind fun l=>l.foldlM zjh a).map .p
 | _=>none
def oMn (xs:List AV):Option AV:=match xs with
 | .p a::r=>((unp r).bind fun l=>l.foldlM zji a).map .p
 | _=>none
def z1p (kk:Sh × List Nat) (ok:Bool) (z x k:AV) (h:Heap):Option AV:=match z2i kk k with
 | some key=>match (match x with | .nilm=>some [] | m=>(mget h m).map fun y=>y.2.1) with
  | some es=>match z1R key es with
   | some r=>
    let v:=((r.bind (es[·]?)).map ME.val)
    some (bif ok then .tup [v.getD z,pbool v.isSome] else v.getD z)
   | none=>none
  | none=>none
 | none=>none
def z17 (kk:Sh × List Nat) (m k x:AV) (h:Heap):Option (AV × Heap × Esc):=match z2i kk k,mget h m,okIn x with
 | some key,some (id,es,c),true=>match z1R key es with
  | some (some i)=>some (.und,h.set id (.amap (es.modify i fun e=>{ e with val:=x }) c),z1X id x)
  | some none=>some (.und,h.set id (.amap (es++[⟨key,x,c⟩]) (c+1)),z1X id x)
  | none=>none
 | _,_,_=>none
def oMent (kk:Sh × List Nat) (z m k:AV) (h:Heap):Option (AV × Heap × Esc):=match z2i kk k,mget h m with
 | some key,some (id,es,c)=>match z1R key es with
  | some (some i)=>(es[i]?).map fun e=>(.tup [e.val,pint e.born],h,[])
  | some none=>some (.tup [z,pint c],h.set id (.amap (es++[⟨key,z,c⟩]) (c+1)),[])
  | none=>none
 | _,_=>none
def zmQ (m s x:AV) (h:Heap):Option (AV × Heap × Esc):=match mget h m,z1a s,okIn x with
 | some (id,es,c),some b,true=>match es.findIdx? (fun e=>e.born==b) with
  | some i=>some (.und,h.set id (.amap (es.modify i fun e=>{ e with val:=x }) c),z1X id x)
  | none=>none
 | _,_,_=>none
def z4c (kk:Sh × List Nat) (m k:AV) (h:Heap):Option (AV × Heap × Esc):=match z2i kk k,mget h m with
 | some key,some (id,es,c)=>match z1R key es with
  | some (some i)=>some (.und,h.set id (.amap (es.eraseIdx i) c),[])
  | some none=>some (.und,h,[])
  | none=>none
 | _,_=>none
def zvb (x:AV) (h:Heap):Option AV:=match x with
 | .nilm=>some (pint 0)
 | .mp id=>(mget h (.mp id)).map fun y=>pint y.2.1.length
 | _=>none
def zdB (x:AV) (h:Heap):Option (AV × Heap × Esc):=match mget h x with
 | some (id,_,c)=>some (.it h.length,h++[.iter (some id) c [] c],[])
 | none=>match x with
  | .nilm=>some (.it h.length,h++[.iter none 0 [] 0],[])
  | _=>none
def zdA (i:AV) (h:Heap):Option (AV × Heap × Esc):=match i with
 | .it id=>match h[id]? with
  | some (.iter (some m) _ seen last)=>match mget h (.mp m),seen.getLast? with
   | some (_,es,c),some b=>if c=last then (es.find? (fun e=>e.born==b)).map fun e=>(.tup [.p e.key,e.val],h,[]) else none
   | _,_=>none
  | _=>none
 | _=>none
def alK (z:List AV) (h:Heap) (k:AV→Heap→Esc→Prop):Prop:=k (.ref h.length 0) (h++[.box z]) []
def nwK (sh:Sh) (h:Heap) (k:AV→Heap→Esc→Prop):Prop:=k (.own h.length 0 0 0) (h++[.row sh [] 0]) []
def mmK (h:Heap) (k:AV→Heap→Esc→Prop):Prop:=k (.mp h.length) (h++[.amap [] 0]) []
def ev3 (ev:Opd→AV):List (Nat × Nat × Opd)→List (Nat × Nat × AV)
 | []=>[]
 | (a,b,x)::r=>(a,b,ev x)::ev3 ev r
def ev2 (ev:Opd→AV):List (Nat × Opd)→List (Nat × AV)
 | []=>[]
 | (a,x)::r=>(a,ev x)::ev2 ev r
def evO (ev:Opd→AV):Option Opd→Option AV
 | none=>none
 | some x=>some (ev x)
def ev1 (ev:Opd→AV):List Opd→List AV
 | []=>[]
 | x::r=>ev x::ev1 ev r
def opN (o:AO) (ev:Opd→AV) (h:Heap) (k:AV→Heap→Esc→Prop):Prop:=match o with
 | .mv x=>k (ev x) h []
 | .pick c a b=>pK (z0M (ev c) (ev a) (ev b)) fun v=>k v h []
 | .alloc z=>alK z h k
 | .box x=>wK (oBox (ev x) h) k
 | .build z ps=>pK (z0G z (ev3 ev ps)) fun v=>k v h []
 | .bsl own sh n z ps=>wK (oBsl own sh n z (ev2 ev ps) h) k
 | .load sh a=>pK (z0e sh (ev a) h) fun v=>k v h []
 | .store sh a x=>wK (z0n sh (ev a) (ev x) h) k
 | .nilchk x=>pK (oNil (ev x)) fun v=>k v h []
 | .bin op x y=>pK (oBin op (ev x) (ev y)) fun v=>k v h []
 | .eqa ks neg x y=>pK (oEqa ks neg (ev x) (ev y)) fun v=>k v h []
 | .isnil n neg x=>pK (zc4 n neg (ev x)) fun v=>k v h []
 | .mkif x=>pK (oMkif (ev x)) fun v=>k v h []
 | .un op x=>pK (oUn op (ev x)) fun v=>k v h []
 | .conv (.i c) x=>pK (zfE c (ev x)) fun v=>k v h []
 | .mkfn f caps=>k (.fn f (ev1 ev caps)) h []
 | .slice sh x lo hi mx=>pK (z4m sh (ev x) (evO ev lo) (evO ev hi) (evO ev mx) h) fun v=>k v h []
 | .slstr x lo hi=>pK (zfG (ev x) (evO ev lo) (evO ev hi)) fun v=>k v h []
 | .mksl sh z len cap=>wK (zvc sh z (ev len) (ev cap) h) k
 | .faddr off sh x=>pK (z0c off sh (ev x)) fun v=>k v h []
 | .field off sh x=>pK (zfF off sh (ev x)) fun v=>k v h []
 | .iaddr sh x i=>pK (z0y sh (ev x) (ev i) h) fun v=>k v h []
 | .iaddra n sh x i=>pK (z7H n sh (ev x) (ev i)) fun v=>k v h []
 | .idxa n sh x i=>pK (zva n sh (ev x) (ev i)) fun v=>k v h []
 | .idxs x i=>pK (zc3 (ev x) (ev i)) fun v=>k v h []
 | .ext x i=>pK (oExt (ev x) i) fun v=>k v h []
 | .len x=>pK (oLen (ev x)) fun v=>k v h []
 | .lens x=>pK (zd9 (ev x)) fun v=>k v h []
 | .app sh s x=>wK (oApp sh (ev s) (ev x) h) k
 | .copy sh d s=>wK (oCopy sh (ev d) (ev s) h) k
 | .uns m t xs=>wK (z2p m t (ev1 ev xs) h) k
 | .clr sh z x=>wK (oClr sh z (ev x) h) k
 | .mx xs=>pK (oMx (ev1 ev xs)) fun v=>k v h []
 | .mn xs=>pK (oMn (ev1 ev xs)) fun v=>k v h []
 | .new0 sh=>nwK sh h k
 | .conv .s2b x=>wK (zgY .s2b (ev x) h) k
 | .conv .b2s x=>wK (zgY .b2s (ev x) h) k
 | .conv .r2s x=>wK (zgY .r2s (ev x) h) k
 | .conv .same x=>wK (zgY .same (ev x) h) k
 | .mkmap=>mmK h k
 | .look kk ok z x key=>pK (z1p kk ok z (ev x) (ev key) h) fun v=>k v h []
 | .mupd kk m key x=>wK (z17 kk (ev m) (ev key) (ev x) h) k
 | .ment kk z m key=>wK (oMent kk z (ev m) (ev key) h) k
 | .estore m s x=>wK (zmQ (ev m) (ev s) (ev x) h) k
 | .mdel kk m key=>wK (z4c kk (ev m) (ev key) h) k
 | .lenm x=>pK (zvb (ev x) h) fun v=>k v h []
 | .mrange x=>wK (zdB (ev x) h) k
 | .mentry i=>wK (zdA (ev i) h) k
 | .call _ _ | .callv _ _ | .mnext _ _=>False
theorem zt6 {o:Option (AV × Heap × Esc)} {k:AV→Heap→Esc→Prop}:optK o k=wK o k:=rfl
theorem z4n {o:Option AV} {h:Heap} {k:AV→Heap→Esc→Prop}:wK (o.map fun v=>(v,h,[])) k=pK o fun v=>k v h []:=by cases o <;> rfl
theorem zfu (ev:Opd→AV):∀ (ps:List (Nat × Nat × Opd)) (z:List AV),zad ev ps z=zlK (ev3 ev ps) z
 | [],z=>rfl
 | (off,n,x)::r,z=>by
  simp only[zad,ev3,zlK]
  cases (ev x).cells with
  | none=>rfl
  | some vs=>simp only[zfu ev r]
theorem zfv (ev:Opd→AV) (sh:Sh):∀ (ps:List (Nat × Opd)) (h:Heap) (z:List PV),zae ev sh ps h z=zlL sh (ev2 ev ps) h z
 | [],h,z=>rfl
 | (i,x)::r,h,z=>by
  simp only[zae,ev2,zlL]
  cases pur h (ev x) with
  | none=>rfl
  | some y=>simp only[zfv ev sh r]
theorem zsv (ev:Opd→AV) (d:Nat) (o:Option Opd):bnd ev d o=bndV d (evO ev o):=by cases o <;> rfl
theorem zq1 (ev:Opd→AV) (o:Option Opd):(evO ev o).isSome=o.isSome:=by cases o <;> rfl
theorem z4L (ev:Opd→AV) (l:List Opd):l.map ev=ev1 ev l:=by
 induction l with
 | nil=>rfl
 | cons x r ih=>simp only[List.map_cons,ev1,ih]
theorem asl_eq (sh:Sh) (ev:Opd→AV) (h:Heap) (x:AV) (lo hi mx:Option Opd):asl sh ev h x lo hi mx=z4m sh x (evO ev lo) (evO ev hi) (evO ev mx) h:=by
 unfold asl z4m
 simp only[zsv,zq1]
 rfl
theorem z5Z {p:Prop} [Decidable p] {a:AV} {h:Heap} {k:AV→Heap→Esc→Prop}:wK (if p then some (a,h,[]) else none) k=pK (if p then some a else none) fun v=>k v h []:=by split <;> rfl
theorem z2o {α:Type} {o:Option α} {f:α→AV} {h:Heap} {k:AV→Heap→Esc→Prop}:wK (o.map fun v=>(f v,h,[])) k=pK (o.map f) fun v=>k v h []:=by cases o <;> rfl
theorem z2n {α:Type} {p:Prop} [Decidable p] {o:Option α} {f:α→AV} {h:Heap} {k:AV→Heap→Esc→Prop}:wK (if p then o.map (fun v=>(f v,h,[])) else none) k=pK (if p then o.map f else none) fun v=>k v h []:=by
 split
 ·exact z2o
 ·rfl
theorem zmS {o:AO} (hp:o.plain=true) {ev:Opd→AV} {h:Heap} {k:AV→Heap→Esc→Prop}:optK (aop o ev h) k=opN o ev h k:=by
 rw[zt6]
 cases o <;> first | (cases hp;done) | skip
 case mv=>rfl
 case pick c a b=>
  simp only[aop,opN,z0M]
  generalize ev c=v
  cases v <;> try rfl
  rename_i p;cases p <;> rfl
 case alloc=>rfl
 case box=>rfl
 case build z ps=>simp only[aop,opN];rw[← z4n,z0G,zfu,Option.map_map];rfl
 case bsl=>simp only[aop,opN,oBsl,zfv];rfl
 case load sh a=>
  simp only[aop,opN,z0e]
  generalize ev a=v
  cases v with
  | ref id off=>dsimp only;cases h[id]? with
   | none=>rfl
   | some o=>cases o <;> first | rfl | exact z4n
  | rref id g i off=>dsimp only;cases h[id]? with
   | none=>rfl
   | some o=>cases o <;> first | rfl | exact z2n
  | vp v=>exact z2o
  | p v=>cases v <;> rfl
  | bt _ _ _ _=>exact z4n
  | _=>rfl
 case store=>simp only[aop,opN];rfl
 case nilchk x=>
  simp only[aop,opN,oNil]
  generalize ev x=v
  cases v <;> try rfl
  exact z4n
 case bin op x y=>
  simp only[aop,opN,oBin]
  generalize ev x=v
  generalize ev y=u
  cases v <;> try rfl
  cases u <;> try rfl
  exact z2o
 case eqa ks neg x y=>
  simp only[aop,opN,oEqa]
  generalize ev x=v
  generalize ev y=u
  cases v <;> try rfl
  rename_i p
  cases p <;> try rfl
  all_goals (cases u <;> try rfl)
  all_goals (rename_i q;cases q <;> try rfl)
  ·exact z5Z
  ·exact z2n
 case isnil k neg p=>
  simp only[aop,opN,zc4]
  cases z6v k (ev p) with
  | true=>rfl
  | false=>exact z2o
 case mkif=>exact z5Z
 case un op x=>
  simp only[aop,opN,oUn]
  generalize ev x=v
  cases v <;> try rfl
  exact z2o
 case conv c x=>
  cases c
  case i k'=>
   simp only[aop,opN,zfE,z8v]
   generalize ev x=v
   cases v <;> try rfl
   rename_i p;cases p <;> rfl
  all_goals rfl
 case mkfn f caps=>simp only[aop,opN,z4L];rfl
 case slice=>simp only[aop,opN,asl_eq];exact z4n
 case slstr x lo hi=>
  simp only[aop,opN,zfG,zsv]
  generalize ev x=v
  cases v <;> try rfl
  rename_i p;cases p <;> try rfl
  rename_i s
  dsimp only
  generalize bndV 0 _=o1
  generalize bndV s.length _=o2
  cases o1 <;> try rfl
  cases o2 <;> try rfl
  exact z5Z
 case mksl=>simp only[aop,opN];rfl
 case faddr off sh x=>
  simp only[aop,opN,z0c]
  generalize ev x=v
  cases v <;> try rfl
  ·exact z2o
  ·exact z4n
 case field off sh x=>
  simp only[aop,opN,zfF]
  generalize ev x=v
  cases v <;> try rfl
  ·rename_i p;cases p <;> try rfl
   exact z2o
  ·exact z4n
 case iaddr sh x i=>
  simp only[aop,opN,z0y]
  generalize ev x=v
  generalize z1a (ev i)=n
  cases v <;> try rfl
  ·rename_i p;cases p <;> try rfl
   cases n <;> try rfl
   exact z2n
  ·cases n <;> try rfl
   rename_i id g off len k
   dsimp only
   cases h[id]? with
   | none=>rfl
   | some o=>cases o <;> first | rfl | exact z5Z
  ·cases n <;> try rfl
   exact z4n
 case iaddra m sh x i=>
  simp only[aop,opN,z7H]
  generalize ev x=v
  generalize z1a (ev i)=n
  cases v <;> try rfl
  all_goals (cases n <;> try rfl)
  ·exact z5Z
  ·exact z5Z
  ·exact z2n
 case idxa m sh x i=>
  simp only[aop,opN,zva]
  generalize ev x=v
  generalize z1a (ev i)=n
  cases v <;> try rfl
  rename_i p;cases p <;> try rfl
  cases n <;> try rfl
  exact z2n
 case idxs x i=>
  simp only[aop,opN,zc3]
  generalize ev x=v
  generalize z1a (ev i)=n
  cases v <;> try rfl
  rename_i p;cases p <;> try rfl
  cases n <;> try rfl
  exact z2o
 case ext x i=>
  simp only[aop,opN,oExt]
  generalize ev x=v
  cases v <;> try rfl
  exact z4n
 case len x=>
  simp only[aop,opN,oLen]
  generalize ev x=v
  cases v <;> try rfl
  ·rename_i p;cases p <;> rfl
  ·exact z4n
 case lens x=>
  simp only[aop,opN,zd9]
  generalize ev x=v
  cases v <;> try rfl
  rename_i p;cases p <;> rfl
 case app=>simp only[aop,opN];rfl
 case copy=>simp only[aop,opN];rfl
 case uns=>simp only[aop,opN,z4L,zt6]
 case clr=>simp only[aop,opN];rfl
 case mx xs=>
  simp only[aop,opN,z4L,oMx]
  generalize ev1 ev xs=l
  cases l <;> try rfl
  rename_i v r
  cases v <;> try rfl
  exact z2o
 case mn xs=>
  simp only[aop,opN,z4L,oMn]
  generalize ev1 ev xs=l
  cases l <;> try rfl
  rename_i v r
  cases v <;> try rfl
  exact z2o
 case new0=>rfl
 case look kk ok z x key=>
  simp only[aop,opN,z1p]
  cases z2i kk (ev key) <;> try rfl
  rename_i kk
  generalize ev x=v
  cases v <;> try rfl
  rename_i id
  dsimp only
  cases mget h (.mp id) <;> try rfl
  rename_i y
  dsimp only[Option.map_some]
  cases z1R kk y.2.1 <;> rfl
 case lenm x=>
  simp only[aop,opN,zvb]
  generalize ev x=v
  cases v <;> try rfl
  exact z2o
 all_goals rfl
end Go.Am
end
section
/- The abstract machine,part 30: the meaning of code in the new spelling,and that it is the old one. -/
set_option linter.unusedSimpArgs false
set_option linter.unusedVariables false
namespace Go.Am
def gV (v:AV) (b:Bool) (h:Heap) (A:(AV→Heap→Esc→Prop)→Prop) (k:AV→Heap→Esc→Prop):Prop:=z20 v b (A k) (k .skp h [])
def gP (v:AV) (b:Bool) (o:Option AV) (h:Heap) (k:AV→Heap→Esc→Prop):Prop:=gV v b h (fun k=>pK o fun u=>k u h []) k
def gM (v:AV) (b:Bool) (u:AV) (h:Heap) (k:AV→Heap→Esc→Prop):Prop:=gV v b h (fun k=>k u h []) k
def upB (b:Bool):Bool:=(fun (_:AV→Bool→Option AV→Heap→(AV→Heap→Esc→Prop)→Prop)=>b) gP
def gK (g:Option (Nat × Bool)) (e:List (Nat × AV)) (h:Heap) (A:(AV→Heap→Esc→Prop)→Prop) (k:AV→Heap→Esc→Prop):Prop:=match g with
 | none=>A k
 | some (t,b)=>gV (aget e t) b h A k
def opC (C:Hd) (o:AO) (ev:Opd→AV) (h:Heap) (k:AV→Heap→Esc→Prop):Prop:=match o with
 | .call f args=>C f (ev1 ev args) h k
 | .callv f args=>z6d C (ev f) (ev1 ev args) h k
 | .mnext sh xs=>match z4s h sh (ev1 ev xs) with
  | some l=>l≠[]∧∀ y∈l,k y.1 y.2 []
  | none=>False
 | o=>opN o ev h k
def NReg (C:Hd) (gl:Nat→Option PV):List AOp→List (Nat × AV)→Heap→Esc→(List (Nat × AV)→Heap→Esc→Prop)→Prop
 | [],e,h,x,L=>L e h x
 | o::r,e,h,x,L=>gK o.guard e h (opC C o.op (Opd.ev gl e) h) fun v h' x'=>NReg C gl r (put o.dst v e) h' (x'++x) L
variable {C:Hd} {gl:Nat→Option PV}
theorem zfI {o:AO} {d:Option Nat} {r:List AOp} {e:List (Nat × AV)} {h:Heap} {x:Esc} {L:List (Nat × AV)→Heap→Esc→Prop} :
 AReg C gl (⟨d,none,o⟩::r) e h x L=opC C o (Opd.ev gl e) h (z0C C gl r d e x L):=by
 cases hp:o.plain with
 | true=>
  rw[z0q hp,zmS hp]
  cases o <;> first | rfl | cases hp
 | false=>
  cases o <;> first | (cases hp;done) | skip
  all_goals first
   | (rw[za5,z4L];rfl)
   | (rw[z6F,z4L];rfl)
   | (unfold AReg opC;simp only[wanted,z4L];rfl)
theorem zih:∀ (ops:List AOp) (e:List (Nat × AV)) (h:Heap) (x:Esc) (L:List (Nat × AV)→Heap→Esc→Prop),AReg C gl ops e h x L=NReg C gl ops e h x L
 | [],e,h,x,L=>rfl
 | ⟨d,g,o⟩::r,e,h,x,L=>by
  have ih:(fun (v:AV) (h':Heap) (x':Esc)=>NReg C gl r (put d v e) h' (x'++x) L)=z0C C gl r d e x L:=by
   funext v h' x';rw[← zih r];rfl
  show _=gK g e h (opC C o (Opd.ev gl e) h) fun v h' x'=>NReg C gl r (put d v e) h' (x'++x) L
  rw[ih]
  cases g with
  | none=>exact zfI
  | some tb=>
   obtain⟨t,b⟩:=tb
   rw[z85,zfI];rfl
def opE (C:Hd) (o:AO) (ev:Opd→AV) (h:Heap) (k:AV→Heap→Esc→Prop):Prop:=match o with
 | .call f args=>z1J C f (ev1 ev args) h k
 | .callv f args=>z6O C (ev f) (ev1 ev args) h k
 | .mnext _ _=>False
 | o=>opN o ev h k
def effN (still eff:Bool) (h h':Heap) (y:Esc) (Q:Prop):Prop:=match upB eff with
 | true=>Q
 | false=>match still with
  | true=>Q
  | false=>(h'=h∧y=[])∧Q
def zv2 (C:Hd) (gl:Nat→Option PV) (q:AOp × List (Nat × AV) × AV) (g:Heap):Prop:=
 gK q.1.guard q.2.1 g (opE C q.1.op (Opd.ev gl q.2.1) g) fun v1 h1 x1=>v1=q.2.2∧h1=g∧x1=[]
def z6a (C:Hd) (gl:Nat→Option PV) (h:Heap) (dn:Done) (Q:Prop):List Nat→Prop
 | []=>Q
 | j::r=>(match dn[j]? with | some q=>zv2 C gl q h | none=>False)∧z6a C gl h dn Q r
def z6j (C:Hd) (gl:Nat→Option PV) (o:AOp) (e:List (Nat × AV)) (v:AV) (hs:List Heap) (Q:Prop):List Nat→Prop
 | []=>Q
 | k::r=>(match hs[k]? with | some g=>zv2 C gl (o,e,v) g | none=>False)∧z6j C gl o e v hs Q r
def zg0 (C:Hd) (gl:Nat→Option PV):List DOp→Done→List Heap→List (Nat × AV)→Heap→Esc→(List (Nat × AV)→Heap→Esc→Prop)→Prop
 | [],_,_,e,h,x,L=>L e h x
 | o::r,dn,hs,e,h,x,L=>gK o.op.guard (z01 (some o.rd) e) h (opE C o.op.op (Opd.ev gl (z01 (some o.rd) e)) h) fun v h' y=>
  effN o.op.op.still o.eff h h' y (z6j C gl o.op (z01 (some o.rd) e) v hs (z6a C gl h' dn (zg0 C gl r (dn++[(o.op,z01 (some o.rd) e,v)]) (hs++[h]) (put o.op.dst v e) h' (y++x) L) o.again) o.early)
theorem zmR {o:AO} {d:Option Nat} {e:List (Nat × AV)} {h:Heap} {R:AV→Heap→Esc→Prop}:doK C gl ⟨d,none,o⟩ e h R=opE C o (Opd.ev gl e) h R:=by
 cases hp:o.plain with
 | true=>
  rw[z00 hp,zmS hp]
  cases o <;> first | rfl | cases hp
 | false=>
  cases o <;> first | (cases hp;done) | skip
  all_goals first
   | (rw[zff,z4L];rfl)
   | (rw[z8N,z4L];rfl)
   | (unfold doK ADo opE;simp [wanted])
theorem ztq {o:AOp} {e:List (Nat × AV)} {h:Heap} {R:AV→Heap→Esc→Prop}:doK C gl o e h R=gK o.guard e h (opE C o.op (Opd.ev gl e) h) R:=by
 obtain⟨d,g,op⟩:=o
 cases g with
 | none=>exact zmR
 | some tb=>
  obtain⟨t,b⟩:=tb
  rw[zcc,zmR];rfl
theorem zfV {q:AOp × List (Nat × AV) × AV} {g:Heap}:doS C gl q g=zv2 C gl q g:=by
 obtain⟨⟨d,gd,op⟩,e,v⟩:=q
 rw[zsz,ztq];rfl
theorem zaQ {h:Heap} {dn:Done} {Q:Prop}:∀ {l:List Nat},z6a C gl h dn Q l=(agK C gl h dn l∧Q)
 | []=>by simp [z6a,agK]
 | j::r=>by
  unfold z6a agK
  rw[zaQ (l:=r)]
  cases dn[j]? with
  | none=>simp
  | some q=>simp only[zfV,and_assoc]
theorem zce {o:AOp} {e:List (Nat × AV)} {v:AV} {hs:List Heap} {Q:Prop}:∀ {l:List Nat},z6j C gl o e v hs Q l=(eaK C gl o e v hs l∧Q)
 | []=>by simp [z6j,eaK]
 | j::r=>by
  unfold z6j eaK
  rw[zce (l:=r)]
  cases hs[j]? with
  | none=>simp
  | some q=>simp only[zfV,and_assoc]
theorem zkp {o:AOp} (hs:o.op.still=true) {e:List (Nat × AV)} {h:Heap} {R:AV→Heap→Esc→Prop}:doK C gl o e h (fun v h' y=>(h'=h∧y=[])∧R v h' y)=doK C gl o e h R:=by
 unfold doK
 refine propext ⟨fun ⟨v,h',y,H,_,r⟩=>⟨v,h',y,H,r⟩,fun ⟨v,h',y,H,r⟩=>⟨v,h',y,H,zh2 hs H,r⟩⟩
theorem zdY:∀ (ds:List DOp) (dn:Done) (hs:List Heap) (e:List (Nat × AV)) (h:Heap) (x:Esc) (L:List (Nat × AV)→Heap→Esc→Prop),z1U C gl ds dn hs e h x L=zg0 C gl ds dn hs e h x L
 | [],dn,hs,e,h,x,L=>rfl
 | ⟨o,rd,eff,early,again⟩::r,dn,hs,e,h,x,L=>by
  rw[z82]
  show _=gK o.guard (z01 (some rd) e) h (opE C o.op (Opd.ev gl (z01 (some rd) e)) h) fun v h' y=>
   effN o.op.still eff h h' y (z6j C gl o (z01 (some rd) e) v hs (z6a C gl h' dn (zg0 C gl r (dn++[(o,z01 (some rd) e,v)]) (hs++[h]) (put o.dst v e) h' (y++x) L) again) early)
  rw[← ztq]
  have e1:zqw C gl ⟨o,rd,eff,early,again⟩ r dn hs e h x L=fun v h' y=>(effK eff h h' y∧z6j C gl o (z01 (some rd) e) v hs (z6a C gl h' dn (zg0 C gl r (dn++[(o,z01 (some rd) e,v)]) (hs++[h]) (put o.dst v e) h' (y++x) L) again) early):=by
   funext v h' y
   rw[zcd,zce,zaQ,← zdY r]
  rw[e1]
  cases eff with
  | true=>
   congr 1;funext v h' y
   simp [effK,effN,upB]
  | false=>
   cases hs':o.op.still with
   | true=>
    have:=zkp (C:=C) (gl:=gl) (o:=o) hs' (e:=z01 (some rd) e) (h:=h) (R:=fun v h' y=>z6j C gl o (z01 (some rd) e) v hs (z6a C gl h' dn (zg0 C gl r (dn++[(o,z01 (some rd) e,v)]) (hs++[h]) (put o.dst v e) h' (y++x) L) again) early)
    exact this
   | false=>rfl
def NW (C:Hd) (gl:Nat→Option PV):ACode→St→(Ex→St→Prop)→Prop
 | .skip,s,K=>K .normal s
 | .reg ops keep,s,K=>NReg C gl ops s.env s.h s.esc fun e h x=>K .normal ⟨z01 keep e,h,x⟩
 | .draw ds keep,s,K=>zg0 C gl ds [] [] s.env s.h s.esc fun e h x=>K .normal ⟨z01 keep e,h,x⟩
 | .seq a b,s,K=>NW C gl a s fun e s'=>match e with
  | .normal=>NW C gl b s' K
  | .exit i=>K (.exit i) s'
  | .ret=>K .ret s'
 | .cond c a b,s,K=>z0l (Opd.ev gl s.env c) (NW C gl a s K) (NW C gl b s K)
 | .condu c a b,s,K=>zj9 (Opd.ev gl s.env c) (NW C gl a s K) (NW C gl b s K)
 | .det b,s,K=>NW C gl b s K
 | .block id b,s,K=>NW C gl b s fun e s'=>match e with
  | .normal=>K .normal s'
  | .exit i=>bif Nat.beq i id then K .normal s' else K (.exit i) s'
  | .ret=>K .ret s'
 | .loop b,s,K=>ALoop (NW C gl b) K s
 | .scope b,s,K=>NW C gl b ⟨s.env,s.h,[]⟩ fun e s'=>K e (z5W s.h.length s.esc s')
 | .pr l b,s,K=>NW C gl b ⟨z01 (some l) s.env,s.h,s.esc⟩ K
 | .exit id,s,K=>K (.exit id) s
 | .ret,s,K=>K .ret s
 | .bad,_,_=>False
theorem z44:∀ (c:ACode) (s:St) (K:Ex→St→Prop),AW C gl c s K=NW C gl c s K
 | .skip,s,K=>rfl
 | .reg ops keep,s,K=>zih _ _ _ _ _
 | .draw ds keep,s,K=>zdY _ _ _ _ _ _ _
 | .seq a b,s,K=>by
  unfold AW NW
  rw[z44 a]
  congr 1;funext e s'
  cases e with
  | normal=>exact z44 b s' K
  | _=>rfl
 | .cond c a b,s,K=>by
  unfold AW NW z0l
  rw[← z44 a,← z44 b]
  rfl
 | .condu c a b,s,K=>by
  unfold AW NW zj9
  rw[← z44 a,← z44 b]
  rfl
 | .det b,s,K=>z44 b s K
 | .block id b,s,K=>by
  unfold AW NW
  rw[z44 b]
  congr 1;funext e s'
  cases e with
  | exit i=>
   dsimp only
   by_cases hi:i=id
   ·subst hi;simp
   ·rw[if_neg hi]
    have:Nat.beq i id=false:=by cases h:Nat.beq i id with | false=>rfl | true=>exact absurd (Nat.eq_of_beq_eq_true h) hi
    rw[this];rfl
  | _=>rfl
 | .loop b,s,K=>by
  show ALoop (AW C gl b) K s=ALoop (NW C gl b) K s
  rw[show AW C gl b=NW C gl b from funext fun s=>funext fun K=>z44 b s K]
 | .scope b,s,K=>z44 b _ _
 | .pr l b,s,K=>z44 b _ _
 | .exit id,s,K=>rfl
 | .ret,s,K=>rfl
 | .bad,s,K=>rfl
end Go.Am
end
section
/- The abstract machine,part 31: words in which a function's code is printed,and the rules of computing over them. -/
set_option linter.unusedSimpArgs false
set_option linter.unusedVariables false
namespace Go.Am
variable {C:Hd} {gl:Nat→Option PV} {e:List (Nat × AV)} {h:Heap} {x:Esc} {K:Ex→St→Prop} {s:St}
abbrev AI (n:Int):AV:=.p (.int .i64 n)
abbrev AB (b:Bool):AV:=.p (.bool b)
def seqN (C:Hd) (gl:Nat→Option PV) (b:ACode) (K:Ex→St→Prop) (e:Ex) (s:St):Prop:=match e with
 | .normal=>NW C gl b s K
 | .exit i=>K (.exit i) s
 | .ret=>K .ret s
def z0v (id:Nat) (K:Ex→St→Prop) (e:Ex) (s:St):Prop:=match e with
 | .normal=>K .normal s
 | .exit i=>bif Nat.beq i id then K .normal s else K (.exit i) s
 | .ret=>K .ret s
def nqK (sh:Option Sh) (l:List AV) (h:Heap) (k:AV→Heap→Esc→Prop):Prop:=match z4s h sh l with
 | some l=>l≠[]∧∀ y∈l,k y.1 y.2 []
 | none=>False
theorem z8j {b:ACode}:seqN C gl b K .normal s=NW C gl b s K:=(rfl)
theorem zcP {b:ACode} {i:Nat}:seqN C gl b K (.exit i) s=K (.exit i) s:=(rfl)
theorem zfZ {b:ACode}:seqN C gl b K .ret s=K .ret s:=(rfl)
theorem z48 {i:Nat}:z0v i K .normal s=K .normal s:=(rfl)
theorem z6M {i:Nat}:z0v i K (.exit i) s=K .normal s:=by simp [z0v]
theorem zdp {i j:Nat}:z0v i K (.exit j) s=bif Nat.beq j i then K .normal s else K (.exit j) s:=(rfl)
theorem z88 {i:Nat}:z0v i K .ret s=K .ret s:=(rfl)
theorem zhp {b:ACode} {ex ex':Ex} {s s':St} (he:ex=ex') (hs:s=s'):seqN C gl b K ex s=seqN C gl b K ex' s':=by rw[he,hs]
theorem zaW {i:Nat} {ex ex':Ex} {s s':St} (he:ex=ex') (hs:s=s'):z0v i K ex s=z0v i K ex' s':=by rw[he,hs]
theorem zpG {b:ACode}:NW C gl (.scope b) ⟨e,h,x⟩ K=NW C gl b ⟨e,h,[]⟩ (z90 h.length x K):=(rfl)
theorem zpF {c:ACode} {s s':St} (hs:s=s'):NW C gl c s K=NW C gl c s' K:=by rw[hs]
def z1t (C:Hd) (gl:Nat→Option PV) (b:ACode) (K:Ex→St→Prop) (e:List (Nat × AV)) (h:Heap) (x:Esc):Prop:=ALoop (NW C gl b) K ⟨e,h,x⟩
theorem z0F {l:List Nat} {b:ACode}:NW C gl (.loop (.pr l b)) ⟨e,h,x⟩ K=z1t C gl (.pr l b) K (z01 (some l) e) h x:=by
 show ALoop _ _ _=ALoop _ _ _
 exact z3N (funext fun R=>by show NW C gl b _ R=NW C gl b _ R;dsimp only;rw[z3i])
theorem z1V {l:List Nat} {b:ACode}:NW C gl (.loop (.scope (.pr l b))) ⟨e,h,x⟩ K=z1t C gl (.scope (.pr l b)) K (z01 (some l) e) h x:=by
 show ALoop _ _ _=ALoop _ _ _
 exact z3N (funext fun R=>by show NW C gl b _ _=NW C gl b _ _;dsimp only;rw[z3i])
theorem zdh {b:ACode} {e e':List (Nat × AV)} {h h':Heap} {x x':Esc} (h1:e=e') (h2:h=h') (h3:x=x'):z1t C gl b K e h x=z1t C gl b K e' h' x':=by rw[h1,h2,h3]
theorem z0U {σ:Type} {b:ACode} (S:σ→St) (P:σ→Prop) (m:σ→Nat) (t0:σ) (hs:(⟨e,h,x⟩:St)=S t0) (h0:P t0) (hr:∀ t,P t→NW C gl b (S t) (zd6 S P m K t)):z1t C gl b K e h x:=by
 show ALoop (NW C gl b) K _
 rw[hs]
 have key:∀ n t,m t<n→P t→ALoop (NW C gl b) K (S t):=by
  intro n
  induction n with
  | zero=>intro t h;omega
  | succ n ih=>
   intro t hm hp
   refine .mk _ _ (hr t hp) (fun s' h'=>?_) (fun i s' h'=>h') (fun s' h'=>h')
   obtain⟨u,rfl,hu,hlt⟩:=h'
   exact ih u (by omega) hu
 exact key _ t0 (Nat.lt_succ_self _) h0
theorem z0j {X:Ctx} {f:Nat} {F:AFun} {a asv:List AV} {h h1:Heap} {P:Post} (hf:X.fn f=some F) (hr:F.byref=false) (hp:z0u h a=some (asv,h1)) (hl:asv.length=F.nparams) (hd:F.isDet=false:=by rfl) :
 z0d X f a h P=NW (z0d X) X.gl F.body ⟨enter asv,h1,[]⟩ (finR F.results F.keep h.length P):=by
 rw[zr8 hf hr hp hl hd,z44]
theorem zaX {X:Ctx} {f:Nat} {F:AFun} {a asv:List AV} {h h1:Heap} {P:Post} (hf:X.fn f=some F) (hr:F.byref=false) (hp:z0u h a=some (asv,h1)) (hl:asv.length=F.nparams) (hd:F.isDet=true:=by rfl) :
 z0d X f a h P = ∃ v h' x,P v h' x∧NW (z0d X) X.gl F.body ⟨enter asv,h1,[]⟩ (finR F.results F.keep h.length fun v1 h1 x1=>v1=v∧h1=h'∧x1=x):=by
 rw[zcR hf hr hp hl hd]
 simp only[z44]
theorem z1W {X:Ctx} {f:Nat} {F:AFun} {asv:List AV} {h:Heap} {P:Post} (hf:X.fn f=some F) (hr:F.byref=true) (hl:asv.length=F.nparams) (hd:F.isDet=false:=by rfl) :
 z0d X f asv h P=NW (z0d X) X.gl F.body ⟨enter asv,h,[]⟩ (finR F.results F.keep h.length P):=by
 rw[zr7 hf hr hl hd,z44]
theorem zmX {v:AV} {k:AV→Prop}:pK (some v) k=k v:=(rfl)
theorem zmW {k:AV→Prop}:pK none k=False:=(rfl)
theorem zpu {v:AV} {h:Heap} {x:Esc} {k:AV→Heap→Esc→Prop}:wK (some (v,h,x)) k=k v h x:=(rfl)
theorem zpt {k:AV→Heap→Esc→Prop}:wK none k=False:=(rfl)
theorem pK_ite {p:Prop} [Decidable p] {a b:Option AV} {k:AV→Prop}:pK (if p then a else b) k=if p then pK a k else pK b k:=by split <;> rfl
theorem wK_ite {p:Prop} [Decidable p] {a b:Option (AV × Heap × Esc)} {k:AV→Heap→Esc→Prop}:wK (if p then a else b) k=if p then wK a k else wK b k:=by split <;> rfl
theorem zrf {o o':Option AV} {k:AV→Prop} (h:o=o'):pK o k=pK o' k:=by rw[h]
theorem zrN {o o':Option (AV × Heap × Esc)} {k:AV→Heap→Esc→Prop} (h:o=o'):wK o k=wK o' k:=by rw[h]
theorem zqA {v v':AV} {b:Bool} {h:Heap} {A:(AV→Heap→Esc→Prop)→Prop} {k:AV→Heap→Esc→Prop} (h1:v=v'):gV v b h A k=gV v' b h A k:=by rw[h1]
theorem zq9 {v v':AV} {b:Bool} {o:Option AV} {h:Heap} {k:AV→Heap→Esc→Prop} (h1:v=v'):gP v b o h k=gP v' b o h k:=by rw[h1]
theorem zq8 {v v':AV} {b:Bool} {u:AV} {h:Heap} {k:AV→Heap→Esc→Prop} (h1:v=v'):gM v b u h k=gM v' b u h k:=by rw[h1]
section
variable {A:(AV→Heap→Esc→Prop)→Prop} {o:Option AV} {u:AV} {k:AV→Heap→Esc→Prop} {t b:Bool}
theorem gV_tt:gV (.p (.bool true)) true h A k=A k:=(rfl)
theorem gV_ff:gV (.p (.bool false)) false h A k=A k:=(rfl)
theorem gV_tf:gV (.p (.bool true)) false h A k=k .skp h []:=(rfl)
theorem gV_ft:gV (.p (.bool false)) true h A k=k .skp h []:=(rfl)
theorem ztt:gV .skp b h A k=k .skp h []:=(rfl)
theorem gV_any:gV (.p (.bool t)) b h A k=z20 (.p (.bool t)) b (A k) (k .skp h []):=(rfl)
theorem gP_tt:gP (.p (.bool true)) true o h k=pK o fun v=>k v h []:=(rfl)
theorem gP_ff:gP (.p (.bool false)) false o h k=pK o fun v=>k v h []:=(rfl)
theorem gP_tf:gP (.p (.bool true)) false o h k=k .skp h []:=(rfl)
theorem gP_ft:gP (.p (.bool false)) true o h k=k .skp h []:=(rfl)
theorem zts:gP .skp b o h k=k .skp h []:=(rfl)
theorem gP_any:gP (.p (.bool t)) b o h k=z20 (.p (.bool t)) b (pK o fun v=>k v h []) (k .skp h []):=(rfl)
theorem gM_tt:gM (.p (.bool true)) true u h k=k u h []:=(rfl)
theorem gM_ff:gM (.p (.bool false)) false u h k=k u h []:=(rfl)
theorem gM_tf:gM (.p (.bool true)) false u h k=k .skp h []:=(rfl)
theorem gM_ft:gM (.p (.bool false)) true u h k=k .skp h []:=(rfl)
theorem ztr:gM .skp b u h k=k .skp h []:=(rfl)
theorem gM_any:gM (.p (.bool t)) b u h k=z20 (.p (.bool t)) b (k u h []) (k .skp h []):=(rfl)
end
section
variable {k k':IntKind} {a b:Int} {sa sb:List UInt8}
theorem ztR:oBin .add (.p (.int k a)) (.p (.int k b))=some (.p (.int k (k.wrap (a+b)))):=by simp [oBin,abin,aint]
theorem zue:oBin .sub (.p (.int k a)) (.p (.int k b))=some (.p (.int k (k.wrap (a-b)))):=by simp [oBin,abin,aint]
theorem ztY:oBin .mul (.p (.int k a)) (.p (.int k b))=some (.p (.int k (k.wrap (a*b)))):=by simp [oBin,abin,aint]
theorem zua:oBin .quo (.p (.int k a)) (.p (.int k b))=if b=0 then none else some (.p (.int k (k.wrap (a.tdiv b)))):=by simp [oBin,abin,aint] <;> split <;> rfl
theorem zub:oBin .rem (.p (.int k a)) (.p (.int k b))=if b=0 then none else some (.p (.int k (a.tmod b))):=by simp [oBin,abin,aint] <;> split <;> rfl
theorem ztS:oBin .and (.p (.int k a)) (.p (.int k b))=some (.p (.int k (iand k a b))):=by simp [oBin,abin,aint]
theorem bin_or:oBin .or (.p (.int k a)) (.p (.int k b))=some (.p (.int k (ior k a b))):=by simp [oBin,abin,aint]
theorem zuf:oBin .xor (.p (.int k a)) (.p (.int k b))=some (.p (.int k (ixor k a b))):=by simp [oBin,abin,aint]
theorem zg7:oBin .andNot (.p (.int k a)) (.p (.int k b))=some (.p (.int k (zgR k a b))):=by simp [oBin,abin,aint]
theorem ztT:oBin .eql (.p (.int k a)) (.p (.int k b))=some (.p (.bool (decide (a=b)))):=by simp [oBin,abin,aint]
theorem ztZ:oBin .neq (.p (.int k a)) (.p (.int k b))=some (.p (.bool (!decide (a=b)))):=by simp [oBin,abin,aint]
theorem ztX:oBin .lss (.p (.int k a)) (.p (.int k b))=some (.p (.bool (decide (a<b)))):=by simp [oBin,abin,aint]
theorem ztW:oBin .leq (.p (.int k a)) (.p (.int k b))=some (.p (.bool (decide (a≤b)))):=by simp [oBin,abin,aint]
theorem ztV:oBin .gtr (.p (.int k a)) (.p (.int k b))=some (.p (.bool (decide (b<a)))):=by simp [oBin,abin,aint]
theorem ztU:oBin .geq (.p (.int k a)) (.p (.int k b))=some (.p (.bool (decide (b≤a)))):=by simp [oBin,abin,aint]
theorem zuc:oBin .shl (.p (.int k a)) (.p (.int k' b))=if b<0 then none else some (.p (.int k (ishl k a b))):=by simp [oBin,abin] <;> split <;> rfl
theorem zud:oBin .shr (.p (.int k a)) (.p (.int k' b))=if b<0 then none else some (.p (.int k (ishr k a b))):=by simp [oBin,abin] <;> split <;> rfl
theorem zvB:oBin .add (.p (.str sa)) (.p (.str sb))=if sa.length+sb.length≤zcz then some (.p (.str (sa++sb))) else none:=by simp [oBin,abin,astr] <;> split <;> rfl
theorem zvC:oBin .eql (.p (.str sa)) (.p (.str sb))=some (.p (.bool (decide (sa=sb)))):=by simp [oBin,abin,astr]
theorem zvI:oBin .neq (.p (.str sa)) (.p (.str sb))=some (.p (.bool (!decide (sa=sb)))):=by simp [oBin,abin,astr]
theorem zvH:oBin .lss (.p (.str sa)) (.p (.str sb))=some (.p (.bool (Op.bytesLess sa sb))):=by simp [oBin,abin,astr]
theorem zvG:oBin .leq (.p (.str sa)) (.p (.str sb))=some (.p (.bool (Op.bytesLess sa sb||decide (sa=sb)))):=by simp [oBin,abin,astr]
theorem zvF:oBin .gtr (.p (.str sa)) (.p (.str sb))=some (.p (.bool (!(Op.bytesLess sa sb||decide (sa=sb))))):=by simp [oBin,abin,astr]
theorem zvD:oBin .geq (.p (.str sa)) (.p (.str sb))=some (.p (.bool (!Op.bytesLess sa sb))):=by simp [oBin,abin,astr]
theorem un_neg:oUn .neg (.p (.int k a))=some (.p (.int k (k.wrap (-a)))):=by simp [oUn,aun]
theorem un_not {t:Bool}:oUn .not (.p (.bool t))=some (.p (.bool !t)):=(rfl)
theorem convI {k':IntKind}:zfE k (.p (.int k' a))=some (.p (.int k (k.wrap a))):=(rfl)
theorem nilref {i j:Nat}:oNil (.ref i j)=some (.ref i j):=(rfl)
theorem zuY {i j m n:Nat}:oNil (.rref i j m n)=some (.rref i j m n):=(rfl)
theorem nilvp {v:PV}:oNil (.vp v)=some (.vp v):=(rfl)
theorem nilfn {f:Nat} {cs:List AV}:oNil (.fn f cs)=some (.fn f cs):=(rfl)
theorem pick_b {t:Bool} {u v:AV}:z0M (.p (.bool t)) u v=some (bif t then u else v):=(rfl)
theorem len_sl {sh:Sh} {xs:List PV}:oLen (.p (.sl sh xs))=some (.p (.int .i64 xs.length)):=(rfl)
theorem zuJ {sh:Sh}:oLen (.sl0 sh)=some (.p (.int .i64 0)):=(rfl)
theorem zuI {i g o l:Nat}:oLen (.own i g o l)=some (.p (.int .i64 l)):=(rfl)
theorem lens_s:zd9 (.p (.str sa))=some (.p (.int .i64 sa.length)):=(rfl)
theorem ext_t {vs:List AV} {i:Nat}:oExt (.tup vs) i=vs[i]?:=(rfl)
theorem zlJ {off i j:Nat} {sh:Sh}:z0c off sh (.ref i j)=some (.ref i (j+off)):=(rfl)
theorem zgJ {off i j m n:Nat} {sh:Sh}:z0c off sh (.rref i j m n)=some (.rref i j m (n+off)):=(rfl)
theorem zq4 {off:Nat} {sh:Sh} {v:PV}:z0c off sh (.vp v)=(cutP sh off v).map .vp:=(rfl)
theorem zu1 {off:Nat} {sh:Sh} {cs:List PV}:zfF off sh (.p (.agg cs))=(cutP sh off (.agg cs)).map .p:=(rfl)
theorem zu0 {off:Nat} {sh:Sh} {cs:List AV}:zfF off sh (.agg cs)=cut sh off cs:=(rfl)
def ldB (sh:Sh) (off:Nat):Option Obj→Option AV
 | some (.box cs)=>cut sh off cs
 | _=>none
def ldR (sh:Sh) (g i off:Nat):Option Obj→Option AV
 | some (.row _ xs _)=>if g=xs.length then ((xs[i]?).bind (cutP sh off)).map .p else none
 | _=>none
theorem zqW {sh:Sh} {i j:Nat}:z0e sh (.ref i j) h=ldB sh j h[i]?:=by unfold z0e ldB;rfl
theorem zmE {sh:Sh} {i g m n:Nat}:z0e sh (.rref i g m n) h=ldR sh g m n h[i]?:=by unfold z0e ldR;rfl
theorem zmF {sh:Sh} {v:PV}:z0e sh (.vp v) h=(cutP sh 0 v).map .p:=(rfl)
theorem zuE {sh:Sh} {off:Nat} {cs:List AV}:ldB sh off (some (.box cs))=cut sh off cs:=(rfl)
theorem zuF {sh sh':Sh} {g i off fz:Nat} {xs:List PV}:ldR sh g i off (some (.row sh' xs fz))=if g=xs.length then ((xs[i]?).bind (cutP sh off)).map .p else none:=(rfl)
def stB (sh:Sh) (id off:Nat) (v:AV) (h:Heap):Option Obj→Option (List AV)→Option (AV × Heap × Esc)
 | some (.box cs),some vs=>if vs.length=z0a sh∧off+vs.length≤cs.length then some (.und,h.set id (.box (splice cs off vs)),escS id cs v) else none
 | _,_=>none
theorem zpg {sh:Sh} {i j:Nat} {v:AV}:z0n sh (.ref i j) v h=stB sh i j v h h[i]? v.cells:=by unfold z0n stB;rfl
theorem zv5 {sh:Sh} {id off:Nat} {v:AV} {cs vs:List AV}:stB sh id off v h (some (.box cs)) (some vs)=if vs.length=z0a sh∧off+vs.length≤cs.length then some (.und,h.set id (.box (splice cs off vs)),escS id cs v) else none:=(rfl)
theorem escS_p {id:Nat} {cs:List AV} {v:PV}:escS id cs (.p v)=[]:=by
 unfold escS
 cases z62 cs&&decide (AV.top (.p v)≤AV.tops cs) <;> rfl
theorem zqz {id:Nat} {cs:List AV} {v:AV} (h:z62 cs=false):escS id cs v=z1X id v:=by
 unfold escS
 rw[h]
 rfl
theorem zuD {a:AV} {v:PV}:z62 [a,.p v]=false:=(rfl)
theorem zmf {a:AV} {s:Sh}:z62 [a,.sl0 s]=false:=(rfl)
theorem zme {a:AV} {i j k l:Nat}:z62 [a,.own i j k l]=false:=(rfl)
theorem zgS {a:AV}:z62 [a,.nilp]=false:=(rfl)
theorem zuA:z62 []=false:=(rfl)
theorem zuB {a:AV}:z62 [a]=false:=(rfl)
theorem zuC {a b c:AV} {l:List AV}:z62 (a::b::c::l)=false:=by unfold z62;split <;> first | rfl | (rename_i h;simp at h)
theorem zl9 {id t n m:Nat} {a:AV}:escS id [a,.bt 1 t (id+1) n] (.ref id m)=[]:=by
 unfold escS
 have e:decide (AV.top (.ref id m)≤AV.tops [a,.bt 1 t (id+1) n])=true:=by simp [AV.top,AV.tops];omega
 rw[e]
 rfl
theorem zq0 {id t t' i n n':Nat} {a:AV}:escS id [a,.bt 1 t i n] (.bt 1 t' i n')=[]:=by
 unfold escS
 have e:decide (AV.top (.bt 1 t' i n')≤AV.tops [a,.bt 1 t i n])=true:=by simp [AV.top,AV.tops];omega
 rw[e]
 rfl
def stE (sh:Sh) (id i off fz:Nat) (rsh:Sh) (xs:List PV) (v:PV) (h1:Heap):Option PV→Option (AV × Heap × Esc)
 | some (.agg cs)=>if off+v.cells.length≤cs.length then some (.und,h1.set id (.row rsh (xs.set i (.agg (splice cs off v.cells))) fz),[]) else none
 | some _=>if off=0∧v.sc then some (.und,h1.set id (.row rsh (xs.set i v) fz),[]) else none
 | none=>none
def stO (sh:Sh) (id g i off:Nat) (v:PV) (h1:Heap):Option Obj→Option (AV × Heap × Esc)
 | some (.row rsh xs fz)=>if g=xs.length∧fz≤i∧v.cells.length=z0a sh∧v.cells.all PV.sc then stE sh id i off fz rsh xs v h1 xs[i]? else none
 | _=>none
def stR (sh:Sh) (id g i off:Nat):Option (PV × Heap)→Option (AV × Heap × Esc)
 | some y=>stO sh id g i off y.1 y.2 y.2[id]?
 | none=>none
theorem zhv {sh:Sh} {id g i off:Nat} {x:AV}:z0n sh (.rref id g i off) x h=stR sh id g i off (pur h x):=by
 unfold z0n stR
 cases pur h x with
 | none=>rfl
 | some y=>
  obtain⟨v,h1⟩:=y
  dsimp only
  unfold stO
  cases h1[id]? with
  | none=>rfl
  | some o=>cases o <;> rfl
theorem zr6 {sh:Sh} {id g i off:Nat} {v:PV} {h1:Heap}:stR sh id g i off (some (v,h1))=stO sh id g i off v h1 h1[id]?:=(rfl)
theorem zv9 {sh rsh:Sh} {id g i off fz:Nat} {v:PV} {h1:Heap} {xs:List PV}:stO sh id g i off v h1 (some (.row rsh xs fz))=if g=xs.length∧fz≤i∧v.cells.length=z0a sh∧v.cells.all PV.sc then stE sh id i off fz rsh xs v h1 xs[i]? else none:=(rfl)
theorem zv6 {sh rsh:Sh} {id i off fz:Nat} {v:PV} {h1:Heap} {xs cs:List PV}:stE sh id i off fz rsh xs v h1 (some (.agg cs))=if off+v.cells.length≤cs.length then some (.und,h1.set id (.row rsh (xs.set i (.agg (splice cs off v.cells))) fz),[]) else none:=(rfl)
theorem zv7 {sh rsh:Sh} {id i off fz:Nat} {v:PV} {h1:Heap} {xs:List PV} {k:IntKind} {n:Int}:stE sh id i off fz rsh xs v h1 (some (.int k n))=if off=0∧v.sc then some (.und,h1.set id (.row rsh (xs.set i v) fz),[]) else none:=(rfl)
theorem zr4 {sh rsh:Sh} {id i off fz:Nat} {v:PV} {h1:Heap} {xs:List PV} {t:Bool}:stE sh id i off fz rsh xs v h1 (some (.bool t))=if off=0∧v.sc then some (.und,h1.set id (.row rsh (xs.set i v) fz),[]) else none:=(rfl)
theorem zv8 {sh rsh:Sh} {id i off fz:Nat} {v:PV} {h1:Heap} {xs:List PV} {s:List UInt8}:stE sh id i off fz rsh xs v h1 (some (.str s))=if off=0∧v.sc then some (.und,h1.set id (.row rsh (xs.set i v) fz),[]) else none:=(rfl)
theorem stE_sl {sh rsh:Sh} {id i off fz:Nat} {v:PV} {h1:Heap} {xs:List PV} {sh':Sh} {ys:List PV}:stE sh id i off fz rsh xs v h1 (some (.sl sh' ys))=if off=0∧v.sc then some (.und,h1.set id (.row rsh (xs.set i v) fz),[]) else none:=(rfl)
theorem zr5 {sh rsh:Sh} {id i off fz:Nat} {v:PV} {h1:Heap} {xs:List PV}  : stE sh id i off fz rsh xs v h1 (some .nilp)=if off=0∧v.sc then some (.und,h1.set id (.row rsh (xs.set i v) fz),[]) else none:=(rfl)
theorem pur_p {v:PV}:pur h (.p v)=some (v,h):=(rfl)
def iaS (xs:List PV):Option Nat→Option AV
 | some k=>(xs[k]?).map .vp
 | none=>none
theorem zqK {sh:Sh} {xs:List PV} {i:AV}:z0y sh (.p (.sl sh xs)) i h=iaS xs (z1a i):=by
 unfold z0y iaS;cases z1a i <;> simp
theorem zqH {xs:List PV} {n:Nat}:iaS xs (some n)=(xs[n]?).map .vp:=(rfl)
def iaO (sh:Sh) (id g off len:Nat):Option Obj→Option Nat→Option AV
 | some (.row rsh xs _),some k=>if rsh=sh∧g=xs.length∧off+len≤xs.length∧k<len then some (.rref id g (off+k) 0) else none
 | _,_=>none
theorem zmb {sh:Sh} {id g off len:Nat} {i:AV}:z0y sh (.own id g off len) i h=iaO sh id g off len h[id]? (z1a i):=by
 unfold z0y iaO
 cases z1a i with
 | none=>dsimp only;cases h[id]? with
  | none=>rfl
  | some o=>cases o <;> rfl
 | some k=>dsimp only;cases h[id]? with
  | none=>rfl
  | some o=>cases o <;> rfl
theorem zu6 {sh rsh:Sh} {id g off len k fz:Nat} {xs:List PV}:iaO sh id g off len (some (.row rsh xs fz)) (some k)=if rsh=sh∧g=xs.length∧off+len≤xs.length∧k<len then some (.rref id g (off+k) 0) else none:=(rfl)
theorem idxs_s {i:AV}:zc3 (.p (.str sa)) i=(z1a i).bind fun n=>(sa[n]?).map fun b=>.p (.int .u8 b.toNat):=by
 unfold zc3;cases z1a i <;> rfl
end
theorem zst {z:List AV} {k:AV→Heap→Esc→Prop}:alK z h k=k (.ref h.length 0) (h++[.box z]) []:=(rfl)
theorem ztw {sh:Sh} {k:AV→Heap→Esc→Prop}:nwK sh h k=k (.own h.length 0 0 0) (h++[.row sh [] 0]) []:=(rfl)
theorem ztu {k:AV→Heap→Esc→Prop}:mmK h k=k (.mp h.length) (h++[.amap [] 0]) []:=(rfl)
theorem zgB {A B:Prop}:zj9 (.p (.bool true)) A B=A:=(rfl)
theorem zdw {A B:Prop}:zj9 (.p (.bool false)) A B=B:=(rfl)
theorem zjA {A B:Prop}:zj9 .anyb A B=(A∧B):=(rfl)
theorem zhi {h:Heap}:z03 [] h=([],h):=(rfl)
theorem zhj {h:Heap} {s:Sh} {r:List AV}:z03 (.sl0 s::r) h=(.own h.length 0 0 0::(z03 r (h++[.row s [] 0])).1,(z03 r (h++[.row s [] 0])).2):=(rfl)
theorem zrt {h:Heap} {v:PV} {r:List AV}:z03 (.p v::r) h=(.p v::(z03 r h).1,(z03 r h).2):=(rfl)
attribute [go_sem] zhi zhj zrt
theorem zoF {h:Heap}:z0T [] h=([],h):=(rfl)
theorem zoI {h:Heap} {s:Sh} {r:List AV}:z0T (.sl0 s::r) h=(.own h.length 0 0 0::(z0T r (h++[.row s [] 0])).1,(z0T r (h++[.row s [] 0])).2):=(rfl)
theorem zvs {h:Heap} {v:PV} {r:List AV}:z0T (.p v::r) h=(.p v::(z0T r h).1,(z0T r h).2):=(rfl)
theorem zoH {h:Heap} {i o:Nat} {r:List AV}:z0T (.ref i o::r) h=(.ref i o::(z0T r h).1,(z0T r h).2):=(rfl)
theorem zoG {h:Heap} {i o g l:Nat} {r:List AV}:z0T (.own i o g l::r) h=(.own i o g l::(z0T r h).1,(z0T r h).2):=(rfl)
theorem zrs {h:Heap} {i:Nat} {r:List AV}:z0T (.mp i::r) h=(.mp i::(z0T r h).1,(z0T r h).2):=(rfl)
attribute [go_sem] zoF zoI zvs zoH zoG zrs
def ldAr (sh:Sh) (off g:Nat):Option Obj→Option AV
 | some (.arow rsh cs)=>if g*z0a rsh=cs.length then cut sh off cs else none
 | _=>none
theorem zuM {sh:Sh} {off id g:Nat}:z0e sh (.bt 4 off id g) h=ldAr sh off g h[id]?:=by
 show ldA sh 4 off id g h=_
 unfold ldA ldAr
 rfl
theorem zmD {sh rsh:Sh} {off g:Nat} {cs:List AV}:ldAr sh off g (some (.arow rsh cs))=if g*z0a rsh=cs.length then cut sh off cs else none:=(rfl)
def stAr (sh:Sh) (off id g:Nat) (x:AV) (h:Heap):Option Obj→Option (List AV)→Option (AV × Heap × Esc)
 | some (.arow rsh cs),some vs=>if g*z0a rsh=cs.length∧vs.length=z0a sh∧off+vs.length≤cs.length then some (.und,h.set id (.arow rsh (splice cs off vs)),z1X id x) else none
 | _,_=>none
theorem zr9 {sh:Sh} {off id g:Nat} {x:AV}:z0n sh (.bt 4 off id g) x h=stAr sh off id g x h h[id]? x.cells:=by
 show stA sh 4 off id g x h=_
 unfold stA stAr
 rfl
theorem zpc {sh rsh:Sh} {off id g:Nat} {x:AV} {cs vs:List AV}:stAr sh off id g x h (some (.arow rsh cs)) (some vs)=if g*z0a rsh=cs.length∧vs.length=z0a sh∧off+vs.length≤cs.length then some (.und,h.set id (.arow rsh (splice cs off vs)),z1X id x) else none:=(rfl)
def iaAr (sh:Sh) (id g:Nat):Option Obj→Option Nat→Option AV
 | some (.arow rsh cs),some i=>if rsh=sh∧g*z0a rsh=cs.length∧i<g then some (.bt 4 (i*z0a sh) id g) else none
 | _,_=>none
theorem zqI {sh:Sh} {t id g:Nat} {i:AV}:z0y sh (.bt 3 t id g) i h=iaAr sh id g h[id]? (z1a i):=by
 unfold z0y iaAr
 cases z1a i with
 | none=>cases h[id]? with
  | none=>rfl
  | some o=>cases o <;> rfl
 | some k=>
  show iaA sh 3 id g k h=_
  unfold iaA
  cases h[id]? with
  | none=>rfl
  | some o=>cases o <;> rfl
theorem zma {sh rsh:Sh} {id g i:Nat} {cs:List AV}:iaAr sh id g (some (.arow rsh cs)) (some i)=if rsh=sh∧g*z0a rsh=cs.length∧i<g then some (.bt 4 (i*z0a sh) id g) else none:=(rfl)
theorem zq2 {off o id g:Nat} {sh:Sh}:z0c off sh (.bt 4 o id g)=some (.bt 4 (o+off) id g):=(rfl)
theorem len_bt {t id g:Nat}:oLen (.bt 3 t id g)=some (.p (.int .i64 g)):=(rfl)
theorem nil_bt {o id g:Nat}:oNil (.bt 4 o id g)=some (.bt 4 o id g):=(rfl)
def apAr (sh:Sh) (h:Heap) (t id g g':Nat):Option Obj→Option Obj→Option (AV × Heap × Esc)
 | some (.arow rsh cs),some (.arow rsh' ds)=>if rsh=sh∧rsh'=sh∧g*z0a sh=cs.length∧g'*z0a sh=ds.length∧g+g'≤z1f then
  some (.bt 3 t id (g+g'),h.set id (.arow sh (cs++ds)),bif decide (id<AV.tops ds) then [(id,AV.tops ds)] else []) else none
 | _,_=>none
theorem apA_bt {sh:Sh} {t id g t' id' g':Nat}:apA sh h (.bt 3 t id g) (.bt 3 t' id' g')=apAr sh h t id g g' h[id]? h[id']?:=by
 show (match h[id]?,h[id']? with | _,_=>_)=_
 unfold apAr
 rfl
theorem zjk {sh rsh rsh':Sh} {t id g g':Nat} {cs ds:List AV}:apAr sh h t id g g' (some (.arow rsh cs)) (some (.arow rsh' ds))=if rsh=sh∧rsh'=sh∧g*z0a sh=cs.length∧g'*z0a sh=ds.length∧g+g'≤z1f then
 some (.bt 3 t id (g+g'),h.set id (.arow sh (cs++ds)),bif decide (id<AV.tops ds) then [(id,AV.tops ds)] else []) else none:=(rfl)
theorem zoJ {h:Heap} {k t i g:Nat} {r:List AV}:z03 (.bt k t i g::r) h=(.bt 3 t h.length 0::(z03 r (h++[.arow (z2f t) []])).1,(z03 r (h++[.arow (z2f t) []])).2):=(rfl)
theorem zuo:z2f 0=none:=(rfl)
theorem zup {n:Nat}:z2f (n+1)=some n:=(rfl)
attribute [go_sem] zuM zmD zr9 zpc zqI zma zq2 len_bt nil_bt apA_bt zjk zoJ zuo zup
attribute [go_sem] z8j zcP zfZ z48 z6M z88 zpG zmX zmW zpu zpt pK_ite wK_ite gV_tt gV_ff gV_tf gV_ft ztt gP_tt gP_ff gP_tf gP_ft zts gM_tt gM_ff gM_tf gM_ft ztr ztR zue ztY zua zub ztS bin_or zuf zg7 ztT ztZ ztX ztW ztV ztU zuc zud zvB zvC zvI zvH zvG zvF zvD un_neg un_not convI nilref zuY nilvp nilfn pick_b len_sl zuJ zuI lens_s ext_t zlJ zgJ zq4 zu1 zu0 zqW zmE zmF zuE zuF zpg zv5 zhv zr6 zv9 zv6 zv7 zr4 zv8 stE_sl zr5 pur_p escS_p zqz zuD zmf zme zgS zuA zuB zuC zl9 zq0 zqK zqH zmb zu6 idxs_s zst ztw ztu z2p zv1 upcB neqB lenB n64 zqe strB appB rds rd oBox z0G zlK oBsl zlL oEqa zc4 z6v zgB zdw zjA zmO oMkif okIn zgY zvc bndV zfG z4m z7H zva oApp oCopy oClr oMx oMn z1p z17 oMent zmQ z4c zvb zdB zdA
attribute [go_sem ↓] zmX zmW zpu zpt gV_tt gV_ff gV_tf gV_ft ztt gP_tt gP_ff gP_tf gP_ft zts gM_tt gM_ff gM_tf gM_ft ztr z8G z6Z zgh zge zgg zgf zcY z8j zcP zfZ z48 z6M z88 zst ztw ztu z6u z9i zcx zcN z79 zfx
attribute [go_sem low] gV_any gP_any gM_any zdp
attribute [congr] zhp zaW zpF zdh zrf zrN zqA zq9 zq8
end Go.Am
end
section
/- The abstract machine,part X: the library's functions that have no Go text: comparing strings,finding a byte. -/
set_option linter.unusedSimpArgs false
set_option linter.unusedVariables false
namespace Go.Am
variable {P:Program}
structure ExtRow (P:Program) (f:Nat) (e:Array Value→Sem Value):Prop where
 row:∃ fn,P.funcs[f]?=some fn∧fn.name ≠ "runtime.NumGoroutine" ∧ fn.body=none∧Extern.findNext fn=none∧Extern.find fn=some e
theorem ExtRow.run {f:Nat} {e:Array Value→Sem Value} (R:ExtRow P f e) {us:Array Value} {w w':World} {x:Value} (he:(e us).run P w = .ok x w'):(callFunc f us).run P w = .ok (.value x) w':=by
 obtain⟨fn,h1,h2,h3,h4,h5⟩:=R.row
 unfold callFunc
 simp [h1,h2,h3,h4,h5,he]
theorem extRow_of {f:Nat} {e:Array Value→Sem Value} (h:(match P.funcs[f]? with | some fn=>fn.name != "runtime.NumGoroutine" && fn.body.isNone&&(Extern.findNext fn).isNone | none=>false)=true) (h2:(P.funcs[f]?).bind Extern.find=some e):ExtRow P f e:=by
 cases hf:P.funcs[f]? with
 | none=>rw[hf] at h;cases h
 | some fn=>
  rw[hf] at h h2
  simp only[Bool.and_eq_true,bne_iff_ne,ne_eq,Option.isNone_iff_eq_none] at h
  exact⟨⟨fn,hf,h.1.1,h.1.2,h.2,h2⟩⟩
def idxB (s:List UInt8) (c:UInt8):Int:=if s.findIdx (· == c)<s.length then (s.findIdx (· == c):Int) else -1
def cmpL:List UInt8→List UInt8→Int
 | [],[]=>0
 | [],_::_=>-1
 | _::_,[]=>1
 | a::asv,b::bs=>if a<b then -1 else if b<a then 1 else cmpL asv bs
theorem zsu (s:List UInt8) (i:Nat):(⟨s.toArray⟩:ByteArray)[i]! = s.getD i 0:=by
 by_cases h:i<s.length
 ·rw[getElem!_pos (⟨s.toArray⟩:ByteArray) i h]
  show s.toArray[i]=_
  simp [h]
 ·rw[getElem!_neg (⟨s.toArray⟩:ByteArray) i h]
  simp [Nat.not_lt.1 h]
  rfl
theorem zq6 (s:List UInt8) (c:UInt8):(match (List.range (⟨s.toArray⟩:ByteArray).size).find? fun i=>(⟨s.toArray⟩:ByteArray)[i]! == c with
 | some i=>(i:Int)
 | none=>-1)=idxB s c:=by
 have hsz:(⟨s.toArray⟩:ByteArray).size=s.length:=rfl
 have hget:∀ i,i<s.length→(⟨s.toArray⟩:ByteArray)[i]! = s.getD i 0:=by
  intro i hi
  exact zsu s i
 unfold idxB
 rw[hsz]
 by_cases h:s.findIdx (· == c)<s.length
 ·rw[if_pos h]
  have hf:(List.range s.length).find? (fun i=>(⟨s.toArray⟩:ByteArray)[i]! == c)=some (s.findIdx (· == c)):=by
   rw[List.find?_eq_some_iff_getElem]
   refine⟨?_,s.findIdx (· == c),by simpa using h,by simp,fun j hj=>?_⟩
   ·rw[hget _ h]
    have:=List.findIdx_getElem (w:=h)
    simpa [h] using this
   ·simp only[List.getElem_range]
    have hj':j<s.length:=by omega
    rw[hget _ hj']
    have:=List.not_of_lt_findIdx hj
    simpa [hj'] using this
  rw[hf]
 ·rw[if_neg h]
  have hf:(List.range s.length).find? (fun i=>(⟨s.toArray⟩:ByteArray)[i]! == c)=none:=by
   rw[List.find?_eq_none]
   intro i hi
   rw[List.mem_range] at hi
   rw[hget _ hi]
   intro hc
   exact h (List.findIdx_lt_length_of_exists ⟨s[i],List.getElem_mem hi,by simpa [hi] using hc⟩)
  rw[hf]
theorem zpY:∀ (a b:List UInt8),Extern.BytealgCompare.cmp ⟨a.toArray⟩ ⟨b.toArray⟩=cmpL a b:=by
 have key:∀ (a b:List UInt8),(match (List.range (min a.length b.length)).find? fun i=>a.getD i 0 != b.getD i 0 with
  | some i=>if a.getD i 0<b.getD i 0 then (-1:Int) else 1
  | none=>if a.length<b.length then -1 else if a.length>b.length then 1 else 0)=cmpL a b:=by
  intro a
  induction a with
  | nil=>intro b;cases b <;> simp [cmpL]
  | cons x a ih=>
   intro b
   cases b with
   | nil=>simp [cmpL]
   | cons y b=>
    have hm:min (x::a).length (y::b).length=min a.length b.length+1:=by simp only[List.length_cons];omega
    rw[hm,List.range_succ_eq_map,List.find?_cons]
    simp only[List.getD_cons_zero]
    by_cases hxy:x=y
    ·subst hxy
     have hlt:¬ x<x:=UInt8.lt_irrefl x
     simp only[bne_self_eq_false,List.find?_map,cmpL,hlt,if_false]
     rw[← ih b]
     have hc:((fun i=>(x::a).getD i 0 != (x::b).getD i 0) ∘ Nat.succ)=fun i=>a.getD i 0 != b.getD i 0:=by
      funext i;simp
     rw[hc]
     cases (List.range (min a.length b.length)).find? fun i=>a.getD i 0 != b.getD i 0 with
     | none=>simp
     | some i=>simp
    ·have:(x != y)=true:=by simpa using hxy
     rw[this]
     simp only[cmpL,List.getD_cons_zero]
     by_cases h1:x<y
     ·simp [h1]
     ·have h2:y<x:=by
       rcases UInt8.lt_or_lt_of_ne (a:=x) (b:=y) hxy with h | h
       ·exact absurd h h1
       ·exact h
      simp [h1,h2]
 intro a b
 rw[← key a b]
 unfold Extern.BytealgCompare.cmp
 have sa:(⟨a.toArray⟩:ByteArray).size=a.length:=rfl
 have sb:(⟨b.toArray⟩:ByteArray).size=b.length:=rfl
 simp only[sa,sb,zsu]
 generalize List.find? _ _=q
 cases q <;> rfl
def extF (fi fc:Nat) (f:Nat) (vs:List PV):Option PV:=
 bif Nat.beq f fi then (match vs with
  | [.str s,.int .u8 c]=>some (.int .i64 (idxB s (UInt8.ofNat c.toNat)))
  | _=>none)
 else bif Nat.beq f fc then (match vs with
  | [.str a,.str b]=>some (.int .i64 (cmpL a b))
  | _=>none)
 else none
theorem extF_ok {fi fc:Nat} (h1:ExtRow P fi Extern.BytealgIndexByte.indexByte) (h2:ExtRow P fc Extern.BytealgCompare.compare) {f:Nat} {vs:List PV} {r:PV} (h:extF fi fc f vs=some r):ExtOk P f vs r:=by
 intro M w us hM hl hr
 unfold extF at h
 cases e1:Nat.beq f fi with
 | true=>
  rw[e1] at h
  have e:=Nat.eq_of_beq_eq_true e1
  subst e
  simp only[cond_true] at h
  split at h
  ·rename_i s c
   injection h with h
   subst h
   match us,hl with
   | [u,v],_=>
    have q1:=hr 0 _ u rfl rfl
    have q2:=hr 1 _ v rfl rfl
    cases q1;cases q2
    refine⟨.int .i64 (idxB s (UInt8.ofNat c.toNat)),w,h1.run ?_,WExt.refl w,.int _ _⟩
    rw[← zq6]
    show (match (List.range (⟨s.toArray⟩:ByteArray).size).find? fun i=>(⟨s.toArray⟩:ByteArray)[i]! == UInt8.ofNat c.toNat with | some i=>(pure (goInt i):Sem Value) | none=>pure (goInt (-1))).run P w=_
    generalize List.find? _ _=q
    cases q <;> rfl
  ·cases h
 | false=>
  rw[e1] at h
  simp only[cond_false] at h
  cases e2:Nat.beq f fc with
  | true=>
   rw[e2] at h
   have e:=Nat.eq_of_beq_eq_true e2
   subst e
   simp only[cond_true] at h
   split at h
   ·rename_i a b
    injection h with h
    subst h
    match us,hl with
    | [u,v],_=>
     have q1:=hr 0 _ u rfl rfl
     have q2:=hr 1 _ v rfl rfl
     cases q1;cases q2
     refine⟨.int .i64 (cmpL a b),w,h2.run ?_,WExt.refl w,.int _ _⟩
     rw[← zpY]
     rfl
   ·cases h
  | false=>rw[e2] at h;cases h
theorem zfp {X:Ctx} {f:Nat} {asv:List AV} {vs:List PV} {h h1:Heap} {r:PV} {K:Post} (hf:X.fn f=none) (h2:X.ex2 f asv h=none) (hp:z0u h asv=some (vs.map .p,h1)) (hu:unp (vs.map AV.p)=some vs) (hx:X.ext f vs=some r):z0d X f asv h K=K (.p r) h1 []:=by
 refine propext (z0d.eq (z0d.fold ?_) K)
 unfold Step
 simp only[hf,h2,hp,hu,hx]
 exact⟨trivial,trivial,trivial⟩
structure GrowRow (P:Program) (f:Nat) (sh:Sh):Prop where
 enter:∀ us w,(callFunc f us).run P w = .ok (.enter f us) w
 room:∀ a w,Calls P f #[.slice a 0 0,.int .i64 0] w fun e w'=>e = .returned (.slice a 0 0)∧w'=w
 grow:∀ a (n:Nat) w,0<n→n≤1048576→Calls P f #[.slice a 0 0,.int .i64 n] w fun e w'=>∃ G cs E,e = .returned (.slice (some ⟨w.heap.size,0,none⟩) 0 G)∧cs.size=G*z0a sh∧w'=w.drew.alloc (.cells cs E)
def zqE:List (Nat × Sh)→Nat→List AV→Heap→Option (AV × Heap × Esc)
 | [],_,_,_=>none
 | (g,sh)::r,f,asv,h=>bif Nat.beq f g then (match asv with
  | [.sl0 _,.p (.int .i64 n)]=>bif decide (0≤n)&&decide (n≤1048576) then some (.own h.length 0 0 0,h++[.row sh [] 0],[]) else none
  | _=>none) else zqE r f asv h
theorem zf4 {gl:Nat→Option PV}:∀ (gs:List (Nat × Sh)),(∀ g sh,(g,sh)∈gs→GrowRow P g sh)→∀ {f:Nat} {asv:List AV} {h:Heap} {v:AV} {h':Heap} {x:Esc},zqE gs f asv h=some (v,h',x) →
 z11 P gl f asv h fun v1 h1 x1=>v1=v∧h1=h'∧x1=x
 | [],_,f,asv,h,v,h',x,H=>by cases H
 | (g,sh)::r,hg,f,asv,h,v,h',x,H=>by
  unfold zqE at H
  cases e1:Nat.beq f g with
  | false=>
   rw[e1] at H
   exact zf4 r (fun g sh hm=>hg g sh (by simp [hm])) H
  | true=>
   rw[e1] at H
   have e:=Nat.eq_of_beq_eq_true e1
   subst e
   have R:=hg f sh (by simp)
   simp only[cond_true] at H
   split at H
   ·rename_i sh' n
    cases hb:(decide (0≤n)&&decide (n≤1048576)) with
    | false=>rw[hb] at H;cases H
    | true=>
     rw[hb] at H
     simp only[cond_true,Option.some.injEq,Prod.mk.injEq] at H
     obtain⟨rfl,rfl,rfl⟩:=H
     simp only[Bool.and_eq_true,decide_eq_true_eq] at hb
     intro μ w vs Hh Hg hl hr
     match vs,hl with
     | [u1,u2],_=>
      have q1:=hr 0 _ u1 rfl rfl
      have q2:=(hr 1 _ u2 rfl rfl).p_inv
      cases q1
      cases q2
      obtain⟨m,hm⟩:=Int.eq_ofNat_of_zero_le hb.1
      subst hm
      refine .inl ⟨R.enter _,?_⟩
      rcases Nat.eq_zero_or_pos m with h0 | h0
      ·subst h0
       refine (R.room _ w).mono fun e w' he=>?_
       obtain⟨rfl,rfl⟩:=he
       obtain⟨n1,n2⟩:=z9l Hh sh
       refine⟨_,_,_,_,⟨rfl,rfl,rfl⟩,?_,n1,n2,z0i.push (by simp [Obj.top])⟩
       exact .own h.length 0 0 0 _ 0 sh [] 0 none (Nat.le_refl _) (by simp) (by rw[← Hh.len];simp) (by simp) (by simp) (fun _=>rfl)
      ·refine (R.grow _ m w h0 (by omega)).mono fun e w' he=>?_
       obtain⟨G,cs,E,rfl,hcs,rfl⟩:=he
       have hw:WExt w (w.drew.alloc (.cells cs E)):=(WExt.drew w _).trans (WExt.push _ _)
       obtain⟨n1,n2⟩:=z4w (sh:=sh) (xs:=[]) Hh hw (b:=w.heap.size) (n:=cs.size) (Nat.le_refl _) (by show w.heap.size<(w.heap.push _).size;simp) (c:=cs) (z0E.push (w:=w.drew) cs E) (by simp) (by simp) (by simp)
       refine⟨_,_,_,_,⟨rfl,rfl,rfl⟩,?_,n1,n2,z0i.push (by simp [Obj.top])⟩
       refine .own h.length 0 0 0 _ G sh [] 0 (some (w.heap.size,cs.size)) (Nat.zero_le _) (by simp) (by rw[← Hh.len];simp) (by simp) (by simp) (fun _=>?_)
       exact .inr ⟨by simp,by simp [hcs]⟩
   ·cases H
end Go.Am
end
section
/- Short words for the printed code. -/
set_option linter.all false
namespace Go.Am
instance {n:Nat}:OfNat Opd n:=⟨.t n⟩
abbrev GL:=Nat→Option PV
abbrev KT:=Ex→St→Prop
def cI (n:Int):Opd:=.c (.p (.int .i64 n))
def cT:Opd:=.c (.p (.bool true))
def cF:Opd:=.c (.p (.bool false))
def cS (s:List UInt8):Opd:=.c (.p (.str s))
def uO (d:Nat) (o:AO):AOp:=⟨some d,none,o⟩
def wO (o:AO):AOp:=⟨none,none,o⟩
def gD (d g:Nat) (b:Bool) (o:AO):AOp:=⟨some d,some (g,b),o⟩
def mV (d:Nat) (x:Opd):AOp:=⟨some d,none,.mv x⟩
def bN (d:Nat) (b:BinOp) (x y:Opd):AOp:=⟨some d,none,.bin b x y⟩
def cL (d f:Nat) (l:List Opd):AOp:=⟨some d,none,.call f l⟩
def lD (d:Nat) (s:Sh) (x:Opd):AOp:=⟨some d,none,.load s x⟩
def iA (d:Nat) (s:Sh) (x y:Opd):AOp:=⟨some d,none,.iaddr s x y⟩
def fA (d o:Nat) (s:Sh) (x:Opd):AOp:=⟨some d,none,.faddr o s x⟩
def lN (d:Nat) (x:Opd):AOp:=⟨some d,none,.len x⟩
def eX (d:Nat) (x:Opd) (i:Nat):AOp:=⟨some d,none,.ext x i⟩
def dF (o:AOp) (l:List Nat):DOp:=⟨o,l,false,[],[]⟩
def dT (o:AOp) (l:List Nat):DOp:=⟨o,l,true,[],[]⟩
def dA (o:AOp) (l:List Nat) (e:Bool) (a b:List Nat):DOp:=⟨o,l,e,a,b⟩
def rg (l:List AOp) (k:List Nat):ACode:=.reg l (some k)
def dr (l:List DOp) (k:List Nat):ACode:=.draw l (some k)
end Go.Am
end
