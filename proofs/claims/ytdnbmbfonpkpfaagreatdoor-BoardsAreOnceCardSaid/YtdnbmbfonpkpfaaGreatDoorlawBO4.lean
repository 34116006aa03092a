/- Texts of the proof, laid together: Am26, Am27, Am28, Am29, Am30, Am31, AmX, AmS. -/
import GoSem.Extern.Table
import Derived.Laws.World
import Derived.Test.YtdnbmbfonpkpfaaGreatDoorlawBO3
set_option linter.all false
section
/- The abstract machine,part 26: z0I calls are computed. -/
set_option linter.unusedSimpArgs false
set_option linter.unusedVariables false
namespace Go.Am
mutual
def PV.same:PV→PV→Bool
 | .int k a,.int k' b=>decide (k=k')&&decide (a=b)
 | .bool a,.bool b=>decide (a=b)
 | .str a,.str b=>decide (a=b)
 | .sl s xs,.sl t ys=>decide (s=t)&&PV.sames xs ys
 | .agg xs,.agg ys=>PV.sames xs ys
 | .nilp,.nilp=>true
 | _,_=>false
def PV.sames:List PV→List PV→Bool
 | [],[]=>true
 | a::asv,b::bs=>PV.same a b&&PV.sames asv bs
 | _,_=>false
end
mutual
theorem PV.same_eq:∀ (a b:PV),PV.same a b=true→a=b
 | .int k a,b,h=>by
  cases b <;> simp [PV.same] at h
  obtain⟨h1,h2⟩:=h;subst h1;subst h2;rfl
 | .bool a,b,h=>by cases b <;> simp [PV.same] at h;subst h;rfl
 | .str a,b,h=>by cases b <;> simp [PV.same] at h;subst h;rfl
 | .sl s xs,b,h=>by
  cases b <;> simp [PV.same] at h
  obtain⟨h1,h2⟩:=h;subst h1;rw[PV.sames_eq _ _ h2]
 | .agg xs,b,h=>by
  cases b <;> simp [PV.same] at h
  rw[PV.sames_eq _ _ h]
 | .nilp,b,h=>by cases b <;> simp [PV.same] at h;rfl
theorem PV.sames_eq:∀ (a b:List PV),PV.sames a b=true→a=b
 | [],b,h=>by cases b <;> simp [PV.sames] at h;rfl
 | x::xs,b,h=>by
  cases b <;> simp [PV.sames] at h
  rw[PV.same_eq _ _ h.1,PV.sames_eq _ _ h.2]
end
mutual
def AV.same:AV→AV→Bool
 | .p a,.p b=>PV.same a b
 | .own a b c d,.own a' b' c' d'=>decide (a=a')&&decide (b=b')&&decide (c=c')&&decide (d=d')
 | .sl0 a,.sl0 b=>decide (a=b)
 | .ref a b,.ref a' b'=>decide (a=a')&&decide (b=b')
 | .rref a b c d,.rref a' b' c' d'=>decide (a=a')&&decide (b=b')&&decide (c=c')&&decide (d=d')
 | .vp a,.vp b=>PV.same a b
 | .nilp,.nilp=>true
 | .nilm,.nilm=>true
 | .nilf,.nilf=>true
 | .nili,.nili=>true
 | .ifc,.ifc=>true
 | .mp a,.mp b=>decide (a=b)
 | .it a,.it b=>decide (a=b)
 | .fn a b,.fn a' b'=>decide (a=a')&&AV.sames b b'
 | .agg a,.agg b=>AV.sames a b
 | .tup a,.tup b=>AV.sames a b
 | .anyb,.anyb=>true
 | .skp,.skp=>true
 | .und,.und=>true
 | .anyp,.anyp=>true
 | .bt a b c d,.bt a' b' c' d'=>decide (a=a')&&decide (b=b')&&decide (c=c')&&decide (d=d')
 | _,_=>false
def AV.sames:List AV→List AV→Bool
 | [],[]=>true
 | a::asv,b::bs=>AV.same a b&&AV.sames asv bs
 | _,_=>false
end
mutual
theorem AV.same_eq:∀ (a b:AV),AV.same a b=true→a=b
 | .p a,b,h=>by cases b <;> simp [AV.same] at h;rw[PV.same_eq _ _ h]
 | .own _ _ _ _,b,h=>by cases b <;> simp [AV.same] at h;simp [h]
 | .sl0 _,b,h=>by cases b <;> simp [AV.same] at h;simp [h]
 | .ref _ _,b,h=>by cases b <;> simp [AV.same] at h;simp [h]
 | .rref _ _ _ _,b,h=>by cases b <;> simp [AV.same] at h;simp [h]
 | .vp a,b,h=>by cases b <;> simp [AV.same] at h;rw[PV.same_eq _ _ h]
 | .nilp,b,h=>by cases b <;> simp [AV.same] at h;rfl
 | .nilm,b,h=>by cases b <;> simp [AV.same] at h;rfl
 | .nilf,b,h=>by cases b <;> simp [AV.same] at h;rfl
 | .nili,b,h=>by cases b <;> simp [AV.same] at h;rfl
 | .ifc,b,h=>by cases b <;> simp [AV.same] at h;rfl
 | .mp _,b,h=>by cases b <;> simp [AV.same] at h;simp [h]
 | .it _,b,h=>by cases b <;> simp [AV.same] at h;simp [h]
 | .fn _ cs,b,h=>by cases b <;> simp [AV.same] at h;rw[h.1,AV.sames_eq _ _ h.2]
 | .agg cs,b,h=>by cases b <;> simp [AV.same] at h;rw[AV.sames_eq _ _ h]
 | .tup cs,b,h=>by cases b <;> simp [AV.same] at h;rw[AV.sames_eq _ _ h]
 | .anyb,b,h=>by cases b <;> simp [AV.same] at h;rfl
 | .skp,b,h=>by cases b <;> simp [AV.same] at h;rfl
 | .und,b,h=>by cases b <;> simp [AV.same] at h;rfl
 | .anyp,b,h=>by cases b <;> simp [AV.same] at h;rfl
 | .bt _ _ _ _,b,h=>by cases b <;> simp [AV.same] at h;simp [h]
theorem AV.sames_eq:∀ (a b:List AV),AV.sames a b=true→a=b
 | [],b,h=>by cases b <;> simp [AV.sames] at h;rfl
 | x::xs,b,h=>by
  cases b <;> simp [AV.sames] at h
  rw[AV.same_eq _ _ h.1,AV.sames_eq _ _ h.2]
end
abbrev EvC:=Nat→List AV→Heap→Option (AV × Heap × Esc)
def evDo (C:EvC) (gl:Nat→Option PV) (o:AOp) (e:List (Nat × AV)) (h:Heap):Option (AV × Heap × Esc):=match wanted o.guard e with
 | some true=>match o.op with
  | .call f args=>C f (args.map (Opd.ev gl e)) h
  | .callv f args=>match Opd.ev gl e f with
   | .fn g caps=>C g (args.map (Opd.ev gl e)++caps) h
   | _=>none
  | .mnext _ _=>none
  | op=>aop op (Opd.ev gl e) h
 | some false=>some (.skp,h,[])
 | none=>none
def zwj (gl:Nat→Option PV) (o:AOp) (e:List (Nat × AV)) (h:Heap):Option (AV × Heap):=match o.op with
 | .mnext sh xs=>match wanted o.guard e with
  | some true=>match z5l h sh (xs.map (Opd.ev gl e)) with
   | some [y]=>some y
   | _=>none
  | _=>none
 | _=>none
def zjk (C:EvC) (gl:Nat→Option PV):List AOp→List (Nat × AV)→Heap→Esc→Option (List (Nat × AV) × Heap × Esc)
 | [],e,h,x=>some (e,h,x)
 | o::r,e,h,x=>match evDo C gl o e h with
  | some (v,h',x')=>zjk C gl r (put o.dst v e) h' (x'++x)
  | none=>match zwj gl o e h with
   | some (v,h')=>zjk C gl r (put o.dst v e) h' x
   | none=>none
def AO.still:AO→Bool
 | .mv _ | .pick _ _ _ | .build _ _ | .load _ _ | .nilchk _ | .bin _ _ _ | .eqa _ _ _ _ | .isnil _ _ _ | .mkif _ | .un _ _ | .mkfn _ _ | .slice _ _ _ _ _ | .slstr _ _ _ | .faddr _ _ _ | .field _ _ _ | .iaddr _ _ _
 | .iaddra _ _ _ _ | .idxa _ _ _ _ | .idxs _ _ | .look _ _ _ _ _ | .ext _ _ | .len _ | .lens _ | .lenm _ | .mx _ | .mn _=>true
 | _=>false
def AO.still2:AO→Bool
 | .conv (.i _) _=>true
 | o=>o.still
def ME.same (a b:ME):Bool:=PV.same a.key b.key&&AV.same a.val b.val&&decide (a.born=b.born)
def MEs.same:List ME→List ME→Bool
 | [],[]=>true
 | a::asv,b::bs=>ME.same a b&&MEs.same asv bs
 | _,_=>false
def Obj.same:Obj→Obj→Bool
 | .box a,.box b=>AV.sames a b
 | .row a b c,.row a' b' c'=>decide (a=a')&&PV.sames b b'&&decide (c=c')
 | .amap a b,.amap a' b'=>MEs.same a a'&&decide (b=b')
 | .iter a b c d,.iter a' b' c' d'=>decide (a=a')&&decide (b=b')&&decide (c=c')&&decide (d=d')
 | _,_=>false
def Heap.same:List Obj→List Obj→Bool
 | [],[]=>true
 | a::asv,b::bs=>Obj.same a b&&Heap.same asv bs
 | _,_=>false
theorem ME.same_eq {a b:ME} (h:ME.same a b=true):a=b:=by
 cases a;cases b
 simp only[ME.same,Bool.and_eq_true,decide_eq_true_eq] at h
 obtain⟨⟨h1,h2⟩,h3⟩:=h
 rw[PV.same_eq _ _ h1,AV.same_eq _ _ h2,h3]
theorem MEs.same_eq:∀ {a b:List ME},MEs.same a b=true→a=b
 | [],[],_=>rfl
 | [],_::_,h=>by simp [MEs.same] at h
 | _::_,[],h=>by simp [MEs.same] at h
 | a::asv,b::bs,h=>by
  simp only[MEs.same,Bool.and_eq_true] at h
  rw[ME.same_eq h.1,MEs.same_eq h.2]
theorem Obj.same_eq {a b:Obj} (h:Obj.same a b=true):a=b:=by
 cases a <;> cases b <;> simp only[Obj.same,Bool.and_eq_true,decide_eq_true_eq] at h <;> first
  | (cases h;done)
  | (rw[AV.sames_eq _ _ h])
  | (obtain⟨⟨h1,h2⟩,h3⟩:=h;rw[h1,PV.sames_eq _ _ h2,h3])
  | (obtain⟨h1,h2⟩:=h;rw[MEs.same_eq h1,h2])
  | (obtain⟨⟨⟨h1,h2⟩,h3⟩,h4⟩:=h;rw[h1,h2,h3,h4])
theorem Heap.same_eq:∀ {a b:List Obj},Heap.same a b=true→a=b
 | [],[],_=>rfl
 | [],_::_,h=>by simp [Heap.same] at h
 | _::_,[],h=>by simp [Heap.same] at h
 | a::asv,b::bs,h=>by
  simp only[Heap.same,Bool.and_eq_true] at h
  rw[Obj.same_eq h.1,Heap.same_eq h.2]
def zhA (C:EvC) (gl:Nat→Option PV) (o:AOp) (e:List (Nat × AV)) (g:Heap) (v:AV):Bool:=match evDo C gl o e g with
 | some (v',g',y)=>AV.same v' v&&y.isEmpty&&(o.op.still2||Heap.same g' g)
 | none=>false
def zez (C:EvC) (gl:Nat→Option PV):List DOp→Done→List Heap→List (Nat × AV)→Heap→Esc→Option (List (Nat × AV) × Heap × Esc)
 | [],_,_,e,h,x=>some (e,h,x)
 | o::r,dn,hs,e,h,x=>match evDo C gl o.op (z01 (some o.rd) e) h with
  | some (v,h',y)=>
   if (o.eff||o.op.op.still2||y.isEmpty&&Heap.same h' h)&&(o.early.all fun k=>match hs[k]? with | some g=>zhA C gl o.op (z01 (some o.rd) e) g v | none=>false)
    && (o.again.all fun j=>match dn[j]? with | some q=>zhA C gl q.1 q.2.1 h' q.2.2 | none=>false) then
    zez C gl r (dn++[(o.op,z01 (some o.rd) e,v)]) (hs++[h]) (put o.op.dst v e) h' (y++x)
   else none
  | none=>none
def zh9 (T:St→Option (Ex × St)):Nat→St→Option (Ex × St)
 | 0,_=>none
 | n+1,s=>match T s with
  | some (.normal,s')=>zh9 T n s'
  | r=>r
def z0V (C:EvC) (gl:Nat→Option PV) (n:Nat):ACode→St→Option (Ex × St)
 | .skip,s=>some (.normal,s)
 | .reg ops keep,s=>match zjk C gl ops s.env s.h s.esc with
  | some (e,h,x)=>some (.normal,⟨z01 keep e,h,x⟩)
  | none=>none
 | .draw ds keep,s=>match zez C gl ds [] [] s.env s.h s.esc with
  | some (e,h,x)=>some (.normal,⟨z01 keep e,h,x⟩)
  | none=>none
 | .seq a b,s=>match z0V C gl n a s with
  | some (.normal,s')=>z0V C gl n b s'
  | r=>r
 | .cond c a b,s=>match Opd.ev gl s.env c with
  | .p (.bool t)=>match t with
   | true=>z0V C gl n a s
   | false=>z0V C gl n b s
  | _=>none
 | .det b,s=>z0V C gl n b s
 | .condu c a b,s=>match Opd.ev gl s.env c with
  | .p (.bool t)=>match t with
   | true=>z0V C gl n a s
   | false=>z0V C gl n b s
  | _=>none
 | .block id b,s=>match z0V C gl n b s with
  | some (.exit i,s')=>if i=id then some (.normal,s') else some (.exit i,s')
  | r=>r
 | .loop b,s=>zh9 (z0V C gl n b) n s
 | .scope b,s=>match z0V C gl n b ⟨s.env,s.h,[]⟩ with
  | some (e,s')=>some (e,z5t s.h.length s.esc s')
  | none=>none
 | .pr l b,s=>z0V C gl n b ⟨z01 (some l) s.env,s.h,s.esc⟩
 | .exit id,s=>some (.exit id,s)
 | .ret,s=>some (.ret,s)
 | .bad,_=>none
def zyo (F:AFun) (b:Nat) (s:St):Option (AV × Heap × Esc):=match z1J s F.results with
 | some vs=>match F.keep with
  | true=>
   let n:=close s.esc.length s.esc (max b (z0C vs).top)
   if z0I s.esc n then some (z0C vs,s.h.take n,s.esc.filter fun y=>decide (y.1<n)) else some (z0C vs,s.h,s.esc)
  | false=>match reif b s.h (z0C vs) with
   | some v0=>
    let n:=close s.esc.length s.esc (max b v0.top)
    if z0I s.esc n then match reif n s.h (z0C vs) with
     | some v=>if v.top≤n then some (v,s.h.take n,s.esc.filter fun y=>decide (y.1<n)) else none
     | none=>none
    else some (z0C vs,s.h,s.esc)
   | none=>none
 | none=>none
def zoL (C:EvC) (gl:Nat→Option PV) (n:Nat) (F:AFun) (args:List AV) (h:Heap):Option (AV × Heap × Esc):=
 match (if F.byref then some (args,h) else z0t h args) with
 | some (asv,h1)=>if asv.length=F.nparams then match z0V C gl n F.body ⟨enter asv,h1,[]⟩ with
  | some (.exit _,_)=>none
  | some (_,s)=>zyo F h.length s
  | none=>none
  else none
 | none=>none
def EvOk (C':EvC) (C:Hd):Prop:=∀ f a h v h' x (K:Post),C' f a h=some (v,h',x)→K v h' x→C f a h K
variable {C':EvC} {C:Hd} {gl:Nat→Option PV}
theorem zoM (hC:EvOk C' C) {o:AOp} {e:List (Nat × AV)} {h h':Heap} {v:AV} {x:Esc} (H:evDo C' gl o e h=some (v,h',x)):ADo C gl o e h v h' x:=by
 unfold evDo at H
 unfold ADo
 split at H
 ·rename_i hw
  simp only[hw]
  obtain⟨dst,guard,op⟩:=o
  cases op
  case call f args=>exact hC _ _ _ _ _ _ _ H ⟨rfl,rfl,rfl⟩
  case callv f args=>
   dsimp only at H ⊢
   split at H
   ·rename_i hf
    simp only[hf]
    exact hC _ _ _ _ _ _ _ H ⟨rfl,rfl,rfl⟩
   ·cases H
  case mnext sh xs=>cases H
  all_goals exact H
 ·rename_i hw
  simp only[hw]
  injection H with H
  injection H with h1 H
  injection H with h2 h3
  exact⟨h1.symm,h2.symm,h3.symm⟩
 ·cases H
theorem zbR (hC:EvOk C' C):∀ (ops:List AOp) e h x e' h' x' (K:List (Nat × AV)→Heap→Esc→Prop),zjk C' gl ops e h x=some (e',h',x')→K e' h' x'→AReg C gl ops e h x K
 | [],e,h,x,e',h',x',K,H,hK=>by
  simp only[zjk,Option.some.injEq,Prod.mk.injEq] at H
  obtain⟨rfl,rfl,rfl⟩:=H
  exact hK
 | o::r,e,h,x,e',h',x',K,H,hK=>by
  unfold zjk at H
  split at H
  ·rename_i v h1 x1 hd
   have ih:=zbR hC r _ _ _ _ _ _ K H hK
   unfold evDo at hd
   unfold AReg
   split at hd
   ·rename_i hw
    simp only[hw]
    obtain⟨dst,guard,op⟩:=o
    cases op
    case call f args=>exact hC _ _ _ _ _ _ _ hd ih
    case callv f args=>
     dsimp only at hd ⊢
     split at hd
     ·rename_i hf
      simp only[hf]
      exact hC _ _ _ _ _ _ _ hd ih
     ·cases hd
    case mnext sh xs=>cases hd
    all_goals
     dsimp only at hd ⊢
     rw[hd]
     exact ih
   ·rename_i hw
    simp only[hw]
    injection hd with hd
    injection hd with h1 hd
    injection hd with h2 h3
    subst h1;subst h2;subst h3
    exact ih
   ·cases hd
  ·split at H
   ·rename_i v h1 hd
    have ih:=zbR hC r _ _ _ _ _ _ K H hK
    unfold zwj at hd
    unfold AReg
    split at hd
    ·rename_i sh xs hop
     split at hd
     ·rename_i hw
      simp only[hw,hop]
      split at hd
      ·rename_i y hm
       injection hd with hd
       subst hd
       simp only[hm]
       refine⟨by simp,fun z hz=>?_⟩
       rw[List.mem_singleton] at hz
       subst hz
       exact ih
      ·cases hd
     ·cases hd
    ·cases hd
   ·cases H
theorem zmb {o:AO} (hs:o.still=true) {ev:Opd→AV} {h h':Heap} {v:AV} {x:Esc} (H:aop o ev h=some (v,h',x)):h'=h∧x=[]:=by
 cases o <;> first | (cases hs;done) | skip
 all_goals
  unfold aop at H
  dsimp only at H
  repeat' split at H
  all_goals first
   | (cases H;done)
   | (simp only[Option.some.injEq,Prod.mk.injEq] at H;obtain⟨_,rfl,rfl⟩:=H;exact⟨rfl,rfl⟩)
   | (simp only[Option.map_eq_some_iff,Prod.mk.injEq] at H;obtain⟨_,_,_,rfl,rfl⟩:=H;exact⟨rfl,rfl⟩)
   | (have H2:=nilc (g:=[]) H;rename_i k neg p;cases hb:z74 k (ev p) <;> rw[hb] at H <;> simp only[cond_true,cond_false,Option.map_eq_some_iff,Option.some.injEq,Prod.mk.injEq] at H <;> first | (obtain⟨_,rfl,rfl⟩:=H;exact⟨rfl,rfl⟩) | (obtain⟨_,_,_,rfl,rfl⟩:=H;exact⟨rfl,rfl⟩))
theorem ziW {o:AO} (hs:o.still2=true) {ev:Opd→AV} {h h':Heap} {v:AV} {x:Esc} (H:aop o ev h=some (v,h',x)):h'=h∧x=[]:=by
 unfold AO.still2 at hs
 split at hs
 ·simp only[aop,zaj] at H
  split at H
  ·simp at H;exact⟨H.2.1.symm,H.2.2⟩
  ·simp at H
 ·exact zmb hs H
theorem z6Q {o:AOp} (hs:o.op.still2=true) {e:List (Nat × AV)} {h h':Heap} {v:AV} {x:Esc} (H:ADo C gl o e h v h' x):h'=h∧x=[]:=by
 unfold ADo at H
 split at H
 ·obtain⟨dst,guard,op⟩:=o
  cases op <;> first | (cases hs;done) | exact ziW hs H
 ·exact H.2
 ·exact H.elim
theorem zsD {o:AO} (h:o.still=true):o.still2=true:=by
 cases o <;> first | exact h | (cases h;done)
theorem zjZ {o:AOp} (hs:o.op.still=true) {e:List (Nat × AV)} {h h':Heap} {v:AV} {x:Esc} (H:ADo C gl o e h v h' x):h'=h∧x=[]:=z6Q (zsD hs) H
theorem ze2 (hC:EvOk C' C) {o:AOp} {e:List (Nat × AV)} {g:Heap} {v:AV} (H:zhA C' gl o e g v=true):ADo C gl o e g v g []:=by
 unfold zhA at H
 split at H
 ·rename_i v' g' y hd
  simp only[Bool.and_eq_true,Bool.or_eq_true,List.isEmpty_iff] at H
  obtain⟨⟨h1,h2⟩,h3⟩:=H
  have h1:=AV.same_eq _ _ h1
  have:=zoM (C:=C) hC hd
  rcases h3 with hs | hs
  ·obtain⟨e1,e2⟩:=z6Q hs this
   subst e1;subst e2;subst h1
   exact this
  ·have e1:=Heap.same_eq hs
   subst e1;subst h2;subst h1
   exact this
 ·cases H
theorem ze0 (hC:EvOk C' C):∀ (ds:List DOp) dn hs e h x e' h' x' (K:List (Nat × AV)→Heap→Esc→Prop),zez C' gl ds dn hs e h x=some (e',h',x')→K e' h' x'→z1Z C gl ds dn hs e h x K
 | [],dn,hs,e,h,x,e',h',x',K,H,hK=>by
  simp only[zez,Option.some.injEq,Prod.mk.injEq] at H
  obtain⟨rfl,rfl,rfl⟩:=H
  exact hK
 | o::r,dn,hs,e,h,x,e',h',x',K,H,hK=>by
  unfold zez at H
  split at H
  ·rename_i v h1 y hd
   split at H
   ·rename_i hc
    simp only[Bool.and_eq_true,Bool.or_eq_true,List.all_eq_true] at hc
    obtain⟨⟨c1,c2⟩,c3⟩:=hc
    have hdo:=zoM (C:=C) hC hd
    refine⟨v,h1,y,hdo,fun he=>?_,fun k hk=>?_,fun j hj=>?_,ze0 hC r _ _ _ _ _ _ _ _ K H hK⟩
    ·rcases c1 with (c1 | c1) | ⟨c1,c4⟩
     ·rw[c1] at he;cases he
     ·exact z6Q c1 hdo
     ·rw[List.isEmpty_iff] at c1
      exact⟨Heap.same_eq c4,c1⟩
    ·have:=c2 k hk
     split at this
     ·rename_i g hg
      exact⟨g,hg,ze2 hC this⟩
     ·cases this
    ·have:=c3 j hj
     split at this
     ·rename_i q hq
      exact⟨q,hq,ze2 hC this⟩
     ·cases this
   ·cases H
  ·cases H
theorem ze1 {T':St→Option (Ex × St)} {T:St→(Ex→St→Prop)→Prop} (hT:∀ s e s' K,T' s=some (e,s')→K e s'→T s K):∀ n s e s' K,zh9 T' n s=some (e,s')→K e s'→ALoop T K s
 | 0,s,e,s',K,H,hK=>by cases H
 | n+1,s,e,s',K,H,hK=>by
  unfold zh9 at H
  split at H
  ·rename_i s1 h1
   refine .mk s (fun e2 s2=>e2 = .normal∧s2=s1) (hT _ _ _ _ h1 ⟨rfl,rfl⟩) (fun s2 ⟨_,h2⟩=>?_) (fun i s2 ⟨h2,_⟩=>by cases h2) (fun s2 ⟨h2,_⟩=>by cases h2)
   subst h2
   exact ze1 hT n _ _ _ K H hK
  ·rename_i hne
   have hne':e ≠ .normal:=fun he=>by subst he;exact hne _ H
   refine .mk s (fun e2 s2=>e2=e∧s2=s') (hT _ _ _ _ H ⟨rfl,rfl⟩) (fun s2 ⟨h2,_⟩=>(hne' h2.symm).elim) (fun i s2 ⟨h2,h3⟩=>by subst h3;rw[h2];exact hK) (fun s2 ⟨h2,h3⟩=>by subst h3;rw[h2];exact hK)
theorem z0S (hC:EvOk C' C) (n:Nat):∀ (c:ACode) s e s' (K:Ex→St→Prop),z0V C' gl n c s=some (e,s')→K e s'→AW C gl c s K
 | .skip,s,e,s',K,H,hK=>by
  simp only[z0V,Option.some.injEq,Prod.mk.injEq] at H
  obtain⟨rfl,rfl⟩:=H;exact hK
 | .reg ops keep,s,e,s',K,H,hK=>by
  unfold z0V at H
  split at H
  ·rename_i h1
   simp only[Option.some.injEq,Prod.mk.injEq] at H
   obtain⟨rfl,rfl⟩:=H
   exact zbR hC _ _ _ _ _ _ _ _ h1 hK
  ·cases H
 | .draw ds keep,s,e,s',K,H,hK=>by
  unfold z0V at H
  split at H
  ·rename_i h1
   simp only[Option.some.injEq,Prod.mk.injEq] at H
   obtain⟨rfl,rfl⟩:=H
   exact ze0 hC _ _ _ _ _ _ _ _ _ _ h1 hK
  ·cases H
 | .seq a b,s,e,s',K,H,hK=>by
  unfold z0V at H
  unfold AW
  split at H
  ·rename_i s1 h1
   exact z0S hC n a s _ _ _ h1 (z0S hC n b _ _ _ K H hK)
  ·rename_i hne
   have hne':e ≠ .normal:=fun he=>by subst he;exact hne _ H
   refine z0S hC n a s _ _ _ H ?_
   cases e with
   | normal=>exact (hne' rfl).elim
   | exit i=>exact hK
   | ret=>exact hK
 | .det b,s,e,s',K,H,hK=>by
  unfold z0V at H
  exact z0S hC n b s _ _ K H hK
 | .condu c a b,s,e,s',K,H,hK=>by
  unfold z0V at H
  unfold AW
  split at H
  ·rename_i t ht
   simp only[ht]
   split at H
   ·exact z0S hC n a s _ _ _ H hK
   ·exact z0S hC n b s _ _ _ H hK
  ·cases H
 | .cond c a b,s,e,s',K,H,hK=>by
  unfold z0V at H
  unfold AW
  split at H
  ·rename_i t ht
   simp only[ht]
   split at H
   ·exact z0S hC n a s _ _ _ H hK
   ·exact z0S hC n b s _ _ _ H hK
  ·cases H
 | .block id b,s,e,s',K,H,hK=>by
  unfold z0V at H
  unfold AW
  split at H
  ·rename_i i s1 h1
   refine z0S hC n b s _ _ _ h1 ?_
   dsimp only
   split at H
   ·rw[if_pos ‹_›]
    simp only[Option.some.injEq,Prod.mk.injEq] at H
    obtain⟨rfl,rfl⟩:=H;exact hK
   ·rw[if_neg ‹_›]
    simp only[Option.some.injEq,Prod.mk.injEq] at H
    obtain⟨rfl,rfl⟩:=H;exact hK
  ·rename_i hne
   refine z0S hC n b s _ _ _ H ?_
   cases e with
   | normal=>exact hK
   | exit i=>exact (hne _ _ H).elim
   | ret=>exact hK
 | .loop b,s,e,s',K,H,hK=>by
  unfold z0V at H
  unfold AW
  exact ze1 (fun s e s' K h k=>z0S hC n b s e s' K h k) n s e s' K H hK
 | .scope b,s,e,s',K,H,hK=>by
  unfold z0V at H
  unfold AW
  split at H
  ·rename_i e1 s1 h1
   simp only[Option.some.injEq,Prod.mk.injEq] at H
   obtain⟨rfl,rfl⟩:=H
   exact z0S hC n b _ _ _ _ h1 hK
  ·cases H
 | .pr l b,s,e,s',K,H,hK=>by
  unfold z0V at H
  unfold AW
  exact z0S hC n b _ _ _ K H hK
 | .exit id,s,e,s',K,H,hK=>by
  simp only[z0V,Option.some.injEq,Prod.mk.injEq] at H
  obtain⟨rfl,rfl⟩:=H;exact hK
 | .ret,s,e,s',K,H,hK=>by
  simp only[z0V,Option.some.injEq,Prod.mk.injEq] at H
  obtain⟨rfl,rfl⟩:=H;exact hK
 | .bad,s,e,s',K,H,hK=>by simp only[z0V] at H;cases H
theorem zh8 {F:AFun} {b:Nat} {s:St} {v:AV} {h:Heap} {x:Esc} {K:Post} (H:zyo F b s=some (v,h,x)) (hK:K v h x):fin F b s K:=by
 unfold zyo at H
 unfold fin
 split at H
 ·rename_i h1
  simp only[h1]
  split at H
  ·rename_i h2
   simp only[h2]
   dsimp only at H ⊢
   split at H
   ·rw[if_pos ‹_›];simp only[Option.some.injEq,Prod.mk.injEq] at H;obtain⟨rfl,rfl,rfl⟩:=H;exact hK
   ·rw[if_neg ‹_›];simp only[Option.some.injEq,Prod.mk.injEq] at H;obtain⟨rfl,rfl,rfl⟩:=H;exact hK
  ·rename_i h2
   simp only[h2]
   split at H
   ·rename_i h3
    simp only[h3]
    dsimp only at H ⊢
    split at H
    ·rw[if_pos ‹_›]
     split at H
     ·rename_i h4
      simp only[h4]
      split at H
      ·simp only[Option.some.injEq,Prod.mk.injEq] at H;obtain⟨rfl,rfl,rfl⟩:=H;exact⟨‹_›,hK⟩
      ·cases H
     ·cases H
    ·rw[if_neg ‹_›];simp only[Option.some.injEq,Prod.mk.injEq] at H;obtain⟨rfl,rfl,rfl⟩:=H;exact hK
   ·cases H
 ·cases H
theorem zey (hC:EvOk C' C) {n:Nat} {F:AFun} {a:List AV} {h:Heap} {v:AV} {h':Heap} {x:Esc} {K:Post} (H:zoL C' gl n F a h=some (v,h',x)) (hK:K v h' x):z2E C gl F a h K:=by
 unfold zoL at H
 unfold z2E
 split at H
 ·rename_i asv h1 hp
  simp only[hp]
  split at H
  ·rename_i hl
   refine⟨hl,?_⟩
   cases he:z0V C' gl n F.body ⟨enter asv,h1,[]⟩ with
   | none=>rw[he] at H;cases H
   | some y=>
    obtain⟨e,s⟩:=y
    rw[he] at H
    refine z0S hC n _ _ _ _ _ he ?_
    cases e with
    | exit i=>cases H
    | normal=>exact zh8 H hK
    | ret=>exact zh8 H hK
  ·cases H
 ·cases H
def z9b (X:Ctx) (o:Nat→List AV→Option AV) (n:Nat):Nat→EvC
 | 0,_,_,_=>none
 | d+1,f,a,h=>match o f a with
  | some v=>some (v,h,[])
  | none=>match X.fn f with
   | some F=>zoL (z9b X o n d) X.gl n F a h
   | none=>match X.ex2 f a h with
    | some r=>some r
    | none=>match z0t h a with
     | some (asv,h1)=>match unp asv with
      | some vs=>match X.ext f vs with
       | some r=>some (.p r,h1,[])
       | none=>none
      | none=>none
     | none=>none
theorem z7a (X:Ctx) (o:Nat→List AV→Option AV) (ho:∀ f a v,o f a=some v→∀ h (K:Post),K v h []→z0c X f a h K) (n:Nat):∀ d,EvOk (z9b X o n d) (z0c X)
 | 0,f,a,h,v,h',x,K,H,hK=>by cases H
 | d+1,f,a,h,v,h',x,K,H,hK=>by
  unfold z9b at H
  split at H
  ·rename_i v1 hv
   simp only[Option.some.injEq,Prod.mk.injEq] at H
   obtain⟨rfl,rfl,rfl⟩:=H
   exact ho _ _ _ hv _ _ hK
  refine z0c.fold ?_
  unfold Step
  split at H
  ·rename_i F hF
   simp only[hF]
   unfold z5m
   cases hd:F.isDet with
   | true=>exact⟨v,h',x,hK,zey (z7a X o ho n d) H ⟨rfl,rfl,rfl⟩⟩
   | false=>exact zey (z7a X o ho n d) H hK
  ·rename_i hF
   simp only[hF]
   split at H
   ·rename_i hx2
    simp only[hx2]
    simp only[Option.some.injEq] at H
    subst H;exact hK
   ·rename_i hx2
    simp only[hx2]
    split at H
    ·rename_i hp
     simp only[hp]
     split at H
     ·rename_i hu
      simp only[hu]
      split at H
      ·rename_i hx
       simp only[hx]
       simp only[Option.some.injEq,Prod.mk.injEq] at H
       obtain⟨rfl,rfl,rfl⟩:=H;exact hK
      ·cases H
     ·cases H
    ·cases H
theorem zjX {X:Ctx} {f:Nat} {a:List AV} {h:Heap} {v:AV} {h':Heap} {x:Esc} {o:Nat→List AV→Option AV} (ho:∀ f a v,o f a=some v→∀ h (K:Post),K v h []→z0c X f a h K) (n d:Nat) (H:z9b X o n d f a h=some (v,h',x)) (K:Post):z0c X f a h K↔K v h' x:=
 z0c.eq (z7a X o ho n d _ _ _ _ _ _ _ H ⟨rfl,rfl,rfl⟩) K
end Go.Am
end
section
/- The abstract machine,part 27: loops,and the rules of computing asv one set. -/
set_option linter.unusedSimpArgs false
set_option linter.unusedVariables false
namespace Go.Am
variable {C:Hd} {gl:Nat→Option PV} {e:List (Nat × AV)} {h:Heap} {x:Esc} {K:Ex→St→Prop} {s:St}
def zfS {σ:Type} (S:σ→St) (P:σ→Prop) (m:σ→Nat) (K:Ex→St→Prop) (s:σ) (e:Ex) (s':St):Prop:=match e with
 | .normal=>∃ t,s'=S t∧P t∧m t<m s
 | .exit i=>K (.exit i) s'
 | .ret=>K .ret s'
theorem z72 {σ:Type} {S:σ→St} {P:σ→Prop} {m:σ→Nat} {K:Ex→St→Prop} {t:σ} {s':St}:zfS S P m K t .normal s' = ∃ u,s'=S u∧P u∧m u<m t:=(rfl)
theorem zbh {σ:Type} {S:σ→St} {P:σ→Prop} {m:σ→Nat} {K:Ex→St→Prop} {t:σ} {s':St} {i:Nat}:zfS S P m K t (.exit i) s'=K (.exit i) s':=(rfl)
theorem zeF {σ:Type} {S:σ→St} {P:σ→Prop} {m:σ→Nat} {K:Ex→St→Prop} {t:σ} {s':St}:zfS S P m K t .ret s'=K .ret s':=(rfl)
theorem zfT {σ:Type} {S:σ→St} {P:σ→Prop} {m:σ→Nat} {K:Ex→St→Prop} {t:σ} {ex ex':Ex} {s s':St} (he:ex=ex') (hs:s=s'):zfS S P m K t ex s=zfS S P m K t ex' s':=by rw[he,hs]
theorem z4E {T:St→(Ex→St→Prop)→Prop} {K:Ex→St→Prop} {s s':St} (h:T s=T s'):ALoop T K s=ALoop T K s':=by
 refine propext ⟨fun H=>?_,fun H=>?_⟩
 ·cases H with | mk _ R a b c d=>exact .mk _ R (h ▸ a) b c d
 ·cases H with | mk _ R a b c d=>exact .mk _ R (h.symm ▸ a) b c d
theorem zak {l:List Nat} {e:List (Nat × AV)} {t:Nat} (ht:t∈l):aget (z01 (some l) e) t=aget e t:=by
 simp only[z01]
 induction l with
 | nil=>cases ht
 | cons k r ih=>
  simp only[List.map_cons,aget]
  split
  ·rename_i hk;rw[hk]
  ·rename_i hk
   rcases List.mem_cons.1 ht with h1 | h1
   ·exact absurd h1.symm hk
   ·exact ih h1
theorem z3F {l:List Nat} {e:List (Nat × AV)}:z01 (some l) (z01 (some l) e)=z01 (some l) e:=by
 show l.map _=l.map _
 exact List.map_congr_left fun t ht=>by rw[zak ht]
def LoopP (C:Hd) (gl:Nat→Option PV) (l:List Nat) (b:ACode) (K:Ex→St→Prop) (e:List (Nat × AV)) (h:Heap) (x:Esc):Prop:=AW C gl (.loop (.pr l b)) ⟨e,h,x⟩ K
def LoopS (C:Hd) (gl:Nat→Option PV) (l:List Nat) (b:ACode) (K:Ex→St→Prop) (e:List (Nat × AV)) (h:Heap) (x:Esc):Prop:=AW C gl (.loop (.scope (.pr l b))) ⟨e,h,x⟩ K
theorem zti {l:List Nat} {b:ACode}:AW C gl (.loop (.pr l b)) ⟨e,h,x⟩ K=LoopP C gl l b K (z01 (some l) e) h x:=by
 show ALoop _ _ _=ALoop _ _ _
 exact z4E (funext fun R=>by show AW C gl b _ R=AW C gl b _ R;dsimp only;rw[z3F])
theorem ztj {l:List Nat} {b:ACode}:AW C gl (.loop (.scope (.pr l b))) ⟨e,h,x⟩ K=LoopS C gl l b K (z01 (some l) e) h x:=by
 show ALoop _ _ _=ALoop _ _ _
 exact z4E (funext fun R=>by show AW C gl b _ _=AW C gl b _ _;dsimp only;rw[z3F])
theorem zf7 {α:Type} (h l:List α) (n:Nat):(h++l)[h.length+n]?=l[n]?:=by
 rw[List.getElem?_append_right (by omega)];congr 1;omega
theorem ztr {α:Type} (h l:List α):(h++l)[h.length]?=l[0]?:=by
 rw[List.getElem?_append_right (by omega)];congr 1;omega
theorem zf8 {α:Type} (h l:List α) (n:Nat) (o:α):(h++l).set (h.length+n) o=h++l.set n o:=by
 rw[List.set_append_right _ _ (by omega)];congr 2;omega
theorem zts {α:Type} (h l:List α) (o:α):(h++l).set h.length o=h++l.set 0 o:=by
 rw[List.set_append_right _ _ (by omega)];congr 2;omega
theorem zgN {α:Type} (h l:List α) (n:Nat):(h++l).take (h.length+n)=h++l.take n:=List.take_length_add_append ..
theorem zcY {α:Type} (h l:List α):(h++l).take h.length=h:=List.take_left ..
theorem zf6 (h l:Heap) (n k:Nat):frz (h++l) (h.length+n) k=h++frz l n k:=by
 unfold frz
 rw[zf7]
 cases l[n]? with
 | none=>rfl
 | some o=>cases o <;> first | rfl | simp only[zf8]
theorem ztq (h l:Heap) (k:Nat):frz (h++l) h.length k=h++frz l 0 k:=zf6 h l 0 k
theorem z0l (n:Int) (h1 : -9223372036854775808≤n) (h2:n≤9223372036854775807):IntKind.i64.wrap n=n:=by
 simp [IntKind.wrap,IntKind.bits,IntKind.signed];omega
def finR (rs:List ARes) (kp:Bool) (b:Nat) (P:Post) (e:Ex) (s:St):Prop:=match e with
 | .exit _=>False
 | _=>match z1J s rs with
  | some vs=>match kp with
   | true=>
    let n:=close s.esc.length s.esc (max b (z0C vs).top)
    if z0I s.esc n then P (z0C vs) (s.h.take n) (s.esc.filter fun y=>decide (y.1<n)) else P (z0C vs) s.h s.esc
   | false=>match reif b s.h (z0C vs) with
    | some v0=>
     let n:=close s.esc.length s.esc (max b v0.top)
     if z0I s.esc n then match reif n s.h (z0C vs) with
      | some v=>v.top≤n∧P v (s.h.take n) (s.esc.filter fun y=>decide (y.1<n))
      | none=>False
     else P (z0C vs) s.h s.esc
    | none=>False
  | none=>False
theorem zoW {F:AFun} {b:Nat} {P:Post}:finK F b P=finR F.results F.keep b P:=by
 funext e s;cases e <;> rfl
theorem zoX {rs:List ARes} {kp:Bool} {b:Nat} {P:Post} {i:Nat} {s:St}:finR rs kp b P (.exit i) s=False:=(rfl)
def retK (kp:Bool) (b:Nat) (P:Post) (o:Option (List AV)) (h:Heap) (x:Esc):Prop:=match o with
 | some vs=>match kp with
  | true=>
   let n:=close x.length x (max b (z0C vs).top)
   if z0I x n then P (z0C vs) (h.take n) (x.filter fun y=>decide (y.1<n)) else P (z0C vs) h x
  | false=>match reif b h (z0C vs) with
   | some v0=>
    let n:=close x.length x (max b v0.top)
    if z0I x n then match reif n h (z0C vs) with
     | some v=>v.top≤n∧P v (h.take n) (x.filter fun y=>decide (y.1<n))
     | none=>False
    else P (z0C vs) h x
   | none=>False
 | none=>False
theorem z9u {rs:List ARes} {kp:Bool} {b:Nat} {P:Post} {e:List (Nat × AV)} {h:Heap} {x:Esc}:finR rs kp b P .normal ⟨e,h,x⟩=retK kp b P (z1J ⟨e,h,x⟩ rs) h x:=(rfl)
theorem zhK {rs:List ARes} {kp:Bool} {b:Nat} {P:Post} {e:List (Nat × AV)} {h:Heap} {x:Esc}:finR rs kp b P .ret ⟨e,h,x⟩=retK kp b P (z1J ⟨e,h,x⟩ rs) h x:=(rfl)
theorem zjp {rs:List ARes} {kp:Bool} {b:Nat} {P:Post} {ex ex':Ex} {s s':St} (he:ex=ex') (hs:s=s'):finR rs kp b P ex s=finR rs kp b P ex' s':=by rw[he,hs]
theorem z43 {b:Nat} {P:Post} {vs:List AV} {h:Heap} (ht:(z0C vs).top≤b) (hr:∀ b,reif b h (z0C vs)=some (z0C vs)):retK false b P (some vs) h []=P (z0C vs) (h.take b) []:=by
 simp only[retK,hr,close,List.length_nil,z0I,List.all_nil,if_true,List.filter_nil,Nat.max_eq_left ht,ht,true_and]
theorem reif_p {b:Nat} {h:Heap} {v:PV}:reif b h (.p v)=some (.p v):=(rfl)
theorem zsc {b:Nat} {h:Heap}:z4X b h []=some []:=(rfl)
theorem retK_1 {b:Nat} {P:Post} {v:PV} {h:Heap}:retK false b P (some [.p v]) h []=P (.p v) (h.take b) []:=z43 (Nat.zero_le _) (fun _=>rfl)
theorem retK_2 {b:Nat} {P:Post} {v u:PV} {h:Heap}:retK false b P (some [.p v,.p u]) h []=P (.tup [.p v,.p u]) (h.take b) []:=z43 (by simp [z0C,AV.top,AV.tops]) (fun _=>rfl)
theorem retK_3 {b:Nat} {P:Post} {v u w:PV} {h:Heap}:retK false b P (some [.p v,.p u,.p w]) h []=P (.tup [.p v,.p u,.p w]) (h.take b) []:=z43 (by simp [z0C,AV.top,AV.tops]) (fun _=>rfl)
theorem retK_4 {b:Nat} {P:Post} {v u w z:PV} {h:Heap}:retK false b P (some [.p v,.p u,.p w,.p z]) h []=P (.tup [.p v,.p u,.p w,.p z]) (h.take b) []:=z43 (by simp [z0C,AV.top,AV.tops]) (fun _=>rfl)
theorem retK_0 {b:Nat} {P:Post} {h:Heap}:retK false b P (some []) h []=P (.tup []) (h.take b) []:=z43 (by simp [z0C,AV.top,AV.tops]) (fun _=>rfl)
theorem zvi {h:Heap}:h.take h.length=h:=List.take_length
theorem zyX {v:AV}:z0C [v]=v:=(rfl)
theorem zvf {X:Ctx} {f:Nat} {F:AFun} {a asv:List AV} {h h1:Heap} {P:Post} (hf:X.fn f=some F) (hr:F.byref=false) (hp:z0t h a=some (asv,h1)) (hl:asv.length=F.nparams) (hd:F.isDet=false) :
 z0c X f a h P=AW (z0c X) X.gl F.body ⟨enter asv,h1,[]⟩ (finR F.results F.keep h.length P):=by
 rw[zll hf hd,zcU hr hp hl,zoW]
theorem zve {X:Ctx} {f:Nat} {F:AFun} {asv:List AV} {h:Heap} {P:Post} (hf:X.fn f=some F) (hr:F.byref=true) (hl:asv.length=F.nparams) (hd:F.isDet=false) :
 z0c X f asv h P=AW (z0c X) X.gl F.body ⟨enter asv,h,[]⟩ (finR F.results F.keep h.length P):=by
 rw[zll hf hd,zlW hr hl,zoW]
theorem zfn {X:Ctx} {f:Nat} {F:AFun} {a asv:List AV} {h h1:Heap} {P:Post} (hf:X.fn f=some F) (hr:F.byref=false) (hp:z0t h a=some (asv,h1)) (hl:asv.length=F.nparams) (hd:F.isDet=true) :
 z0c X f a h P = ∃ v h' x,P v h' x∧AW (z0c X) X.gl F.body ⟨enter asv,h1,[]⟩ (finR F.results F.keep h.length fun v1 h1 x1=>v1=v∧h1=h'∧x1=x):=by
 rw[ztm hf hd]
 simp only[zcU hr hp hl,zoW]
theorem rule {X:Ctx} {f:Nat} {a:List AV} {h:Heap} {v:AV} {h':Heap} {x:Esc} {K:Post} (H:z0c X f a h fun v1 h1 x1=>v1=v∧h1=h'∧x1=x):z0c X f a h K=K v h' x:=propext (z0c.eq H K)
theorem zeJ {k:IntKind} {n:Nat}:z0N (.p (.int k (n:Int)))=some n:=by simp [z0N]
theorem zqk {k:IntKind} {n:Nat}:z0N (.p (.int k (no_index (OfNat.ofNat n:Int))))=some (OfNat.ofNat n:Nat):=zeJ (n:=n)
theorem zyN {k:IntKind}:z0N (.p (.int k 0))=some 0:=(rfl)
theorem zyO {k:IntKind}:z0N (.p (.int k 1))=some 1:=(rfl)
theorem z6c {k:IntKind} {n:Int} (h:0≤n):z0N (.p (.int k n))=some n.toNat:=by simp [z0N,h]
theorem z0K {α β:Type} (f:α→β) {l:List α} {k:Nat} (h:k<l.length):(l.map f)[k]?=some (f l[k]):=by simp [h]
attribute [go_sem] eqs PV.eq1 PV.kind ne_eq not_false_eq_true not_true_eq_false Bool.and_self Bool.or_self Bool.not_eq_true
attribute [go_sem] Nat.max_le Nat.add_le_add_iff_left Option.isSome_none Option.isSome_some false_and and_false List.length_range Nat.sub_zero Nat.le_add_right
attribute [go_sem] zeJ zyN zyO zqk Int.ofNat_lt Int.ofNat_le List.length_map
attribute [go_sem] zoX z9u zhK retK_0 retK_1 retK_2 retK_3 retK_4 zvi List.zipIdx_cons List.zipIdx_nil List.map_cons List.map_nil Nat.reduceAdd Nat.reduceEqDiff if_true if_false Option.map_some Option.map_none List.append_nil List.nil_append decide_eq_true_eq
def doS (C:Hd) (gl:Nat→Option PV) (q:AOp × List (Nat × AV) × AV) (h:Heap):Prop:=ADo C gl q.1 q.2.1 h q.2.2 h []
def agK (C:Hd) (gl:Nat→Option PV) (h:Heap) (dn:Done):List Nat→Prop
 | []=>True
 | j::r=>(match dn[j]? with | some q=>doS C gl q h | none=>False)∧agK C gl h dn r
def eaK (C:Hd) (gl:Nat→Option PV) (o:AOp) (e:List (Nat × AV)) (v:AV) (hs:List Heap):List Nat→Prop
 | []=>True
 | k::r=>(match hs[k]? with | some g=>doS C gl (o,e,v) g | none=>False)∧eaK C gl o e v hs r
theorem zlX {C:Hd} {gl:Nat→Option PV} {h:Heap} {dn:Done}:∀ {l:List Nat},agK C gl h dn l↔∀ j∈l,∃ q,dn[j]?=some q∧ADo C gl q.1 q.2.1 h q.2.2 h []
 | []=>by simp [agK]
 | j::r=>by
  simp only[agK,List.mem_cons,forall_eq_or_imp]
  rw[zlX (l:=r)]
  refine and_congr_left (fun _=>?_)
  cases hd:dn[j]? with
  | none=>simp
  | some q=>simp [doS]
theorem zo9 {C:Hd} {gl:Nat→Option PV} {o:AOp} {e:List (Nat × AV)} {v:AV} {hs:List Heap}:∀ {l:List Nat},eaK C gl o e v hs l↔∀ k∈l,∃ g,hs[k]?=some g∧ADo C gl o e g v g []
 | []=>by simp [eaK]
 | j::r=>by
  simp only[eaK,List.mem_cons,forall_eq_or_imp]
  rw[zo9 (l:=r)]
  refine and_congr_left (fun _=>?_)
  cases hd:hs[j]? with
  | none=>simp
  | some q=>simp [doS]
def effK (b:Bool) (h h':Heap) (y:Esc):Prop:=match b with
 | true=>True
 | false=>h'=h∧y=[]
theorem zet {C:Hd} {gl:Nat→Option PV} {e:List (Nat × AV)} {h:Heap} {x:Esc} {L:List (Nat × AV)→Heap→Esc→Prop} {op:AOp} {rd early again:List Nat} {eff:Bool} {r:List DOp} {dn:Done} {hs:List Heap} {v:AV} {h':Heap} {y:Esc} :
 ztT C gl ⟨op,rd,eff,early,again⟩ r dn hs e h x L v h' y=(effK eff h h' y∧eaK C gl op (z01 (some rd) e) v hs early∧agK C gl h' dn again∧z1Z C gl r (dn++[(op,z01 (some rd) e,v)]) (hs++[h]) (put op.dst v e) h' (y++x) L):=by
 rw[ztU,← propext zo9,← propext zlX]
 cases eff <;> simp [effK]
theorem zoB {h h':Heap} {y:Esc}:effK true h h' y=True:=(rfl)
theorem zoA {h:Heap}:effK false h h []=True:=by simp [effK]
theorem zx5 {C:Hd} {gl:Nat→Option PV} {h:Heap} {dn:Done}:agK C gl h dn []=True:=(rfl)
theorem ztn {C:Hd} {gl:Nat→Option PV} {h:Heap} {dn:Done} {j:Nat} {r:List Nat}:agK C gl h dn (j::r)=((match dn[j]? with | some q=>doS C gl q h | none=>False)∧agK C gl h dn r):=(rfl)
theorem zym {C:Hd} {gl:Nat→Option PV} {o:AOp} {e:List (Nat × AV)} {v:AV} {hs:List Heap}:eaK C gl o e v hs []=True:=(rfl)
theorem ztV {C:Hd} {gl:Nat→Option PV} {o:AOp} {e:List (Nat × AV)} {v:AV} {hs:List Heap} {j:Nat} {r:List Nat}:eaK C gl o e v hs (j::r)=((match hs[j]? with | some g=>doS C gl (o,e,v) g | none=>False)∧eaK C gl o e v hs r):=(rfl)
theorem zwh {C:Hd} {gl:Nat→Option PV} {d:Option Nat} {g:Option (Nat × Bool)} {op:AO} {e:List (Nat × AV)} {v:AV} {h:Heap}:doS C gl (⟨d,g,op⟩,e,v) h=doK C gl ⟨d,g,op⟩ e h (fun v1 h1 x1=>v1=v∧h1=h∧x1=[]):=by
 unfold doS doK
 refine propext ⟨fun H=>⟨_,_,_,H,rfl,rfl,rfl⟩,fun ⟨v1,h1,x1,H,a,b,c⟩=>by subst a;subst b;subst c;exact H⟩
theorem zm1 {p:Prop} [Decidable p] {A B:Prop}:z0j (.p (.bool (decide p))) A B=if p then A else B:=by rw[za3];simp
def z8t (C:Hd) (v:AV) (asv:List AV) (h:Heap) (L:Post):Prop:=match v with
 | .fn g caps=>C g (asv++caps) h L
 | _=>False
theorem z7V {C:Hd} {gl:Nat→Option PV} {e:List (Nat × AV)} {h:Heap} {x:Esc} {L:List (Nat × AV)→Heap→Esc→Prop} {d:Option Nat} {f:Opd} {args:List Opd} {r:List AOp} :
 AReg C gl (⟨d,none,.callv f args⟩::r) e h x L=z8t C (Opd.ev gl e f) (args.map (Opd.ev gl e)) h (z0F C gl r d e x L):=by
 have h2:wanted none e=some true:=(rfl)
 rw[AReg]
 simp only[h2]
 unfold z8t
 split <;> simp_all <;> rfl
def z55 (C:Hd) (v:AV) (asv:List AV) (h:Heap) (R:AV→Heap→Esc→Prop):Prop:=match v with
 | .fn g caps=>z1h C g (asv++caps) h R
 | _=>False
theorem zaB {C:Hd} {gl:Nat→Option PV} {e:List (Nat × AV)} {h:Heap} {R:AV→Heap→Esc→Prop} {d:Option Nat} {f:Opd} {args:List Opd} :
 doK C gl ⟨d,none,.callv f args⟩ e h R=z55 C (Opd.ev gl e f) (args.map (Opd.ev gl e)) h R:=by
 have h2:wanted none e=some true:=(rfl)
 unfold doK ADo
 simp only[h2]
 unfold z55 z1h
 split <;> simp_all
theorem zmo {C:Hd} {g:Nat} {caps asv:List AV} {h:Heap} {L:Post}:z8t C (.fn g caps) asv h L=C g (asv++caps) h L:=(rfl)
theorem zmn {C:Hd} {g:Nat} {caps asv:List AV} {h:Heap} {R:AV→Heap→Esc→Prop}:z55 C (.fn g caps) asv h R=z1h C g (asv++caps) h R:=(rfl)
theorem zdd {C:Hd} {v v':AV} {asv asv':List AV} {h h':Heap} {L:Post} (h1:v=v') (h2:asv=asv') (h3:h=h'):z8t C v asv h L=z8t C v' asv' h' L:=by rw[h1,h2,h3]
theorem zdc {C:Hd} {v v':AV} {asv asv':List AV} {h h':Heap} {R:AV→Heap→Esc→Prop} (h1:v=v') (h2:asv=asv') (h3:h=h'):z55 C v asv h R=z55 C v' asv' h' R:=by rw[h1,h2,h3]
attribute [go_sem] z7V zaB zmo zmn
attribute [congr] zdd zdc
theorem zt8 {k:IntKind} {n:Int}:cutP none 0 (.int k n)=some (.int k n):=(rfl)
theorem zm5 {b:Bool}:cutP none 0 (.bool b)=some (.bool b):=(rfl)
theorem zt9 {s:List UInt8}:cutP none 0 (.str s)=some (.str s):=(rfl)
theorem zyc {sh:Sh} {xs:List PV}:cutP none 0 (.sl sh xs)=some (.sl sh xs):=(rfl)
theorem zm7:cutP none 0 .nilp=some .nilp:=(rfl)
theorem zm6 {off:Nat} {cs:List PV}:cutP none off (.agg cs)=(cs[off]?).bind fun x=>if x.sc then some x else none:=(rfl)
theorem zt7 {n off:Nat} {cs:List PV}:cutP (some n) off (.agg cs)=if off+n≤cs.length then some (.agg ((cs.drop off).take n)) else none:=(rfl)
theorem zyb {v:PV} (h:v.sc=true):cutP none 0 v=some v:=by cases v <;> first | rfl | cases h
attribute [go_sem] zt8 zm5 zt9 zyc zm7 zm6 zt7
theorem zyn {id:Nat} {v:PV}:z2a id (.p v)=[]:=(rfl)
attribute [go_sem] List.take_succ_cons List.take_zero List.take_nil List.drop_succ_cons List.drop_zero List.drop_nil List.length_cons List.length_nil Nat.reduceLeDiff Nat.reduceLT Int.reduceLT Int.reduceLE Int.reduceAdd Int.reduceSub Int.reduceMul Int.reduceNeg Int.reduceEq Nat.reduceSub Nat.reduceMul Nat.le_refl List.append_assoc
theorem zsK {b:Nat} {x0:Esc} {e:List (Nat × AV)} {h:Heap}:z5t b x0 ⟨e,h,[]⟩=⟨z83 b e,h.take b,x0⟩:=(rfl)
theorem zmx {n:Nat}:z83 n []=[]:=(rfl)
theorem zjb {n k:Nat} {v:AV} {r:List (Nat × AV)}:z83 n ((k,v)::r)=(k,if v.top≤n then v else .und)::z83 n r:=(rfl)
theorem top_p {v:PV}:AV.top (.p v)=0:=(rfl)
theorem zsG {id g o l:Nat}:AV.top (.own id g o l)=id+1:=by simp [AV.top]
theorem zzD {id o:Nat}:AV.top (.ref id o)=id+1:=by simp [AV.top]
theorem zvo {id g i o:Nat}:AV.top (.rref id g i o)=id+1:=by simp [AV.top]
theorem top_mp {id:Nat}:AV.top (.mp id)=id+1:=by simp [AV.top]
theorem top_it {id:Nat}:AV.top (.it id)=id+1:=by simp [AV.top]
theorem top_fn {f:Nat} {cs:List AV}:AV.top (.fn f cs)=AV.tops cs:=by simp [AV.top]
theorem zzB {cs:List AV}:AV.top (.agg cs)=AV.tops cs:=by simp [AV.top]
theorem zzG {cs:List AV}:AV.top (.tup cs)=AV.tops cs:=by simp [AV.top]
theorem top_vp {v:PV}:AV.top (.vp v)=0:=(rfl)
theorem zzH:AV.top .und=0:=(rfl)
theorem zzE:AV.top .skp=0:=(rfl)
theorem zvj:AV.top .anyp=0:=(rfl)
theorem top_bt {k t id g:Nat}:AV.top (.bt k t id g)=id+1:=by simp [AV.top]
theorem zzF {sh:Sh}:AV.top (.sl0 sh)=0:=(rfl)
theorem zvn:AV.top .nilp=0:=(rfl)
theorem zvm:AV.top .nilm=0:=(rfl)
theorem zvk:AV.top .nilf=0:=(rfl)
theorem zvl:AV.top .nili=0:=(rfl)
theorem zzC:AV.top .ifc=0:=(rfl)
theorem zvp:AV.tops []=0:=(rfl)
theorem zsH {v:AV} {r:List AV}:AV.tops (v::r)=max v.top (AV.tops r):=by simp [AV.tops]
theorem zuM {b:Nat} {P:Post} {vs:List AV} {h:Heap}:retK false b P (some vs) h []=match reif b h (z0C vs) with
 | some v0=>match reif (max b v0.top) h (z0C vs) with
  | some v=>v.top≤max b v0.top∧P v (h.take (max b v0.top)) []
  | none=>False
 | none=>False:=by
 simp only[retK,close,List.length_nil,z0I,List.all_nil,if_true,List.filter_nil]
theorem zuI {b:Nat} {h:Heap} {id g off len:Nat}:reif b h (.own id g off len)=if b≤id then (rd h (.own id g off len)).map fun y=>.p (.sl y.1 y.2) else some (.own id g off len):=by simp only[reif]
theorem zuK {b:Nat} {h:Heap} {sh:Sh}:reif b h (.sl0 sh)=some (.p (.sl sh [])):=by simp only[reif]
theorem zuH {b:Nat} {h:Heap} {cs:List AV}:reif b h (.agg cs)=(z4X b h cs).map mkA:=by simp only[reif]
theorem zuL {b:Nat} {h:Heap} {cs:List AV}:reif b h (.tup cs)=(z4X b h cs).map .tup:=by simp only[reif]
theorem zuJ {b:Nat} {h:Heap} {id o:Nat}:reif b h (.ref id o)=some (.ref id o):=by simp only[reif]
theorem zzf {b:Nat} {h:Heap} {id:Nat}:reif b h (.mp id)=some (.mp id):=by simp only[reif]
theorem zze {b f:Nat} {h:Heap} {cs:List AV}:reif b h (.fn f cs)=some (.fn f cs):=by simp only[reif]
theorem zjA {b:Nat} {h:Heap} {v:AV} {r:List AV}:z4X b h (v::r)=(match reif b h v with | some x=>(z4X b h r).map (x :: ·) | none=>none):=by rw[z4X];cases reif b h v <;> rfl
theorem zyY {v u:AV} {r:List AV}:z0C (v::u::r) = .tup (v::u::r):=(rfl)
theorem zyW:z0C [] = .tup []:=(rfl)
theorem zs8 {h l:Heap} {id:Nat} {o:Obj} (hid:id<h.length):(h++l).set id o=h.set id o++l:=List.set_append_left _ _ hid
theorem zpj {h l:Heap} {id:Nat} (hid:id<h.length):(h++l)[id]?=h[id]?:=List.getElem?_append_left hid
theorem zix {h l:Heap} {i n:Nat} {o:Obj}:(h.set i o++l)[h.length+n]?=l[n]?:=by
 have:=zf7 (h.set i o) l n;rwa [List.length_set] at this
theorem zs1 {h l:Heap} {i:Nat} {o:Obj}:(h.set i o++l)[h.length]?=l[0]?:=zix (n:=0)
theorem ziy {h l:Heap} {i n:Nat} {o q:Obj}:(h.set i o++l).set (h.length+n) q=h.set i o++l.set n q:=by
 have:=zf8 (h.set i o) l n q;rwa [List.length_set] at this
theorem zs2 {h l:Heap} {i:Nat} {o q:Obj}:(h.set i o++l).set h.length q=h.set i o++l.set 0 q:=ziy (n:=0)
theorem zs3 {h l:Heap} {i n:Nat} {o:Obj}:(h.set i o++l).take (h.length+n)=h.set i o++l.take n:=by
 have:=zgN (h.set i o) l n;rwa [List.length_set] at this
theorem zjJ {h l:Heap} {i:Nat} {o:Obj}:(h.set i o++l).take h.length=h.set i o:=by
 have:=zcY (h.set i o) l;rwa [List.length_set] at this
theorem ziw {h l:Heap} {i n k:Nat} {o:Obj}:frz (h.set i o++l) (h.length+n) k=h.set i o++frz l n k:=by
 have:=zf6 (h.set i o) l n k;rwa [List.length_set] at this
theorem zs0 {h l:Heap} {i k:Nat} {o:Obj}:frz (h.set i o++l) h.length k=h.set i o++frz l 0 k:=ziw (n:=0)
theorem z7T {α:Type} {l:List α} {n:Nat} (h:l.length=n):win l 0 n=l:=by subst h;simp [win]
theorem zzM {α:Type} (l:List α):win l 0 l.length=l:=by simp [win]
attribute [go_sem] zsK zmx zjb top_p zsG zzD zvo top_mp top_it top_fn zzB zzG top_vp zzH zzE zzF zvn zvm zvk zvl zzC zvj top_bt zvp zsH Nat.max_zero Nat.zero_max Nat.zero_le reif_p zuI zuK zuH zuL zuJ zzf zze zsc zjA zyY zyW zf7 ztr zf8 zts zgN zcY zf6 ztq zix zs1 ziy zs2 zs3 zjJ ziw zs0 List.length_append zzM Nat.add_le_add_iff_right Nat.zero_add Nat.add_zero
attribute [go_sem] zbT PV.shp List.reduceReplicate cond_true cond_false Bool.not_true Bool.not_false Bool.false_eq_true Bool.true_and Bool.and_true Bool.false_and Bool.and_false Bool.true_or Bool.or_true Bool.false_or Bool.or_false beq_self_eq_true List.all_cons List.all_nil
attribute [go_sem low] zuM
theorem zfq {h:Heap} {id:Nat} {o:Obj}:(h.set id o).take h.length=h.set id o:=List.take_of_length_le (by simp)
attribute [go_sem] zfq Int.natCast_zero Int.natCast_one Int.cast_ofNat_Int
attribute [go_sem] aun zaj zlZ zma List.foldlM_cons List.foldlM_nil Option.bind_some Option.pure_def Option.bind_eq_bind List.cons_append List.nil_append Int.zero_sub List.length_singleton
attribute [go_sem] zt6 z0a zyn
attribute [congr] zfI
attribute [go_sem] zx0 zka zar doK_mv ztS zna zyh znb zyi ztJ znl zji zyg zyj zng ztO doK_un ztD ztN znh ztP zni znj znd zne znf zjf ztF ztG ztK ztQ ztM zje ztL zyk zyl ztI ztH zyf ztE doK_mx doK_mn zjh zjg ztR zh1 zes z1h ex3' zet zoB zoA zx5 ztn zym ztV zwh List.not_mem_nil List.mem_cons List.mem_singleton forall_eq_or_imp forall_eq false_implies true_implies implies_true forall_const and_true true_and List.cons_append and_self reduceCtorEq List.getElem?_cons_zero List.getElem?_cons_succ Option.some.injEq exists_eq_left' List.set_cons_zero List.set_cons_succ List.set_set List.length_set
attribute [congr] znc zfB zfw zfv
attribute [congr] zjp
attribute [go_sem] zti ztj
attribute [go_sem] zx2 AW_ret zx1 AW_bad AW_reg AW_seq zxz zte ztg AW_pr zzd zgf zs7 zuW zbE zf9 ziZ zfh ztd zxw zkr ziF zsY ziG zsZ zki ziP zf1 zsX zta ziL zkn zxy zkc zkm ziM zko ziN ziO ziI ziJ ziK zfy zke zkf zkj zkp zkl zfx zkk ztb ztc zkh zkg zsW zkd zxx zxv zf0 zfz zkq zau zc1 zqt zqs zuA zeN za4 z85 zm1 zfu decide_true decide_false z72 zbh zeF aop Opd.ev aget put z01 abin aint astr z1J ares zyX enter rd rds pur purs z0t mkA unp cut AV.cells PV.cells PV.sc AV.sc splice pint pbool zbS
attribute [go_sem low] za3 zjU zgm
theorem zi8 {A B:Prop}:z2H (.p (.bool true)) true A B=A:=(rfl)
theorem zi5 {A B:Prop}:z2H (.p (.bool false)) false A B=A:=(rfl)
theorem zi7 {A B:Prop}:z2H (.p (.bool true)) false A B=B:=(rfl)
theorem zi6 {A B:Prop}:z2H (.p (.bool false)) true A B=B:=(rfl)
attribute [go_sem] zi8 zi5 zi7 zi6
attribute [congr] zfG zgl zj5 ziH ztf zj9 zjL zda zfg zfT
end Go.Am
end
section
/- The abstract machine,part 28: where no map is ranged over,a call that ends well ends in one way. -/
set_option linter.unusedSimpArgs false
set_option linter.unusedVariables false
namespace Go.Am
def AO.noNext:AO→Bool
 | .mnext _ _=>false
 | _=>true
def ACode.noNext:ACode→Bool
 | .reg ops _=>ops.all fun o=>o.op.noNext
 | .seq a b=>a.noNext&&b.noNext
 | .cond _ a b=>a.noNext&&b.noNext
 | .condu _ _ _=>false
 | .det _=>false
 | .block _ b=>b.noNext
 | .loop b=>b.noNext
 | .scope b=>b.noNext
 | .pr _ b=>b.noNext
 | _=>true
def Dt (C D:Hd):Prop:=∀ f a h K,C f a h K→∃ v h' x,K v h' x∧D f a h fun v1 h1 x1=>v1=v∧h1=h'∧x1=x
variable {C D:Hd} {gl:Nat→Option PV}
theorem z5w (hD:D.Mono) (hC:Dt C D):∀ (ops:List AOp) e h x K,(ops.all fun o=>o.op.noNext)=true→AReg C gl ops e h x K→∃ e' h' x',K e' h' x'∧AReg D gl ops e h x fun e1 h1 x1=>e1=e'∧h1=h'∧x1=x'
 | [],e,h,x,K,_,H=>⟨e,h,x,H,rfl,rfl,rfl⟩
 | o::r,e,h,x,K,hn,H=>by
  obtain⟨dst,guard,op⟩:=o
  simp only[List.all_cons,Bool.and_eq_true] at hn
  obtain⟨hn1,hn2⟩:=hn
  unfold AReg at H
  dsimp only at H
  split at H
  ·rename_i hw
   cases op
   case call f args=>
    obtain⟨v,h',x',H',G'⟩:=hC _ _ _ _ H
    obtain⟨e2,h2,x2,k2,g2⟩:=z5w hD hC r _ _ _ K hn2 H'
    refine⟨e2,h2,x2,k2,?_⟩
    unfold AReg;simp only[hw]
    exact hD _ _ _ _ _ (fun v1 h1 x1 ⟨a1,a2,a3⟩=>by subst a1;subst a2;subst a3;exact g2) G'
   case callv f args=>
    dsimp only at H
    split at H
    ·rename_i hf
     obtain⟨v,h',x',H',G'⟩:=hC _ _ _ _ H
     obtain⟨e2,h2,x2,k2,g2⟩:=z5w hD hC r _ _ _ K hn2 H'
     refine⟨e2,h2,x2,k2,?_⟩
     unfold AReg;simp only[hw,hf]
     exact hD _ _ _ _ _ (fun v1 h1 x1 ⟨a1,a2,a3⟩=>by subst a1;subst a2;subst a3;exact g2) G'
    ·exact H.elim
   case mnext sh xs=>simp [AO.noNext] at hn1
   all_goals
    dsimp only at H
    split at H
    ·rename_i ha
     obtain⟨e2,h2,x2,k2,g2⟩:=z5w hD hC r _ _ _ K hn2 H
     refine⟨e2,h2,x2,k2,?_⟩
     unfold AReg;simp only[hw,ha]
     exact g2
    ·exact H.elim
  ·rename_i hw
   obtain⟨e2,h2,x2,k2,g2⟩:=z5w hD hC r _ _ _ K hn2 H
   refine⟨e2,h2,x2,k2,?_⟩
   unfold AReg;simp only[hw]
   exact g2
  ·exact H.elim
theorem z6P (hD:D.Mono) (hC:Dt C D) {o:AOp} {e:List (Nat × AV)} {h h':Heap} {v:AV} {x:Esc} (H:ADo C gl o e h v h' x):ADo D gl o e h v h' x:=by
 have key:∀ f a h,C f a h (fun v1 h1 x1=>v1=v∧h1=h'∧x1=x)→D f a h (fun v1 h1 x1=>v1=v∧h1=h'∧x1=x):=fun f a h hc=>by
  obtain⟨v2,h2,x2,⟨e1,e2,e3⟩,hd⟩:=hC _ _ _ _ hc
  subst e1;subst e2;subst e3
  exact hd
 unfold ADo at H ⊢
 split at H
 ·split at H
  ·exact key _ _ _ H
  ·split at H
   ·exact key _ _ _ H
   ·exact H.elim
  ·exact H.elim
  ·exact H
 ·exact H
 ·exact H.elim
theorem zc0 (hD:D.Mono) (hC:Dt C D):∀ (ds:List DOp) dn hs e h x K,z1Z C gl ds dn hs e h x K→∃ e' h' x',K e' h' x'∧z1Z D gl ds dn hs e h x fun e1 h1 x1=>e1=e'∧h1=h'∧x1=x'
 | [],dn,hs,e,h,x,K,H=>⟨e,h,x,H,rfl,rfl,rfl⟩
 | o::r,dn,hs,e,h,x,K,H=>by
  obtain⟨v,h',y,h1,h2,h3,h4,h5⟩:=H
  obtain⟨e2,q2,x2,k2,g2⟩:=zc0 hD hC r _ _ _ _ _ K h5
  exact⟨e2,q2,x2,k2,v,h',y,z6P hD hC h1,h2,fun k hk=>by obtain⟨g,a1,a2⟩:=h3 k hk;exact⟨g,a1,z6P hD hC a2⟩,
   fun j hj=>by obtain⟨q,a1,a2⟩:=h4 j hj;exact⟨q,a1,z6P hD hC a2⟩,g2⟩
theorem zkb {T U:St→(Ex→St→Prop)→Prop} (hT:∀ s K,T s K→∃ e s',K e s'∧U s fun e1 s1=>e1=e∧s1=s') {K:Ex→St→Prop} {s:St} (H:ALoop T K s):∃ e s',K e s'∧ALoop U (fun e1 s1=>e1=e∧s1=s') s:=by
 induction H with
 | mk s R h hn he hr ih=>
  obtain⟨e,s',hR,hU⟩:=hT _ _ h
  cases e with
  | normal=>
   obtain⟨e2,s2,k2,g2⟩:=ih s' hR
   exact⟨e2,s2,k2,.mk _ _ hU (fun s1 ⟨_,h1⟩=>by subst h1;exact g2) (fun i s1 ⟨h1,_⟩=>by cases h1) (fun s1 ⟨h1,_⟩=>by cases h1)⟩
  | exit i=>exact⟨_,_,he i s' hR,.mk _ _ hU (fun s1 ⟨h1,_⟩=>by cases h1) (fun j s1 h1=>h1) (fun s1 ⟨h1,_⟩=>by cases h1)⟩
  | ret=>exact⟨_,_,hr s' hR,.mk _ _ hU (fun s1 ⟨h1,_⟩=>by cases h1) (fun j s1 ⟨h1,_⟩=>by cases h1) (fun s1 h1=>h1)⟩
theorem z5x (hD:D.Mono) (hC:Dt C D):∀ (c:ACode),c.noNext=true→∀ s K,AW C gl c s K→∃ e s',K e s'∧AW D gl c s fun e1 s1=>e1=e∧s1=s'
 | .skip,_,s,K,H=>⟨_,_,H,rfl,rfl⟩
 | .reg ops keep,hn,s,K,H=>by
  obtain⟨e,h,x,h1,h2⟩:=z5w hD hC ops _ _ _ _ hn H
  refine⟨_,_,h1,?_⟩
  show AReg D gl ops s.env s.h s.esc fun e1 h1 x1=>_
  exact z2f (C:=D) (C':=D) (fun f a h K K' hK h=>hD _ _ _ _ _ hK h) ops _ _ _ _ _ (fun e1 h1 x1 ⟨a1,a2,a3⟩=>by subst a1;subst a2;subst a3;exact⟨rfl,rfl⟩) h2
 | .draw ds keep,_,s,K,H=>by
  obtain⟨e,h,x,h1,h2⟩:=zc0 hD hC ds _ _ _ _ _ _ H
  refine⟨_,_,h1,?_⟩
  show z1Z D gl ds [] [] s.env s.h s.esc fun e1 h1 x1=>_
  exact z6R (C:=D) (C':=D) (fun f a h K K' hK h=>hD _ _ _ _ _ hK h) ds _ _ _ _ _ _ _ (fun e1 h1 x1 ⟨a1,a2,a3⟩=>by subst a1;subst a2;subst a3;exact⟨rfl,rfl⟩) h2
 | .seq a b,hn,s,K,H=>by
  simp only[ACode.noNext,Bool.and_eq_true] at hn
  obtain⟨e,s',h1,h2⟩:=z5x hD hC a hn.1 _ _ H
  have mono:=fun (K K':Ex→St→Prop) (hK:∀ e s,K e s→K' e s)=>z1k (C:=D) (C':=D) (gl:=gl) (fun f a h K K' hK h=>hD _ _ _ _ _ hK h) a s K K' hK
  cases e with
  | normal=>
   obtain⟨e2,s2,k2,g2⟩:=z5x hD hC b hn.2 _ _ h1
   refine⟨e2,s2,k2,mono _ _ (fun e1 s1 ⟨a1,a2⟩=>?_) h2⟩
   subst a1;subst a2;exact g2
  | exit i=>exact⟨_,_,h1,mono _ _ (fun e1 s1 ⟨a1,a2⟩=>by subst a1;subst a2;exact⟨rfl,rfl⟩) h2⟩
  | ret=>exact⟨_,_,h1,mono _ _ (fun e1 s1 ⟨a1,a2⟩=>by subst a1;subst a2;exact⟨rfl,rfl⟩) h2⟩
 | .condu c a b,hn,s,K,H=>by cases hn
 | .det b,hn,s,K,H=>by cases hn
 | .cond c a b,hn,s,K,H=>by
  simp only[ACode.noNext,Bool.and_eq_true] at hn
  unfold AW at H
  split at H
  ·rename_i t ht
   split at H
   ·obtain⟨e,s',h1,h2⟩:=z5x hD hC a hn.1 _ _ H
    refine⟨e,s',h1,?_⟩
    unfold AW;simp only[ht];exact h2
   ·obtain⟨e,s',h1,h2⟩:=z5x hD hC b hn.2 _ _ H
    refine⟨e,s',h1,?_⟩
    unfold AW;simp only[ht];exact h2
  ·exact H.elim
 | .block id b,hn,s,K,H=>by
  obtain⟨e,s',h1,h2⟩:=z5x hD hC b hn _ _ H
  have mono:=fun (K K':Ex→St→Prop) (hK:∀ e s,K e s→K' e s)=>z1k (C:=D) (C':=D) (gl:=gl) (fun f a h K K' hK h=>hD _ _ _ _ _ hK h) b s K K' hK
  cases e with
  | normal=>exact⟨_,_,h1,mono _ _ (fun e1 s1 ⟨a1,a2⟩=>by subst a1;subst a2;exact⟨rfl,rfl⟩) h2⟩
  | exit i=>
   dsimp only at h1
   split at h1
   ·rename_i hi
    exact⟨_,_,h1,mono _ _ (fun e1 s1 ⟨a1,a2⟩=>by subst a1;subst a2;dsimp only;rw[if_pos hi];exact⟨rfl,rfl⟩) h2⟩
   ·rename_i hi
    exact⟨_,_,h1,mono _ _ (fun e1 s1 ⟨a1,a2⟩=>by subst a1;subst a2;dsimp only;rw[if_neg hi];exact⟨rfl,rfl⟩) h2⟩
  | ret=>exact⟨_,_,h1,mono _ _ (fun e1 s1 ⟨a1,a2⟩=>by subst a1;subst a2;exact⟨rfl,rfl⟩) h2⟩
 | .loop b,hn,s,K,H=>zkb (fun s K h=>z5x hD hC b hn s K h) H
 | .scope b,hn,s,K,H=>by
  obtain⟨e,s',h1,h2⟩:=z5x hD hC b hn _ _ H
  exact⟨_,_,h1,z1k (C:=D) (C':=D) (gl:=gl) (fun f a h K K' hK h=>hD _ _ _ _ _ hK h) b _ _ _ (fun e1 s1 ⟨a1,a2⟩=>by subst a1;subst a2;exact⟨rfl,rfl⟩) h2⟩
 | .pr l b,hn,s,K,H=>z5x hD hC b hn _ K H
 | .exit id,_,s,K,H=>⟨_,_,H,rfl,rfl⟩
 | .ret,_,s,K,H=>⟨_,_,H,rfl,rfl⟩
 | .bad,_,s,K,H=>H.elim
theorem zoY {F:AFun} {b:Nat} {s:St} {K:Post} (H:fin F b s K):∃ v h x,K v h x∧fin F b s fun v1 h1 x1=>v1=v∧h1=h∧x1=x:=by
 unfold fin at H
 cases h1:z1J s F.results with
 | none=>rw[h1] at H;exact H.elim
 | some vs=>
  rw[h1] at H
  dsimp only at H
  cases h2:F.keep with
  | true=>
   rw[h2] at H
   dsimp only at H
   by_cases h3:z0I s.esc (close (List.length s.esc) s.esc (max b (z0C vs).top))=true
   ·rw[if_pos h3] at H
    exact⟨_,_,_,H,by unfold fin;rw[h1];dsimp only;rw[h2];dsimp only;rw[if_pos h3];exact⟨rfl,rfl,rfl⟩⟩
   ·rw[if_neg h3] at H
    exact⟨_,_,_,H,by unfold fin;rw[h1];dsimp only;rw[h2];dsimp only;rw[if_neg h3];exact⟨rfl,rfl,rfl⟩⟩
  | false=>
   rw[h2] at H
   dsimp only at H
   cases h4:reif b s.h (z0C vs) with
   | none=>rw[h4] at H;exact H.elim
   | some v0=>
    rw[h4] at H
    dsimp only at H
    by_cases h3:z0I s.esc (close (List.length s.esc) s.esc (max b v0.top))=true
    ·rw[if_pos h3] at H
     cases h5:reif (close (List.length s.esc) s.esc (max b v0.top)) s.h (z0C vs) with
     | none=>rw[h5] at H;exact H.elim
     | some v=>
      rw[h5] at H
      exact⟨_,_,_,H.2,by unfold fin;rw[h1];dsimp only;rw[h2];dsimp only;rw[h4];dsimp only;rw[if_pos h3,h5];exact⟨H.1,rfl,rfl,rfl⟩⟩
    ·rw[if_neg h3] at H
     exact⟨_,_,_,H,by unfold fin;rw[h1];dsimp only;rw[h2];dsimp only;rw[h4];dsimp only;rw[if_neg h3];exact⟨rfl,rfl,rfl⟩⟩
def Ctx.NoNext (X:Ctx):Prop:=∀ f F,X.fn f=some F→(F.isDet||F.body.noNext)=true
theorem zlV (hD:D.Mono) (hC:Dt C D) {F:AFun} {a:List AV} {h:Heap} {K:Post} (hb:F.body.noNext=true) (H:z2E C gl F a h K):∃ v h' x,K v h' x∧z2E D gl F a h fun v1 h1 x1=>v1=v∧h1=h'∧x1=x:=by
 unfold z2E at H ⊢
 cases hp:(if F.byref then some (a,h) else z0t h a) with
 | none=>rw[hp] at H;exact H.elim
 | some q=>
  obtain⟨asv,h1⟩:=q
  rw[hp] at H
  obtain⟨hl,H⟩:=H
  obtain⟨e,s',k1,g1⟩:=z5x hD hC _ hb _ _ H
  have mono:=fun (K K':Ex→St→Prop) (hK:∀ e s,K e s→K' e s)=>z1k (C:=D) (C':=D) (gl:=gl) (fun f a h K K' hK h=>hD _ _ _ _ _ hK h) F.body ⟨enter asv,h1,[]⟩ K K' hK
  cases e with
  | exit i=>exact k1.elim
  | normal=>
   obtain⟨v,h',x,k2,g2⟩:=zoY k1
   exact⟨v,h',x,k2,hl,mono _ _ (fun e1 s1 ⟨a1,a2⟩=>by subst a1;subst a2;exact g2) g1⟩
  | ret=>
   obtain⟨v,h',x,k2,g2⟩:=zoY k1
   exact⟨v,h',x,k2,hl,mono _ _ (fun e1 s1 ⟨a1,a2⟩=>by subst a1;subst a2;exact g2) g1⟩
theorem zjW {X:Ctx} (hX:X.NoNext):Dt (z0c X) (z0c X):=by
 intro f a h K H
 refine H (fun f a h K=>∃ v h' x,K v h' x∧z0c X f a h fun v1 h1 x1=>v1=v∧h1=h'∧x1=x) ?_ ?_
 ·intro f a h K K' hK ⟨v,h',x,k,g⟩
  exact⟨v,h',x,hK _ _ _ k,g⟩
 ·intro f a h K H
  have hC:Dt (fun f a h K=>∃ v h' x,K v h' x∧z0c X f a h fun v1 h1 x1=>v1=v∧h1=h'∧x1=x) (z0c X):=fun f a h K H=>H
  have hD:=z0c.mono X
  unfold Step at H
  split at H
  ·rename_i F hF
   unfold z5m at H
   cases hd:F.isDet with
   | true=>
    rw[hd] at H
    obtain⟨v,h',x,k,H⟩:=H
    refine⟨v,h',x,k,z0c.fold ?_⟩
    unfold Step
    simp only[hF,z5m,hd]
    exact⟨v,h',x,⟨rfl,rfl,rfl⟩,z4F (fun f a h K K' hK ⟨v2,h2,x2,k2,g2⟩=>hD _ _ _ _ _ (fun v1 h1 x1 hv=>by obtain⟨rfl,rfl,rfl⟩:=hv;exact hK _ _ _ k2) g2) (fun _ _ _ h=>h) H⟩
   | false=>
    rw[hd] at H
    obtain⟨v,h',x,k1,g1⟩:=zlV hD hC (by have:=hX f F hF;rw[hd] at this;simpa using this) H
    refine⟨v,h',x,k1,z0c.fold ?_⟩
    unfold Step;simp only[hF,z5m,hd]
    exact g1
  ·rename_i hF
   split at H
   ·rename_i hx2
    refine⟨_,_,_,H,z0c.fold ?_⟩
    unfold Step;simp only[hF,hx2]
    exact⟨trivial,trivial,trivial⟩
   ·rename_i hx2
    split at H
    ·rename_i hp
     split at H
     ·rename_i hu
      split at H
      ·rename_i hx
       refine⟨_,_,_,H,z0c.fold ?_⟩
       unfold Step;simp only[hF,hx2,hp,hu,hx]
       exact⟨trivial,trivial,trivial⟩
      ·exact H.elim
     ·exact H.elim
    ·exact H.elim
theorem z0c.one {X:Ctx} (hX:X.NoNext) {f:Nat} {a:List AV} {h:Heap} {Q:Post} (H:z0c X f a h Q):∃ v h' x,Q v h' x∧∀ K:Post,z0c X f a h K=K v h' x:=by
 obtain⟨v,h',x,k,g⟩:=zjW hX _ _ _ _ H
 exact⟨v,h',x,k,fun K=>rule g⟩
end Go.Am
end
section
/- The abstract machine,part 29: its meaning once more,spelt so that a function's code can be printed asv a formula over its values (shallow),equal tov the deep one by computing. -/
set_option linter.unusedSimpArgs false
set_option linter.unusedVariables false
namespace Go.Am
def pK (o:Option AV) (k:AV→Prop):Prop:=match o with
 | some v=>k v
 | none=>False
def wK (o:Option (AV × Heap × Esc)) (k:AV→Heap→Esc→Prop):Prop:=match o with
 | some y=>k y.1 y.2.1 y.2.2
 | none=>False
def z0G (c a b:AV):Option AV:=match c with
 | .p (.bool t)=>some (bif t then a else b)
 | _=>none
def oBox (x:AV) (h:Heap):Option (AV × Heap × Esc):=match x.cells with
 | some cs=>some (.ref h.length 0,h++[.box cs],[])
 | none=>none
def zoU:List (Nat × Nat × AV)→List AV→Option (List AV)
 | [],cs=>some cs
 | (off,n,x)::r,cs=>match x.cells with
  | some vs=>if vs.length=n∧off+n≤cs.length then zoU r (splice cs off vs) else none
  | none=>none
def z07 (z:List AV) (ps:List (Nat × Nat × AV)):Option AV:=(zoU ps z).map mkA
def zoV (sh:Sh):List (Nat × AV)→Heap→List PV→Option (List PV × Heap)
 | [],h,xs=>some (xs,h)
 | (i,x)::r,h,xs=>match pur h x with
  | some (v,h')=>if v.shp sh∧i<xs.length then zoV sh r h' (xs.set i v) else none
  | none=>none
def oBsl (own:Bool) (sh:Sh) (n:Nat) (z:PV) (ps:List (Nat × AV)) (h:Heap):Option (AV × Heap × Esc):=match zoV sh ps h (List.replicate n z) with
 | some (xs,h')=>if !z.shp sh then none else some (bif own then (.own h'.length n 0 n,h'++[.row sh xs 0],[]) else (.p (.sl sh xs),h',[]))
 | none=>none
def z0e (sh:Sh) (a:AV) (h:Heap):Option AV:=match a with
 | .ref id off=>match h[id]? with
  | some (.box cs)=>cut sh off cs
  | _=>none
 | .rref id g i off=>match h[id]? with
  | some (.row _ xs _)=>if g=xs.length then ((xs[i]?).bind (cutP sh off)).map .p else none
  | _=>none
 | .vp v=>(cutP sh 0 v).map .p
 | .bt k off id g=>ldA sh k off id g h
 | _=>none
def z0m (sh:Sh) (a x:AV) (h:Heap):Option (AV × Heap × Esc):=match a with
 | .ref id off=>match h[id]?,x.cells with
  | some (.box cs),some vs=>if vs.length=z0a sh∧off+vs.length≤cs.length then some (.und,h.set id (.box (splice cs off vs)),escS id cs x) else none
  | _,_=>none
 | .rref id g i off=>match pur h x with
  | some (v,h1)=>match h1[id]? with
   | some (.row rsh xs fz)=>if g=xs.length∧fz≤i∧v.cells.length=z0a sh∧v.cells.all PV.sc then match xs[i]? with
    | some (.agg cs)=>if off+v.cells.length≤cs.length then some (.und,h1.set id (.row rsh (xs.set i (.agg (splice cs off v.cells))) fz),[]) else none
    | some _=>if off=0∧v.sc then some (.und,h1.set id (.row rsh (xs.set i v) fz),[]) else none
    | none=>none
    else none
   | _=>none
  | none=>none
 | .bt k off id g=>stA sh k off id g x h
 | _=>none
def oNil (x:AV):Option AV:=match x with
 | .ref _ _ | .rref _ _ _ _ | .vp _ | .fn _ _=>some x
 | .bt k _ _ _=>nlA k x
 | _=>none
def oBin (op:BinOp) (x y:AV):Option AV:=match x,y with
 | .p a,.p b=>(abin op a b).map .p
 | _,_=>none
def oEqa (ks:List Nat) (neg:Bool) (x y:AV):Option AV:=match x,y with
 | .p (.agg asv),.p (.agg bs)=>if asv.map PV.kind=ks∧bs.map PV.kind=ks∧ks≠[] then (eqs asv bs).map fun t=>pbool (bif neg then !t else t) else none
 | .p (.bool a),.p (.bool b)=>if ks=[] then some (pbool (bif neg then !decide (a=b) else decide (a=b))) else none
 | _,_=>none
def zbm (k:Nat) (neg:Bool) (x:AV):Option AV:=bif z74 k x then some .anyb else (zqn k x).map fun r=>pbool (bif neg then !r else r)
def oMkif (x:AV):Option AV:=if okIn x then some .ifc else none
def oUn (op:UnOp) (x:AV):Option AV:=match x with
 | .p a=>(aun op a).map .p
 | _=>none
def zj4 (c:Cv) (x:AV) (h:Heap):Option (AV × Heap × Esc):=(zaj h c x).map fun y=>(y.1,y.2,[])
def z75 (k:IntKind) (x:AV):Option AV:=match x with
 | .p (.int _ n)=>some (.p (.int k (k.wrap n)))
 | _=>none
def zyT (sh:Sh) (z:PV) (len cap:AV) (h:Heap):Option (AV × Heap × Esc):=match z0N len,z0N cap with
 | some n,some m=>if n≤m∧m≤z1c∧z.shp sh then some (.own h.length n 0 n,h++[.row sh (List.replicate n z) 0],[]) else none
 | _,_=>none
def bndV (d:Nat):Option AV→Option Nat
 | none=>some d
 | some x=>z0N x
def zig (x:AV) (lo hi:Option AV):Option AV:=match x with
 | .p (.str s)=>match bndV 0 lo,bndV s.length hi with
  | some l,some r=>if l≤r∧r≤s.length then some (.p (.str (win s l (r-l)))) else none
  | _,_=>none
 | _=>none
def z5g (sh:Sh) (x:AV) (lo hi mx:Option AV) (h:Heap):Option AV:=match x with
 | .p (.sl sh' xs)=>match bndV 0 lo,bndV xs.length hi,bndV xs.length mx with
  | some l,some r,some m=>if sh'=sh∧l≤r∧r≤m∧m≤xs.length then some (if mx.isSome∧m=l then .sl0 sh else .p (.sl sh (win xs l (r-l)))) else none
  | _,_,_=>none
 | .sl0 sh'=>match bndV 0 lo,bndV 0 hi,bndV 0 mx with
  | some l,some r,some m=>if l=0∧r=0∧m=0 then some (.sl0 sh') else none
  | _,_,_=>none
 | .own id g off len=>match h[id]? with
  | some (.row rsh xs _)=>match bndV 0 lo,bndV len hi,bndV len mx with
   | some l,some r,some m=>if rsh=sh∧g=xs.length∧off+len≤xs.length∧l≤r∧r≤m∧m≤len then some (if mx.isSome∧m=l then .sl0 sh else .own id g (off+l) (r-l)) else none
   | _,_,_=>none
  | _=>none
 | _=>none
def z0d (off:Nat) (sh:Sh) (x:AV):Option AV:=match x with
 | .ref id o=>some (.ref id (o+off))
 | .rref id g i o=>some (.rref id g i (o+off))
 | .vp v=>(cutP sh off v).map .vp
 | .bt k o id g=>faA k off o id g
 | _=>none
def zif (off:Nat) (sh:Sh) (x:AV):Option AV:=match x with
 | .p v=>match v with
  | .agg _=>(cutP sh off v).map .p
  | _=>none
 | .agg cs=>cut sh off cs
 | _=>none
def z0r (sh:Sh) (x i:AV) (h:Heap):Option AV:=match x,z0N i with
 | .p (.sl sh' xs),some k=>if sh'=sh then (xs[k]?).map .vp else none
 | .own id g off len,some k=>match h[id]? with
  | some (.row rsh xs _)=>if rsh=sh∧g=xs.length∧off+len≤xs.length∧k<len then some (.rref id g (off+k) 0) else none
  | _=>none
 | .bt kk _ id g,some k=>iaA sh kk id g k h
 | _,_=>none
def z4k (n:Nat) (sh:Sh) (x i:AV):Option AV:=match x,z0N i with
 | .ref id o,some k=>if k<n then some (.ref id (o+k*z0a sh)) else none
 | .rref id g j o,some k=>if k<n then some (.rref id g j (o+k*z0a sh)) else none
 | .vp v,some k=>if k<n then (cutP sh (k*z0a sh) v).map .vp else none
 | _,_=>none
def zu7 (n:Nat) (sh:Sh) (x i:AV):Option AV:=match x,z0N i with
 | .p (.agg cs),some k=>if k<n then (cutP sh (k*z0a sh) (.agg cs)).map .p else none
 | _,_=>none
def zcd (x i:AV):Option AV:=match x,z0N i with
 | .p (.str s),some k=>(s[k]?).map fun b=>.p (.int .u8 b.toNat)
 | _,_=>none
def oExt (x:AV) (i:Nat):Option AV:=match x with
 | .tup vs=>vs[i]?
 | _=>none
def oLen (x:AV):Option AV:=match x with
 | .p (.sl _ xs)=>some (pint xs.length)
 | .sl0 _=>some (pint 0)
 | .own _ _ _ len=>some (pint len)
 | .bt k _ _ g=>lnA k g
 | _=>none
def zfV (x:AV):Option AV:=match x with
 | .p (.str s)=>some (pint s.length)
 | _=>none
def oApp (sh:Sh) (s x:AV) (h:Heap):Option (AV × Heap × Esc):=match rds h x with
 | some (sh',ys)=>if sh'=sh then match s with
  | .sl0 _=>if ys.length≤z1c then some (.own h.length ys.length 0 ys.length,h++[.row sh ys 0],[]) else none
  | .own id g off len=>match h[id]? with
   | some (.row rsh xs fz)=>if rsh=sh∧g=xs.length∧off=0∧len=xs.length∧len+ys.length≤z1c∧fz≤xs.length then some (.own id (g+ys.length) off (len+ys.length),h.set id (.row sh (xs++ys) fz),[])
    else if rsh=sh∧g=xs.length∧off+len+ys.length≤xs.length∧fz≤off+len∧1≤ys.length∧len+ys.length≤z1c∧sh=none∧xs.all PV.intP=true∧ys.all PV.intP=true then
     some (.p (.sl sh (win xs off len++ys)),h.set id (.row sh (splice xs (off+len) (List.replicate ys.length .unk)) (off+len+ys.length)),[])
    else none
   | _=>none
  | _=>none
  else none
 | none=>none
def oCopy (sh:Sh) (d s:AV) (h:Heap):Option (AV × Heap × Esc):=match d,rds h s with
 | .own id g off len,some (sh',ys)=>match h[id]? with
  | some (.row rsh xs fz)=>if rsh=sh∧sh'=sh∧g=xs.length∧off+len≤xs.length∧fz≤off then
   some (pint (min ys.length len),h.set id (.row sh (splice xs off (ys.take (min ys.length len))) fz),[])
   else none
  | _=>none
 | _,_=>none
def oClr (sh:Sh) (z:PV) (x:AV) (h:Heap):Option (AV × Heap × Esc):=match x with
 | .sl0 _=>some (.tup [],h,[])
 | .own id g off len=>match h[id]? with
  | some (.row rsh xs fz)=>if rsh=sh∧g=xs.length∧off+len≤xs.length∧fz≤off then
   some (.tup [],h.set id (.row sh (splice xs off (List.replicate len z)) fz),[])
   else none
  | _=>none
 | _=>none
def oMx (xs:List AV):Option AV:=match xs with
 | .p a::r=>((unp r).bind fun l=>l.foldlM zlZ a).map .p
 | _=>none
def oMn (xs:List AV):Option AV:=match xs with
 | .p a::r=>((unp r).bind fun l=>l.foldlM zma a).map .p
 | _=>none
def z0L (kk:Sh × List Nat) (ok:Bool) (z x k:AV) (h:Heap):Option AV:=match z2c kk k with
 | some key=>match (match x with | .nilm=>some [] | m=>(mget h m).map fun y=>y.2.1) with
  | some es=>match z1X key es with
   | some r=>
    let v:=((r.bind (es[·]?)).map ME.val)
    some (bif ok then .tup [v.getD z,pbool v.isSome] else v.getD z)
   | none=>none
  | none=>none
 | none=>none
def z1v (kk:Sh × List Nat) (m k x:AV) (h:Heap):Option (AV × Heap × Esc):=match z2c kk k,mget h m,okIn x with
 | some key,some (id,es,c),true=>match z1X key es with
  | some (some i)=>some (.und,h.set id (.amap (es.modify i fun e=>{ e with val:=x }) c),z2a id x)
  | some none=>some (.und,h.set id (.amap (es++[⟨key,x,c⟩]) (c+1)),z2a id x)
  | none=>none
 | _,_,_=>none
def oMent (kk:Sh × List Nat) (z m k:AV) (h:Heap):Option (AV × Heap × Esc):=match z2c kk k,mget h m with
 | some key,some (id,es,c)=>match z1X key es with
  | some (some i)=>(es[i]?).map fun e=>(.tup [e.val,pint e.born],h,[])
  | some none=>some (.tup [z,pint c],h.set id (.amap (es++[⟨key,z,c⟩]) (c+1)),[])
  | none=>none
 | _,_=>none
def zqp (m s x:AV) (h:Heap):Option (AV × Heap × Esc):=match mget h m,z0N s,okIn x with
 | some (id,es,c),some b,true=>match es.findIdx? (fun e=>e.born==b) with
  | some i=>some (.und,h.set id (.amap (es.modify i fun e=>{ e with val:=x }) c),z2a id x)
  | none=>none
 | _,_,_=>none
def z3B (kk:Sh × List Nat) (m k:AV) (h:Heap):Option (AV × Heap × Esc):=match z2c kk k,mget h m with
 | some key,some (id,es,c)=>match z1X key es with
  | some (some i)=>some (.und,h.set id (.amap (es.eraseIdx i) c),[])
  | some none=>some (.und,h,[])
  | none=>none
 | _,_=>none
def zyS (x:AV) (h:Heap):Option AV:=match x with
 | .nilm=>some (pint 0)
 | .mp id=>(mget h (.mp id)).map fun y=>pint y.2.1.length
 | _=>none
def z3D (x:AV) (h:Heap):Option (AV × Heap × Esc):=match mget h x with
 | some (id,_,c)=>some (.it h.length,h++[.iter (some id) c [] c],[])
 | none=>match x with
  | .nilm=>some (.it h.length,h++[.iter none 0 [] 0],[])
  | _=>none
def z3C (i:AV) (h:Heap):Option (AV × Heap × Esc):=match i with
 | .it id=>match h[id]? with
  | some (.iter (some m) _ seen last)=>match mget h (.mp m),seen.getLast? with
   | some (_,es,c),some b=>if c=last then (es.find? (fun e=>e.born==b)).map fun e=>(.tup [.p e.key,e.val],h,[]) else none
   | _,_=>none
  | _=>none
 | _=>none
def alK (z:List AV) (h:Heap) (k:AV→Heap→Esc→Prop):Prop:=k (.ref h.length 0) (h++[.box z]) []
def nwK (sh:Sh) (h:Heap) (k:AV→Heap→Esc→Prop):Prop:=k (.own h.length 0 0 0) (h++[.row sh [] 0]) []
def mmK (h:Heap) (k:AV→Heap→Esc→Prop):Prop:=k (.mp h.length) (h++[.amap [] 0]) []
def ev3 (ev:Opd→AV):List (Nat × Nat × Opd)→List (Nat × Nat × AV)
 | []=>[]
 | (a,b,x)::r=>(a,b,ev x)::ev3 ev r
def ev2 (ev:Opd→AV):List (Nat × Opd)→List (Nat × AV)
 | []=>[]
 | (a,x)::r=>(a,ev x)::ev2 ev r
def evO (ev:Opd→AV):Option Opd→Option AV
 | none=>none
 | some x=>some (ev x)
def ev1 (ev:Opd→AV):List Opd→List AV
 | []=>[]
 | x::r=>ev x::ev1 ev r
def opN (o:AO) (ev:Opd→AV) (h:Heap) (k:AV→Heap→Esc→Prop):Prop:=match o with
 | .mv x=>k (ev x) h []
 | .pick c a b=>pK (z0G (ev c) (ev a) (ev b)) fun v=>k v h []
 | .alloc z=>alK z h k
 | .box x=>wK (oBox (ev x) h) k
 | .build z ps=>pK (z07 z (ev3 ev ps)) fun v=>k v h []
 | .bsl own sh n z ps=>wK (oBsl own sh n z (ev2 ev ps) h) k
 | .load sh a=>pK (z0e sh (ev a) h) fun v=>k v h []
 | .store sh a x=>wK (z0m sh (ev a) (ev x) h) k
 | .nilchk x=>pK (oNil (ev x)) fun v=>k v h []
 | .bin op x y=>pK (oBin op (ev x) (ev y)) fun v=>k v h []
 | .eqa ks neg x y=>pK (oEqa ks neg (ev x) (ev y)) fun v=>k v h []
 | .isnil n neg x=>pK (zbm n neg (ev x)) fun v=>k v h []
 | .mkif x=>pK (oMkif (ev x)) fun v=>k v h []
 | .un op x=>pK (oUn op (ev x)) fun v=>k v h []
 | .conv (.i c) x=>pK (z75 c (ev x)) fun v=>k v h []
 | .mkfn f caps=>k (.fn f (ev1 ev caps)) h []
 | .slice sh x lo hi mx=>pK (z5g sh (ev x) (evO ev lo) (evO ev hi) (evO ev mx) h) fun v=>k v h []
 | .slstr x lo hi=>pK (zig (ev x) (evO ev lo) (evO ev hi)) fun v=>k v h []
 | .mksl sh z len cap=>wK (zyT sh z (ev len) (ev cap) h) k
 | .faddr off sh x=>pK (z0d off sh (ev x)) fun v=>k v h []
 | .field off sh x=>pK (zif off sh (ev x)) fun v=>k v h []
 | .iaddr sh x i=>pK (z0r sh (ev x) (ev i) h) fun v=>k v h []
 | .iaddra n sh x i=>pK (z4k n sh (ev x) (ev i)) fun v=>k v h []
 | .idxa n sh x i=>pK (zu7 n sh (ev x) (ev i)) fun v=>k v h []
 | .idxs x i=>pK (zcd (ev x) (ev i)) fun v=>k v h []
 | .ext x i=>pK (oExt (ev x) i) fun v=>k v h []
 | .len x=>pK (oLen (ev x)) fun v=>k v h []
 | .lens x=>pK (zfV (ev x)) fun v=>k v h []
 | .app sh s x=>wK (oApp sh (ev s) (ev x) h) k
 | .copy sh d s=>wK (oCopy sh (ev d) (ev s) h) k
 | .uns m t xs=>wK (z2v m t (ev1 ev xs) h) k
 | .clr sh z x=>wK (oClr sh z (ev x) h) k
 | .mx xs=>pK (oMx (ev1 ev xs)) fun v=>k v h []
 | .mn xs=>pK (oMn (ev1 ev xs)) fun v=>k v h []
 | .new0 sh=>nwK sh h k
 | .conv .s2b x=>wK (zj4 .s2b (ev x) h) k
 | .conv .b2s x=>wK (zj4 .b2s (ev x) h) k
 | .conv .r2s x=>wK (zj4 .r2s (ev x) h) k
 | .conv .same x=>wK (zj4 .same (ev x) h) k
 | .mkmap=>mmK h k
 | .look kk ok z x key=>pK (z0L kk ok z (ev x) (ev key) h) fun v=>k v h []
 | .mupd kk m key x=>wK (z1v kk (ev m) (ev key) (ev x) h) k
 | .ment kk z m key=>wK (oMent kk z (ev m) (ev key) h) k
 | .estore m s x=>wK (zqp (ev m) (ev s) (ev x) h) k
 | .mdel kk m key=>wK (z3B kk (ev m) (ev key) h) k
 | .lenm x=>pK (zyS (ev x) h) fun v=>k v h []
 | .mrange x=>wK (z3D (ev x) h) k
 | .mentry i=>wK (z3C (ev i) h) k
 | .call _ _ | .callv _ _ | .mnext _ _=>False
theorem zxu {o:Option (AV × Heap × Esc)} {k:AV→Heap→Esc→Prop}:optK o k=wK o k:=rfl
theorem z5h {o:Option AV} {h:Heap} {k:AV→Heap→Esc→Prop}:wK (o.map fun v=>(v,h,[])) k=pK o fun v=>k v h []:=by cases o <;> rfl
theorem zhH (ev:Opd→AV):∀ (ps:List (Nat × Nat × Opd)) (z:List AV),zbS ev ps z=zoU (ev3 ev ps) z
 | [],z=>rfl
 | (off,n,x)::r,z=>by
  simp only[zbS,ev3,zoU]
  cases (ev x).cells with
  | none=>rfl
  | some vs=>simp only[zhH ev r]
theorem zhI (ev:Opd→AV) (sh:Sh):∀ (ps:List (Nat × Opd)) (h:Heap) (z:List PV),zbT ev sh ps h z=zoV sh (ev2 ev ps) h z
 | [],h,z=>rfl
 | (i,x)::r,h,z=>by
  simp only[zbT,ev2,zoV]
  cases pur h (ev x) with
  | none=>rfl
  | some y=>simp only[zhI ev sh r]
theorem zwc (ev:Opd→AV) (d:Nat) (o:Option Opd):bnd ev d o=bndV d (evO ev o):=by cases o <;> rfl
theorem ztZ (ev:Opd→AV) (o:Option Opd):(evO ev o).isSome=o.isSome:=by cases o <;> rfl
theorem z5L (ev:Opd→AV) (l:List Opd):l.map ev=ev1 ev l:=by
 induction l with
 | nil=>rfl
 | cons x r ih=>simp only[List.map_cons,ev1,ih]
theorem asl_eq (sh:Sh) (ev:Opd→AV) (h:Heap) (x:AV) (lo hi mx:Option Opd):asl sh ev h x lo hi mx=z5g sh x (evO ev lo) (evO ev hi) (evO ev mx) h:=by
 unfold asl z5g
 simp only[zwc,ztZ]
 rfl
theorem z7j {p:Prop} [Decidable p] {a:AV} {h:Heap} {k:AV→Heap→Esc→Prop}:wK (if p then some (a,h,[]) else none) k=pK (if p then some a else none) fun v=>k v h []:=by split <;> rfl
theorem z2u {α:Type} {o:Option α} {f:α→AV} {h:Heap} {k:AV→Heap→Esc→Prop}:wK (o.map fun v=>(f v,h,[])) k=pK (o.map f) fun v=>k v h []:=by cases o <;> rfl
theorem z2t {α:Type} {p:Prop} [Decidable p] {o:Option α} {f:α→AV} {h:Heap} {k:AV→Heap→Esc→Prop}:wK (if p then o.map (fun v=>(f v,h,[])) else none) k=pK (if p then o.map f else none) fun v=>k v h []:=by
 split
 ·exact z2u
 ·rfl
theorem zqr {o:AO} (hp:o.plain=true) {ev:Opd→AV} {h:Heap} {k:AV→Heap→Esc→Prop}:optK (aop o ev h) k=opN o ev h k:=by
 rw[zxu]
 cases o <;> first | (cases hp;done) | skip
 case mv=>rfl
 case pick c a b=>
  simp only[aop,opN,z0G]
  generalize ev c=v
  cases v <;> try rfl
  rename_i p;cases p <;> rfl
 case alloc=>rfl
 case box=>rfl
 case build z ps=>simp only[aop,opN];rw[← z5h,z07,zhH,Option.map_map];rfl
 case bsl=>simp only[aop,opN,oBsl,zhI];rfl
 case load sh a=>
  simp only[aop,opN,z0e]
  generalize ev a=v
  cases v with
  | ref id off=>dsimp only;cases h[id]? with
   | none=>rfl
   | some o=>cases o <;> first | rfl | exact z5h
  | rref id g i off=>dsimp only;cases h[id]? with
   | none=>rfl
   | some o=>cases o <;> first | rfl | exact z2t
  | vp v=>exact z2u
  | p v=>cases v <;> rfl
  | bt _ _ _ _=>exact z5h
  | _=>rfl
 case store=>simp only[aop,opN];rfl
 case nilchk x=>
  simp only[aop,opN,oNil]
  generalize ev x=v
  cases v <;> try rfl
  exact z5h
 case bin op x y=>
  simp only[aop,opN,oBin]
  generalize ev x=v
  generalize ev y=u
  cases v <;> try rfl
  cases u <;> try rfl
  exact z2u
 case eqa ks neg x y=>
  simp only[aop,opN,oEqa]
  generalize ev x=v
  generalize ev y=u
  cases v <;> try rfl
  rename_i p
  cases p <;> try rfl
  all_goals (cases u <;> try rfl)
  all_goals (rename_i q;cases q <;> try rfl)
  ·exact z7j
  ·exact z2t
 case isnil k neg p=>
  simp only[aop,opN,zbm]
  cases z74 k (ev p) with
  | true=>rfl
  | false=>exact z2u
 case mkif=>exact z7j
 case un op x=>
  simp only[aop,opN,oUn]
  generalize ev x=v
  cases v <;> try rfl
  exact z2u
 case conv c x=>
  cases c
  case i k'=>
   simp only[aop,opN,z75,zaj]
   generalize ev x=v
   cases v <;> try rfl
   rename_i p;cases p <;> rfl
  all_goals rfl
 case mkfn f caps=>simp only[aop,opN,z5L];rfl
 case slice=>simp only[aop,opN,asl_eq];exact z5h
 case slstr x lo hi=>
  simp only[aop,opN,zig,zwc]
  generalize ev x=v
  cases v <;> try rfl
  rename_i p;cases p <;> try rfl
  rename_i s
  dsimp only
  generalize bndV 0 _=o1
  generalize bndV s.length _=o2
  cases o1 <;> try rfl
  cases o2 <;> try rfl
  exact z7j
 case mksl=>simp only[aop,opN];rfl
 case faddr off sh x=>
  simp only[aop,opN,z0d]
  generalize ev x=v
  cases v <;> try rfl
  ·exact z2u
  ·exact z5h
 case field off sh x=>
  simp only[aop,opN,zif]
  generalize ev x=v
  cases v <;> try rfl
  ·rename_i p;cases p <;> try rfl
   exact z2u
  ·exact z5h
 case iaddr sh x i=>
  simp only[aop,opN,z0r]
  generalize ev x=v
  generalize z0N (ev i)=n
  cases v <;> try rfl
  ·rename_i p;cases p <;> try rfl
   cases n <;> try rfl
   exact z2t
  ·cases n <;> try rfl
   rename_i id g off len k
   dsimp only
   cases h[id]? with
   | none=>rfl
   | some o=>cases o <;> first | rfl | exact z7j
  ·cases n <;> try rfl
   exact z5h
 case iaddra m sh x i=>
  simp only[aop,opN,z4k]
  generalize ev x=v
  generalize z0N (ev i)=n
  cases v <;> try rfl
  all_goals (cases n <;> try rfl)
  ·exact z7j
  ·exact z7j
  ·exact z2t
 case idxa m sh x i=>
  simp only[aop,opN,zu7]
  generalize ev x=v
  generalize z0N (ev i)=n
  cases v <;> try rfl
  rename_i p;cases p <;> try rfl
  cases n <;> try rfl
  exact z2t
 case idxs x i=>
  simp only[aop,opN,zcd]
  generalize ev x=v
  generalize z0N (ev i)=n
  cases v <;> try rfl
  rename_i p;cases p <;> try rfl
  cases n <;> try rfl
  exact z2u
 case ext x i=>
  simp only[aop,opN,oExt]
  generalize ev x=v
  cases v <;> try rfl
  exact z5h
 case len x=>
  simp only[aop,opN,oLen]
  generalize ev x=v
  cases v <;> try rfl
  ·rename_i p;cases p <;> rfl
  ·exact z5h
 case lens x=>
  simp only[aop,opN,zfV]
  generalize ev x=v
  cases v <;> try rfl
  rename_i p;cases p <;> rfl
 case app=>simp only[aop,opN];rfl
 case copy=>simp only[aop,opN];rfl
 case uns=>simp only[aop,opN,z5L,zxu]
 case clr=>simp only[aop,opN];rfl
 case mx xs=>
  simp only[aop,opN,z5L,oMx]
  generalize ev1 ev xs=l
  cases l <;> try rfl
  rename_i v r
  cases v <;> try rfl
  exact z2u
 case mn xs=>
  simp only[aop,opN,z5L,oMn]
  generalize ev1 ev xs=l
  cases l <;> try rfl
  rename_i v r
  cases v <;> try rfl
  exact z2u
 case new0=>rfl
 case look kk ok z x key=>
  simp only[aop,opN,z0L]
  cases z2c kk (ev key) <;> try rfl
  rename_i kk
  generalize ev x=v
  cases v <;> try rfl
  rename_i id
  dsimp only
  cases mget h (.mp id) <;> try rfl
  rename_i y
  dsimp only[Option.map_some]
  cases z1X kk y.2.1 <;> rfl
 case lenm x=>
  simp only[aop,opN,zyS]
  generalize ev x=v
  cases v <;> try rfl
  exact z2u
 all_goals rfl
end Go.Am
end
section
/- The abstract machine,part 30: the meaning of code in the new spelling,and that it is the old one. -/
set_option linter.unusedSimpArgs false
set_option linter.unusedVariables false
namespace Go.Am
def gV (v:AV) (b:Bool) (h:Heap) (A:(AV→Heap→Esc→Prop)→Prop) (k:AV→Heap→Esc→Prop):Prop:=z2H v b (A k) (k .skp h [])
def gP (v:AV) (b:Bool) (o:Option AV) (h:Heap) (k:AV→Heap→Esc→Prop):Prop:=gV v b h (fun k=>pK o fun u=>k u h []) k
def gM (v:AV) (b:Bool) (u:AV) (h:Heap) (k:AV→Heap→Esc→Prop):Prop:=gV v b h (fun k=>k u h []) k
def upB (b:Bool):Bool:=(fun (_:AV→Bool→Option AV→Heap→(AV→Heap→Esc→Prop)→Prop)=>b) gP
def gK (g:Option (Nat × Bool)) (e:List (Nat × AV)) (h:Heap) (A:(AV→Heap→Esc→Prop)→Prop) (k:AV→Heap→Esc→Prop):Prop:=match g with
 | none=>A k
 | some (t,b)=>gV (aget e t) b h A k
def opC (C:Hd) (o:AO) (ev:Opd→AV) (h:Heap) (k:AV→Heap→Esc→Prop):Prop:=match o with
 | .call f args=>C f (ev1 ev args) h k
 | .callv f args=>z8t C (ev f) (ev1 ev args) h k
 | .mnext sh xs=>match z5l h sh (ev1 ev xs) with
  | some l=>l≠[]∧∀ y∈l,k y.1 y.2 []
  | none=>False
 | o=>opN o ev h k
def NReg (C:Hd) (gl:Nat→Option PV):List AOp→List (Nat × AV)→Heap→Esc→(List (Nat × AV)→Heap→Esc→Prop)→Prop
 | [],e,h,x,L=>L e h x
 | o::r,e,h,x,L=>gK o.guard e h (opC C o.op (Opd.ev gl e) h) fun v h' x'=>NReg C gl r (put o.dst v e) h' (x'++x) L
variable {C:Hd} {gl:Nat→Option PV}
theorem zii {o:AO} {d:Option Nat} {r:List AOp} {e:List (Nat × AV)} {h:Heap} {x:Esc} {L:List (Nat × AV)→Heap→Esc→Prop} :
 AReg C gl (⟨d,none,o⟩::r) e h x L=opC C o (Opd.ev gl e) h (z0F C gl r d e x L):=by
 cases hp:o.plain with
 | true=>
  rw[z0s hp,zqr hp]
  cases o <;> first | rfl | cases hp
 | false=>
  cases o <;> first | (cases hp;done) | skip
  all_goals first
   | (rw[zc1,z5L];rfl)
   | (rw[z7V,z5L];rfl)
   | (unfold AReg opC;simp only[wanted,z5L];rfl)
theorem zkP:∀ (ops:List AOp) (e:List (Nat × AV)) (h:Heap) (x:Esc) (L:List (Nat × AV)→Heap→Esc→Prop),AReg C gl ops e h x L=NReg C gl ops e h x L
 | [],e,h,x,L=>rfl
 | ⟨d,g,o⟩::r,e,h,x,L=>by
  have ih:(fun (v:AV) (h':Heap) (x':Esc)=>NReg C gl r (put d v e) h' (x'++x) L)=z0F C gl r d e x L:=by
   funext v h' x';rw[← zkP r];rfl
  show _=gK g e h (opC C o (Opd.ev gl e) h) fun v h' x'=>NReg C gl r (put d v e) h' (x'++x) L
  rw[ih]
  cases g with
  | none=>exact zii
  | some tb=>
   obtain⟨t,b⟩:=tb
   rw[zau,zii];rfl
def opE (C:Hd) (o:AO) (ev:Opd→AV) (h:Heap) (k:AV→Heap→Esc→Prop):Prop:=match o with
 | .call f args=>z1h C f (ev1 ev args) h k
 | .callv f args=>z55 C (ev f) (ev1 ev args) h k
 | .mnext _ _=>False
 | o=>opN o ev h k
def effN (still eff:Bool) (h h':Heap) (y:Esc) (Q:Prop):Prop:=match upB eff with
 | true=>Q
 | false=>match still with
  | true=>Q
  | false=>(h'=h∧y=[])∧Q
def zzq (C:Hd) (gl:Nat→Option PV) (q:AOp × List (Nat × AV) × AV) (g:Heap):Prop:=
 gK q.1.guard q.2.1 g (opE C q.1.op (Opd.ev gl q.2.1) g) fun v1 h1 x1=>v1=q.2.2∧h1=g∧x1=[]
def z7k (C:Hd) (gl:Nat→Option PV) (h:Heap) (dn:Done) (Q:Prop):List Nat→Prop
 | []=>Q
 | j::r=>(match dn[j]? with | some q=>zzq C gl q h | none=>False)∧z7k C gl h dn Q r
def z7s (C:Hd) (gl:Nat→Option PV) (o:AOp) (e:List (Nat × AV)) (v:AV) (hs:List Heap) (Q:Prop):List Nat→Prop
 | []=>Q
 | k::r=>(match hs[k]? with | some g=>zzq C gl (o,e,v) g | none=>False)∧z7s C gl o e v hs Q r
def ziR (C:Hd) (gl:Nat→Option PV):List DOp→Done→List Heap→List (Nat × AV)→Heap→Esc→(List (Nat × AV)→Heap→Esc→Prop)→Prop
 | [],_,_,e,h,x,L=>L e h x
 | o::r,dn,hs,e,h,x,L=>gK o.op.guard (z01 (some o.rd) e) h (opE C o.op.op (Opd.ev gl (z01 (some o.rd) e)) h) fun v h' y=>
  effN o.op.op.still o.eff h h' y (z7s C gl o.op (z01 (some o.rd) e) v hs (z7k C gl h' dn (ziR C gl r (dn++[(o.op,z01 (some o.rd) e,v)]) (hs++[h]) (put o.op.dst v e) h' (y++x) L) o.again) o.early)
theorem zqq {o:AO} {d:Option Nat} {e:List (Nat × AV)} {h:Heap} {R:AV→Heap→Esc→Prop}:doK C gl ⟨d,none,o⟩ e h R=opE C o (Opd.ev gl e) h R:=by
 cases hp:o.plain with
 | true=>
  rw[z00 hp,zqr hp]
  cases o <;> first | rfl | cases hp
 | false=>
  cases o <;> first | (cases hp;done) | skip
  all_goals first
   | (rw[zh1,z5L];rfl)
   | (rw[zaB,z5L];rfl)
   | (unfold doK ADo opE;simp [wanted])
theorem zxh {o:AOp} {e:List (Nat × AV)} {h:Heap} {R:AV→Heap→Esc→Prop}:doK C gl o e h R=gK o.guard e h (opE C o.op (Opd.ev gl e) h) R:=by
 obtain⟨d,g,op⟩:=o
 cases g with
 | none=>exact zqq
 | some tb=>
  obtain⟨t,b⟩:=tb
  rw[zes,zqq];rfl
theorem ziv {q:AOp × List (Nat × AV) × AV} {g:Heap}:doS C gl q g=zzq C gl q g:=by
 obtain⟨⟨d,gd,op⟩,e,v⟩:=q
 rw[zwh,zxh];rfl
theorem zcV {h:Heap} {dn:Done} {Q:Prop}:∀ {l:List Nat},z7k C gl h dn Q l=(agK C gl h dn l∧Q)
 | []=>by simp [z7k,agK]
 | j::r=>by
  unfold z7k agK
  rw[zcV (l:=r)]
  cases dn[j]? with
  | none=>simp
  | some q=>simp only[ziv,and_assoc]
theorem zeu {o:AOp} {e:List (Nat × AV)} {v:AV} {hs:List Heap} {Q:Prop}:∀ {l:List Nat},z7s C gl o e v hs Q l=(eaK C gl o e v hs l∧Q)
 | []=>by simp [z7s,eaK]
 | j::r=>by
  unfold z7s eaK
  rw[zeu (l:=r)]
  cases hs[j]? with
  | none=>simp
  | some q=>simp only[ziv,and_assoc]
theorem znk {o:AOp} (hs:o.op.still=true) {e:List (Nat × AV)} {h:Heap} {R:AV→Heap→Esc→Prop}:doK C gl o e h (fun v h' y=>(h'=h∧y=[])∧R v h' y)=doK C gl o e h R:=by
 unfold doK
 refine propext ⟨fun ⟨v,h',y,H,_,r⟩=>⟨v,h',y,H,r⟩,fun ⟨v,h',y,H,r⟩=>⟨v,h',y,H,zjZ hs H,r⟩⟩
theorem zgr:∀ (ds:List DOp) (dn:Done) (hs:List Heap) (e:List (Nat × AV)) (h:Heap) (x:Esc) (L:List (Nat × AV)→Heap→Esc→Prop),z1Z C gl ds dn hs e h x L=ziR C gl ds dn hs e h x L
 | [],dn,hs,e,h,x,L=>rfl
 | ⟨o,rd,eff,early,again⟩::r,dn,hs,e,h,x,L=>by
  rw[zar]
  show _=gK o.guard (z01 (some rd) e) h (opE C o.op (Opd.ev gl (z01 (some rd) e)) h) fun v h' y=>
   effN o.op.still eff h h' y (z7s C gl o (z01 (some rd) e) v hs (z7k C gl h' dn (ziR C gl r (dn++[(o,z01 (some rd) e,v)]) (hs++[h]) (put o.dst v e) h' (y++x) L) again) early)
  rw[← zxh]
  have e1:ztT C gl ⟨o,rd,eff,early,again⟩ r dn hs e h x L=fun v h' y=>(effK eff h h' y∧z7s C gl o (z01 (some rd) e) v hs (z7k C gl h' dn (ziR C gl r (dn++[(o,z01 (some rd) e,v)]) (hs++[h]) (put o.dst v e) h' (y++x) L) again) early):=by
   funext v h' y
   rw[zet,zeu,zcV,← zgr r]
  rw[e1]
  cases eff with
  | true=>
   congr 1;funext v h' y
   simp [effK,effN,upB]
  | false=>
   cases hs':o.op.still with
   | true=>
    have:=znk (C:=C) (gl:=gl) (o:=o) hs' (e:=z01 (some rd) e) (h:=h) (R:=fun v h' y=>z7s C gl o (z01 (some rd) e) v hs (z7k C gl h' dn (ziR C gl r (dn++[(o,z01 (some rd) e,v)]) (hs++[h]) (put o.dst v e) h' (y++x) L) again) early)
    exact this
   | false=>rfl
def NW (C:Hd) (gl:Nat→Option PV):ACode→St→(Ex→St→Prop)→Prop
 | .skip,s,K=>K .normal s
 | .reg ops keep,s,K=>NReg C gl ops s.env s.h s.esc fun e h x=>K .normal ⟨z01 keep e,h,x⟩
 | .draw ds keep,s,K=>ziR C gl ds [] [] s.env s.h s.esc fun e h x=>K .normal ⟨z01 keep e,h,x⟩
 | .seq a b,s,K=>NW C gl a s fun e s'=>match e with
  | .normal=>NW C gl b s' K
  | .exit i=>K (.exit i) s'
  | .ret=>K .ret s'
 | .cond c a b,s,K=>z0j (Opd.ev gl s.env c) (NW C gl a s K) (NW C gl b s K)
 | .condu c a b,s,K=>zm2 (Opd.ev gl s.env c) (NW C gl a s K) (NW C gl b s K)
 | .det b,s,K=>NW C gl b s K
 | .block id b,s,K=>NW C gl b s fun e s'=>match e with
  | .normal=>K .normal s'
  | .exit i=>bif Nat.beq i id then K .normal s' else K (.exit i) s'
  | .ret=>K .ret s'
 | .loop b,s,K=>ALoop (NW C gl b) K s
 | .scope b,s,K=>NW C gl b ⟨s.env,s.h,[]⟩ fun e s'=>K e (z5t s.h.length s.esc s')
 | .pr l b,s,K=>NW C gl b ⟨z01 (some l) s.env,s.h,s.esc⟩ K
 | .exit id,s,K=>K (.exit id) s
 | .ret,s,K=>K .ret s
 | .bad,_,_=>False
theorem z5z:∀ (c:ACode) (s:St) (K:Ex→St→Prop),AW C gl c s K=NW C gl c s K
 | .skip,s,K=>rfl
 | .reg ops keep,s,K=>zkP _ _ _ _ _
 | .draw ds keep,s,K=>zgr _ _ _ _ _ _ _
 | .seq a b,s,K=>by
  unfold AW NW
  rw[z5z a]
  congr 1;funext e s'
  cases e with
  | normal=>exact z5z b s' K
  | _=>rfl
 | .cond c a b,s,K=>by
  unfold AW NW z0j
  rw[← z5z a,← z5z b]
  rfl
 | .condu c a b,s,K=>by
  unfold AW NW zm2
  rw[← z5z a,← z5z b]
  rfl
 | .det b,s,K=>z5z b s K
 | .block id b,s,K=>by
  unfold AW NW
  rw[z5z b]
  congr 1;funext e s'
  cases e with
  | exit i=>
   dsimp only
   by_cases hi:i=id
   ·subst hi;simp
   ·rw[if_neg hi]
    have:Nat.beq i id=false:=by cases h:Nat.beq i id with | false=>rfl | true=>exact absurd (Nat.eq_of_beq_eq_true h) hi
    rw[this];rfl
  | _=>rfl
 | .loop b,s,K=>by
  show ALoop (AW C gl b) K s=ALoop (NW C gl b) K s
  rw[show AW C gl b=NW C gl b from funext fun s=>funext fun K=>z5z b s K]
 | .scope b,s,K=>z5z b _ _
 | .pr l b,s,K=>z5z b _ _
 | .exit id,s,K=>rfl
 | .ret,s,K=>rfl
 | .bad,s,K=>rfl
end Go.Am
end
section
/- The abstract machine,part 31: words in which a function's code is printed,and the rules of computing over them. -/
set_option linter.unusedSimpArgs false
set_option linter.unusedVariables false
namespace Go.Am
variable {C:Hd} {gl:Nat→Option PV} {e:List (Nat × AV)} {h:Heap} {x:Esc} {K:Ex→St→Prop} {s:St}
abbrev AI (n:Int):AV:=.p (.int .i64 n)
abbrev AB (b:Bool):AV:=.p (.bool b)
def seqN (C:Hd) (gl:Nat→Option PV) (b:ACode) (K:Ex→St→Prop) (e:Ex) (s:St):Prop:=match e with
 | .normal=>NW C gl b s K
 | .exit i=>K (.exit i) s
 | .ret=>K .ret s
def z0q (id:Nat) (K:Ex→St→Prop) (e:Ex) (s:St):Prop:=match e with
 | .normal=>K .normal s
 | .exit i=>bif Nat.beq i id then K .normal s else K (.exit i) s
 | .ret=>K .ret s
def nqK (sh:Option Sh) (l:List AV) (h:Heap) (k:AV→Heap→Esc→Prop):Prop:=match z5l h sh l with
 | some l=>l≠[]∧∀ y∈l,k y.1 y.2 []
 | none=>False
def nxK (i:AV) (h:Heap) (k:AV→Heap→Esc→Prop):Prop:=match zeI h i with
 | some l=>l≠[]∧∀ y∈l,k y.1 y.2 []
 | none=>False
theorem z9Z {b:ACode}:seqN C gl b K .normal s=NW C gl b s K:=(rfl)
theorem zfk {b:ACode} {i:Nat}:seqN C gl b K (.exit i) s=K (.exit i) s:=(rfl)
theorem ziz {b:ACode}:seqN C gl b K .ret s=K .ret s:=(rfl)
theorem z54 {i:Nat}:z0q i K .normal s=K .normal s:=(rfl)
theorem z8r {i:Nat}:z0q i K (.exit i) s=K .normal s:=by simp [z0q]
theorem zfA {i j:Nat}:z0q i K (.exit j) s=bif Nat.beq j i then K .normal s else K (.exit j) s:=(rfl)
theorem zax {i:Nat}:z0q i K .ret s=K .ret s:=(rfl)
theorem zjM {b:ACode} {ex ex':Ex} {s s':St} (he:ex=ex') (hs:s=s'):seqN C gl b K ex s=seqN C gl b K ex' s':=by rw[he,hs]
theorem zdb {i:Nat} {ex ex':Ex} {s s':St} (he:ex=ex') (hs:s=s'):z0q i K ex s=z0q i K ex' s':=by rw[he,hs]
theorem ztl {b:ACode}:NW C gl (.scope b) ⟨e,h,x⟩ K=NW C gl b ⟨e,h,[]⟩ (zb1 h.length x K):=(rfl)
theorem ztk {c:ACode} {s s':St} (hs:s=s'):NW C gl c s K=NW C gl c s' K:=by rw[hs]
def z0Z (C:Hd) (gl:Nat→Option PV) (b:ACode) (K:Ex→St→Prop) (e:List (Nat × AV)) (h:Heap) (x:Esc):Prop:=ALoop (NW C gl b) K ⟨e,h,x⟩
theorem z06 {l:List Nat} {b:ACode}:NW C gl (.loop (.pr l b)) ⟨e,h,x⟩ K=z0Z C gl (.pr l b) K (z01 (some l) e) h x:=by
 show ALoop _ _ _=ALoop _ _ _
 exact z4E (funext fun R=>by show NW C gl b _ R=NW C gl b _ R;dsimp only;rw[z3F])
theorem z13 {l:List Nat} {b:ACode}:NW C gl (.loop (.scope (.pr l b))) ⟨e,h,x⟩ K=z0Z C gl (.scope (.pr l b)) K (z01 (some l) e) h x:=by
 show ALoop _ _ _=ALoop _ _ _
 exact z4E (funext fun R=>by show NW C gl b _ _=NW C gl b _ _;dsimp only;rw[z3F])
theorem zf3 {b:ACode} {e e':List (Nat × AV)} {h h':Heap} {x x':Esc} (h1:e=e') (h2:h=h') (h3:x=x'):z0Z C gl b K e h x=z0Z C gl b K e' h' x':=by rw[h1,h2,h3]
theorem z08 {σ:Type} {b:ACode} (S:σ→St) (P:σ→Prop) (m:σ→Nat) (t0:σ) (hs:(⟨e,h,x⟩:St)=S t0) (h0:P t0) (hr:∀ t,P t→NW C gl b (S t) (zfS S P m K t)):z0Z C gl b K e h x:=by
 show ALoop (NW C gl b) K _
 rw[hs]
 have key:∀ n t,m t<n→P t→ALoop (NW C gl b) K (S t):=by
  intro n
  induction n with
  | zero=>intro t h;omega
  | succ n ih=>
   intro t hm hp
   refine .mk _ _ (hr t hp) (fun s' h'=>?_) (fun i s' h'=>h') (fun s' h'=>h')
   obtain⟨u,rfl,hu,hlt⟩:=h'
   exact ih u (by omega) hu
 exact key _ t0 (Nat.lt_succ_self _) h0
theorem z0k {X:Ctx} {f:Nat} {F:AFun} {a asv:List AV} {h h1:Heap} {P:Post} (hf:X.fn f=some F) (hr:F.byref=false) (hp:z0t h a=some (asv,h1)) (hl:asv.length=F.nparams) (hd:F.isDet=false:=by rfl) :
 z0c X f a h P=NW (z0c X) X.gl F.body ⟨enter asv,h1,[]⟩ (finR F.results F.keep h.length P):=by
 rw[zvf hf hr hp hl hd,z5z]
theorem z3U {X:Ctx} {f:Nat} {F:AFun} {a asv:List AV} {h h1:Heap} {P:Post} (hf:X.fn f=some F) (hr:F.byref=false) (hp:z0t h a=some (asv,h1)) (hl:asv.length=F.nparams) (hd:F.isDet=true:=by rfl) :
 z0c X f a h P = ∃ v h' x,P v h' x∧NW (z0c X) X.gl F.body ⟨enter asv,h1,[]⟩ (finR F.results F.keep h.length fun v1 h1 x1=>v1=v∧h1=h'∧x1=x):=by
 rw[zfn hf hr hp hl hd]
 simp only[z5z]
theorem z14 {X:Ctx} {f:Nat} {F:AFun} {asv:List AV} {h:Heap} {P:Post} (hf:X.fn f=some F) (hr:F.byref=true) (hl:asv.length=F.nparams) (hd:F.isDet=false:=by rfl) :
 z0c X f asv h P=NW (z0c X) X.gl F.body ⟨enter asv,h,[]⟩ (finR F.results F.keep h.length P):=by
 rw[zve hf hr hl hd,z5z]
theorem zqw {v:AV} {k:AV→Prop}:pK (some v) k=k v:=(rfl)
theorem zqv {k:AV→Prop}:pK none k=False:=(rfl)
theorem zsT {v:AV} {h:Heap} {x:Esc} {k:AV→Heap→Esc→Prop}:wK (some (v,h,x)) k=k v h x:=(rfl)
theorem zsS {k:AV→Heap→Esc→Prop}:wK none k=False:=(rfl)
theorem pK_ite {p:Prop} [Decidable p] {a b:Option AV} {k:AV→Prop}:pK (if p then a else b) k=if p then pK a k else pK b k:=by split <;> rfl
theorem wK_ite {p:Prop} [Decidable p] {a b:Option (AV × Heap × Esc)} {k:AV→Heap→Esc→Prop}:wK (if p then a else b) k=if p then wK a k else wK b k:=by split <;> rfl
theorem zuB {o o':Option AV} {k:AV→Prop} (h:o=o'):pK o k=pK o' k:=by rw[h]
theorem zvv {o o':Option (AV × Heap × Esc)} {k:AV→Heap→Esc→Prop} (h:o=o'):wK o k=wK o' k:=by rw[h]
theorem zui {v v':AV} {b:Bool} {h:Heap} {A:(AV→Heap→Esc→Prop)→Prop} {k:AV→Heap→Esc→Prop} (h1:v=v'):gV v b h A k=gV v' b h A k:=by rw[h1]
theorem zuh {v v':AV} {b:Bool} {o:Option AV} {h:Heap} {k:AV→Heap→Esc→Prop} (h1:v=v'):gP v b o h k=gP v' b o h k:=by rw[h1]
theorem zug {v v':AV} {b:Bool} {u:AV} {h:Heap} {k:AV→Heap→Esc→Prop} (h1:v=v'):gM v b u h k=gM v' b u h k:=by rw[h1]
section
variable {A:(AV→Heap→Esc→Prop)→Prop} {o:Option AV} {u:AV} {k:AV→Heap→Esc→Prop} {t b:Bool}
theorem gV_tt:gV (.p (.bool true)) true h A k=A k:=(rfl)
theorem gV_ff:gV (.p (.bool false)) false h A k=A k:=(rfl)
theorem gV_tf:gV (.p (.bool true)) false h A k=k .skp h []:=(rfl)
theorem gV_ft:gV (.p (.bool false)) true h A k=k .skp h []:=(rfl)
theorem zxk:gV .skp b h A k=k .skp h []:=(rfl)
theorem gV_any:gV (.p (.bool t)) b h A k=z2H (.p (.bool t)) b (A k) (k .skp h []):=(rfl)
theorem gP_tt:gP (.p (.bool true)) true o h k=pK o fun v=>k v h []:=(rfl)
theorem gP_ff:gP (.p (.bool false)) false o h k=pK o fun v=>k v h []:=(rfl)
theorem gP_tf:gP (.p (.bool true)) false o h k=k .skp h []:=(rfl)
theorem gP_ft:gP (.p (.bool false)) true o h k=k .skp h []:=(rfl)
theorem zxj:gP .skp b o h k=k .skp h []:=(rfl)
theorem gP_any:gP (.p (.bool t)) b o h k=z2H (.p (.bool t)) b (pK o fun v=>k v h []) (k .skp h []):=(rfl)
theorem gM_tt:gM (.p (.bool true)) true u h k=k u h []:=(rfl)
theorem gM_ff:gM (.p (.bool false)) false u h k=k u h []:=(rfl)
theorem gM_tf:gM (.p (.bool true)) false u h k=k .skp h []:=(rfl)
theorem gM_ft:gM (.p (.bool false)) true u h k=k .skp h []:=(rfl)
theorem zxi:gM .skp b u h k=k .skp h []:=(rfl)
theorem gM_any:gM (.p (.bool t)) b u h k=z2H (.p (.bool t)) b (k u h []) (k .skp h []):=(rfl)
end
section
variable {k k':IntKind} {a b:Int} {sa sb:List UInt8}
theorem zxD:oBin .add (.p (.int k a)) (.p (.int k b))=some (.p (.int k (k.wrap (a+b)))):=by simp [oBin,abin,aint]
theorem zxQ:oBin .sub (.p (.int k a)) (.p (.int k b))=some (.p (.int k (k.wrap (a-b)))):=by simp [oBin,abin,aint]
theorem zxK:oBin .mul (.p (.int k a)) (.p (.int k b))=some (.p (.int k (k.wrap (a*b)))):=by simp [oBin,abin,aint]
theorem zxM:oBin .quo (.p (.int k a)) (.p (.int k b))=if b=0 then none else some (.p (.int k (k.wrap (a.tdiv b)))):=by simp [oBin,abin,aint] <;> split <;> rfl
theorem zxN:oBin .rem (.p (.int k a)) (.p (.int k b))=if b=0 then none else some (.p (.int k (a.tmod b))):=by simp [oBin,abin,aint] <;> split <;> rfl
theorem zxE:oBin .and (.p (.int k a)) (.p (.int k b))=some (.p (.int k (iand k a b))):=by simp [oBin,abin,aint]
theorem bin_or:oBin .or (.p (.int k a)) (.p (.int k b))=some (.p (.int k (ior k a b))):=by simp [oBin,abin,aint]
theorem zxR:oBin .xor (.p (.int k a)) (.p (.int k b))=some (.p (.int k (ixor k a b))):=by simp [oBin,abin,aint]
theorem ziY:oBin .andNot (.p (.int k a)) (.p (.int k b))=some (.p (.int k (zju k a b))):=by simp [oBin,abin,aint]
theorem zxF:oBin .eql (.p (.int k a)) (.p (.int k b))=some (.p (.bool (decide (a=b)))):=by simp [oBin,abin,aint]
theorem zxL:oBin .neq (.p (.int k a)) (.p (.int k b))=some (.p (.bool (!decide (a=b)))):=by simp [oBin,abin,aint]
theorem zxJ:oBin .lss (.p (.int k a)) (.p (.int k b))=some (.p (.bool (decide (a<b)))):=by simp [oBin,abin,aint]
theorem zxI:oBin .leq (.p (.int k a)) (.p (.int k b))=some (.p (.bool (decide (a≤b)))):=by simp [oBin,abin,aint]
theorem zxH:oBin .gtr (.p (.int k a)) (.p (.int k b))=some (.p (.bool (decide (b<a)))):=by simp [oBin,abin,aint]
theorem zxG:oBin .geq (.p (.int k a)) (.p (.int k b))=some (.p (.bool (decide (b≤a)))):=by simp [oBin,abin,aint]
theorem zxO:oBin .shl (.p (.int k a)) (.p (.int k' b))=if b<0 then none else some (.p (.int k (ishl k a b))):=by simp [oBin,abin] <;> split <;> rfl
theorem zxP:oBin .shr (.p (.int k a)) (.p (.int k' b))=if b<0 then none else some (.p (.int k (ishr k a b))):=by simp [oBin,abin] <;> split <;> rfl
theorem zz2:oBin .add (.p (.str sa)) (.p (.str sb))=if sa.length+sb.length≤zeH then some (.p (.str (sa++sb))) else none:=by simp [oBin,abin,astr] <;> split <;> rfl
theorem zz3:oBin .eql (.p (.str sa)) (.p (.str sb))=some (.p (.bool (decide (sa=sb)))):=by simp [oBin,abin,astr]
theorem zz9:oBin .neq (.p (.str sa)) (.p (.str sb))=some (.p (.bool (!decide (sa=sb)))):=by simp [oBin,abin,astr]
theorem zz8:oBin .lss (.p (.str sa)) (.p (.str sb))=some (.p (.bool (Op.bytesLess sa sb))):=by simp [oBin,abin,astr]
theorem zz7:oBin .leq (.p (.str sa)) (.p (.str sb))=some (.p (.bool (Op.bytesLess sa sb||decide (sa=sb)))):=by simp [oBin,abin,astr]
theorem zz6:oBin .gtr (.p (.str sa)) (.p (.str sb))=some (.p (.bool (!(Op.bytesLess sa sb||decide (sa=sb))))):=by simp [oBin,abin,astr]
theorem zz4:oBin .geq (.p (.str sa)) (.p (.str sb))=some (.p (.bool (!Op.bytesLess sa sb))):=by simp [oBin,abin,astr]
theorem un_neg:oUn .neg (.p (.int k a))=some (.p (.int k (k.wrap (-a)))):=by simp [oUn,aun]
theorem un_not {t:Bool}:oUn .not (.p (.bool t))=some (.p (.bool !t)):=(rfl)
theorem convI {k':IntKind}:z75 k (.p (.int k' a))=some (.p (.int k (k.wrap a))):=(rfl)
theorem nilref {i j:Nat}:oNil (.ref i j)=some (.ref i j):=(rfl)
theorem zyQ {i j m n:Nat}:oNil (.rref i j m n)=some (.rref i j m n):=(rfl)
theorem nilvp {v:PV}:oNil (.vp v)=some (.vp v):=(rfl)
theorem nilfn {f:Nat} {cs:List AV}:oNil (.fn f cs)=some (.fn f cs):=(rfl)
theorem pick_b {t:Bool} {u v:AV}:z0G (.p (.bool t)) u v=some (bif t then u else v):=(rfl)
theorem len_sl {sh:Sh} {xs:List PV}:oLen (.p (.sl sh xs))=some (.p (.int .i64 xs.length)):=(rfl)
theorem zy9 {sh:Sh}:oLen (.sl0 sh)=some (.p (.int .i64 0)):=(rfl)
theorem zy8 {i g o l:Nat}:oLen (.own i g o l)=some (.p (.int .i64 l)):=(rfl)
theorem lens_s:zfV (.p (.str sa))=some (.p (.int .i64 sa.length)):=(rfl)
theorem ext_t {vs:List AV} {i:Nat}:oExt (.tup vs) i=vs[i]?:=(rfl)
theorem zoT {off i j:Nat} {sh:Sh}:z0d off sh (.ref i j)=some (.ref i (j+off)):=(rfl)
theorem zjl {off i j m n:Nat} {sh:Sh}:z0d off sh (.rref i j m n)=some (.rref i j m (n+off)):=(rfl)
theorem zuc {off:Nat} {sh:Sh} {v:PV}:z0d off sh (.vp v)=(cutP sh off v).map .vp:=(rfl)
theorem zyq {off:Nat} {sh:Sh} {cs:List PV}:zif off sh (.p (.agg cs))=(cutP sh off (.agg cs)).map .p:=(rfl)
theorem zyp {off:Nat} {sh:Sh} {cs:List AV}:zif off sh (.agg cs)=cut sh off cs:=(rfl)
def ldB (sh:Sh) (off:Nat):Option Obj→Option AV
 | some (.box cs)=>cut sh off cs
 | _=>none
def ldR (sh:Sh) (g i off:Nat):Option Obj→Option AV
 | some (.row _ xs _)=>if g=xs.length then ((xs[i]?).bind (cutP sh off)).map .p else none
 | _=>none
theorem zu1 {sh:Sh} {i j:Nat}:z0e sh (.ref i j) h=ldB sh j h[i]?:=by unfold z0e ldB;rfl
theorem zqd {sh:Sh} {i g m n:Nat}:z0e sh (.rref i g m n) h=ldR sh g m n h[i]?:=by unfold z0e ldR;rfl
theorem zqe {sh:Sh} {v:PV}:z0e sh (.vp v) h=(cutP sh 0 v).map .p:=(rfl)
theorem zy3 {sh:Sh} {off:Nat} {cs:List AV}:ldB sh off (some (.box cs))=cut sh off cs:=(rfl)
theorem zy4 {sh sh':Sh} {g i off fz:Nat} {xs:List PV}:ldR sh g i off (some (.row sh' xs fz))=if g=xs.length then ((xs[i]?).bind (cutP sh off)).map .p else none:=(rfl)
def stB (sh:Sh) (id off:Nat) (v:AV) (h:Heap):Option Obj→Option (List AV)→Option (AV × Heap × Esc)
 | some (.box cs),some vs=>if vs.length=z0a sh∧off+vs.length≤cs.length then some (.und,h.set id (.box (splice cs off vs)),escS id cs v) else none
 | _,_=>none
theorem zsF {sh:Sh} {i j:Nat} {v:AV}:z0m sh (.ref i j) v h=stB sh i j v h h[i]? v.cells:=by unfold z0m stB;rfl
theorem zzv {sh:Sh} {id off:Nat} {v:AV} {cs vs:List AV}:stB sh id off v h (some (.box cs)) (some vs)=if vs.length=z0a sh∧off+vs.length≤cs.length then some (.und,h.set id (.box (splice cs off vs)),escS id cs v) else none:=(rfl)
theorem escS_p {id:Nat} {cs:List AV} {v:PV}:escS id cs (.p v)=[]:=by
 unfold escS
 cases z7C cs&&decide (AV.top (.p v)≤AV.tops cs) <;> rfl
theorem ztX {id:Nat} {cs:List AV} {v:AV} (h:z7C cs=false):escS id cs v=z2a id v:=by
 unfold escS
 rw[h]
 rfl
theorem zy1 {a:AV} {v:PV}:z7C [a,.p v]=false:=(rfl)
theorem zpq {a:AV} {s:Sh}:z7C [a,.sl0 s]=false:=(rfl)
theorem zpp {a:AV} {i j k l:Nat}:z7C [a,.own i j k l]=false:=(rfl)
theorem zjv {a:AV}:z7C [a,.nilp]=false:=(rfl)
theorem zyy:z7C []=false:=(rfl)
theorem zyz {a:AV}:z7C [a]=false:=(rfl)
theorem zy0 {a b c:AV} {l:List AV}:z7C (a::b::c::l)=false:=by unfold z7C;split <;> first | rfl | (rename_i h;simp at h)
theorem zoJ {id t n m:Nat} {a:AV}:escS id [a,.bt 1 t (id+1) n] (.ref id m)=[]:=by
 unfold escS
 have e:decide (AV.top (.ref id m)≤AV.tops [a,.bt 1 t (id+1) n])=true:=by simp [AV.top,AV.tops];omega
 rw[e]
 rfl
theorem ztY {id t t' i n n':Nat} {a:AV}:escS id [a,.bt 1 t i n] (.bt 1 t' i n')=[]:=by
 unfold escS
 have e:decide (AV.top (.bt 1 t' i n')≤AV.tops [a,.bt 1 t i n])=true:=by simp [AV.top,AV.tops];omega
 rw[e]
 rfl
def stE (sh:Sh) (id i off fz:Nat) (rsh:Sh) (xs:List PV) (v:PV) (h1:Heap):Option PV→Option (AV × Heap × Esc)
 | some (.agg cs)=>if off+v.cells.length≤cs.length then some (.und,h1.set id (.row rsh (xs.set i (.agg (splice cs off v.cells))) fz),[]) else none
 | some _=>if off=0∧v.sc then some (.und,h1.set id (.row rsh (xs.set i v) fz),[]) else none
 | none=>none
def stO (sh:Sh) (id g i off:Nat) (v:PV) (h1:Heap):Option Obj→Option (AV × Heap × Esc)
 | some (.row rsh xs fz)=>if g=xs.length∧fz≤i∧v.cells.length=z0a sh∧v.cells.all PV.sc then stE sh id i off fz rsh xs v h1 xs[i]? else none
 | _=>none
def stR (sh:Sh) (id g i off:Nat):Option (PV × Heap)→Option (AV × Heap × Esc)
 | some y=>stO sh id g i off y.1 y.2 y.2[id]?
 | none=>none
theorem zjR {sh:Sh} {id g i off:Nat} {x:AV}:z0m sh (.rref id g i off) x h=stR sh id g i off (pur h x):=by
 unfold z0m stR
 cases pur h x with
 | none=>rfl
 | some y=>
  obtain⟨v,h1⟩:=y
  dsimp only
  unfold stO
  cases h1[id]? with
  | none=>rfl
  | some o=>cases o <;> rfl
theorem zvd {sh:Sh} {id g i off:Nat} {v:PV} {h1:Heap}:stR sh id g i off (some (v,h1))=stO sh id g i off v h1 h1[id]?:=(rfl)
theorem zzz {sh rsh:Sh} {id g i off fz:Nat} {v:PV} {h1:Heap} {xs:List PV}:stO sh id g i off v h1 (some (.row rsh xs fz))=if g=xs.length∧fz≤i∧v.cells.length=z0a sh∧v.cells.all PV.sc then stE sh id i off fz rsh xs v h1 xs[i]? else none:=(rfl)
theorem zzw {sh rsh:Sh} {id i off fz:Nat} {v:PV} {h1:Heap} {xs cs:List PV}:stE sh id i off fz rsh xs v h1 (some (.agg cs))=if off+v.cells.length≤cs.length then some (.und,h1.set id (.row rsh (xs.set i (.agg (splice cs off v.cells))) fz),[]) else none:=(rfl)
theorem zzx {sh rsh:Sh} {id i off fz:Nat} {v:PV} {h1:Heap} {xs:List PV} {k:IntKind} {n:Int}:stE sh id i off fz rsh xs v h1 (some (.int k n))=if off=0∧v.sc then some (.und,h1.set id (.row rsh (xs.set i v) fz),[]) else none:=(rfl)
theorem zvb {sh rsh:Sh} {id i off fz:Nat} {v:PV} {h1:Heap} {xs:List PV} {t:Bool}:stE sh id i off fz rsh xs v h1 (some (.bool t))=if off=0∧v.sc then some (.und,h1.set id (.row rsh (xs.set i v) fz),[]) else none:=(rfl)
theorem zzy {sh rsh:Sh} {id i off fz:Nat} {v:PV} {h1:Heap} {xs:List PV} {s:List UInt8}:stE sh id i off fz rsh xs v h1 (some (.str s))=if off=0∧v.sc then some (.und,h1.set id (.row rsh (xs.set i v) fz),[]) else none:=(rfl)
theorem stE_sl {sh rsh:Sh} {id i off fz:Nat} {v:PV} {h1:Heap} {xs:List PV} {sh':Sh} {ys:List PV}:stE sh id i off fz rsh xs v h1 (some (.sl sh' ys))=if off=0∧v.sc then some (.und,h1.set id (.row rsh (xs.set i v) fz),[]) else none:=(rfl)
theorem zvc {sh rsh:Sh} {id i off fz:Nat} {v:PV} {h1:Heap} {xs:List PV}  : stE sh id i off fz rsh xs v h1 (some .nilp)=if off=0∧v.sc then some (.und,h1.set id (.row rsh (xs.set i v) fz),[]) else none:=(rfl)
theorem pur_p {v:PV}:pur h (.p v)=some (v,h):=(rfl)
def iaS (xs:List PV):Option Nat→Option AV
 | some k=>(xs[k]?).map .vp
 | none=>none
theorem zur {sh:Sh} {xs:List PV} {i:AV}:z0r sh (.p (.sl sh xs)) i h=iaS xs (z0N i):=by
 unfold z0r iaS;cases z0N i <;> simp
theorem zuo {xs:List PV} {n:Nat}:iaS xs (some n)=(xs[n]?).map .vp:=(rfl)
def iaO (sh:Sh) (id g off len:Nat):Option Obj→Option Nat→Option AV
 | some (.row rsh xs _),some k=>if rsh=sh∧g=xs.length∧off+len≤xs.length∧k<len then some (.rref id g (off+k) 0) else none
 | _,_=>none
theorem zpm {sh:Sh} {id g off len:Nat} {i:AV}:z0r sh (.own id g off len) i h=iaO sh id g off len h[id]? (z0N i):=by
 unfold z0r iaO
 cases z0N i with
 | none=>dsimp only;cases h[id]? with
  | none=>rfl
  | some o=>cases o <;> rfl
 | some k=>dsimp only;cases h[id]? with
  | none=>rfl
  | some o=>cases o <;> rfl
theorem zyv {sh rsh:Sh} {id g off len k fz:Nat} {xs:List PV}:iaO sh id g off len (some (.row rsh xs fz)) (some k)=if rsh=sh∧g=xs.length∧off+len≤xs.length∧k<len then some (.rref id g (off+k) 0) else none:=(rfl)
theorem idxs_s {i:AV}:zcd (.p (.str sa)) i=(z0N i).bind fun n=>(sa[n]?).map fun b=>.p (.int .u8 b.toNat):=by
 unfold zcd;cases z0N i <;> rfl
end
theorem zwa {z:List AV} {k:AV→Heap→Esc→Prop}:alK z h k=k (.ref h.length 0) (h++[.box z]) []:=(rfl)
theorem zxn {sh:Sh} {k:AV→Heap→Esc→Prop}:nwK sh h k=k (.own h.length 0 0 0) (h++[.row sh [] 0]) []:=(rfl)
theorem zxl {k:AV→Heap→Esc→Prop}:mmK h k=k (.mp h.length) (h++[.amap [] 0]) []:=(rfl)
theorem zjd {A B:Prop}:zm2 (.p (.bool true)) A B=A:=(rfl)
theorem zfH {A B:Prop}:zm2 (.p (.bool false)) A B=B:=(rfl)
theorem zm3 {A B:Prop}:zm2 .anyb A B=(A∧B):=(rfl)
theorem zjC {h:Heap}:z03 [] h=([],h):=(rfl)
theorem zjD {h:Heap} {s:Sh} {r:List AV}:z03 (.sl0 s::r) h=(.own h.length 0 0 0::(z03 r (h++[.row s [] 0])).1,(z03 r (h++[.row s [] 0])).2):=(rfl)
theorem zuP {h:Heap} {v:PV} {r:List AV}:z03 (.p v::r) h=(.p v::(z03 r h).1,(z03 r h).2):=(rfl)
attribute [go_sem] zjC zjD zuP
theorem zsh {h:Heap}:z0X [] h=([],h):=(rfl)
theorem zsk {h:Heap} {s:Sh} {r:List AV}:z0X (.sl0 s::r) h=(.own h.length 0 0 0::(z0X r (h++[.row s [] 0])).1,(z0X r (h++[.row s [] 0])).2):=(rfl)
theorem zzj {h:Heap} {v:PV} {r:List AV}:z0X (.p v::r) h=(.p v::(z0X r h).1,(z0X r h).2):=(rfl)
theorem zsj {h:Heap} {i o:Nat} {r:List AV}:z0X (.ref i o::r) h=(.ref i o::(z0X r h).1,(z0X r h).2):=(rfl)
theorem zsi {h:Heap} {i o g l:Nat} {r:List AV}:z0X (.own i o g l::r) h=(.own i o g l::(z0X r h).1,(z0X r h).2):=(rfl)
theorem zuO {h:Heap} {i:Nat} {r:List AV}:z0X (.mp i::r) h=(.mp i::(z0X r h).1,(z0X r h).2):=(rfl)
attribute [go_sem] zsh zsk zzj zsj zsi zuO
def ldAr (sh:Sh) (off g:Nat):Option Obj→Option AV
 | some (.arow rsh cs)=>if g*z0a rsh=cs.length then cut sh off cs else none
 | _=>none
theorem zyD {sh:Sh} {off id g:Nat}:z0e sh (.bt 4 off id g) h=ldAr sh off g h[id]?:=by
 show ldA sh 4 off id g h=_
 unfold ldA ldAr
 rfl
theorem zpX {sh rsh:Sh} {off g:Nat} {cs:List AV}:ldAr sh off g (some (.arow rsh cs))=if g*z0a rsh=cs.length then cut sh off cs else none:=(rfl)
def stAr (sh:Sh) (off id g:Nat) (x:AV) (h:Heap):Option Obj→Option (List AV)→Option (AV × Heap × Esc)
 | some (.arow rsh cs),some vs=>if g*z0a rsh=cs.length∧vs.length=z0a sh∧off+vs.length≤cs.length then some (.und,h.set id (.arow rsh (splice cs off vs)),z2a id x) else none
 | _,_=>none
theorem zvg {sh:Sh} {off id g:Nat} {x:AV}:z0m sh (.bt 4 off id g) x h=stAr sh off id g x h h[id]? x.cells:=by
 show stA sh 4 off id g x h=_
 unfold stA stAr
 rfl
theorem zsB {sh rsh:Sh} {off id g:Nat} {x:AV} {cs vs:List AV}:stAr sh off id g x h (some (.arow rsh cs)) (some vs)=if g*z0a rsh=cs.length∧vs.length=z0a sh∧off+vs.length≤cs.length then some (.und,h.set id (.arow rsh (splice cs off vs)),z2a id x) else none:=(rfl)
def iaAr (sh:Sh) (id g:Nat):Option Obj→Option Nat→Option AV
 | some (.arow rsh cs),some i=>if rsh=sh∧g*z0a rsh=cs.length∧i<g then some (.bt 4 (i*z0a sh) id g) else none
 | _,_=>none
theorem zup {sh:Sh} {t id g:Nat} {i:AV}:z0r sh (.bt 3 t id g) i h=iaAr sh id g h[id]? (z0N i):=by
 unfold z0r iaAr
 cases z0N i with
 | none=>cases h[id]? with
  | none=>rfl
  | some o=>cases o <;> rfl
 | some k=>
  show iaA sh 3 id g k h=_
  unfold iaA
  cases h[id]? with
  | none=>rfl
  | some o=>cases o <;> rfl
theorem zpl {sh rsh:Sh} {id g i:Nat} {cs:List AV}:iaAr sh id g (some (.arow rsh cs)) (some i)=if rsh=sh∧g*z0a rsh=cs.length∧i<g then some (.bt 4 (i*z0a sh) id g) else none:=(rfl)
theorem zua {off o id g:Nat} {sh:Sh}:z0d off sh (.bt 4 o id g)=some (.bt 4 (o+off) id g):=(rfl)
theorem len_bt {t id g:Nat}:oLen (.bt 3 t id g)=some (.p (.int .i64 g)):=(rfl)
theorem nil_bt {o id g:Nat}:oNil (.bt 4 o id g)=some (.bt 4 o id g):=(rfl)
def apAr (sh:Sh) (h:Heap) (t id g g':Nat):Option Obj→Option Obj→Option (AV × Heap × Esc)
 | some (.arow rsh cs),some (.arow rsh' ds)=>if rsh=sh∧rsh'=sh∧g*z0a sh=cs.length∧g'*z0a sh=ds.length∧g+g'≤z1c then
  some (.bt 3 t id (g+g'),h.set id (.arow sh (cs++ds)),bif decide (id<AV.tops ds) then [(id,AV.tops ds)] else []) else none
 | _,_=>none
theorem apA_bt {sh:Sh} {t id g t' id' g':Nat}:apA sh h (.bt 3 t id g) (.bt 3 t' id' g')=apAr sh h t id g g' h[id]? h[id']?:=by
 show (match h[id]?,h[id']? with | _,_=>_)=_
 unfold apAr
 rfl
theorem zmc {sh rsh rsh':Sh} {t id g g':Nat} {cs ds:List AV}:apAr sh h t id g g' (some (.arow rsh cs)) (some (.arow rsh' ds))=if rsh=sh∧rsh'=sh∧g*z0a sh=cs.length∧g'*z0a sh=ds.length∧g+g'≤z1c then
 some (.bt 3 t id (g+g'),h.set id (.arow sh (cs++ds)),bif decide (id<AV.tops ds) then [(id,AV.tops ds)] else []) else none:=(rfl)
theorem zsl {h:Heap} {k t i g:Nat} {r:List AV}:z03 (.bt k t i g::r) h=(.bt 3 t h.length 0::(z03 r (h++[.arow (z2j t) []])).1,(z03 r (h++[.arow (z2j t) []])).2):=(rfl)
theorem zyd:z2j 0=none:=(rfl)
theorem zye {n:Nat}:z2j (n+1)=some n:=(rfl)
attribute [go_sem] zyD zpX zvg zsB zup zpl zua len_bt nil_bt apA_bt zmc zsl zyd zye
attribute [go_sem] z9Z zfk ziz z54 z8r zax ztl zqw zqv zsT zsS pK_ite wK_ite gV_tt gV_ff gV_tf gV_ft zxk gP_tt gP_ff gP_tf gP_ft zxj gM_tt gM_ff gM_tf gM_ft zxi zxD zxQ zxK zxM zxN zxE bin_or zxR ziY zxF zxL zxJ zxI zxH zxG zxO zxP zz2 zz3 zz9 zz8 zz7 zz6 zz4 un_neg un_not convI nilref zyQ nilvp nilfn pick_b len_sl zy9 zy8 lens_s ext_t zoT zjl zuc zyq zyp zu1 zqd zqe zy3 zy4 zsF zzv zjR zvd zzz zzw zzx zvb zzy stE_sl zvc pur_p escS_p ztX zy1 zpq zpp zjv zyy zyz zy0 zoJ ztY zur zuo zpm zyv idxs_s zwa zxn zxl z2v zzp upcB neqB lenB n64 ztA strB appB rds rd oBox z07 zoU oBsl zoV oEqa zbm z74 zjd zfH zm3 zqn oMkif okIn zj4 zyT bndV zig z5g z4k zu7 oApp oCopy oClr oMx oMn z0L z1v oMent zqp z3B zyS z3D z3C
attribute [go_sem ↓] zqw zqv zsT zsS gV_tt gV_ff gV_tf gV_ft zxk gP_tt gP_ff gP_tf gP_ft zxj gM_tt gM_ff gM_tf gM_ft zxi za4 z85 zi8 zi5 zi7 zi6 zfu z9Z zfk ziz z54 z8r zax zwa zxn zxl z72 zbh zeF zfh z9u zhK
attribute [go_sem low] gV_any gP_any gM_any zfA
attribute [congr] zjM zdb ztk zf3 zuB zvv zui zuh zug
end Go.Am
end
section
/- The abstract machine,part X: the library's functions that have no Go text: comparing strings,finding a byte. -/
set_option linter.unusedSimpArgs false
set_option linter.unusedVariables false
namespace Go.Am
variable {P:Program}
structure ExtRow (P:Program) (f:Nat) (e:Array Value→Sem Value):Prop where
 row:∃ fn,P.funcs[f]?=some fn∧fn.name ≠ "runtime.NumGoroutine" ∧ fn.body=none∧Extern.findNext fn=none∧Extern.find fn=some e
theorem ExtRow.run {f:Nat} {e:Array Value→Sem Value} (R:ExtRow P f e) {us:Array Value} {w w':World} {x:Value} (he:(e us).run P w = .ok x w'):(callFunc f us).run P w = .ok (.value x) w':=by
 obtain⟨fn,h1,h2,h3,h4,h5⟩:=R.row
 unfold callFunc
 simp [h1,h2,h3,h4,h5,he]
theorem extRow_of {f:Nat} {e:Array Value→Sem Value} (h:(match P.funcs[f]? with | some fn=>fn.name != "runtime.NumGoroutine" && fn.body.isNone&&(Extern.findNext fn).isNone | none=>false)=true) (h2:(P.funcs[f]?).bind Extern.find=some e):ExtRow P f e:=by
 cases hf:P.funcs[f]? with
 | none=>rw[hf] at h;cases h
 | some fn=>
  rw[hf] at h h2
  simp only[Bool.and_eq_true,bne_iff_ne,ne_eq,Option.isNone_iff_eq_none] at h
  exact⟨⟨fn,hf,h.1.1,h.1.2,h.2,h2⟩⟩
def idxB (s:List UInt8) (c:UInt8):Int:=if s.findIdx (· == c)<s.length then (s.findIdx (· == c):Int) else -1
def cmpL:List UInt8→List UInt8→Int
 | [],[]=>0
 | [],_::_=>-1
 | _::_,[]=>1
 | a::asv,b::bs=>if a<b then -1 else if b<a then 1 else cmpL asv bs
theorem zwb (s:List UInt8) (i:Nat):(⟨s.toArray⟩:ByteArray)[i]! = s.getD i 0:=by
 by_cases h:i<s.length
 ·rw[getElem!_pos (⟨s.toArray⟩:ByteArray) i h]
  show s.toArray[i]=_
  simp [h]
 ·rw[getElem!_neg (⟨s.toArray⟩:ByteArray) i h]
  simp [Nat.not_lt.1 h]
  rfl
theorem zue (s:List UInt8) (c:UInt8):(match (List.range (⟨s.toArray⟩:ByteArray).size).find? fun i=>(⟨s.toArray⟩:ByteArray)[i]! == c with
 | some i=>(i:Int)
 | none=>-1)=idxB s c:=by
 have hsz:(⟨s.toArray⟩:ByteArray).size=s.length:=rfl
 have hget:∀ i,i<s.length→(⟨s.toArray⟩:ByteArray)[i]! = s.getD i 0:=by
  intro i hi
  exact zwb s i
 unfold idxB
 rw[hsz]
 by_cases h:s.findIdx (· == c)<s.length
 ·rw[if_pos h]
  have hf:(List.range s.length).find? (fun i=>(⟨s.toArray⟩:ByteArray)[i]! == c)=some (s.findIdx (· == c)):=by
   rw[List.find?_eq_some_iff_getElem]
   refine⟨?_,s.findIdx (· == c),by simpa using h,by simp,fun j hj=>?_⟩
   ·rw[hget _ h]
    have:=List.findIdx_getElem (w:=h)
    simpa [h] using this
   ·simp only[List.getElem_range]
    have hj':j<s.length:=by omega
    rw[hget _ hj']
    have:=List.not_of_lt_findIdx hj
    simpa [hj'] using this
  rw[hf]
 ·rw[if_neg h]
  have hf:(List.range s.length).find? (fun i=>(⟨s.toArray⟩:ByteArray)[i]! == c)=none:=by
   rw[List.find?_eq_none]
   intro i hi
   rw[List.mem_range] at hi
   rw[hget _ hi]
   intro hc
   exact h (List.findIdx_lt_length_of_exists ⟨s[i],List.getElem_mem hi,by simpa [hi] using hc⟩)
  rw[hf]
theorem zt3:∀ (a b:List UInt8),Extern.BytealgCompare.cmp ⟨a.toArray⟩ ⟨b.toArray⟩=cmpL a b:=by
 have key:∀ (a b:List UInt8),(match (List.range (min a.length b.length)).find? fun i=>a.getD i 0 != b.getD i 0 with
  | some i=>if a.getD i 0<b.getD i 0 then (-1:Int) else 1
  | none=>if a.length<b.length then -1 else if a.length>b.length then 1 else 0)=cmpL a b:=by
  intro a
  induction a with
  | nil=>intro b;cases b <;> simp [cmpL]
  | cons x a ih=>
   intro b
   cases b with
   | nil=>simp [cmpL]
   | cons y b=>
    have hm:min (x::a).length (y::b).length=min a.length b.length+1:=by simp only[List.length_cons];omega
    rw[hm,List.range_succ_eq_map,List.find?_cons]
    simp only[List.getD_cons_zero]
    by_cases hxy:x=y
    ·subst hxy
     have hlt:¬ x<x:=UInt8.lt_irrefl x
     simp only[bne_self_eq_false,List.find?_map,cmpL,hlt,if_false]
     rw[← ih b]
     have hc:((fun i=>(x::a).getD i 0 != (x::b).getD i 0) ∘ Nat.succ)=fun i=>a.getD i 0 != b.getD i 0:=by
      funext i;simp
     rw[hc]
     cases (List.range (min a.length b.length)).find? fun i=>a.getD i 0 != b.getD i 0 with
     | none=>simp
     | some i=>simp
    ·have:(x != y)=true:=by simpa using hxy
     rw[this]
     simp only[cmpL,List.getD_cons_zero]
     by_cases h1:x<y
     ·simp [h1]
     ·have h2:y<x:=by
       rcases UInt8.lt_or_lt_of_ne (a:=x) (b:=y) hxy with h | h
       ·exact absurd h h1
       ·exact h
      simp [h1,h2]
 intro a b
 rw[← key a b]
 unfold Extern.BytealgCompare.cmp
 have sa:(⟨a.toArray⟩:ByteArray).size=a.length:=rfl
 have sb:(⟨b.toArray⟩:ByteArray).size=b.length:=rfl
 simp only[sa,sb,zwb]
 generalize List.find? _ _=q
 cases q <;> rfl
def extF (fi fc:Nat) (f:Nat) (vs:List PV):Option PV:=
 bif Nat.beq f fi then (match vs with
  | [.str s,.int .u8 c]=>some (.int .i64 (idxB s (UInt8.ofNat c.toNat)))
  | _=>none)
 else bif Nat.beq f fc then (match vs with
  | [.str a,.str b]=>some (.int .i64 (cmpL a b))
  | _=>none)
 else none
theorem extF_ok {fi fc:Nat} (h1:ExtRow P fi Extern.BytealgIndexByte.indexByte) (h2:ExtRow P fc Extern.BytealgCompare.compare) {f:Nat} {vs:List PV} {r:PV} (h:extF fi fc f vs=some r):ExtOk P f vs r:=by
 intro M w us hM hl hr
 unfold extF at h
 cases e1:Nat.beq f fi with
 | true=>
  rw[e1] at h
  have e:=Nat.eq_of_beq_eq_true e1
  subst e
  simp only[cond_true] at h
  split at h
  ·rename_i s c
   injection h with h
   subst h
   match us,hl with
   | [u,v],_=>
    have q1:=hr 0 _ u rfl rfl
    have q2:=hr 1 _ v rfl rfl
    cases q1;cases q2
    refine⟨.int .i64 (idxB s (UInt8.ofNat c.toNat)),w,h1.run ?_,WExt.refl w,.int _ _⟩
    rw[← zue]
    show (match (List.range (⟨s.toArray⟩:ByteArray).size).find? fun i=>(⟨s.toArray⟩:ByteArray)[i]! == UInt8.ofNat c.toNat with | some i=>(pure (goInt i):Sem Value) | none=>pure (goInt (-1))).run P w=_
    generalize List.find? _ _=q
    cases q <;> rfl
  ·cases h
 | false=>
  rw[e1] at h
  simp only[cond_false] at h
  cases e2:Nat.beq f fc with
  | true=>
   rw[e2] at h
   have e:=Nat.eq_of_beq_eq_true e2
   subst e
   simp only[cond_true] at h
   split at h
   ·rename_i a b
    injection h with h
    subst h
    match us,hl with
    | [u,v],_=>
     have q1:=hr 0 _ u rfl rfl
     have q2:=hr 1 _ v rfl rfl
     cases q1;cases q2
     refine⟨.int .i64 (cmpL a b),w,h2.run ?_,WExt.refl w,.int _ _⟩
     rw[← zt3]
     rfl
   ·cases h
  | false=>rw[e2] at h;cases h
theorem zhB {X:Ctx} {f:Nat} {asv:List AV} {vs:List PV} {h h1:Heap} {r:PV} {K:Post} (hf:X.fn f=none) (h2:X.ex2 f asv h=none) (hp:z0t h asv=some (vs.map .p,h1)) (hu:unp (vs.map AV.p)=some vs) (hx:X.ext f vs=some r):z0c X f asv h K=K (.p r) h1 []:=by
 refine propext (z0c.eq (z0c.fold ?_) K)
 unfold Step
 simp only[hf,h2,hp,hu,hx]
 exact⟨trivial,trivial,trivial⟩
structure GrowRow (P:Program) (f:Nat) (sh:Sh):Prop where
 enter:∀ us w,(callFunc f us).run P w = .ok (.enter f us) w
 room:∀ a w,Calls P f #[.slice a 0 0,.int .i64 0] w fun e w'=>e = .returned (.slice a 0 0)∧w'=w
 grow:∀ a (n:Nat) w,0<n→n≤1048576→Calls P f #[.slice a 0 0,.int .i64 n] w fun e w'=>∃ G cs E,e = .returned (.slice (some ⟨w.heap.size,0,none⟩) 0 G)∧cs.size=G*z0a sh∧w'=w.drew.alloc (.cells cs E)
def zjt:List (Nat × Sh)→Nat→List AV→Heap→Option (AV × Heap × Esc)
 | [],_,_,_=>none
 | (g,sh)::r,f,asv,h=>bif Nat.beq f g then (match asv with
  | [.sl0 _,.p (.int .i64 n)]=>bif decide (0≤n)&&decide (n≤1048576) then some (.own h.length 0 0 0,h++[.row sh [] 0],[]) else none
  | _=>none) else zjt r f asv h
theorem zhS {gl:Nat→Option PV}:∀ (gs:List (Nat × Sh)),(∀ g sh,(g,sh)∈gs→GrowRow P g sh)→∀ {f:Nat} {asv:List AV} {h:Heap} {v:AV} {h':Heap} {x:Esc},zjt gs f asv h=some (v,h',x) →
 z1y P gl f asv h fun v1 h1 x1=>v1=v∧h1=h'∧x1=x
 | [],_,f,asv,h,v,h',x,H=>by cases H
 | (g,sh)::r,hg,f,asv,h,v,h',x,H=>by
  unfold zjt at H
  cases e1:Nat.beq f g with
  | false=>
   rw[e1] at H
   exact zhS r (fun g sh hm=>hg g sh (by simp [hm])) H
  | true=>
   rw[e1] at H
   have e:=Nat.eq_of_beq_eq_true e1
   subst e
   have R:=hg f sh (by simp)
   simp only[cond_true] at H
   split at H
   ·rename_i sh' n
    cases hb:(decide (0≤n)&&decide (n≤1048576)) with
    | false=>rw[hb] at H;cases H
    | true=>
     rw[hb] at H
     simp only[cond_true,Option.some.injEq,Prod.mk.injEq] at H
     obtain⟨rfl,rfl,rfl⟩:=H
     simp only[Bool.and_eq_true,decide_eq_true_eq] at hb
     intro μ w vs Hh Hg hl hr
     match vs,hl with
     | [u1,u2],_=>
      have q1:=hr 0 _ u1 rfl rfl
      have q2:=(hr 1 _ u2 rfl rfl).p_inv
      cases q1
      cases q2
      obtain⟨m,hm⟩:=Int.eq_ofNat_of_zero_le hb.1
      subst hm
      refine .inl ⟨R.enter _,?_⟩
      rcases Nat.eq_zero_or_pos m with h0 | h0
      ·subst h0
       refine (R.room _ w).mono fun e w' he=>?_
       obtain⟨rfl,rfl⟩:=he
       obtain⟨n1,n2⟩:=zbl Hh sh
       refine⟨_,_,_,_,⟨rfl,rfl,rfl⟩,?_,n1,n2,z0i.push (by simp [Obj.top])⟩
       exact .own h.length 0 0 0 _ 0 sh [] 0 none (Nat.le_refl _) (by simp) (by rw[← Hh.len];simp) (by simp) (by simp) (fun _=>rfl)
      ·refine (R.grow _ m w h0 (by omega)).mono fun e w' he=>?_
       obtain⟨G,cs,E,rfl,hcs,rfl⟩:=he
       have hw:WExt w (w.drew.alloc (.cells cs E)):=(WExt.drew w _).trans (WExt.push _ _)
       obtain⟨n1,n2⟩:=z5n (sh:=sh) (xs:=[]) Hh hw (b:=w.heap.size) (n:=cs.size) (Nat.le_refl _) (by show w.heap.size<(w.heap.push _).size;simp) (c:=cs) (z0H.push (w:=w.drew) cs E) (by simp) (by simp) (by simp)
       refine⟨_,_,_,_,⟨rfl,rfl,rfl⟩,?_,n1,n2,z0i.push (by simp [Obj.top])⟩
       refine .own h.length 0 0 0 _ G sh [] 0 (some (w.heap.size,cs.size)) (Nat.zero_le _) (by simp) (by rw[← Hh.len];simp) (by simp) (by simp) (fun _=>?_)
       exact .inr ⟨by simp,by simp [hcs]⟩
   ·cases H
end Go.Am
end
section
/- Short words for the printed code. -/
set_option linter.all false
namespace Go.Am
instance {n:Nat}:OfNat Opd n:=⟨.t n⟩
abbrev GL:=Nat→Option PV
abbrev KT:=Ex→St→Prop
def cI (n:Int):Opd:=.c (.p (.int .i64 n))
def cT:Opd:=.c (.p (.bool true))
def cF:Opd:=.c (.p (.bool false))
def cS (s:List UInt8):Opd:=.c (.p (.str s))
def uO (d:Nat) (o:AO):AOp:=⟨some d,none,o⟩
def wO (o:AO):AOp:=⟨none,none,o⟩
def gD (d g:Nat) (b:Bool) (o:AO):AOp:=⟨some d,some (g,b),o⟩
def mV (d:Nat) (x:Opd):AOp:=⟨some d,none,.mv x⟩
def bN (d:Nat) (b:BinOp) (x y:Opd):AOp:=⟨some d,none,.bin b x y⟩
def cL (d f:Nat) (l:List Opd):AOp:=⟨some d,none,.call f l⟩
def lD (d:Nat) (s:Sh) (x:Opd):AOp:=⟨some d,none,.load s x⟩
def iA (d:Nat) (s:Sh) (x y:Opd):AOp:=⟨some d,none,.iaddr s x y⟩
def fA (d o:Nat) (s:Sh) (x:Opd):AOp:=⟨some d,none,.faddr o s x⟩
def lN (d:Nat) (x:Opd):AOp:=⟨some d,none,.len x⟩
def eX (d:Nat) (x:Opd) (i:Nat):AOp:=⟨some d,none,.ext x i⟩
def dF (o:AOp) (l:List Nat):DOp:=⟨o,l,false,[],[]⟩
def dT (o:AOp) (l:List Nat):DOp:=⟨o,l,true,[],[]⟩
def dA (o:AOp) (l:List Nat) (e:Bool) (a b:List Nat):DOp:=⟨o,l,e,a,b⟩
def rg (l:List AOp) (k:List Nat):ACode:=.reg l (some k)
def dr (l:List DOp) (k:List Nat):ACode:=.draw l (some k)
end Go.Am
end
