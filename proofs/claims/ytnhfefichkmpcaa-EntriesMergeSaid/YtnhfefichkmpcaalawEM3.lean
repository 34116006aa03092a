/- Texts of the proof, laid together: Am21, Am22, Am23, Am24, Am25, Am26, Am27, Am28, Am29, Am30. -/
import Derived.Below
import Derived.ChangeSlices
import Derived.Carry
import Derived.Test.YtnhfefichkmpcaalawEM2
set_option linter.all false
section
/- The abstract machine,part 21: code. -/
set_option linter.unusedSimpArgs false
set_option linter.unusedVariables false
set_option maxHeartbeats 1000000
namespace Go.Am
variable {h h':aA} {μ μ':Mu} {w w':World} {P:Program} {M M':Mem}
variable {gl:Nat→Option PV} {nt:Nat} {M0:Mem} {h0:aA} {μ0:Mu} {e:List (Nat × AV)} {x:Esc} {a:Act}
theorem zhb (H:HeapRel h μ w){id:Nat}{o:Obj}(ho:h[id]?=some o):o.top≤h.length:=by
 obtain⟨m,hm,hO⟩:=nF H ho;cases o with
 | box cs=>
  obtain⟨b,c,rfl,hb,hc⟩:=hO;exact vY H hc
 | row sh xs fz=>simp [Obj.top]
 | amap es c=>
  obtain⟨b,n,ces,rfl,h1,h2,_,h3⟩:=hO;refine LH (fun j y hy=>?_)
  simp only[List.getElem?_map,Option.map_eq_some_iff]at hy;obtain⟨en,he,rfl⟩:=hy;have hj:j<ces.size:=by rw[h2];exact NA he
  exact(h3 j en ces[j] he (Array.getElem?_eq_getElem hj)).2.2.1.top_le
 | iter mm s seen l=>
  obtain⟨b,n,rfl,h1⟩:=hO;cases mm with
  | none=>simp [Obj.top]
  | some i=>
   obtain⟨bm,nm,es,c,h2,h3,h4⟩:=h1;simp only[Obj.top];exact NA h3
 | arow sh cs=>
  obtain⟨h1,h2⟩:=hO;cases m with
  | none=>subst h2;simp [Obj.top,AV.tops]
  | some m=>
   obtain⟨b,n⟩:=m;obtain⟨c,c1,c2,c3⟩:=h2;refine LH (fun j y hy=>?_)
   obtain⟨v,_,q⟩:=c3 j y hy;exact q.top_le
theorem OV (H:HeapRel h μ w)(id:Nat):qF h id≤h.length:=by
 unfold qF;split
 ·exact zhb H ‹_›
 ·omega
theorem z8F (y:Esc)(n:Nat):n≤lL y n:=by
 unfold lL;induction y generalizing n with
 | nil=>simp
 | cons p r ih=>
  simp only[List.foldl_cons];split
  ·exact Nat.le_trans (by omega) (ih _)
  ·exact ih _
theorem FN:∀ (k:Nat)(y:Esc)(n:Nat),n≤close k y n
 | 0,y,n=>Nat.le_refl _
 | k+1,y,n=>Nat.le_trans (z8F y n) (FN k y _)
theorem Evo.take {M'':Mem}(E:Evo M h μ M' h' μ'){n:Nat}(hn:h.length≤n)(L:M'.le M''):Evo M h μ M'' (h'.take n) (μ'.take n):=by
 refine⟨⟨fun b o v hv=>L.c _ _ _ (E.le.c _ _ _ hv),fun b o hv=>L.b _ _ (E.le.b _ _ hv),L.z.trans E.le.z,fun b t h=>L.s _ _ (E.le.s _ _ h)⟩,by have:=E.len;simp;omega,fun id o m h1 h2=>?_⟩
 obtain⟨o',m',h3,h4,h5⟩:=E.obj id o m h1 h2;have hi:id<n:=Nat.lt_of_lt_of_le (NA h1) hn
 exact⟨o',m',by rw[List.getElem?_take,if_pos hi];exact h3,by rw[List.getElem?_take,if_pos hi];exact h4,h5⟩
theorem NV {hs:aA}{μs:Mu}{Ms:Mem}{es:Esc}(Hs:∀ id,qF hs id≤hs.length)(H:HeapRel h μ w)(E:Evo Ms hs μs (imm h μ w) h μ)(I:AA hs h es){n:Nat}(hn:hs.length≤n)(hc:pC es n=true) :
 HeapRel (h.take n) (μ.take n) w∧(imm h μ w).le (imm (h.take n) (μ.take n) w)∧Evo Ms hs μs (imm (h.take n) (μ.take n) w) (h.take n) (μ.take n)∧AA hs (h.take n) (es.filter fun y=>decide (y.1<n)):=by
 have ht:∀id o,h[id]?=some o→id<n→o.top≤n:=by
  intro id o ho hi;have h1:=I id o ho
  have h2:=Hs id
  have h3:=zew hc hi
  omega
 obtain⟨H1,L⟩:=H.take n ht;refine⟨H1,L,E.take hn L,fun id o ho=>?_⟩
 rw[List.getElem?_take]at ho;split at ho
 ·rename_i hi
  rw[zex hi];exact I id o ho
 ·cases ho
theorem z7O (n:Nat)(e:List (Nat × AV))(t:Nat):bA (RG n e) t=if(bA e t).top≤n then bA e t else .und:=by
 induction e with
 | nil=>simp [RG,bA,AV.top]
 | cons y r ih=>
  simp only[RG,List.map_cons,bA]at ih ⊢;split
  ·rfl
  ·exact ih
theorem uN (keep:Option (List Nat))(e:List (Nat × AV))(t:Nat):bA (RA keep e) t=bA e t∨bA (RA keep e) t = .und:=by
 cases keep with
 | none=>exact .inl rfl
 | some l=>
  simp only[RA];induction l with
  | nil=>exact .inr rfl
  | cons k r ih=>
   simp only[List.map_cons,bA];split
   ·rename_i hk;subst hk;exact .inl rfl
   ·exact ih
theorem zkd {x0:Esc}{s:St}{hs:aA}{μs:Mu}{ws:World}{e0:List (Nat × AV)}{a0:Act}(R:Rel gl nt M0 h0 μ0 e0 hs x0 a0 ws μs)(R':Rel gl nt (imm hs μs ws) hs μs s.env s.h s.esc a w μ) :
 ∃μ',Rel gl nt M0 h0 μ0 (UF hs.length x0 s).env (UF hs.length x0 s).h (UF hs.length x0 s).esc a w μ':=by
 unfold UF;dsimp only;split
 ·rename_i hc
  have hn:=FN s.esc.length s.esc hs.length
  generalize close s.esc.length s.esc hs.length=n at hc hn;obtain⟨q1,q2,q3,q4⟩:=NV (fun id=>OV R.heap id) R'.heap R'.evo R'.esc hn hc
  refine⟨μ.take n,q1,fun t=>?_,R'.glob.mono q2,R.evo.trans q3,AA.trans R.esc q4,R'.size,R'.defers⟩
  dsimp only;rw[z7O];split
  ·exact(R'.env t).take q2 ‹_›
  ·exact .und _
 ·exact⟨μ,R'.heap,R'.env,R'.glob,R.evo.trans R'.evo,AA.trans R.esc R'.esc,R'.size,R'.defers⟩
theorem Rel.drew (R:Rel gl nt M0 h0 μ0 e h x a w μ)(n:Nat):Rel gl nt M0 h0 μ0 e h x a { w with drawn:=n } μ:=by
 obtain⟨h1,h2⟩:=R.heap.ext (WExt.drew w n);exact⟨h1,fun t=>(R.env t).evo h2,R.glob.mono h2.le,R.evo.trans h2,R.esc,R.size,R.defers⟩
def gC (P:Program)(nt:Nat):ACode→Code→Bool
 | .skip,c=>match c with
  | .skip=>true
  | _=>false
 | .reg aops _,c=>match c with
  | .region _ ops false=>eG P nt ops aops 0
  | _=>false
 | .draw ds _,c=>match c with
  | .region _ ops true=>AN P nt ops ds
  | _=>false
 | .seq a b,c=>match c with
  | .seq a' b'=>gC P nt a a'&&gC P nt b b'
  | _=>false
 | .cond t a b,c=>match c with
  | .cond t' a' b'=>JA t t'&&gC P nt a a'&&gC P nt b b'
  | _=>false
 | .det b,c=>gC P nt b c
 | .condu t a b,c=>match c with
  | .cond t' a' b'=>JA t t'&&gC P nt a a'&&gC P nt b b'
  | .region _ ops true=>KY P nt ops t a b
  | _=>false
 | .block i b,c=>match c with
  | .block i' b'=>i==i'&&gC P nt b b'
  | _=>false
 | .loop b,c=>match c with
  | .loop b'=>gC P nt b b'
  | _=>false
 | .scope b,c=>gC P nt b c
 | .pr _ b,c=>gC P nt b c
 | .exit i,c=>match c with
  | .exit i'=>i==i'
  | _=>false
 | .ret,c=>match c with
  | .ret=>true
  | _=>false
 | .bad,_=>true
def Ex.toExit:Ex→Exit
 | .normal=>.normal
 | .exit i=>.exit i
 | .ret=>.ret
theorem z7T {M:Mem}{h:aA}{μ:Mu}{x:Value}(R:RAV M h μ .anyb x):∃b,x = .bool b:=by
 cases R with|anyb b=>exact⟨b,rfl⟩
theorem VD (hm:P.follows .mixedOrders=true){C:Hd}(hC:∀ f a h K,C f a h K→DC P gl f a h K):∀(c:ACode) {k:Code},gC P nt c k=true→∀{s:St} {K:Ex→St→Prop} {M0:Mem} {h0:aA} {μ0:Mu} {a:Act} {w:World} {μ:Mu} {Q:Exit→Act→World→Prop},
 AW C gl c s K→Rel gl nt M0 h0 μ0 s.env s.h s.esc a w μ→(∀ex s' a' w' μ',K ex s'→Rel gl nt M0 h0 μ0 s'.env s'.h s'.esc a' w' μ'→Q ex.toExit a' w')→k.wp P Q a w
 | .skip,k,hc,s,K,M0,h0,μ0,a,w,μ,Q,H,R,hQ=>by
  simp only[gC]at hc;split at hc
  ·exact wp_skip (hQ .normal _ _ _ _ H R)
  ·cases hc
 | .reg aops keep,k,hc,s,K,M0,h0,μ0,a,w,μ,Q,H,R,hQ=>by
  simp only[gC]at hc;split at hc
  ·rename_i id ops
   refine wp_region ?_;have:=QF hC aops 0 (Q:=Q) hc H R (fun e h x a w μ hk R'=>hQ .normal ⟨RA keep e,h,x⟩ a w μ hk ⟨R'.heap,fun t=>?_,R'.glob,R'.evo,R'.esc,R'.size,R'.defers⟩)
   ·rwa [Nat.sub_zero,←List.range_eq_range']at this
   ·rcases uN keep e t with q|q
    ·rw[q];exact R'.env t
    ·rw[q];exact .und _
  ·cases hc
 | .draw ds keep,k,hc,s,K,M0,h0,μ0,a,w,μ,Q,H,R,hQ=>by
  simp only[gC]at hc;split at hc
  ·rename_i id ops
   refine wp_region_any hm ?_;exact z04 hC (Q:=Q) hc H (R.drew _) (fun e h x a w μ hk R'=>hQ .normal ⟨RA keep e,h,x⟩ a w μ hk ⟨R'.heap,fun t=>(by
    rcases uN keep e t with q|q
    ·rw[q];exact R'.env t
    ·rw[q];exact .und _),R'.glob,R'.evo,R'.esc,R'.size,R'.defers⟩)
  ·cases hc
 | .seq c1 c2,k,hc,s,K,M0,h0,μ0,a,w,μ,Q,H,R,hQ=>by
  simp only[gC]at hc;split at hc
  ·simp only[Bool.and_eq_true]at hc
   refine wp_seq (VD hm hC c1 hc.1 H R (fun ex s' a' w' μ' hk R'=>?_))
   cases ex with
   | normal=>exact VD hm hC c2 hc.2 hk R' hQ
   | exit i=>exact hQ (.exit i) _ _ _ _ hk R'
   | ret=>exact hQ .ret _ _ _ _ hk R'
  ·cases hc
 | .det c,k,hc,s,K,M0,h0,μ0,a,w,μ,Q,H,R,hQ=>by
  simp only[gC]at hc;exact VD hm hC c hc H R hQ
 | .condu t c1 c2,k,hc,s,K,M0,h0,μ0,a,w,μ,Q,H,R,hQ=>by
  simp only[gC]at hc;split at hc
  ·simp only[Bool.and_eq_true]at hc
   unfold AW at H;split at H
   ·rename_i b hb
    have ht:=R.opds _ _ hc.1.1
    rw[hb]at ht;refine wp_cond ht.p_bool ?_;cases b with
    | true=>exact VD hm hC c1 hc.1.2 H R hQ
    | false=>exact VD hm hC c2 hc.2 H R hQ
   ·rename_i hb
    have ht:=R.opds _ _ hc.1.1
    rw[hb]at ht;obtain⟨g1,g2⟩:=H;obtain⟨b,hb'⟩:=z7T ht;refine wp_cond hb' ?_;cases b with
    | true=>exact VD hm hC c1 hc.1.2 g1 R hQ
    | false=>exact VD hm hC c2 hc.2 g2 R hQ
   ·exact H.elim
  ·rename_i id ops
   unfold KY at hc;exact zke hm hC (Q:=Q) hc H (R.drew _) fun keep e h x a w μ hk R'=>hQ .normal ⟨RA keep e,h,x⟩ a w μ hk ⟨R'.heap,fun t=>(by
    rcases uN keep e t with q|q
    ·rw[q];exact R'.env t
    ·rw[q];exact .und _),R'.glob,R'.evo,R'.esc,R'.size,R'.defers⟩
  ·cases hc
 | .cond t c1 c2,k,hc,s,K,M0,h0,μ0,a,w,μ,Q,H,R,hQ=>by
  simp only[gC]at hc;split at hc
  ·simp only[Bool.and_eq_true]at hc
   unfold AW at H;split at H
   ·rename_i b hb
    have ht:=R.opds _ _ hc.1.1
    rw[hb]at ht;refine wp_cond ht.p_bool ?_;cases b with
    | true=>exact VD hm hC c1 hc.1.2 H R hQ
    | false=>exact VD hm hC c2 hc.2 H R hQ
   ·exact H.elim
  ·cases hc
 | .block i c,k,hc,s,K,M0,h0,μ0,a,w,μ,Q,H,R,hQ=>by
  simp only[gC]at hc;split at hc
  ·simp only[Bool.and_eq_true,beq_iff_eq]at hc
   obtain⟨rfl,hc⟩:=hc;refine wp_block (VD hm hC c hc H R (fun ex s' a' w' μ' hk R'=>?_))
   cases ex with
   | normal=>exact hQ .normal _ _ _ _ hk R'
   | exit j=>
    simp only[Ex.toExit,Exit.inBlock];dsimp only at hk;split
    ·rename_i hj;rw[if_pos hj]at hk;exact hQ .normal _ _ _ _ hk R'
    ·rename_i hj;rw[if_neg hj]at hk;exact hQ (.exit j) _ _ _ _ hk R'
   | ret=>exact hQ .ret _ _ _ _ hk R'
  ·cases hc
 | .loop c,k,hc,s,K,M0,h0,μ0,a,w,μ,Q,H,R,hQ=>by
  simp only[gC]at hc;split at hc
  ·rename_i b'
   intro b k cs;have key:∀(s:St),ALoop (AW C gl c) K s→∀(a:Act) (w:World) (μ:Mu),Rel gl nt M0 h0 μ0 s.env s.h s.esc a w μ →
    ∃e a' w',Q e a' w'∧Arrives P (lone (b.at a (.code b' :: .inLoop b'::k)) cs w) b k cs e a' w':=by
    intro s H;induction H with
    | mk s T hT hn he hr ih=>
     intro a w μ R;obtain⟨e,a1,w1,hq,harr⟩:=VD hm hC c hc (Q:=fun e a' w'=>match e with
      | .normal=>∃s' μ',T .normal s'∧Rel gl nt M0 h0 μ0 s'.env s'.h s'.esc a' w' μ'
      | e=>Q e a' w') hT R (fun ex s' a' w' μ' hk R'=>by
       cases ex with
       | normal=>exact⟨s',μ',hk,R'⟩
       | exit i=>exact hQ (.exit i) _ _ _ _ (he _ _ hk) R'
       | ret=>exact hQ .ret _ _ _ _ (hr _ hk) R') b (.inLoop b'::k) cs
     cases e with
     | normal=>
      obtain⟨s',μ',hk,R'⟩:=hq;obtain⟨e2,a2,w2,hq2,harr2⟩:=ih s' hk a1 w1 μ' R';exact⟨e2,a2,w2,hq2,.of_steps (Steps.trans harr (.one step_inLoop)) harr2⟩
     | exit id=>exact⟨_,a1,w1,hq,.pass (x:=.inLoop b') rfl (fun _ _=>.inl (by simp)) harr⟩
     | goto l=>exact⟨_,a1,w1,hq,.pass (x:=.inLoop b') rfl (fun _ _=>.inl (by simp)) harr⟩
     | ret=>exact⟨_,a1,w1,hq,.pass (x:=.inLoop b') rfl (fun _ _=>.inl (by simp)) harr⟩
     | panic ch=>exact⟨_,a1,w1,hq,.pass (x:=.inLoop b') rfl (fun _ _=>.inl (by simp)) harr⟩
     | outgrown=>exact⟨_,a1,w1,hq,.pass (x:=.inLoop b') rfl (fun _ _=>.inl (by simp)) harr⟩
   obtain⟨e,a',w',hq,harr⟩:=key s H a w μ R;exact⟨e,a',w',hq,.of_steps (.one step_loop) harr⟩
  ·cases hc
 | .scope c,k,hc,s,K,M0,h0,μ0,a,w,μ,Q,H,R,hQ=>by
  simp only[gC]at hc;refine VD hm hC c hc (M0:=imm s.h μ w) (h0:=s.h) (μ0:=μ) H ⟨R.heap,R.env,R.glob,Evo.refl _ _ _,AA.refl _ _,R.size,R.defers⟩ (fun ex s' a' w' μ' hk R'=>?_)
  obtain⟨μ'',R''⟩:=zkd R R';exact hQ ex _ _ _ _ hk R''
 | .pr l c,k,hc,s,K,M0,h0,μ0,a,w,μ,Q,H,R,hQ=>by
  simp only[gC]at hc;refine VD hm hC c hc H ⟨R.heap,fun t=>?_,R.glob,R.evo,R.esc,R.size,R.defers⟩ hQ
  dsimp only;rcases uN (some l) s.env t with q|q
  ·rw[q];exact R.env t
  ·rw[q];exact .und _
 | .exit i,k,hc,s,K,M0,h0,μ0,a,w,μ,Q,H,R,hQ=>by
  simp only[gC]at hc;split at hc
  ·simp only[beq_iff_eq]at hc
   subst hc;exact wp_exit (hQ (.exit i) _ _ _ _ H R)
  ·cases hc
 | .ret,k,hc,s,K,M0,h0,μ0,a,w,μ,Q,H,R,hQ=>by
  simp only[gC]at hc;split at hc
  ·exact wp_ret (hQ .ret _ _ _ _ H R)
  ·cases hc
 | .bad,k,hc,s,K,M0,h0,μ0,a,w,μ,Q,H,R,hQ=>H.elim
end Go.Am
end
section
/- The abstract machine,part 22: results,calls;a call that ends well here ends well in the model. -/
set_option linter.unusedSimpArgs false
set_option linter.unusedVariables false
set_option maxHeartbeats 1000000
namespace Go.Am
variable {h h':aA} {μ μ':Mu} {w w':World} {P:Program} {M M':Mem}
variable {gl:Nat→Option PV} {nt:Nat} {M0:Mem} {h0:aA} {μ0:Mu} {e:List (Nat × AV)} {x:Esc} {a:Act}
def jE (P:Program):List ARes→List ResultVar→Bool
 | [],[]=>true
 | .t n::r,.tmp m::s=>n==m&&jE P r s
 | .cell n sh::r,.cell m t::s=>n==m&&FB P t==some sh&&jE P r s
 | _,_=>false
def GM (tmps:Array Value):ResultVar→Sem Value
 | .tmp t=>pure (tmps.getD t undef)
 | .cell a t=>do loadVar t (←asAddr (tmps.getD a undef))
theorem lV {s:St}(H:HeapRel s.h μ w)(he:∀ t,RAV (imm s.h μ w) s.h μ (bA s.env t) (a.tmps.getD t undef)):∀{rs:List ARes} {qs:List ResultVar} {vs:List AV},jE P rs qs=true→iE s rs=some vs →
 ∃us,(qs.mapM (GM a.tmps)).run P w = .ok us w∧vs.length=us.length∧∀(j:Nat) (y:AV) (v:Value),vs[j]?=some y→us[j]?=some v→RAV (imm s.h μ w) s.h μ y v
 | [],[],vs,_,hv=>by
  simp [iE]at hv;subst hv;exact⟨[],by simp,rfl,fun j y v h1 h2=>by simp at h1⟩
 | [],_::_,_,hc,_=>by simp [jE]at hc
 | .t n::r,[],_,hc,_=>by simp [jE]at hc
 | .cell n sh::r,[],_,hc,_=>by simp [jE]at hc
 | .t n::r,.cell _ _::q,_,hc,_=>by simp [jE]at hc
 | .cell n sh::r,.tmp _::q,_,hc,_=>by simp [jE]at hc
 | .t n::r,.tmp m::q,vs,hc,hv=>by
  simp only[jE,Bool.and_eq_true,beq_iff_eq]at hc;obtain⟨rfl,hc⟩:=hc;simp only[iE,ares]at hv;simp only[Option.map_eq_some_iff]at hv;obtain⟨l,hl,rfl⟩:=hv;obtain⟨us,h1,h2,h3⟩:=lV H he hc hl;refine⟨a.tmps.getD n undef::us,by simp [GM,h1],by simp [h2],fun j y v hy hv=>?_⟩
  cases j with
  | zero=>simp at hy hv;subst hy;subst hv;simpa using he n
  | succ j=>exact h3 j y v (by simpa using hy) (by simpa using hv)
 | .cell n sh::r,.cell m t::q,vs,hc,hv=>by
  simp only[jE,Bool.and_eq_true,beq_iff_eq]at hc;obtain⟨⟨rfl,hs⟩,hc⟩:=hc;simp only[iE]at hv;split at hv
  ·rename_i u hu
   simp only[Option.map_eq_some_iff]at hv;obtain⟨l,hl,rfl⟩:=hv;obtain⟨us,h1,h2,h3⟩:=lV H he hc hl;simp only[ares]at hu;split at hu
   ·rename_i id off hr
    split at hu
    ·rename_i cs ho
     have hR:=he n
     rw[hr]at hR;generalize hz:a.tmps.getD n undef=z at hR;cases hR with|ref _ _ b k cs' ho' hm=>
     obtain⟨b',c,hm',hb,hcell⟩:=H.obj _ _ _ ho hm;injection hm' with hm'
     injection hm' with e1 e2
     subst e1;obtain⟨c1,c2⟩:=LN (M:=imm s.h μ w) (h:=s.h) (μ:=μ) (f:=fun j=>(c[j]?).getD undef) hu (fun j x hx=>by obtain⟨_,v,q1,q2⟩:=hcell j x hx;simpa [q1] using q2)
     have hload:(loadVar t ⟨b,off,none⟩).run P w = .ok (mD sh fun j=>(c[off+j]?).getD undef) w:=by
      refine z3b hs (fun j hj=>?_)
      rw[BD hb];have hlt:off+j<c.size:=by rw[hb.1];have:=c1;omega
      simp [hlt]
     refine⟨(mD sh fun j=>(c[off+j]?).getD undef)::us,?_,by simp [h2],fun j y v hy hv=>?_⟩
     ·simp only[List.mapM_cons,Sem.run_bind,GM,hz,asAddr]
      simp [hload,h1]
     ·cases j with
      | zero=>simp at hy hv;subst hy;subst hv;exact c2
      | succ j=>exact h3 j y v (by simpa using hy) (by simpa using hv)
    ·cases hu
   ·cases hu
  ·cases hv
theorem zic {fn:Func}{s:St}(H:HeapRel s.h μ w)(he:∀ t,RAV (imm s.h μ w) s.h μ (bA s.env t) (a.tmps.getD t undef)){rs:List ARes}{vs:List AV}(hc:jE P rs fn.results.toList=true)(hv:iE s rs=some vs) :
 ∃u,(results fn a.tmps).run P w = .ok u w∧RAV (imm s.h μ w) s.h μ (jB vs) u:=by
 obtain⟨us,h1,h2,h3⟩:=lV H he hc hv;have hm:(fn.results.mapM (GM a.tmps)).run P w = .ok us.toArray w:=by
  rw[Array.mapM_eq_mapM_toList];simp [h1]
 refine⟨if hz:us.toArray.size=1 then us.toArray[0] else .tuple us.toArray,?_,?_⟩
 ·unfold results
  rw[Sem.run_bind];show(Sem.run P (fn.results.mapM (GM a.tmps)) w).andThen _=_
  rw[hm];rfl
 ·match vs,us,h2,h3 with
  | [v],[u],_,h3=>exact h3 0 v u rfl rfl
  | [],[],_,h3=>exact .tup [] [] rfl (fun j y v h1 h2=>by simp at h1)
  | a::b::r,c::d::q,h2,h3=>exact .tup _ (c::d::q) h2 h3
theorem z2B (H:HeapRel h μ w){n:Nat}(L:(imm h μ w).le (imm (h.take n) (μ.take n) w)){id g off len:Nat}{x:Value}{sh:Sh}{xs:List PV}(R:RAV (imm h μ w) h μ (.own id g off len) x)(hr:rd h (.own id g off len)=some (sh,xs))
 (hn:n≤id):RPV (imm (h.take n) (μ.take n) w) (.sl sh xs) x:=by
 obtain⟨ys,fz,ho,hc1,hc2,hr⟩:=iV hr;obtain⟨_,g2,a,cap,rfl,g3,g4⟩:=OF H R ho hc1;have hlen:xs.length=len:=by rw[hr];exact EQ hc2
 by_cases hne:xs=[]
 ·have hl0:len=0:=by rw[←hlen,hne];rfl
  rw[hne,hl0];exact .nils _ _ _
 ·have hpos:0<xs.length:=List.length_pos_iff.2 hne
  obtain⟨b,m,c,hm,ha,hB,hn1,hn2,hcells⟩:=g4 (by omega)
  have he:∀x∈xs,x.cells.length=gA sh:=fun x hx=>uC (g2 x (MH (hr ▸ hx)))
  have hcell:∀(j:Nat) (y:PV),(xs.flatMap PV.cells)[j]?=some y→∃v,c[off*gA sh+j]?=some v∧RPV (imm h μ w) y v:=by
   intro j y hy;obtain⟨x,h5,h6,h8,h7⟩:=uG he hy;rw[hr]at h5;have h9:=DQ h5
   have h10:=hcells _ _ x y h9.2 h6
   rw[show(off+j / gA sh)*gA sh+j%gA sh=off*gA sh+j by rw[Nat.add_mul];omega]at h10
   exact h10
  subst ha;have key:RPV (imm (h.take n) (μ.take n) w) (.sl sh xs) (.slice (some ⟨b,off*gA sh,none⟩) xs.length cap):=by
   refine .sl sh xs b (off*gA sh) cap (fun j=>(c[off*gA sh+j]?).getD undef) hne (by omega) (fun x hx=>g2 x (MH (hr ▸ hx))) (fun j y hy=>?_) (fun j y hy=>?_)
   ·obtain⟨v,h5,h6⟩:=hcell j y hy
    refine ID.2 ⟨?_,by rw[BD hB,h5];simp [h5]⟩
    rintro⟨i,n',h8,h9⟩
    rw[List.getElem?_take]at h8;split at h8
    ·have:=H.distinct i id b n' m h8 hm
     omega
    ·cases h8
   ·obtain⟨v,h5,h6⟩:=hcell j y hy
    have:(c[off*gA sh+j]?).getD undef=v:=by simp [h5]
    simp only[this];exact h6.mono L
  rwa [hlen]at key
theorem z2M (H:HeapRel h μ w){n:Nat}(L:(imm h μ w).le (imm (h.take n) (μ.take n) w)):∀(cs:List AV) {vs:List PV},(∀x∈cs,x.sc=true)→EM n h cs=some vs →
 vs.length=cs.length∧(∀x∈vs,x.sc=true)∧∀(j:Nat) (y:AV) (z:PV) (v:Value),cs[j]?=some y→vs[j]?=some z→RAV (imm h μ w) h μ y v→RPV (imm (h.take n) (μ.take n) w) z v
 | [],vs,_,e=>by
  simp [EM]at e;subst e;exact⟨rfl,by simp,fun j y z v hy=>by simp at hy⟩
 | a::r,vs,hs,e=>by
  simp only[EM]at e;split at e;case h_2=>cases e
  rename_i x hx;simp only[Option.map_eq_some_iff]at e;obtain⟨xs,h1,rfl⟩:=e;obtain⟨q1,q2,q3⟩:=z2M H L r (fun x hx=>hs x (by simp [hx])) h1
  have hsa:=hs a (by simp)
  have key:x.sc=true∧∀v,RAV (imm h μ w) h μ a v→RPV (imm (h.take n) (μ.take n) w) x v:=by
   unfold rd0 at hx;split at hx
   ·injection hx with hx;subst hx;exact⟨hsa,fun v R=>R.p_inv.mono L⟩
   ·injection hx with hx;subst hx;exact⟨rfl,fun v R=>by obtain⟨a,rfl⟩:=VK R;exact .nils _ _ _⟩
   ·injection hx with hx;subst hx;exact⟨rfl,fun v R=>by cases R;exact .nilp⟩
   ·split at hx
    ·rename_i hn
     simp only[Option.map_eq_some_iff]at hx;obtain⟨⟨sh,ys⟩,h1,rfl⟩:=hx;exact⟨rfl,fun v R=>z2B H L R h1 hn⟩
    ·cases hx
   ·cases hx
  refine⟨by simp [q1],fun y hy=>?_,fun j y z v hy hz R=>?_⟩
  ·rcases List.mem_cons.1 hy with rfl|hy
   ·exact key.1
   ·exact q2 y hy
  ·cases j with
   | zero=>simp at hy hz;subst hy;subst hz;exact key.2 v R
   | succ j=>exact q3 j y z v (by simpa using hy) (by simpa using hz) R
theorem z8d (H:HeapRel h μ w){n:Nat}(L:(imm h μ w).le (imm (h.take n) (μ.take n) w)){t id g:Nat}{x:Value}{u:AV}(R:RAV (imm h μ w) h μ (.bt 3 t id g) x)(hr:rdA n h id g=some u)
 (hn:n≤id):RAV (imm (h.take n) (μ.take n) w) (h.take n) (μ.take n) u x:=by
 unfold rdA at hr;split at hr;case h_2=>cases hr
 rename_i sh cs ho;split at hr;case isFalse=>cases hr
 rename_i hg;simp only[Option.map_eq_some_iff]at hr;obtain⟨vs,h1,rfl⟩:=hr;cases R with|bt3 _ _ _ a cap o m hl ho' hm hv=>
 rw[ho]at ho';injection ho' with ho'
 obtain⟨hv1,hv2⟩:=hv sh cs ho'.symm;have hO:=hv2 hg
 obtain⟨k1,k2⟩:=H.obj id _ m ho hm;obtain⟨q1,q2,q3⟩:=z2M H L cs k1 h1;obtain⟨s1,s2,s3⟩:=MY (sh:=sh) (g:=g) (vs:=vs) (by rw[q1,hg]) q2
 by_cases hz:g=0
 ·subst hz
  have hxs:SC sh 0 vs=[]:=List.length_eq_zero_iff.1 s1
  rw[hxs];exact .p _ _ (.nils _ _ _)
 ·have hm2:∃b k c,m=some (b,k)∧a=some ⟨b,0,none⟩∧uB w b k c∧∀(j:Nat) (x:AV),cs[j]?=some x→∃v,c[j]?=some v∧RAV (imm h μ w) h μ x v:=by
   cases m with
   | none=>simp [YF]at hO;omega
   | some m=>
    obtain⟨b,k⟩:=m;obtain⟨c,c1,c2,c3⟩:=k2;rcases hO with q|q
    ·omega
    ·exact⟨b,k,c,rfl,by rw[q.1,Nat.zero_mul],c1,c3⟩
  obtain⟨b,k,c,rfl,rfl,hB,hcells⟩:=hm2;have he:∀x∈SC sh g vs,x.cells.length=gA sh:=fun x hx=>uC (s2 x hx)
  have hcell:∀(j:Nat) (y:PV),((SC sh g vs).flatMap PV.cells)[j]?=some y→∃v,c[j]?=some v∧RPV (imm (h.take n) (μ.take n) w) y v:=by
   intro j y hy;obtain⟨x,h5,h6,h8,h7⟩:=uG he hy;have h9:=s3 _ _ x y h5 h6
   have hj:j / gA sh*gA sh+j%gA sh=j:=Nat.div_add_mod' j (gA sh)
   rw[hj]at h9;have hlt:j<cs.length:=by have:=NA h9;omega
   obtain⟨v,v1,v2⟩:=hcells j cs[j] (List.getElem?_eq_getElem hlt);exact⟨v,v1,q3 j cs[j] y v (List.getElem?_eq_getElem hlt) h9 v2⟩
  have key:RPV (imm (h.take n) (μ.take n) w) (.sl sh (SC sh g vs)) (.slice (some ⟨b,0,none⟩) (SC sh g vs).length cap):=by
   refine .sl sh _ b 0 cap (fun j=>(c[j]?).getD undef) (fun e=>hz (by rw[←s1,e];rfl)) (by rw[s1];exact hl) s2 (fun j y hy=>?_) (fun j y hy=>?_)
   ·obtain⟨v,h5,h6⟩:=hcell j y hy
    refine ID.2 ⟨?_,by rw[BD hB,Nat.zero_add,h5];simp [h5]⟩
    rintro⟨i,n',h8,h9⟩
    rw[List.getElem?_take]at h8;split at h8
    ·have:=H.distinct i id b n' k h8 hm
     omega
    ·cases h8
   ·obtain⟨v,h5,h6⟩:=hcell j y hy
    have:(c[j]?).getD undef=v:=by simp [h5]
    simp only[this];exact h6
  rw[s1]at key;exact .p _ _ key
mutual
theorem z2O (H:HeapRel h μ w){n:Nat}(L:(imm h μ w).le (imm (h.take n) (μ.take n) w)):∀(v:AV) {u:AV} {x:Value},RAV (imm h μ w) h μ v x→XA n h v=some u→u.top≤n→RAV (imm (h.take n) (μ.take n) w) (h.take n) (μ.take n) u x
 | .own id g off len,u,x,R,hr,ht=>by
  simp only[XA]at hr;split at hr
  ·rename_i hn
   simp only[Option.map_eq_some_iff]at hr;obtain⟨⟨sh,xs⟩,h1,rfl⟩:=hr;exact .p _ _ (z2B H L R h1 hn)
  ·injection hr with hr;subst hr;exact R.take L ht
 | .sl0 sh,u,x,R,hr,ht=>by
  simp only[XA]at hr;injection hr with hr
  subst hr;obtain⟨a,rfl⟩:=VK R;exact .p _ _ (.nils _ _ _)
 | .agg cs,u,x,R,hr,ht=>by
  simp only[XA,Option.map_eq_some_iff]at hr;obtain⟨us,h1,rfl⟩:=hr;cases R with|agg _ xs hl hrr=>
  have htop:AV.tops us≤n:=by
   unfold mkA at ht;split at ht
   ·rename_i ps hp
    have:=YK hp;subst this;rw[z3P];omega
   ·simpa [AV.top] using ht
  obtain⟨q1,q2⟩:=kV H L cs hl hrr h1 htop;exact lU q1 q2
 | .tup cs,u,x,R,hr,ht=>by
  simp only[XA,Option.map_eq_some_iff]at hr;obtain⟨us,h1,rfl⟩:=hr;cases R with|tup _ xs hl hrr=>
  obtain⟨q1,q2⟩:=kV H L cs hl hrr h1 (by simpa [AV.top] using ht)
  exact .tup us xs q1 q2
 | .p v,u,x,R,hr,ht=>by simp only[XA]at hr;injection hr with hr;subst hr;exact R.take L ht
 | .ref _ _,u,x,R,hr,ht=>by simp only[XA]at hr;injection hr with hr;subst hr;exact R.take L ht
 | .rref _ _ _ _,u,x,R,hr,ht=>by simp only[XA]at hr;injection hr with hr;subst hr;exact R.take L ht
 | .vp _,u,x,R,hr,ht=>by simp only[XA]at hr;injection hr with hr;subst hr;exact R.take L ht
 | .nilp,u,x,R,hr,ht=>by simp only[XA]at hr;injection hr with hr;subst hr;exact R.take L ht
 | .nilm,u,x,R,hr,ht=>by simp only[XA]at hr;injection hr with hr;subst hr;exact R.take L ht
 | .nilf,u,x,R,hr,ht=>by simp only[XA]at hr;injection hr with hr;subst hr;exact R.take L ht
 | .nili,u,x,R,hr,ht=>by simp only[XA]at hr;injection hr with hr;subst hr;exact R.take L ht
 | .ifc,u,x,R,hr,ht=>by simp only[XA]at hr;injection hr with hr;subst hr;exact R.take L ht
 | .mp _,u,x,R,hr,ht=>by simp only[XA]at hr;injection hr with hr;subst hr;exact R.take L ht
 | .it _,u,x,R,hr,ht=>by simp only[XA]at hr;injection hr with hr;subst hr;exact R.take L ht
 | .fn _ _,u,x,R,hr,ht=>by simp only[XA]at hr;injection hr with hr;subst hr;exact R.take L ht
 | .anyb,u,x,R,hr,ht=>by simp only[XA]at hr;injection hr with hr;subst hr;exact R.take L ht
 | .skp,u,x,R,hr,ht=>by simp only[XA]at hr;injection hr with hr;subst hr;exact R.take L ht
 | .und,u,x,R,hr,ht=>by simp only[XA]at hr;injection hr with hr;subst hr;exact R.take L ht
 | .anyp,u,x,R,hr,ht=>by simp only[XA]at hr;injection hr with hr;subst hr;exact R.take L ht
 | .bt k t id g,u,x,R,hr,ht=>by
  simp only[XA]at hr;cases hk:(Nat.beq k 3&&decide (n≤id)) with
  | false=>rw[hk]at hr;injection hr with hr;subst hr;exact R.take L ht
  | true=>
   rw[hk]at hr;simp only[Bool.and_eq_true,decide_eq_true_eq]at hk;have hk1:=Nat.eq_of_beq_eq_true hk.1
   subst hk1;exact z8d H L R hr hk.2
theorem kV (H:HeapRel h μ w){n:Nat}(L:(imm h μ w).le (imm (h.take n) (μ.take n) w)):∀(cs:List AV) {us:List AV} {xs:List Value},cs.length=xs.length →
 (∀(j:Nat) (y:AV) (v:Value),cs[j]?=some y→xs[j]?=some v→RAV (imm h μ w) h μ y v)→nE n h cs=some us→AV.tops us≤n →
 us.length=xs.length∧∀(j:Nat) (y:AV) (v:Value),us[j]?=some y→xs[j]?=some v→RAV (imm (h.take n) (μ.take n) w) (h.take n) (μ.take n) y v
 | [],us,xs,hl,hr,e,ht=>by
  simp only[nE]at e;injection e with e
  subst e;exact⟨hl,fun j y v h1 _=>by simp at h1⟩
 | c::r,us,xs,hl,hr,e,ht=>by
  cases xs with
  | nil=>simp at hl
  | cons x xs=>
   simp only[nE]at e;split at e
   ·rename_i u hu
    simp only[Option.map_eq_some_iff]at e;obtain⟨l,h1,rfl⟩:=e;simp only[AV.tops]at ht;have k1:=z2O H L c (hr 0 c x rfl rfl) hu (by omega)
    obtain⟨k2,k3⟩:=kV H L r (xs:=xs) (by simpa using hl) (fun j y v h1 h2=>hr (j+1) y v (by simpa using h1) (by simpa using h2)) h1 (by omega)
    refine⟨by simp [k2],fun j y v hy hv=>?_⟩
    cases j with
    | zero=>simp at hy hv;subst hy;subst hv;exact k1
    | succ j=>exact k3 j y v (by simpa using hy) (by simpa using hv)
   ·cases e
end
theorem iQ:∀ (asv:List AV){h:aA}{vs:List Value}{asv':List AV}{h1:aA},HeapRel h μ w→asv.length=vs.length →
 (∀(j:Nat) (y:AV) (v:Value),asv[j]?=some y→vs[j]?=some v→RAV (imm h μ w) h μ y v)→CA h asv=some (asv',h1) →
 YE h μ w h1∧asv'.length=vs.length∧∀(j:Nat) (y:AV) (v:Value),asv'[j]?=some y→vs[j]?=some v→RAV (imm h1 μ w) h1 μ y v
 | [],h,vs,asv',h1,H,hl,hr,e=>by
  simp only[CA,Option.some.injEq,Prod.mk.injEq]at e;obtain⟨rfl,rfl⟩:=e;exact⟨⟨H,Evo.refl _ _ _,AA.refl _ _⟩,hl,fun j y v hy=>by simp at hy⟩
 | a::r,h,vs,asv',h1,H,hl,hr,e=>by
  cases vs with
  | nil=>simp at hl
  | cons x vs=>
   have step:∀{h2:aA} {u:AV},YE h μ w h2→RAV (imm h2 μ w) h2 μ u x→(CA h2 r).map (fun y=>(u::y.1,y.2))=some (asv',h1) →
    YE h μ w h1∧asv'.length=(x::vs).length∧∀(j:Nat) (y:AV) (v:Value),asv'[j]?=some y→(x::vs)[j]?=some v→RAV (imm h1 μ w) h1 μ y v:=by
    intro h2 u ⟨a1,a2,a3⟩ hu e;simp only[Option.map_eq_some_iff,Prod.mk.injEq]at e;obtain⟨⟨l,h3⟩,hp,rfl,rfl⟩:=e;obtain⟨⟨b1,b2,b3⟩,b4,b5⟩:=iQ r a1 (vs:=vs) (by simpa using hl) (fun j y v hy hv=>(hr (j+1) y v (by simpa using hy) (by simpa using hv)).evo a2) hp
    refine⟨⟨b1,a2.trans b2,by simpa using AA.trans a3 b3⟩,by simp [b4],fun j y v hy hv=>?_⟩
    cases j with
    | zero=>simp at hy hv;subst hy;subst hv;exact hu.evo b2
    | succ j=>exact b5 j y v (by simpa using hy) (by simpa using hv)
   have h0:=hr 0 a x rfl rfl
   cases a;case own id g off len=>
    simp only[CA]at e;split at e
    ·rename_i z hz
     obtain⟨sh,xs⟩:=z;obtain⟨k1,k2,k3,k4⟩:=jM H h0 hz;exact step ⟨k1,k2,k3⟩ (.p _ _ k4) e
    ·cases e
   case agg cs=>
    simp only[CA]at e;split at e
    ·rename_i pv h2 hp
     obtain⟨k1,k2⟩:=gQ _ H h0 hp;exact step k1 (.p _ _ k2) e
    ·cases e
   case sl0 sh=>
    simp only[CA]at e;obtain⟨b,rfl⟩:=VK h0;exact step ⟨H,Evo.refl _ _ _,AA.refl _ _⟩ (.p _ _ (.nils _ _ _)) e
   all_goals
    simp only[CA]at e;exact step ⟨H,Evo.refl _ _ _,AA.refl _ _⟩ h0 e
end Go.Am
end
section
/- The abstract machine,part 23: a call that ends well here ends well in the model. -/
set_option linter.unusedSimpArgs false
set_option linter.unusedVariables false
set_option maxHeartbeats 1000000
namespace Go.Am
variable {h h':aA} {μ μ':Mu} {w w':World} {P:Program} {M M':Mem}
variable {gl:Nat→Option PV} {nt:Nat} {M0:Mem} {h0:aA} {μ0:Mu} {e:List (Nat × AV)} {x:Esc} {a:Act}
theorem z1t {F:AFun}{fn:Func}{s:St}{K:jA}(R:Rel gl nt M0 h0 μ0 s.env s.h s.esc a w μ)(Hs:∀ id,qF h0 id≤h0.length)(hc:jE P F.results fn.results.toList=true)(H:fin F h0.length s K) :
 ∃u,(results fn a.tmps).run P w = .ok u w∧∃v h' x μ',K v h' x∧RAV (imm h' μ' w) h' μ' v u∧HeapRel h' μ' w∧Evo M0 h0 μ0 (imm h' μ' w) h' μ'∧AA h0 h' x:=by
 unfold fin at H;split at H
 ·rename_i vs hvs
  obtain⟨u,hu,hR⟩:=zic R.heap R.env hc hvs;refine⟨u,hu,?_⟩;split at H
  ·dsimp only at H
   split at H
   ·rename_i hcl
    have hn:=FN s.esc.length s.esc (max h0.length (jB vs).top)
    generalize close s.esc.length s.esc (max h0.length (jB vs).top)=n at H hcl hn;obtain⟨q1,q2,q3,q4⟩:=NV Hs R.heap R.evo R.esc (by omega) hcl
    exact⟨_,_,_,μ.take n,H,hR.take q2 (by omega),q1,q3,q4⟩
   ·exact⟨_,_,_,μ,H,hR,R.heap,R.evo,R.esc⟩
  ·split at H
   ·rename_i v0 hv0
    dsimp only at H;split at H
    ·rename_i hcl
     have hn:=FN s.esc.length s.esc (max h0.length v0.top)
     generalize close s.esc.length s.esc (max h0.length v0.top)=n at H hcl hn;split at H
     ·rename_i v hv
      obtain⟨q1,q2,q3,q4⟩:=NV Hs R.heap R.evo R.esc (by omega) hcl
      exact⟨_,_,_,μ.take n,H.2,z2O R.heap q2 _ hR hv H.1,q1,q3,q4⟩
     ·exact H.elim
    ·exact⟨_,_,_,μ,H,hR,R.heap,R.evo,R.esc⟩
   ·exact H.elim
 ·exact H.elim
def dS (P:Program)(f:Nat)(F:AFun):Bool:=match P.funcs[f]? with
 | some fn=>match fn.body with
  | some c=>gC P fn.ntmps F.body c&&jE P F.results fn.results.toList&&fn.name != "runtime.NumGoroutine"
  | none=>false
 | none=>false
theorem DO {f:Nat}{fn:Func}{c:Code}(hf:P.funcs[f]?=some fn)(hb:fn.body=some c)(hn:fn.name ≠ "runtime.NumGoroutine")(args:Array Value)(w:World):(callFunc f args).run P w = .ok (.enter f args) w:=by
 unfold callFunc;simp [hf,hb,hn]
theorem zem {asv:List AV}{t:Nat}:bA (enter asv) t=(asv[t]?).getD .und:=by
 have key:∀(l:List AV) (k t:Nat),bA ((l.zipIdx k).map fun y=>(y.2,y.1)) t=if t<k then .und else(l[t-k]?).getD .und:=by
  intro l;induction l with
  | nil=>intro k t;simp [bA]
  | cons v r ih=>
   intro k t;simp only[List.zipIdx_cons,List.map_cons,bA];by_cases hk:k=t
   ·subst hk;simp
   ·rw[if_neg hk,ih]
    by_cases h1:t<k
    ·rw[if_pos h1,if_pos (by omega)]
    ·rw[if_neg h1,if_neg (by omega),show t-k=(t-(k+1))+1 by omega]
     simp
 have:=key asv 0 t;simpa [enter] using this
def JG (M:Mem)(w w':World):Mem:=⟨fun b o=>if b<w.heap.size then M.c b o else w'.cell? ⟨b,o,none⟩,fun _=>none,some (zed w'),fun _=>none⟩
def rW (P:Program)(f:Nat)(vs:List PV)(r:PV):Prop:=∀(M:Mem) (w:World) (us:List Value),(∀b o v,M.c b o=some v→w.cell? ⟨b,o,none⟩=some v)→vs.length=us.length →
 (∀(j:Nat) (y:PV) (v:Value),vs[j]?=some y→us[j]?=some v→RPV M y v) →
 ∃x w',(callFunc f us.toArray).run P w = .ok (.value x) w'∧WExt w w'∧RPV (JG M w w') r x
structure Fits (P:Program) (X:Ctx):Prop where
 mixed:P.follows .mixedOrders=true
 fn:∀f F,X.fn f=some F→dS P f F=true
 ext:∀f vs r,X.fn f=none→X.ext f vs=some r→rW P f vs r
 ex2:∀f asv h v h' x,X.fn f=none→X.ex2 f asv h=some (v,h',x)→DC P X.gl f asv h fun v1 h1 x1=>v1=v∧h1=h'∧x1=x
theorem zjt {X:Ctx}(HX:Fits P X){f:Nat}{asv:List AV}{h:aA}{K:jA}(H:oC X (DC P X.gl) f asv h K):DC P X.gl f asv h K:=by
 intro μ w vs Hh Hg hl hr;unfold oC at H;split at H
 ·rename_i F hF
  have H:=ze9 (DC.mono P X.gl) H
  have hck:=HX.fn f F hF
  unfold dS at hck;split at hck
  ·rename_i fn hfn
   split at hck
   ·rename_i c hb
    simp only[Bool.and_eq_true,bne_iff_ne,ne_eq]at hck;obtain⟨⟨c1,c2⟩,c3⟩:=hck;refine .inl ⟨fun w=>DO hfn hb c3 _ w,calls_of_wp hfn hb ?_⟩
    unfold EC at H;have body:∀{asv':List AV} {h1:aA},YE h μ w h1→asv'.length=vs.length→(∀(j:Nat) (y:AV) (v:Value),asv'[j]?=some y→vs[j]?=some v→RAV (imm h1 μ w) h1 μ y v) →
     (asv'.length=F.nparams∧AW (DC P X.gl) X.gl F.body ⟨enter asv',h1,[]⟩ fun e s=>match e with
      | .exit _=>False
      | _=>fin F h.length s K)→Code.wp P c (bodyPost P fn fun
       | .returned r,w'=>∃v h' x μ',K v h' x∧RAV (imm h' μ' w') h' μ' v r∧HeapRel h' μ' w'∧Evo (imm h μ w) h μ (imm h' μ' w') h' μ'∧AA h h' x
       | _,_=>False) { tmps:=vs.toArray++Array.replicate (fn.ntmps-vs.toArray.size) undef,defers:=[] } w:=by
     intro asv' h1 ⟨a1,a2,a3⟩ hl' hr' ⟨_,hA⟩;refine VD HX.mixed (nt:=fn.ntmps) (M0:=imm h μ w) (h0:=h) (μ0:=μ) (μ:=μ) (fun _ _ _ _ h=>h) F.body c1 hA ⟨a1,fun t=>?_,Hg.mono a2.le,a2,a3,?_,rfl⟩ (fun ex s' a' w' μ' hk R'=>?_)
     ·dsimp only
      rw[zem];cases ht:asv'[t]? with
      | none=>exact .und _
      | some y=>
       have hlt:t<vs.length:=by rw[←hl'];exact NA ht
       have:(vs.toArray++Array.replicate (fn.ntmps-vs.toArray.size) undef).getD t undef=vs[t]:=by
        simp [Array.getD,hlt];intro hh;omega
       rw[this];exact hr' t y _ ht (List.getElem?_eq_getElem hlt)
     ·simp;omega
     ·cases ex with
      | normal=>
       obtain⟨u,q1,q2⟩:=z1t R' (fun id=>OV Hh id) c2 hk
       exact⟨R'.defers,u,q1,q2⟩
      | exit i=>exact hk.elim
      | ret=>
       obtain⟨u,q1,q2⟩:=z1t R' (fun id=>OV Hh id) c2 hk
       exact⟨R'.defers,u,q1,q2⟩
    split at H
    ·rename_i asv' h1 hp
     split at hp
     ·injection hp with hp
      injection hp with e1 e2
      subst e1;subst e2
      exact body ⟨Hh,Evo.refl _ _ _,AA.refl _ _⟩ hl hr H
     ·obtain⟨q1,q2,q3⟩:=iQ asv Hh hl hr hp
      exact body q1 q2 q3 H
    ·exact H.elim
   ·cases hck
  ·cases hck
 ·rename_i hF
  split at H
  ·rename_i hx2
   exact DC.mono P X.gl _ _ _ _ _ (fun v1 h1' x1 hv=>by obtain⟨rfl,rfl,rfl⟩:=hv;exact H) (HX.ex2 f asv h _ _ _ hF hx2) μ w vs Hh Hg hl hr
  ·rename_i hx2
   split at H
   ·rename_i asv' h1 hp
    split at H
    ·rename_i ps hps
     split at H
     ·rename_i r hrr
      obtain⟨q1,q2,q3⟩:=iQ asv Hh hl hr hp;have hm:=YK hps
      subst hm;obtain⟨u,w',k1,g1,g2⟩:=HX.ext f ps r hF hrr (imm h1 μ w) w vs (fun b o v hv=>(ID.1 hv).2) (by simpa using q2) (fun j y v hy hv=>(q3 j (.p y) v (by simp [hy]) hv).p_inv)
      obtain⟨n1,n2⟩:=q1.1.ext g1;have L:(JG (imm h1 μ w) w w').le (imm h1 μ w'):=by
       refine⟨fun b o v hv=>?_,fun b o hv=>?_,rfl,fun _ _ h=>by cases h⟩
       ·dsimp only[JG]at hv
        split at hv
        ·exact n2.le.c _ _ _ hv
        ·rename_i hb
         exact ID.2 ⟨fun hO=>hb (yU q1.1 hO),hv⟩
       ·dsimp only[JG]at hv
        cases hv
      exact .inr ⟨_,_,_,_,_,μ,k1,H,.p _ _ (g2.mono L),n1,q1.2.1.trans n2,q1.2.2⟩
     ·exact H.elim
    ·exact H.elim
   ·exact H.elim
theorem CY {X:Ctx}(HX:Fits P X){f:Nat}{asv:List AV}{h:aA}{K:jA}(H:cA X f asv h K):DC P X.gl f asv h K:=
 H (DC P X.gl) (DC.mono P X.gl) (fun f a h K hs=>zjt HX hs)
end Go.Am
end
section
/- The abstract machine,part 24: rules by which its code is computed on what is only partly known. -/
set_option linter.unusedSimpArgs false
set_option linter.unusedVariables false
namespace Go.Am
def xA (o:Option (AV × aA × Esc))(f:AV→aA→Esc→Prop):Prop:=match o with
 | some y=>f y.1 y.2.1 y.2.2
 | none=>False
def TG (v:AV)(A B:Prop):Prop:=match v with
 | .p (.bool t)=>match t with
  | true=>A
  | false=>B
 | .anyb=>A∧B
 | _=>False
def qA (v:AV)(A B:Prop):Prop:=match v with
 | .p (.bool t)=>match t with
  | true=>A
  | false=>B
 | _=>False
def MC (v:AV)(b:Bool)(A B:Prop):Prop:=match v with
 | .p (.bool c)=>match c==b with
  | true=>A
  | false=>B
 | .skp=>B
 | _=>False
def FM (keep:Option (List Nat))(K:Ex→St→Prop)(e:List (Nat × AV))(h:aA)(x:Esc):Prop:=K .normal ⟨RA keep e,h,x⟩
def SK (C:Hd)(gl:Nat→Option PV)(b:ACode)(K:Ex→St→Prop)(e:Ex)(s:St):Prop:=match e with
 | .normal=>AW C gl b s K
 | .exit i=>K (.exit i) s
 | .ret=>K .ret s
def TI (id:Nat)(K:Ex→St→Prop)(e:Ex)(s:St):Prop:=match e with
 | .normal=>K .normal s
 | .exit i=>if i=id then K .normal s else K (.exit i) s
 | .ret=>K .ret s
def finK (F:AFun)(b:Nat)(K:jA)(e:Ex)(s:St):Prop:=match e with
 | .exit _=>False
 | _=>fin F b s K
def RK (n:Nat)(x:Esc)(K:Ex→St→Prop)(e:Ex)(s:St):Prop:=K e (UF n x s)
def AO.plain:AO→Bool
 | .call _ _ | .callv _ _ | .mnext _ _=>false
 | .mv _=>true
 | .pick _ _ _=>true
 | .alloc _=>true
 | .box _=>true
 | .build _ _=>true
 | .bsl _ _ _ _ _=>true
 | .load _ _=>true
 | .store _ _ _=>true
 | .nilchk _=>true
 | .bin _ _ _=>true
 | .eqa _ _ _ _=>true
 | .isnil _ _ _=>true
 | .mkif _=>true
 | .un _ _=>true
 | .conv _ _=>true
 | .mkfn _ _=>true
 | .mkmap=>true
 | .mksl _ _ _ _=>true
 | .slice _ _ _ _ _=>true
 | .slstr _ _ _=>true
 | .faddr _ _ _=>true
 | .field _ _ _=>true
 | .iaddr _ _ _=>true
 | .iaddra _ _ _ _=>true
 | .idxa _ _ _ _=>true
 | .idxs _ _=>true
 | .look _ _ _ _ _=>true
 | .mupd _ _ _ _=>true
 | .ment _ _ _ _=>true
 | .estore _ _ _=>true
 | .mdel _ _ _=>true
 | .ext _ _=>true
 | .len _=>true
 | .lens _=>true
 | .lenm _=>true
 | .app _ _ _=>true
 | .copy _ _ _=>true
 | .uns _ _ _=>true
 | .clr _ _ _=>true
 | .mx _=>true
 | .mn _=>true
 | .mrange _=>true
 | .mentry _=>true
 | .new0 _=>true
variable {C:Hd} {gl:Nat→Option PV} {e:List (Nat × AV)} {h:aA} {x:Esc} {K:Ex→St→Prop} {L:List (Nat × AV)→aA→Esc→Prop} {s:St}
theorem z5v:AW C gl .skip s K=K .normal s:=(rfl)
theorem z5s:AW C gl .ret s K=K .ret s:=(rfl)
theorem z5q {i:Nat}:AW C gl (.exit i) s K=K (.exit i) s:=(rfl)
theorem z5l:AW C gl .bad s K=False:=(rfl)
theorem z5r {ops:List AOp}{keep:Option (List Nat)}:AW C gl (.reg ops keep) ⟨e,h,x⟩ K=zA C gl ops e h x (FM keep K):=(rfl)
theorem z5u {a b:ACode}:AW C gl (.seq a b) s K=AW C gl a s (SK C gl b K):=(rfl)
theorem z5n {c:Opd}{a b:ACode}:AW C gl (.cond c a b) ⟨e,h,x⟩ K=qA (Opd.ev gl e c) (AW C gl a ⟨e,h,x⟩ K) (AW C gl b ⟨e,h,x⟩ K):=(rfl)
theorem z5m {i:Nat}{b:ACode}:AW C gl (.block i b) s K=AW C gl b s (TI i K):=(rfl)
theorem z5t {b:ACode}:AW C gl (.scope b) ⟨e,h,x⟩ K=AW C gl b ⟨e,h,[]⟩ (RK h.length x K):=(rfl)
theorem AW_pr {l:List Nat}{b:ACode}:AW C gl (.pr l b) ⟨e,h,x⟩ K=AW C gl b ⟨RA (some l) e,h,x⟩ K:=(rfl)
theorem zhP {keep:Option (List Nat)}:FM keep K e h x=K .normal ⟨RA keep e,h,x⟩:=(rfl)
theorem ziQ {b:ACode}:SK C gl b K .normal s=AW C gl b s K:=(rfl)
theorem ziP {b:ACode}{i:Nat}:SK C gl b K (.exit i) s=K (.exit i) s:=(rfl)
theorem ziR {b:ACode}:SK C gl b K .ret s=K .ret s:=(rfl)
theorem z87 {i:Nat}:TI i K .normal s=K .normal s:=(rfl)
theorem z86 {i j:Nat}:TI i K (.exit j) s=if j=i then K .normal s else K (.exit j) s:=(rfl)
theorem z88 {i:Nat}:TI i K .ret s=K .ret s:=(rfl)
theorem z3B {n:Nat}{y:Esc}{ex:Ex}:RK n y K ex s=K ex (UF n y s):=(rfl)
def bB (C:Hd)(gl:Nat→Option PV)(r:List AOp)(d:Option Nat)(e:List (Nat × AV))(x:Esc)(L:List (Nat × AV)→aA→Esc→Prop)(v:AV)(h':aA)(x':Esc):Prop:=zA C gl r (put d v e) h' (x'++x) L
theorem zat {r:List AOp}{d:Option Nat}{v:AV}{h':aA}{x':Esc}:bB C gl r d e x L v h' x'=zA C gl r (put d v e) h' (x'++x) L:=(rfl)
theorem zas {r:List AOp}{d:Option Nat}{v w:AV}{h' h'':aA}{x' x'':Esc}(h1:v=w)(h2:h'=h'')(h3:x'=x''):bB C gl r d e x L v h' x'=bB C gl r d e x L w h'' x'':=by rw[h1,h2,h3]
theorem z5c:zA C gl [] e h x L=L e h x:=(rfl)
theorem tB {d:Option Nat}{op:AO}{r:List AOp}(hp:op.plain=true):zA C gl (⟨d,none,op⟩::r) e h x L=xA (aop op (Opd.ev gl e) h) (bB C gl r d e x L):=by
 cases op <;> first|(cases hp;done)|(simp only[zA,wanted,xA,bB];split <;> simp_all)
theorem z4Z {d:Option Nat}{r:List AOp}{q0:Opd}:zA C gl (⟨d,none,(.mv q0)⟩::r) e h x L=xA (aop (.mv q0) (Opd.ev gl e) h) (bB C gl r d e x L):=tB rfl
theorem z5e {d:Option Nat}{r:List AOp}{q0 q1 q2:Opd}:zA C gl (⟨d,none,(.pick q0 q1 q2)⟩::r) e h x L=xA (aop (.pick q0 q1 q2) (Opd.ev gl e) h) (bB C gl r d e x L):=tB rfl
theorem z41 {d:Option Nat}{r:List AOp}{q0:List AV}:zA C gl (⟨d,none,(.alloc q0)⟩::r) e h x L=xA (aop (.alloc q0) (Opd.ev gl e) h) (bB C gl r d e x L):=tB rfl
theorem z44 {d:Option Nat}{r:List AOp}{q0:Opd}:zA C gl (⟨d,none,(.box q0)⟩::r) e h x L=xA (aop (.box q0) (Opd.ev gl e) h) (bB C gl r d e x L):=tB rfl
theorem z46 {d:Option Nat}{r:List AOp}{q0:List AV}{q1:List (Nat × Nat × Opd)}:zA C gl (⟨d,none,(.build q0 q1)⟩::r) e h x L=xA (aop (.build q0 q1) (Opd.ev gl e) h) (bB C gl r d e x L):=tB rfl
theorem z45 {d:Option Nat}{r:List AOp}{q0:Bool}{q1:Sh}{q2:Nat}{q3:PV}{q4:List (Nat × Opd)}:zA C gl (⟨d,none,(.bsl q0 q1 q2 q3 q4)⟩::r) e h x L=xA (aop (.bsl q0 q1 q2 q3 q4) (Opd.ev gl e) h) (bB C gl r d e x L):=tB rfl
theorem z4N {d:Option Nat}{r:List AOp}{q0:Sh}{q1:Opd}:zA C gl (⟨d,none,(.load q0 q1)⟩::r) e h x L=xA (aop (.load q0 q1) (Opd.ev gl e) h) (bB C gl r d e x L):=tB rfl
theorem z5h {d:Option Nat}{r:List AOp}{q0:Sh}{q1 q2:Opd}:zA C gl (⟨d,none,(.store q0 q1 q2)⟩::r) e h x L=xA (aop (.store q0 q1 q2) (Opd.ev gl e) h) (bB C gl r d e x L):=tB rfl
theorem z5d {d:Option Nat}{r:List AOp}{q0:Opd}:zA C gl (⟨d,none,(.nilchk q0)⟩::r) e h x L=xA (aop (.nilchk q0) (Opd.ev gl e) h) (bB C gl r d e x L):=tB rfl
theorem z43 {d:Option Nat}{r:List AOp}{q0:BinOp}{q1 q2:Opd}:zA C gl (⟨d,none,(.bin q0 q1 q2)⟩::r) e h x L=xA (aop (.bin q0 q1 q2) (Opd.ev gl e) h) (bB C gl r d e x L):=tB rfl
theorem z4A {d:Option Nat}{r:List AOp}{q0:List Nat}{q1:Bool}{q2 q3:Opd}:zA C gl (⟨d,none,(.eqa q0 q1 q2 q3)⟩::r) e h x L=xA (aop (.eqa q0 q1 q2 q3) (Opd.ev gl e) h) (bB C gl r d e x L):=tB rfl
theorem z4J {d:Option Nat}{r:List AOp}{q0:Nat}{q1:Bool}{q2:Opd}:zA C gl (⟨d,none,(.isnil q0 q1 q2)⟩::r) e h x L=xA (aop (.isnil q0 q1 q2) (Opd.ev gl e) h) (bB C gl r d e x L):=tB rfl
theorem z4T {d:Option Nat}{r:List AOp}{q0:Opd}:zA C gl (⟨d,none,(.mkif q0)⟩::r) e h x L=xA (aop (.mkif q0) (Opd.ev gl e) h) (bB C gl r d e x L):=tB rfl
theorem z5k {d:Option Nat}{r:List AOp}{q0:UnOp}{q1:Opd}:zA C gl (⟨d,none,(.un q0 q1)⟩::r) e h x L=xA (aop (.un q0 q1) (Opd.ev gl e) h) (bB C gl r d e x L):=tB rfl
theorem z48 {d:Option Nat}{r:List AOp}{q0:Cv}{q1:Opd}:zA C gl (⟨d,none,(.conv q0 q1)⟩::r) e h x L=xA (aop (.conv q0 q1) (Opd.ev gl e) h) (bB C gl r d e x L):=tB rfl
theorem z4S {d:Option Nat}{r:List AOp}{q0:Nat}{q1:List Opd}:zA C gl (⟨d,none,(.mkfn q0 q1)⟩::r) e h x L=xA (aop (.mkfn q0 q1) (Opd.ev gl e) h) (bB C gl r d e x L):=tB rfl
theorem z4U {d:Option Nat}{r:List AOp}  : zA C gl (⟨d,none,.mkmap⟩::r) e h x L=xA (aop .mkmap (Opd.ev gl e) h) (bB C gl r d e x L):=tB rfl
theorem z4V {d:Option Nat}{r:List AOp}{q0:Sh}{q1:PV}{q2 q3:Opd}:zA C gl (⟨d,none,(.mksl q0 q1 q2 q3)⟩::r) e h x L=xA (aop (.mksl q0 q1 q2 q3) (Opd.ev gl e) h) (bB C gl r d e x L):=tB rfl
theorem z5f {d:Option Nat}{r:List AOp}{q0:Sh}{q1:Opd}{q2 q3 q4:Option Opd}:zA C gl (⟨d,none,(.slice q0 q1 q2 q3 q4)⟩::r) e h x L=xA (aop (.slice q0 q1 q2 q3 q4) (Opd.ev gl e) h) (bB C gl r d e x L):=tB rfl
theorem z5g {d:Option Nat}{r:List AOp}{q0:Opd}{q1 q2:Option Opd}:zA C gl (⟨d,none,(.slstr q0 q1 q2)⟩::r) e h x L=xA (aop (.slstr q0 q1 q2) (Opd.ev gl e) h) (bB C gl r d e x L):=tB rfl
theorem z4D {d:Option Nat}{r:List AOp}{q0:Nat}{q1:Sh}{q2:Opd}:zA C gl (⟨d,none,(.faddr q0 q1 q2)⟩::r) e h x L=xA (aop (.faddr q0 q1 q2) (Opd.ev gl e) h) (bB C gl r d e x L):=tB rfl
theorem z4E {d:Option Nat}{r:List AOp}{q0:Nat}{q1:Sh}{q2:Opd}:zA C gl (⟨d,none,(.field q0 q1 q2)⟩::r) e h x L=xA (aop (.field q0 q1 q2) (Opd.ev gl e) h) (bB C gl r d e x L):=tB rfl
theorem z4F {d:Option Nat}{r:List AOp}{q0:Sh}{q1 q2:Opd}:zA C gl (⟨d,none,(.iaddr q0 q1 q2)⟩::r) e h x L=xA (aop (.iaddr q0 q1 q2) (Opd.ev gl e) h) (bB C gl r d e x L):=tB rfl
theorem z4G {d:Option Nat}{r:List AOp}{q0:Nat}{q1:Sh}{q2 q3:Opd}:zA C gl (⟨d,none,(.iaddra q0 q1 q2 q3)⟩::r) e h x L=xA (aop (.iaddra q0 q1 q2 q3) (Opd.ev gl e) h) (bB C gl r d e x L):=tB rfl
theorem z4H {d:Option Nat}{r:List AOp}{q0:Nat}{q1:Sh}{q2 q3:Opd}:zA C gl (⟨d,none,(.idxa q0 q1 q2 q3)⟩::r) e h x L=xA (aop (.idxa q0 q1 q2 q3) (Opd.ev gl e) h) (bB C gl r d e x L):=tB rfl
theorem z4I {d:Option Nat}{r:List AOp}{q0 q1:Opd}:zA C gl (⟨d,none,(.idxs q0 q1)⟩::r) e h x L=xA (aop (.idxs q0 q1) (Opd.ev gl e) h) (bB C gl r d e x L):=tB rfl
theorem z4O {d:Option Nat}{r:List AOp}{kk:Sh × List Nat}{q0:Bool}{q1:AV}{q2 q3:Opd}:zA C gl (⟨d,none,(.look kk q0 q1 q2 q3)⟩::r) e h x L=xA (aop (.look kk q0 q1 q2 q3) (Opd.ev gl e) h) (bB C gl r d e x L):=tB rfl
theorem z4Y {d:Option Nat}{r:List AOp}{kk:Sh × List Nat}{q0 q1 q2:Opd}:zA C gl (⟨d,none,(.mupd kk q0 q1 q2)⟩::r) e h x L=xA (aop (.mupd kk q0 q1 q2) (Opd.ev gl e) h) (bB C gl r d e x L):=tB rfl
theorem z4Q {d:Option Nat}{r:List AOp}{kk:Sh × List Nat}{q0:AV}{q1 q2:Opd}:zA C gl (⟨d,none,(.ment kk q0 q1 q2)⟩::r) e h x L=xA (aop (.ment kk q0 q1 q2) (Opd.ev gl e) h) (bB C gl r d e x L):=tB rfl
theorem z4B {d:Option Nat}{r:List AOp}{q0 q1 q2:Opd}:zA C gl (⟨d,none,(.estore q0 q1 q2)⟩::r) e h x L=xA (aop (.estore q0 q1 q2) (Opd.ev gl e) h) (bB C gl r d e x L):=tB rfl
theorem z4P {d:Option Nat}{r:List AOp}{kk:Sh × List Nat}{q0 q1:Opd}:zA C gl (⟨d,none,(.mdel kk q0 q1)⟩::r) e h x L=xA (aop (.mdel kk q0 q1) (Opd.ev gl e) h) (bB C gl r d e x L):=tB rfl
theorem z4C {d:Option Nat}{r:List AOp}{q0:Opd}{q1:Nat}:zA C gl (⟨d,none,(.ext q0 q1)⟩::r) e h x L=xA (aop (.ext q0 q1) (Opd.ev gl e) h) (bB C gl r d e x L):=tB rfl
theorem z4K {d:Option Nat}{r:List AOp}{q0:Opd}:zA C gl (⟨d,none,(.len q0)⟩::r) e h x L=xA (aop (.len q0) (Opd.ev gl e) h) (bB C gl r d e x L):=tB rfl
theorem z4M {d:Option Nat}{r:List AOp}{q0:Opd}:zA C gl (⟨d,none,(.lens q0)⟩::r) e h x L=xA (aop (.lens q0) (Opd.ev gl e) h) (bB C gl r d e x L):=tB rfl
theorem z4L {d:Option Nat}{r:List AOp}{q0:Opd}:zA C gl (⟨d,none,(.lenm q0)⟩::r) e h x L=xA (aop (.lenm q0) (Opd.ev gl e) h) (bB C gl r d e x L):=tB rfl
theorem z42 {d:Option Nat}{r:List AOp}{q0:Sh}{q1 q2:Opd}:zA C gl (⟨d,none,(.app q0 q1 q2)⟩::r) e h x L=xA (aop (.app q0 q1 q2) (Opd.ev gl e) h) (bB C gl r d e x L):=tB rfl
theorem z49 {d:Option Nat}{r:List AOp}{q0:Sh}{q1 q2:Opd}:zA C gl (⟨d,none,(.copy q0 q1 q2)⟩::r) e h x L=xA (aop (.copy q0 q1 q2) (Opd.ev gl e) h) (bB C gl r d e x L):=tB rfl
theorem z5a {d:Option Nat}{r:List AOp}{q0:List Opd}:zA C gl (⟨d,none,(.mx q0)⟩::r) e h x L=xA (aop (.mx q0) (Opd.ev gl e) h) (bB C gl r d e x L):=tB rfl
theorem z4W {d:Option Nat}{r:List AOp}{q0:List Opd}:zA C gl (⟨d,none,(.mn q0)⟩::r) e h x L=xA (aop (.mn q0) (Opd.ev gl e) h) (bB C gl r d e x L):=tB rfl
theorem z4X {d:Option Nat}{r:List AOp}{q0:Opd}:zA C gl (⟨d,none,(.mrange q0)⟩::r) e h x L=xA (aop (.mrange q0) (Opd.ev gl e) h) (bB C gl r d e x L):=tB rfl
theorem z4R {d:Option Nat}{r:List AOp}{q0:Opd}:zA C gl (⟨d,none,(.mentry q0)⟩::r) e h x L=xA (aop (.mentry q0) (Opd.ev gl e) h) (bB C gl r d e x L):=tB rfl
theorem z5b {d:Option Nat}{r:List AOp}{q0:Sh}:zA C gl (⟨d,none,(.new0 q0)⟩::r) e h x L=xA (aop (.new0 q0) (Opd.ev gl e) h) (bB C gl r d e x L):=tB rfl
theorem lW {d:Option Nat}{f:Nat}{args:List Opd}{r:List AOp}:zA C gl (⟨d,none,.call f args⟩::r) e h x L=C f (args.map (Opd.ev gl e)) h (bB C gl r d e x L):=(rfl)
theorem z5j {d:Option Nat}{g:Option (Nat × Bool)}{op:AO}{r:List AOp}(hw:wanted g e=some true):zA C gl (⟨d,g,op⟩::r) e h x L=zA C gl (⟨d,none,op⟩::r) e h x L:=by
 rw[zA,zA];have h2:wanted none e=some true:=(rfl)
 simp only[hw,h2]
theorem nW {d:Option Nat}{g:Option (Nat × Bool)}{op:AO}{r:List AOp}(hw:wanted g e=some false):zA C gl (⟨d,g,op⟩::r) e h x L=zA C gl r (put d .skp e) h x L:=by
 rw[zA];simp only[hw]
theorem z5i {d:Option Nat}{g:Option (Nat × Bool)}{op:AO}{r:List AOp}(hw:wanted g e=none):zA C gl (⟨d,g,op⟩::r) e h x L=False:=by
 rw[zA];simp only[hw]
theorem oW {d:Option Nat}{t:Nat}{b:Bool}{op:AO}{r:List AOp}:zA C gl (⟨d,some (t,b),op⟩::r) e h x L=MC (bA e t) b (zA C gl (⟨d,none,op⟩::r) e h x L) (zA C gl r (put d .skp e) h x L):=by
 have key:∀v,bA e t=v→zA C gl (⟨d,some (t,b),op⟩::r) e h x L=MC v b (zA C gl (⟨d,none,op⟩::r) e h x L) (zA C gl r (put d .skp e) h x L):=by
  intro v hv;unfold MC;split
  ·rename_i c
   split
   ·rename_i hcb;exact z5j (by simp [wanted,hv,hcb])
   ·rename_i hcb;exact nW (by simp [wanted,hv,hcb])
  ·exact nW (by simp [wanted,hv])
  ·rename_i h1 h2
   refine z5i ?_;simp only[wanted,hv]
 exact key _ rfl
theorem zhl {v:AV}{h:aA}{x:Esc}{f:AV→aA→Esc→Prop}:xA (some (v,h,x)) f=f v h x:=(rfl)
theorem zhk {f:AV→aA→Esc→Prop}:xA none f=False:=(rfl)
theorem zhi {p:Prop}[Decidable p]{a b:Option (AV × aA × Esc)}{f:AV→aA→Esc→Prop}:xA (if p then a else b) f=if p then xA a f else xA b f:=by split <;> rfl
theorem zhj {α:Type}{p:Prop}[Decidable p]{a b:Option α}{g:α→AV × aA × Esc}{f:AV→aA→Esc→Prop}:xA (Option.map g (if p then a else b)) f=if p then xA (a.map g) f else xA (b.map g) f:=by split <;> rfl
theorem VY {t:Bool}{A B:Prop}:qA (.p (.bool t)) A B=if t=true then A else B:=by cases t <;> simp [qA]
theorem IN {A B:Prop}:qA (.p (.bool true)) A B=A:=(rfl)
theorem WY {A B:Prop}:qA (.p (.bool false)) A B=B:=(rfl)
theorem z4i {b:Bool}{A B:Prop}:MC .skp b A B=B:=(rfl)
theorem zkq {t:Bool}{A B:Prop}:MC (.p (.bool t)) true A B=if t=true then A else B:=by cases t <;> simp [MC]
theorem zkp {t:Bool}{A B:Prop}:MC (.p (.bool t)) false A B=if t=true then B else A:=by cases t <;> simp [MC]
theorem zal {v v':AV}{A B:Prop}(hv:v=v'):qA v A B=qA v' A B:=by rw[hv]
theorem zko {v v':AV}{b:Bool}{A B:Prop}(hv:v=v'):MC v b A B=MC v' b A B:=by rw[hv]
theorem zhh {o o':Option (AV × aA × Esc)}{f:AV→aA→Esc→Prop}(ho:o=o'):xA o f=xA o' f:=by rw[ho]
theorem z47 {ops:List AOp}{e e':List (Nat × AV)}{h h':aA}{x x':Esc}(he:e=e')(hh:h=h')(hx:x=x'):zA C gl ops e h x L=zA C gl ops e' h' x' L:=by rw[he,hh,hx]
theorem z5o {c:ACode}{s s':St}(hs:s=s'):AW C gl c s K=AW C gl c s' K:=by rw[hs]
theorem zhO {keep:Option (List Nat)}{e e':List (Nat × AV)}{h h':aA}{x x':Esc}(he:e=e')(hh:h=h')(hx:x=x'):FM keep K e h x=FM keep K e' h' x':=by rw[he,hh,hx]
theorem ziO {b:ACode}{ex ex':Ex}{s s':St}(he:ex=ex')(hs:s=s'):SK C gl b K ex s=SK C gl b K ex' s':=by rw[he,hs]
theorem z85 {i:Nat}{ex ex':Ex}{s s':St}(he:ex=ex')(hs:s=s'):TI i K ex s=TI i K ex' s':=by rw[he,hs]
theorem ziN {n:Nat}{y:Esc}{ex ex':Ex}{s s':St}(he:ex=ex')(hs:s=s'):RK n y K ex s=RK n y K ex' s':=by rw[he,hs]
theorem WX {X:Ctx}{f:Nat}{F:AFun}{a:List AV}{h:aA}{P:jA}(hf:X.fn f=some F)(hd:F.isDet=false):cA X f a h P=EC (cA X) X.gl F a h P:=by
 rw[propext gW];unfold oC;rw[hf];simp only[GD,hd]
theorem z75 {X:Ctx}{f:Nat}{F:AFun}{a:List AV}{h:aA}{P:jA}(hf:X.fn f=some F)(hd:F.isDet=true):cA X f a h P = ∃v h' x,P v h' x∧EC (cA X) X.gl F a h fun v1 h1 x1=>v1=v∧h1=h'∧x1=x:=by
 rw[propext gW];unfold oC;rw[hf];simp only[GD,hd]
theorem z0V {A B:AV→aA→Esc→Prop}(h:∀ v h' x,A v h' x=B v h' x):(∃v h' x,A v h' x) = ∃v h' x,B v h' x:=by
 simp only[h]
theorem bY {F:AFun}{a asv:List AV}{h h1:aA}{P:jA}(hr:F.byref=false)(hp:CA h a=some (asv,h1))(hl:asv.length=F.nparams) :
 EC C gl F a h P=AW C gl F.body ⟨enter asv,h1,[]⟩ (finK F h.length P):=by
 unfold EC;rw[hr];simp only[Bool.false_eq_true,if_false,hp,hl,true_and];congr 1
theorem z7K {F:AFun}{asv:List AV}{h:aA}{P:jA}(hr:F.byref=true)(hl:asv.length=F.nparams) :
 EC C gl F asv h P=AW C gl F.body ⟨enter asv,h,[]⟩ (finK F h.length P):=by
 unfold EC;rw[hr];simp only[if_true,hl,true_and];congr 1
def doK (C:Hd)(gl:Nat→Option PV)(o:AOp)(e:List (Nat × AV))(h:aA)(R:AV→aA→Esc→Prop):Prop:=∃v h' y,ADo C gl o e h v h' y∧R v h' y
def BB (C:Hd)(f:Nat)(a:List AV)(h:aA)(R:AV→aA→Esc→Prop):Prop:=∃v h' y,C f a h (fun v1 h1 x1=>v1=v∧h1=h'∧x1=y)∧R v h' y
def xO (C:Hd)(gl:Nat→Option PV)(o:DOp)(r:List DOp)(dn:YC)(hs:List aA)(e:List (Nat × AV))(h:aA)(x:Esc)(L:List (Nat × AV)→aA→Esc→Prop)(v:AV)(h':aA)(y:Esc):Prop:=
 (o.eff=false→h'=h∧y=[])∧(∀k∈o.early,∃g,hs[k]?=some g∧ADo C gl o.op (RA (some o.rd) e) g v g []) ∧
  (∀j∈o.again,∃q,dn[j]?=some q∧ADo C gl q.1 q.2.1 h' q.2.2 h' [])∧CC C gl r (dn++[(o.op,RA (some o.rd) e,v)]) (hs++[h]) (put o.op.dst v e) h' (y++x) L
theorem z5p {ds:List DOp}{keep:Option (List Nat)}:AW C gl (.draw ds keep) ⟨e,h,x⟩ K=CC C gl ds [] [] e h x (FM keep K):=(rfl)
theorem z4y {dn:YC}{hs:List aA}:CC C gl [] dn hs e h x L=L e h x:=(rfl)
theorem iW {o:DOp}{r:List DOp}{dn:YC}{hs:List aA}:CC C gl (o::r) dn hs e h x L=doK C gl o.op (RA (some o.rd) e) h (xO C gl o r dn hs e h x L):=(rfl)
variable {R:AV→aA→Esc→Prop}
theorem ex3 {v0:AV}{h0:aA}{y0:Esc}:(∃v h y,(v=v0∧h=h0∧y=y0)∧R v h y)=R v0 h0 y0:=
 propext ⟨fun⟨_,_,_,⟨h1,h2,h3⟩,r⟩=>by subst h1;subst h2;subst h3;exact r,fun r=>⟨_,_,_,⟨rfl,rfl,rfl⟩,r⟩⟩
theorem ex3' {v0:AV}{h0:aA}{y0:Esc}:(∃v h y,(v0=v∧h0=h∧y0=y)∧R v h y)=R v0 h0 y0:=
 propext ⟨fun⟨_,_,_,⟨h1,h2,h3⟩,r⟩=>by subst h1;subst h2;subst h3;exact r,fun r=>⟨_,_,_,⟨rfl,rfl,rfl⟩,r⟩⟩
theorem vB {d:Option Nat}{op:AO}(hp:op.plain=true):doK C gl ⟨d,none,op⟩ e h R=xA (aop op (Opd.ev gl e) h) R:=by
 have key:∀o:Option (AV×aA×Esc),(∃v h' y,o=some (v,h',y)∧R v h' y)=xA o R:=by
  intro o;cases o with
  | none=>simp [xA]
  | some z=>obtain⟨v,h',y⟩:=z;simp only[Option.some.injEq,Prod.mk.injEq,ex3'];rfl
 rw[←key];unfold doK ADo;cases op <;> first|(cases hp;done)|rfl
theorem z0y {d:Option Nat}{f:Nat}{args:List Opd}:doK C gl ⟨d,none,.call f args⟩ e h R=BB C f (args.map (Opd.ev gl e)) h R:=(rfl)
theorem z00 {d:Option Nat}{t:Nat}{b:Bool}{op:AO}:doK C gl ⟨d,some (t,b),op⟩ e h R=MC (bA e t) b (doK C gl ⟨d,none,op⟩ e h R) (R .skp h []):=by
 have h2:wanted none e=some true:=(rfl)
 have key:∀v,bA e t=v→doK C gl ⟨d,some (t,b),op⟩ e h R=MC v b (doK C gl ⟨d,none,op⟩ e h R) (R .skp h []):=by
  intro v hv;unfold MC;split
  ·rename_i c
   split
   ·rename_i hcb
    have hw:wanted (some (t,b)) e=some true:=by simp [wanted,hv,hcb]
    unfold doK ADo;simp only[hw,h2]
   ·rename_i hcb
    have hw:wanted (some (t,b)) e=some false:=by simp [wanted,hv,hcb]
    unfold doK ADo;simp only[hw,ex3]
  ·have hw:wanted (some (t,b)) e=some false:=by simp [wanted,hv]
   unfold doK ADo;simp only[hw,ex3]
  ·rename_i h3 h4
   have hw:wanted (some (t,b)) e=none:=by
    simp only[wanted,hv]
   unfold doK ADo;simp only[hw];simp
 exact key _ rfl
theorem zbe {d:Option Nat}{q0:Opd}:doK C gl ⟨d,none,(.mv q0)⟩ e h R=xA (aop (.mv q0) (Opd.ev gl e) h) R:=vB rfl
theorem zbi {d:Option Nat}{q0 q1 q2:Opd}:doK C gl ⟨d,none,(.pick q0 q1 q2)⟩ e h R=xA (aop (.pick q0 q1 q2) (Opd.ev gl e) h) R:=vB rfl
theorem za6 {d:Option Nat}{q0:List AV}:doK C gl ⟨d,none,(.alloc q0)⟩ e h R=xA (aop (.alloc q0) (Opd.ev gl e) h) R:=vB rfl
theorem za9 {d:Option Nat}{q0:Opd}:doK C gl ⟨d,none,(.box q0)⟩ e h R=xA (aop (.box q0) (Opd.ev gl e) h) R:=vB rfl
theorem zaB {d:Option Nat}{q0:List AV}{q1:List (Nat × Nat × Opd)}:doK C gl ⟨d,none,(.build q0 q1)⟩ e h R=xA (aop (.build q0 q1) (Opd.ev gl e) h) R:=vB rfl
theorem zaA {d:Option Nat}{q0:Bool}{q1:Sh}{q2:Nat}{q3:PV}{q4:List (Nat × Opd)}:doK C gl ⟨d,none,(.bsl q0 q1 q2 q3 q4)⟩ e h R=xA (aop (.bsl q0 q1 q2 q3 q4) (Opd.ev gl e) h) R:=vB rfl
theorem zaS {d:Option Nat}{q0:Sh}{q1:Opd}:doK C gl ⟨d,none,(.load q0 q1)⟩ e h R=xA (aop (.load q0 q1) (Opd.ev gl e) h) R:=vB rfl
theorem zbm {d:Option Nat}{q0:Sh}{q1 q2:Opd}:doK C gl ⟨d,none,(.store q0 q1 q2)⟩ e h R=xA (aop (.store q0 q1 q2) (Opd.ev gl e) h) R:=vB rfl
theorem zbh {d:Option Nat}{q0:Opd}:doK C gl ⟨d,none,(.nilchk q0)⟩ e h R=xA (aop (.nilchk q0) (Opd.ev gl e) h) R:=vB rfl
theorem za8 {d:Option Nat}{q0:BinOp}{q1 q2:Opd}:doK C gl ⟨d,none,(.bin q0 q1 q2)⟩ e h R=xA (aop (.bin q0 q1 q2) (Opd.ev gl e) h) R:=vB rfl
theorem zaF {d:Option Nat}{q0:List Nat}{q1:Bool}{q2 q3:Opd}:doK C gl ⟨d,none,(.eqa q0 q1 q2 q3)⟩ e h R=xA (aop (.eqa q0 q1 q2 q3) (Opd.ev gl e) h) R:=vB rfl
theorem zaO {d:Option Nat}{q0:Nat}{q1:Bool}{q2:Opd}:doK C gl ⟨d,none,(.isnil q0 q1 q2)⟩ e h R=xA (aop (.isnil q0 q1 q2) (Opd.ev gl e) h) R:=vB rfl
theorem zaY {d:Option Nat}{q0:Opd}:doK C gl ⟨d,none,(.mkif q0)⟩ e h R=xA (aop (.mkif q0) (Opd.ev gl e) h) R:=vB rfl
theorem zbn {d:Option Nat}{q0:UnOp}{q1:Opd}:doK C gl ⟨d,none,(.un q0 q1)⟩ e h R=xA (aop (.un q0 q1) (Opd.ev gl e) h) R:=vB rfl
theorem zaD {d:Option Nat}{q0:Cv}{q1:Opd}:doK C gl ⟨d,none,(.conv q0 q1)⟩ e h R=xA (aop (.conv q0 q1) (Opd.ev gl e) h) R:=vB rfl
theorem zaX {d:Option Nat}{q0:Nat}{q1:List Opd}:doK C gl ⟨d,none,(.mkfn q0 q1)⟩ e h R=xA (aop (.mkfn q0 q1) (Opd.ev gl e) h) R:=vB rfl
theorem zaZ {d:Option Nat}  : doK C gl ⟨d,none,.mkmap⟩ e h R=xA (aop .mkmap (Opd.ev gl e) h) R:=vB rfl
theorem zba {d:Option Nat}{q0:Sh}{q1:PV}{q2 q3:Opd}:doK C gl ⟨d,none,(.mksl q0 q1 q2 q3)⟩ e h R=xA (aop (.mksl q0 q1 q2 q3) (Opd.ev gl e) h) R:=vB rfl
theorem zbj {d:Option Nat}{q0:Sh}{q1:Opd}{q2 q3 q4:Option Opd}:doK C gl ⟨d,none,(.slice q0 q1 q2 q3 q4)⟩ e h R=xA (aop (.slice q0 q1 q2 q3 q4) (Opd.ev gl e) h) R:=vB rfl
theorem zbk {d:Option Nat}{q0:Opd}{q1 q2:Option Opd}:doK C gl ⟨d,none,(.slstr q0 q1 q2)⟩ e h R=xA (aop (.slstr q0 q1 q2) (Opd.ev gl e) h) R:=vB rfl
theorem zaI {d:Option Nat}{q0:Nat}{q1:Sh}{q2:Opd}:doK C gl ⟨d,none,(.faddr q0 q1 q2)⟩ e h R=xA (aop (.faddr q0 q1 q2) (Opd.ev gl e) h) R:=vB rfl
theorem zaJ {d:Option Nat}{q0:Nat}{q1:Sh}{q2:Opd}:doK C gl ⟨d,none,(.field q0 q1 q2)⟩ e h R=xA (aop (.field q0 q1 q2) (Opd.ev gl e) h) R:=vB rfl
theorem zaK {d:Option Nat}{q0:Sh}{q1 q2:Opd}:doK C gl ⟨d,none,(.iaddr q0 q1 q2)⟩ e h R=xA (aop (.iaddr q0 q1 q2) (Opd.ev gl e) h) R:=vB rfl
theorem zaL {d:Option Nat}{q0:Nat}{q1:Sh}{q2 q3:Opd}:doK C gl ⟨d,none,(.iaddra q0 q1 q2 q3)⟩ e h R=xA (aop (.iaddra q0 q1 q2 q3) (Opd.ev gl e) h) R:=vB rfl
theorem zaM {d:Option Nat}{q0:Nat}{q1:Sh}{q2 q3:Opd}:doK C gl ⟨d,none,(.idxa q0 q1 q2 q3)⟩ e h R=xA (aop (.idxa q0 q1 q2 q3) (Opd.ev gl e) h) R:=vB rfl
theorem zaN {d:Option Nat}{q0 q1:Opd}:doK C gl ⟨d,none,(.idxs q0 q1)⟩ e h R=xA (aop (.idxs q0 q1) (Opd.ev gl e) h) R:=vB rfl
theorem zaT {d:Option Nat}{kk:Sh × List Nat}{q0:Bool}{q1:AV}{q2 q3:Opd}:doK C gl ⟨d,none,(.look kk q0 q1 q2 q3)⟩ e h R=xA (aop (.look kk q0 q1 q2 q3) (Opd.ev gl e) h) R:=vB rfl
theorem zbd {d:Option Nat}{kk:Sh × List Nat}{q0 q1 q2:Opd}:doK C gl ⟨d,none,(.mupd kk q0 q1 q2)⟩ e h R=xA (aop (.mupd kk q0 q1 q2) (Opd.ev gl e) h) R:=vB rfl
theorem zaV {d:Option Nat}{kk:Sh × List Nat}{q0:AV}{q1 q2:Opd}:doK C gl ⟨d,none,(.ment kk q0 q1 q2)⟩ e h R=xA (aop (.ment kk q0 q1 q2) (Opd.ev gl e) h) R:=vB rfl
theorem zaG {d:Option Nat}{q0 q1 q2:Opd}:doK C gl ⟨d,none,(.estore q0 q1 q2)⟩ e h R=xA (aop (.estore q0 q1 q2) (Opd.ev gl e) h) R:=vB rfl
theorem zaU {d:Option Nat}{kk:Sh × List Nat}{q0 q1:Opd}:doK C gl ⟨d,none,(.mdel kk q0 q1)⟩ e h R=xA (aop (.mdel kk q0 q1) (Opd.ev gl e) h) R:=vB rfl
theorem zaH {d:Option Nat}{q0:Opd}{q1:Nat}:doK C gl ⟨d,none,(.ext q0 q1)⟩ e h R=xA (aop (.ext q0 q1) (Opd.ev gl e) h) R:=vB rfl
theorem zaP {d:Option Nat}{q0:Opd}:doK C gl ⟨d,none,(.len q0)⟩ e h R=xA (aop (.len q0) (Opd.ev gl e) h) R:=vB rfl
theorem zaR {d:Option Nat}{q0:Opd}:doK C gl ⟨d,none,(.lens q0)⟩ e h R=xA (aop (.lens q0) (Opd.ev gl e) h) R:=vB rfl
theorem zaQ {d:Option Nat}{q0:Opd}:doK C gl ⟨d,none,(.lenm q0)⟩ e h R=xA (aop (.lenm q0) (Opd.ev gl e) h) R:=vB rfl
theorem za7 {d:Option Nat}{q0:Sh}{q1 q2:Opd}:doK C gl ⟨d,none,(.app q0 q1 q2)⟩ e h R=xA (aop (.app q0 q1 q2) (Opd.ev gl e) h) R:=vB rfl
theorem zaE {d:Option Nat}{q0:Sh}{q1 q2:Opd}:doK C gl ⟨d,none,(.copy q0 q1 q2)⟩ e h R=xA (aop (.copy q0 q1 q2) (Opd.ev gl e) h) R:=vB rfl
theorem zbf {d:Option Nat}{q0:List Opd}:doK C gl ⟨d,none,(.mx q0)⟩ e h R=xA (aop (.mx q0) (Opd.ev gl e) h) R:=vB rfl
theorem zbb {d:Option Nat}{q0:List Opd}:doK C gl ⟨d,none,(.mn q0)⟩ e h R=xA (aop (.mn q0) (Opd.ev gl e) h) R:=vB rfl
theorem zbc {d:Option Nat}{q0:Opd}:doK C gl ⟨d,none,(.mrange q0)⟩ e h R=xA (aop (.mrange q0) (Opd.ev gl e) h) R:=vB rfl
theorem zaW {d:Option Nat}{q0:Opd}:doK C gl ⟨d,none,(.mentry q0)⟩ e h R=xA (aop (.mentry q0) (Opd.ev gl e) h) R:=vB rfl
theorem zbg {d:Option Nat}{q0:Sh}:doK C gl ⟨d,none,(.new0 q0)⟩ e h R=xA (aop (.new0 q0) (Opd.ev gl e) h) R:=vB rfl
theorem zaC {o:AOp}{e e':List (Nat × AV)}{h h':aA}(he:e=e')(hh:h=h'):doK C gl o e h R=doK C gl o e' h' R:=by rw[he,hh]
theorem z9M {f:Nat}{a a':List AV}{h h':aA}(ha:a=a')(hh:h=h'):BB C f a h R=BB C f a' h' R:=by rw[ha,hh]
theorem z4q {X:Ctx}{f:Nat}{a a':List AV}{h h':aA}{K:jA}(ha:a=a')(hh:h=h'):cA X f a h K=cA X f a' h' K:=by rw[ha,hh]
theorem z4x {ds:List DOp}{dn dn':YC}{hs hs':List aA}{e e':List (Nat × AV)}{h h':aA}{x x':Esc}(hd:dn=dn')(hh:hs=hs')(he:e=e')(hhh:h=h')(hx:x=x'):CC C gl ds dn hs e h x L=CC C gl ds dn' hs' e' h' x' L:=by rw[hd,hh,he,hhh,hx]
theorem zbo {o:DOp}{r:List DOp}{dn:YC}{hs:List aA}{v:AV}{h':aA}{y:Esc}:xO C gl o r dn hs e h x L v h' y=((o.eff=false→h'=h∧y=[])∧(∀k∈o.early,∃g,hs[k]?=some g∧ADo C gl o.op (RA (some o.rd) e) g v g []) ∧
 (∀j∈o.again,∃q,dn[j]?=some q∧ADo C gl q.1 q.2.1 h' q.2.2 h' [])∧CC C gl r (dn++[(o.op,RA (some o.rd) e,v)]) (hs++[h]) (put o.op.dst v e) h' (y++x) L):=(rfl)
end Go.Am
end
section
/- The abstract machine,part 25: from a call that ends well here tov the model's call on a whole world. -/
set_option linter.unusedSimpArgs false
set_option linter.unusedVariables false
namespace Go.Am
variable {P:Program}
theorem zeW (W:World):HeapRel [] [] W:=⟨rfl,fun id o m h=>by simp at h,fun i j b n n' h=>by simp at h,fun i b n h=>by simp at h⟩
theorem zft {W:World}{b:Nat}{o:Go.Obj}(hb:W.heap[b]?=some o):(imm [] [] W).b b=some o:=uH.2 ⟨fun⟨id,n,h⟩=>by simp at h,hb⟩
theorem zfu {W:World}{b o:Nat}{v:Value}(hb:W.cell? ⟨b,o,none⟩=some v):(imm [] [] W).c b o=some v:=ID.2 ⟨fun⟨id,n,h,_⟩=>by simp at h,hb⟩
theorem z8m {W W':World}{h:aA}{μ:Mu}(E:(imm [] [] W).le (imm h μ W')):RowKit.Below W.heap.size W W':=by
 have hz:zed W'=zed W:=Option.some.inj E.z
 have hb:∀b,b<W.heap.size→W'.heap[b]?=W.heap[b]?:=fun b hb=>by
  have h1:=Array.getElem?_eq_getElem hb
  rw[h1];exact(uH.1 (E.b b _ (zft h1))).2
 refine⟨(congrArg World.os hz:(zed W').os=(zed W).os),(congrArg World.tape hz:(zed W').tape=(zed W).tape),(congrArg World.output hz:(zed W').output=(zed W).output),?_,hb⟩;rcases Nat.eq_zero_or_pos W.heap.size with h0|h0
 ·omega
 ·have h1:=hb (W.heap.size-1) (by omega)
  rw[Array.getElem?_eq_getElem (show W.heap.size-1<W.heap.size by omega)]at h1
  have:=(Array.getElem?_eq_some_iff.1 h1).1;omega
theorem z9N {X:Ctx}(HX:Fits P X){f:Nat}{F:AFun}(hF:X.fn f=some F)(args:Array Value)(w:World):(callFunc f args).run P w = .ok (.enter f args) w:=by
 have hck:=HX.fn f F hF
 unfold dS at hck;split at hck
 ·rename_i fn hfn
  split at hck
  ·rename_i c hb
   simp only[Bool.and_eq_true,bne_iff_ne,ne_eq]at hck;exact DO hfn hb hck.2 _ w
  ·cases hck
 ·cases hck
theorem DY {X:Ctx}(HX:Fits P X){f:Nat}{F:AFun}(hF:X.fn f=some F){asv:List AV}{K:jA}(H:cA X f asv [] K){W:World}{vs:List Value}(hG:SD X.gl (imm [] [] W))(hl:asv.length=vs.length)
 (hr:∀(j:Nat) (y:AV) (v:Value),asv[j]?=some y→vs[j]?=some v→RAV (imm [] [] W) [] [] y v) :
 Calls P f vs.toArray W fun
  | .returned r,W'=>(∃v h x μ,K v h x∧RAV (imm h μ W') h μ v r)∧RowKit.Below W.heap.size W W'
  | _,_=>False:=by
 rcases CY HX H [] W vs (zeW W) hG hl hr with⟨_,q⟩|⟨r,w',_,_,_,_,q,_⟩
 case inr=>rw[z9N HX hF]at q;cases q
 refine q.mono fun e W' he=>?_
 cases e with
 | returned r=>
  obtain⟨v,h',x,μ',k1,k2,k3,k4,k5⟩:=he;exact⟨⟨v,h',x,μ',k1,k2⟩,z8m k4.le⟩
 | panicked _=>exact he
 | outgrown=>exact he
def eQ (zs:List Int):AV:=.p (.sl none (zs.map fun n=>.int .i64 n))
theorem z9T (W:World):RAV (imm [] [] W) [] [] (eQ []) (.slice none 0 0):=.p _ _ (.nils _ _ _)
theorem z9S {W:World}{a:Addr}{len cap:Nat}{zs:List Int}(hs:a.spot=none)(hl:len≤cap)(hz:len≤zs.length)(hc:∀ i,i<zs.length→W.cell? (a.add i)=some (.int .i64 (zs.getD i 0))) :
 RAV (imm [] [] W) [] [] (eQ (zs.take len)) (.slice (some a) len cap):=by
 obtain⟨b,o,s⟩:=a;simp only at hs;subst hs;refine .p _ _ ?_;have hlen:((zs.take len).map fun n=>PV.int .i64 n).length=len:=by simp [hz]
 have hfl:((zs.take len).map fun n=>PV.int .i64 n).flatMap PV.cells=(zs.take len).map fun n=>PV.int .i64 n:=by
  generalize zs.take len=l;induction l with
  | nil=>rfl
  | cons n r ih=>simp only[List.map_cons,List.flatMap_cons,ih];rfl
 by_cases h0:len=0
 ·subst h0
  simp;exact .nils _ _ _
 ·have key:=RPV.sl (M:=imm [] [] W) none ((zs.take len).map fun n=>PV.int .i64 n) b o cap (fun j=>.int .i64 (zs.getD j 0)) (fun hh=>by rw[hh]at hlen;simp at hlen;omega) (by rw[hlen];exact hl)
   (fun x hx=>by obtain⟨n,_,rfl⟩:=List.mem_map.1 hx;rfl)
   (fun j y hy=>by
    rw[hfl]at hy;have hj:j<len:=by have:=NA hy;rw[hlen]at this;exact this
    have:=hc j (by omega)
    rw[NC]at this;exact zfu this)
   (fun j y hy=>by
    rw[hfl]at hy;have hj:j<len:=by have:=NA hy;rw[hlen]at this;exact this
    have hjz:j<zs.length:=by omega
    simp [List.getElem?_take,hj,hjz]at hy;subst hy;have:zs.getD j 0=zs[j]:=by simp [List.getD,hjz]
    rw[this];exact .int _ _)
  rwa [hlen]at key
end Go.Am
end
section
/- The abstract machine,part 26: pC calls are computed. -/
set_option linter.unusedSimpArgs false
set_option linter.unusedVariables false
namespace Go.Am
mutual
def PV.same:PV→PV→Bool
 | .int k a,.int k' b=>decide (k=k')&&decide (a=b)
 | .bool a,.bool b=>decide (a=b)
 | .str a,.str b=>decide (a=b)
 | .sl s xs,.sl t ys=>decide (s=t)&&PV.sames xs ys
 | .agg xs,.agg ys=>PV.sames xs ys
 | .nilp,.nilp=>true
 | _,_=>false
def PV.sames:List PV→List PV→Bool
 | [],[]=>true
 | a::asv,b::bs=>PV.same a b&&PV.sames asv bs
 | _,_=>false
end
mutual
theorem PV.same_eq:∀ (a b:PV),PV.same a b=true→a=b
 | .int k a,b,h=>by
  cases b <;> simp [PV.same]at h
  obtain⟨h1,h2⟩:=h;subst h1;subst h2;rfl
 | .bool a,b,h=>by cases b <;> simp [PV.same]at h;subst h;rfl
 | .str a,b,h=>by cases b <;> simp [PV.same]at h;subst h;rfl
 | .sl s xs,b,h=>by
  cases b <;> simp [PV.same]at h
  obtain⟨h1,h2⟩:=h;subst h1;rw[PV.sames_eq _ _ h2]
 | .agg xs,b,h=>by
  cases b <;> simp [PV.same]at h
  rw[PV.sames_eq _ _ h]
 | .nilp,b,h=>by cases b <;> simp [PV.same]at h;rfl
theorem PV.sames_eq:∀ (a b:List PV),PV.sames a b=true→a=b
 | [],b,h=>by cases b <;> simp [PV.sames]at h;rfl
 | x::xs,b,h=>by
  cases b <;> simp [PV.sames]at h
  rw[PV.same_eq _ _ h.1,PV.sames_eq _ _ h.2]
end
mutual
def AV.same:AV→AV→Bool
 | .p a,.p b=>PV.same a b
 | .own a b c d,.own a' b' c' d'=>decide (a=a')&&decide (b=b')&&decide (c=c')&&decide (d=d')
 | .sl0 a,.sl0 b=>decide (a=b)
 | .ref a b,.ref a' b'=>decide (a=a')&&decide (b=b')
 | .rref a b c d,.rref a' b' c' d'=>decide (a=a')&&decide (b=b')&&decide (c=c')&&decide (d=d')
 | .vp a,.vp b=>PV.same a b
 | .nilp,.nilp=>true
 | .nilm,.nilm=>true
 | .nilf,.nilf=>true
 | .nili,.nili=>true
 | .ifc,.ifc=>true
 | .mp a,.mp b=>decide (a=b)
 | .it a,.it b=>decide (a=b)
 | .fn a b,.fn a' b'=>decide (a=a')&&AV.sames b b'
 | .agg a,.agg b=>AV.sames a b
 | .tup a,.tup b=>AV.sames a b
 | .anyb,.anyb=>true
 | .skp,.skp=>true
 | .und,.und=>true
 | .anyp,.anyp=>true
 | .bt a b c d,.bt a' b' c' d'=>decide (a=a')&&decide (b=b')&&decide (c=c')&&decide (d=d')
 | _,_=>false
def AV.sames:List AV→List AV→Bool
 | [],[]=>true
 | a::asv,b::bs=>AV.same a b&&AV.sames asv bs
 | _,_=>false
end
mutual
theorem AV.same_eq:∀ (a b:AV),AV.same a b=true→a=b
 | .p a,b,h=>by cases b <;> simp [AV.same]at h;rw[PV.same_eq _ _ h]
 | .own _ _ _ _,b,h=>by cases b <;> simp [AV.same]at h;simp [h]
 | .sl0 _,b,h=>by cases b <;> simp [AV.same]at h;simp [h]
 | .ref _ _,b,h=>by cases b <;> simp [AV.same]at h;simp [h]
 | .rref _ _ _ _,b,h=>by cases b <;> simp [AV.same]at h;simp [h]
 | .vp a,b,h=>by cases b <;> simp [AV.same]at h;rw[PV.same_eq _ _ h]
 | .nilp,b,h=>by cases b <;> simp [AV.same]at h;rfl
 | .nilm,b,h=>by cases b <;> simp [AV.same]at h;rfl
 | .nilf,b,h=>by cases b <;> simp [AV.same]at h;rfl
 | .nili,b,h=>by cases b <;> simp [AV.same]at h;rfl
 | .ifc,b,h=>by cases b <;> simp [AV.same]at h;rfl
 | .mp _,b,h=>by cases b <;> simp [AV.same]at h;simp [h]
 | .it _,b,h=>by cases b <;> simp [AV.same]at h;simp [h]
 | .fn _ cs,b,h=>by cases b <;> simp [AV.same]at h;rw[h.1,AV.sames_eq _ _ h.2]
 | .agg cs,b,h=>by cases b <;> simp [AV.same]at h;rw[AV.sames_eq _ _ h]
 | .tup cs,b,h=>by cases b <;> simp [AV.same]at h;rw[AV.sames_eq _ _ h]
 | .anyb,b,h=>by cases b <;> simp [AV.same]at h;rfl
 | .skp,b,h=>by cases b <;> simp [AV.same]at h;rfl
 | .und,b,h=>by cases b <;> simp [AV.same]at h;rfl
 | .anyp,b,h=>by cases b <;> simp [AV.same]at h;rfl
 | .bt _ _ _ _,b,h=>by cases b <;> simp [AV.same]at h;simp [h]
theorem AV.sames_eq:∀ (a b:List AV),AV.sames a b=true→a=b
 | [],b,h=>by cases b <;> simp [AV.sames]at h;rfl
 | x::xs,b,h=>by
  cases b <;> simp [AV.sames]at h
  rw[AV.same_eq _ _ h.1,AV.sames_eq _ _ h.2]
end
abbrev EvC:=Nat→List AV→aA→Option (AV×aA×Esc)
def qJ (C:EvC)(gl:Nat→Option PV)(o:AOp)(e:List (Nat × AV))(h:aA):Option (AV×aA×Esc):=match wanted o.guard e with
 | some true=>match o.op with
  | .call f args=>C f (args.map (Opd.ev gl e)) h
  | .callv f args=>match Opd.ev gl e f with
   | .fn g caps=>C g (args.map (Opd.ev gl e)++caps) h
   | _=>none
  | .mnext _ _=>none
  | op=>aop op (Opd.ev gl e) h
 | some false=>some (.skp,h,[])
 | none=>none
def z0T (gl:Nat→Option PV)(o:AOp)(e:List (Nat × AV))(h:aA):Option (AV×aA):=match o.op with
 | .mnext sh xs=>match wanted o.guard e with
  | some true=>match oL h sh (xs.map (Opd.ev gl e)) with
   | some [y]=>some y
   | _=>none
  | _=>none
 | _=>none
def rJ (C:EvC)(gl:Nat→Option PV):List AOp→List (Nat×AV)→aA→Esc→Option (List (Nat×AV)×aA×Esc)
 | [],e,h,x=>some (e,h,x)
 | o::r,e,h,x=>match qJ C gl o e h with
  | some (v,h',x')=>rJ C gl r (put o.dst v e) h' (x'++x)
  | none=>match z0T gl o e h with
   | some (v,h')=>rJ C gl r (put o.dst v e) h' x
   | none=>none
def AO.still:AO→Bool
 | .mv _ | .pick _ _ _ | .build _ _ | .load _ _ | .nilchk _ | .bin _ _ _ | .eqa _ _ _ _ | .isnil _ _ _ | .mkif _ | .un _ _ | .mkfn _ _ | .slice _ _ _ _ _ | .slstr _ _ _ | .faddr _ _ _ | .field _ _ _ | .iaddr _ _ _
 | .iaddra _ _ _ _ | .idxa _ _ _ _ | .idxs _ _ | .look _ _ _ _ _ | .ext _ _ | .len _ | .lens _ | .lenm _ | .mx _ | .mn _=>true
 | _=>false
def AO.still2:AO→Bool
 | .conv (.i _) _=>true
 | o=>o.still
def ME.same (a b:ME):Bool:=PV.same a.key b.key&&AV.same a.val b.val&&decide (a.born=b.born)
def MEs.same:List ME→List ME→Bool
 | [],[]=>true
 | a::asv,b::bs=>ME.same a b&&MEs.same asv bs
 | _,_=>false
def Obj.same:Obj→Obj→Bool
 | .box a,.box b=>AV.sames a b
 | .row a b c,.row a' b' c'=>decide (a=a')&&PV.sames b b'&&decide (c=c')
 | .amap a b,.amap a' b'=>MEs.same a a'&&decide (b=b')
 | .iter a b c d,.iter a' b' c' d'=>decide (a=a')&&decide (b=b')&&decide (c=c')&&decide (d=d')
 | _,_=>false
def aA.same:List Obj→List Obj→Bool
 | [],[]=>true
 | a::asv,b::bs=>Obj.same a b&&aA.same asv bs
 | _,_=>false
theorem ME.same_eq {a b:ME}(h:ME.same a b=true):a=b:=by
 cases a;cases b
 simp only[ME.same,Bool.and_eq_true,decide_eq_true_eq]at h;obtain⟨⟨h1,h2⟩,h3⟩:=h;rw[PV.same_eq _ _ h1,AV.same_eq _ _ h2,h3]
theorem MEs.same_eq:∀ {a b:List ME},MEs.same a b=true→a=b
 | [],[],_=>rfl
 | [],_::_,h=>by simp [MEs.same]at h
 | _::_,[],h=>by simp [MEs.same]at h
 | a::asv,b::bs,h=>by
  simp only[MEs.same,Bool.and_eq_true]at h;rw[ME.same_eq h.1,MEs.same_eq h.2]
theorem Obj.same_eq {a b:Obj}(h:Obj.same a b=true):a=b:=by
 cases a <;> cases b <;> simp only[Obj.same,Bool.and_eq_true,decide_eq_true_eq]at h <;> first
  | (cases h;done)
  | (rw[AV.sames_eq _ _ h])
  | (obtain⟨⟨h1,h2⟩,h3⟩:=h;rw[h1,PV.sames_eq _ _ h2,h3])
  | (obtain⟨h1,h2⟩:=h;rw[MEs.same_eq h1,h2])
  | (obtain⟨⟨⟨h1,h2⟩,h3⟩,h4⟩:=h;rw[h1,h2,h3,h4])
theorem aA.same_eq:∀ {a b:List Obj},aA.same a b=true→a=b
 | [],[],_=>rfl
 | [],_::_,h=>by simp [aA.same]at h
 | _::_,[],h=>by simp [aA.same]at h
 | a::asv,b::bs,h=>by
  simp only[aA.same,Bool.and_eq_true]at h;rw[Obj.same_eq h.1,aA.same_eq h.2]
def KO (C:EvC)(gl:Nat→Option PV)(o:AOp)(e:List (Nat × AV))(g:aA)(v:AV):Bool:=match qJ C gl o e g with
 | some (v',g',y)=>AV.same v' v&&y.isEmpty&&(o.op.still2||aA.same g' g)
 | none=>false
def RL (C:EvC)(gl:Nat→Option PV):List DOp→YC→List aA→List (Nat×AV)→aA→Esc→Option (List (Nat×AV)×aA×Esc)
 | [],_,_,e,h,x=>some (e,h,x)
 | o::r,dn,hs,e,h,x=>match qJ C gl o.op (RA (some o.rd) e) h with
  | some (v,h',y)=>
   if(o.eff||o.op.op.still2||y.isEmpty&&aA.same h' h)&&(o.early.all fun k=>match hs[k]? with|some g=>KO C gl o.op (RA (some o.rd) e) g v|none=>false)
    && (o.again.all fun j=>match dn[j]? with|some q=>KO C gl q.1 q.2.1 h' q.2.2|none=>false) then
    RL C gl r (dn++[(o.op,RA (some o.rd) e,v)]) (hs++[h]) (put o.op.dst v e) h' (y++x)
   else none
  | none=>none
def JO (T:St→Option (Ex × St)):Nat→St→Option (Ex×St)
 | 0,_=>none
 | n+1,s=>match T s with
  | some (.normal,s')=>JO T n s'
  | r=>r
def ZB (C:EvC)(gl:Nat→Option PV)(n:Nat):ACode→St→Option (Ex×St)
 | .skip,s=>some (.normal,s)
 | .reg ops keep,s=>match rJ C gl ops s.env s.h s.esc with
  | some (e,h,x)=>some (.normal,⟨RA keep e,h,x⟩)
  | none=>none
 | .draw ds keep,s=>match RL C gl ds [] [] s.env s.h s.esc with
  | some (e,h,x)=>some (.normal,⟨RA keep e,h,x⟩)
  | none=>none
 | .seq a b,s=>match ZB C gl n a s with
  | some (.normal,s')=>ZB C gl n b s'
  | r=>r
 | .cond c a b,s=>match Opd.ev gl s.env c with
  | .p (.bool t)=>match t with
   | true=>ZB C gl n a s
   | false=>ZB C gl n b s
  | _=>none
 | .det b,s=>ZB C gl n b s
 | .condu c a b,s=>match Opd.ev gl s.env c with
  | .p (.bool t)=>match t with
   | true=>ZB C gl n a s
   | false=>ZB C gl n b s
  | _=>none
 | .block id b,s=>match ZB C gl n b s with
  | some (.exit i,s')=>if i=id then some (.normal,s') else some (.exit i,s')
  | r=>r
 | .loop b,s=>JO (ZB C gl n b) n s
 | .scope b,s=>match ZB C gl n b ⟨s.env,s.h,[]⟩ with
  | some (e,s')=>some (e,UF s.h.length s.esc s')
  | none=>none
 | .pr l b,s=>ZB C gl n b ⟨RA (some l) s.env,s.h,s.esc⟩
 | .exit id,s=>some (.exit id,s)
 | .ret,s=>some (.ret,s)
 | .bad,_=>none
def JT (F:AFun)(b:Nat)(s:St):Option (AV×aA×Esc):=match iE s F.results with
 | some vs=>match F.keep with
  | true=>
   let n:=close s.esc.length s.esc (max b (jB vs).top)
   if pC s.esc n then some (jB vs,s.h.take n,s.esc.filter fun y=>decide (y.1<n)) else some (jB vs,s.h,s.esc)
  | false=>match XA b s.h (jB vs) with
   | some v0=>
    let n:=close s.esc.length s.esc (max b v0.top)
    if pC s.esc n then match XA n s.h (jB vs) with
     | some v=>if v.top≤n then some (v,s.h.take n,s.esc.filter fun y=>decide (y.1<n)) else none
     | none=>none
    else some (jB vs,s.h,s.esc)
   | none=>none
 | none=>none
def HT (C:EvC)(gl:Nat→Option PV)(n:Nat)(F:AFun)(args:List AV)(h:aA):Option (AV×aA×Esc):=
 match (if F.byref then some (args,h) else CA h args) with
 | some (asv,h1)=>if asv.length=F.nparams then match ZB C gl n F.body ⟨enter asv,h1,[]⟩ with
  | some (.exit _,_)=>none
  | some (_,s)=>JT F h.length s
  | none=>none
  else none
 | none=>none
def PH (C':EvC)(C:Hd):Prop:=∀f a h v h' x (K:jA),C' f a h=some (v,h',x)→K v h' x→C f a h K
variable {C':EvC} {C:Hd} {gl:Nat→Option PV}
theorem z0P (hC:PH C' C){o:AOp}{e:List (Nat × AV)}{h h':aA}{v:AV}{x:Esc}(H:qJ C' gl o e h=some (v,h',x)):ADo C gl o e h v h' x:=by
 unfold qJ at H;unfold ADo;split at H
 ·rename_i hw
  simp only[hw];obtain⟨dst,guard,op⟩:=o;cases op;case call f args=>exact hC _ _ _ _ _ _ _ H ⟨rfl,rfl,rfl⟩
  case callv f args=>
   dsimp only at H ⊢;split at H
   ·rename_i hf
    simp only[hf];exact hC _ _ _ _ _ _ _ H ⟨rfl,rfl,rfl⟩
   ·cases H
  case mnext sh xs=>cases H
  all_goals exact H
 ·rename_i hw
  simp only[hw];injection H with H
  injection H with h1 H
  injection H with h2 h3
  exact⟨h1.symm,h2.symm,h3.symm⟩
 ·cases H
theorem LT (hC:PH C' C):∀(ops:List AOp) e h x e' h' x' (K:List (Nat×AV)→aA→Esc→Prop),rJ C' gl ops e h x=some (e',h',x')→K e' h' x'→zA C gl ops e h x K
 | [],e,h,x,e',h',x',K,H,hK=>by
  simp only[rJ,Option.some.injEq,Prod.mk.injEq]at H;obtain⟨rfl,rfl,rfl⟩:=H;exact hK
 | o::r,e,h,x,e',h',x',K,H,hK=>by
  unfold rJ at H;split at H
  ·rename_i v h1 x1 hd
   have ih:=LT hC r _ _ _ _ _ _ K H hK
   unfold qJ at hd;unfold zA;split at hd
   ·rename_i hw
    simp only[hw];obtain⟨dst,guard,op⟩:=o;cases op;case call f args=>exact hC _ _ _ _ _ _ _ hd ih
    case callv f args=>
     dsimp only at hd ⊢;split at hd
     ·rename_i hf
      simp only[hf];exact hC _ _ _ _ _ _ _ hd ih
     ·cases hd
    case mnext sh xs=>cases hd
    all_goals
     dsimp only at hd ⊢;rw[hd];exact ih
   ·rename_i hw
    simp only[hw];injection hd with hd
    injection hd with h1 hd
    injection hd with h2 h3
    subst h1;subst h2;subst h3
    exact ih
   ·cases hd
  ·split at H
   ·rename_i v h1 hd
    have ih:=LT hC r _ _ _ _ _ _ K H hK
    unfold z0T at hd;unfold zA;split at hd
    ·rename_i sh xs hop
     split at hd
     ·rename_i hw
      simp only[hw,hop];split at hd
      ·rename_i y hm
       injection hd with hd
       subst hd;simp only[hm];refine⟨by simp,fun z hz=>?_⟩
       rw[List.mem_singleton]at hz;subst hz;exact ih
      ·cases hd
     ·cases hd
    ·cases hd
   ·cases H
theorem z7U {o:AO}(hs:o.still=true){ev:Opd→AV}{h h':aA}{v:AV}{x:Esc}(H:aop o ev h=some (v,h',x)):h'=h∧x=[]:=by
 cases o <;> first|(cases hs;done)|skip
 all_goals
  unfold aop at H;dsimp only at H;repeat' split at H
  all_goals first
   | (cases H;done)
   | (simp only[Option.some.injEq,Prod.mk.injEq]at H;obtain⟨_,rfl,rfl⟩:=H;exact⟨rfl,rfl⟩)
   | (simp only[Option.map_eq_some_iff,Prod.mk.injEq]at H;obtain⟨_,_,_,rfl,rfl⟩:=H;exact⟨rfl,rfl⟩)
   | (have H2:=nilc (g:=[]) H;rename_i k neg p;cases hb:yH k (ev p) <;> rw[hb]at H <;> simp only[cond_true,cond_false,Option.map_eq_some_iff,Option.some.injEq,Prod.mk.injEq]at H <;> first|(obtain⟨_,rfl,rfl⟩:=H;exact⟨rfl,rfl⟩)|(obtain⟨_,_,_,rfl,rfl⟩:=H;exact⟨rfl,rfl⟩))
theorem z7V {o:AO}(hs:o.still2=true){ev:Opd→AV}{h h':aA}{v:AV}{x:Esc}(H:aop o ev h=some (v,h',x)):h'=h∧x=[]:=by
 unfold AO.still2 at hs;split at hs
 ·simp only[aop,tF]at H
  split at H
  ·simp at H;exact⟨H.2.1.symm,H.2.2⟩
  ·simp at H
 ·exact z7U hs H
theorem HQ {o:AOp}(hs:o.op.still2=true){e:List (Nat × AV)}{h h':aA}{v:AV}{x:Esc}(H:ADo C gl o e h v h' x):h'=h∧x=[]:=by
 unfold ADo at H;split at H
 ·obtain⟨dst,guard,op⟩:=o
  cases op <;> first|(cases hs;done)|exact z7V hs H
 ·exact H.2
 ·exact H.elim
theorem zjw {o:AO}(h:o.still=true):o.still2=true:=by
 cases o <;> first|exact h|(cases h;done)
theorem z4w {o:AOp}(hs:o.op.still=true){e:List (Nat × AV)}{h h':aA}{v:AV}{x:Esc}(H:ADo C gl o e h v h' x):h'=h∧x=[]:=HQ (zjw hs) H
theorem z0U (hC:PH C' C){o:AOp}{e:List (Nat × AV)}{g:aA}{v:AV}(H:KO C' gl o e g v=true):ADo C gl o e g v g []:=by
 unfold KO at H;split at H
 ·rename_i v' g' y hd
  simp only[Bool.and_eq_true,Bool.or_eq_true,List.isEmpty_iff]at H;obtain⟨⟨h1,h2⟩,h3⟩:=H;have h1:=AV.same_eq _ _ h1
  have:=z0P (C:=C) hC hd;rcases h3 with hs|hs
  ·obtain⟨e1,e2⟩:=HQ hs this
   subst e1;subst e2;subst h1
   exact this
  ·have e1:=aA.same_eq hs
   subst e1;subst h2;subst h1
   exact this
 ·cases H
theorem z0Q (hC:PH C' C):∀(ds:List DOp) dn hs e h x e' h' x' (K:List (Nat×AV)→aA→Esc→Prop),RL C' gl ds dn hs e h x=some (e',h',x')→K e' h' x'→CC C gl ds dn hs e h x K
 | [],dn,hs,e,h,x,e',h',x',K,H,hK=>by
  simp only[RL,Option.some.injEq,Prod.mk.injEq]at H;obtain⟨rfl,rfl,rfl⟩:=H;exact hK
 | o::r,dn,hs,e,h,x,e',h',x',K,H,hK=>by
  unfold RL at H;split at H
  ·rename_i v h1 y hd
   split at H
   ·rename_i hc
    simp only[Bool.and_eq_true,Bool.or_eq_true,List.all_eq_true]at hc;obtain⟨⟨c1,c2⟩,c3⟩:=hc;have hdo:=z0P (C:=C) hC hd
    refine⟨v,h1,y,hdo,fun he=>?_,fun k hk=>?_,fun j hj=>?_,z0Q hC r _ _ _ _ _ _ _ _ K H hK⟩
    ·rcases c1 with(c1|c1)|⟨c1,c4⟩
     ·rw[c1]at he;cases he
     ·exact HQ c1 hdo
     ·rw[List.isEmpty_iff]at c1
      exact⟨aA.same_eq c4,c1⟩
    ·have:=c2 k hk
     split at this
     ·rename_i g hg
      exact⟨g,hg,z0U hC this⟩
     ·cases this
    ·have:=c3 j hj
     split at this
     ·rename_i q hq
      exact⟨q,hq,z0U hC this⟩
     ·cases this
   ·cases H
  ·cases H
theorem z0S {T':St→Option (Ex × St)}{T:St→(Ex→St→Prop)→Prop}(hT:∀ s e s' K,T' s=some (e,s')→K e s'→T s K):∀n s e s' K,JO T' n s=some (e,s')→K e s'→ALoop T K s
 | 0,s,e,s',K,H,hK=>by cases H
 | n+1,s,e,s',K,H,hK=>by
  unfold JO at H;split at H
  ·rename_i s1 h1
   refine .mk s (fun e2 s2=>e2 = .normal∧s2=s1) (hT _ _ _ _ h1 ⟨rfl,rfl⟩) (fun s2 ⟨_,h2⟩=>?_) (fun i s2 ⟨h2,_⟩=>by cases h2) (fun s2 ⟨h2,_⟩=>by cases h2)
   subst h2;exact z0S hT n _ _ _ K H hK
  ·rename_i hne
   have hne':e ≠ .normal:=fun he=>by subst he;exact hne _ H
   refine .mk s (fun e2 s2=>e2=e∧s2=s') (hT _ _ _ _ H ⟨rfl,rfl⟩) (fun s2 ⟨h2,_⟩=>(hne' h2.symm).elim) (fun i s2 ⟨h2,h3⟩=>by subst h3;rw[h2];exact hK) (fun s2 ⟨h2,h3⟩=>by subst h3;rw[h2];exact hK)
theorem YD (hC:PH C' C)(n:Nat):∀(c:ACode) s e s' (K:Ex→St→Prop),ZB C' gl n c s=some (e,s')→K e s'→AW C gl c s K
 | .skip,s,e,s',K,H,hK=>by
  simp only[ZB,Option.some.injEq,Prod.mk.injEq]at H;obtain⟨rfl,rfl⟩:=H;exact hK
 | .reg ops keep,s,e,s',K,H,hK=>by
  unfold ZB at H;split at H
  ·rename_i h1
   simp only[Option.some.injEq,Prod.mk.injEq]at H;obtain⟨rfl,rfl⟩:=H;exact LT hC _ _ _ _ _ _ _ _ h1 hK
  ·cases H
 | .draw ds keep,s,e,s',K,H,hK=>by
  unfold ZB at H;split at H
  ·rename_i h1
   simp only[Option.some.injEq,Prod.mk.injEq]at H;obtain⟨rfl,rfl⟩:=H;exact z0Q hC _ _ _ _ _ _ _ _ _ _ h1 hK
  ·cases H
 | .seq a b,s,e,s',K,H,hK=>by
  unfold ZB at H;unfold AW;split at H
  ·rename_i s1 h1
   exact YD hC n a s _ _ _ h1 (YD hC n b _ _ _ K H hK)
  ·rename_i hne
   have hne':e ≠ .normal:=fun he=>by subst he;exact hne _ H
   refine YD hC n a s _ _ _ H ?_;cases e with
   | normal=>exact(hne' rfl).elim
   | exit i=>exact hK
   | ret=>exact hK
 | .det b,s,e,s',K,H,hK=>by
  unfold ZB at H;exact YD hC n b s _ _ K H hK
 | .condu c a b,s,e,s',K,H,hK=>by
  unfold ZB at H;unfold AW;split at H
  ·rename_i t ht
   simp only[ht];split at H
   ·exact YD hC n a s _ _ _ H hK
   ·exact YD hC n b s _ _ _ H hK
  ·cases H
 | .cond c a b,s,e,s',K,H,hK=>by
  unfold ZB at H;unfold AW;split at H
  ·rename_i t ht
   simp only[ht];split at H
   ·exact YD hC n a s _ _ _ H hK
   ·exact YD hC n b s _ _ _ H hK
  ·cases H
 | .block id b,s,e,s',K,H,hK=>by
  unfold ZB at H;unfold AW;split at H
  ·rename_i i s1 h1
   refine YD hC n b s _ _ _ h1 ?_;dsimp only;split at H
   ·rw[if_pos ‹_›]
    simp only[Option.some.injEq,Prod.mk.injEq]at H;obtain⟨rfl,rfl⟩:=H;exact hK
   ·rw[if_neg ‹_›]
    simp only[Option.some.injEq,Prod.mk.injEq]at H;obtain⟨rfl,rfl⟩:=H;exact hK
  ·rename_i hne
   refine YD hC n b s _ _ _ H ?_;cases e with
   | normal=>exact hK
   | exit i=>exact(hne _ _ H).elim
   | ret=>exact hK
 | .loop b,s,e,s',K,H,hK=>by
  unfold ZB at H;unfold AW;exact z0S (fun s e s' K h k=>YD hC n b s e s' K h k) n s e s' K H hK
 | .scope b,s,e,s',K,H,hK=>by
  unfold ZB at H;unfold AW;split at H
  ·rename_i e1 s1 h1
   simp only[Option.some.injEq,Prod.mk.injEq]at H;obtain⟨rfl,rfl⟩:=H;exact YD hC n b _ _ _ _ h1 hK
  ·cases H
 | .pr l b,s,e,s',K,H,hK=>by
  unfold ZB at H;unfold AW;exact YD hC n b _ _ _ K H hK
 | .exit id,s,e,s',K,H,hK=>by
  simp only[ZB,Option.some.injEq,Prod.mk.injEq]at H;obtain⟨rfl,rfl⟩:=H;exact hK
 | .ret,s,e,s',K,H,hK=>by
  simp only[ZB,Option.some.injEq,Prod.mk.injEq]at H;obtain⟨rfl,rfl⟩:=H;exact hK
 | .bad,s,e,s',K,H,hK=>by simp only[ZB]at H;cases H
theorem z0R {F:AFun}{b:Nat}{s:St}{v:AV}{h:aA}{x:Esc}{K:jA}(H:JT F b s=some (v,h,x))(hK:K v h x):fin F b s K:=by
 unfold JT at H;unfold fin;split at H
 ·rename_i h1
  simp only[h1];split at H
  ·rename_i h2
   simp only[h2];dsimp only at H ⊢;split at H
   ·rw[if_pos ‹_›];simp only[Option.some.injEq,Prod.mk.injEq]at H;obtain⟨rfl,rfl,rfl⟩:=H;exact hK
   ·rw[if_neg ‹_›];simp only[Option.some.injEq,Prod.mk.injEq]at H;obtain⟨rfl,rfl,rfl⟩:=H;exact hK
  ·rename_i h2
   simp only[h2];split at H
   ·rename_i h3
    simp only[h3];dsimp only at H ⊢;split at H
    ·rw[if_pos ‹_›]
     split at H
     ·rename_i h4
      simp only[h4];split at H
      ·simp only[Option.some.injEq,Prod.mk.injEq]at H;obtain⟨rfl,rfl,rfl⟩:=H;exact⟨‹_›,hK⟩
      ·cases H
     ·cases H
    ·rw[if_neg ‹_›];simp only[Option.some.injEq,Prod.mk.injEq]at H;obtain⟨rfl,rfl,rfl⟩:=H;exact hK
   ·cases H
 ·cases H
theorem z0O (hC:PH C' C){n:Nat}{F:AFun}{a:List AV}{h:aA}{v:AV}{h':aA}{x:Esc}{K:jA}(H:HT C' gl n F a h=some (v,h',x))(hK:K v h' x):EC C gl F a h K:=by
 unfold HT at H;unfold EC;split at H
 ·rename_i asv h1 hp
  simp only[hp];split at H
  ·rename_i hl
   refine⟨hl,?_⟩;cases he:ZB C' gl n F.body ⟨enter asv,h1,[]⟩ with
   | none=>rw[he]at H;cases H
   | some y=>
    obtain⟨e,s⟩:=y;rw[he]at H;refine YD hC n _ _ _ _ _ he ?_;cases e with
    | exit i=>cases H
    | normal=>exact z0R H hK
    | ret=>exact z0R H hK
  ·cases H
 ·cases H
def QL (X:Ctx)(o:Nat→List AV→Option AV)(n:Nat):Nat→EvC
 | 0,_,_,_=>none
 | d+1,f,a,h=>match o f a with
  | some v=>some (v,h,[])
  | none=>match X.fn f with
   | some F=>HT (QL X o n d) X.gl n F a h
   | none=>match X.ex2 f a h with
    | some r=>some r
    | none=>match CA h a with
     | some (asv,h1)=>match unp asv with
      | some vs=>match X.ext f vs with
       | some r=>some (.p r,h1,[])
       | none=>none
      | none=>none
     | none=>none
theorem IT (X:Ctx)(o:Nat→List AV→Option AV)(ho:∀ f a v,o f a=some v→∀ h (K:jA),K v h []→cA X f a h K)(n:Nat):∀d,PH (QL X o n d) (cA X)
 | 0,f,a,h,v,h',x,K,H,hK=>by cases H
 | d+1,f,a,h,v,h',x,K,H,hK=>by
  unfold QL at H;split at H
  ·rename_i v1 hv
   simp only[Option.some.injEq,Prod.mk.injEq]at H;obtain⟨rfl,rfl,rfl⟩:=H;exact ho _ _ _ hv _ _ hK
  refine cA.fold ?_;unfold oC;split at H
  ·rename_i F hF
   simp only[hF];unfold GD;cases hd:F.isDet with
   | true=>exact⟨v,h',x,hK,z0O (IT X o ho n d) H ⟨rfl,rfl,rfl⟩⟩
   | false=>exact z0O (IT X o ho n d) H hK
  ·rename_i hF
   simp only[hF];split at H
   ·rename_i hx2
    simp only[hx2];simp only[Option.some.injEq]at H;subst H;exact hK
   ·rename_i hx2
    simp only[hx2];split at H
    ·rename_i hp
     simp only[hp];split at H
     ·rename_i hu
      simp only[hu];split at H
      ·rename_i hx
       simp only[hx];simp only[Option.some.injEq,Prod.mk.injEq]at H;obtain⟨rfl,rfl,rfl⟩:=H;exact hK
      ·cases H
     ·cases H
    ·cases H
theorem z4s {X:Ctx}{f:Nat}{a:List AV}{h:aA}{v:AV}{h':aA}{x:Esc}{o:Nat→List AV→Option AV}(ho:∀ f a v,o f a=some v→∀ h (K:jA),K v h []→cA X f a h K)(n d:Nat)(H:QL X o n d f a h=some (v,h',x))(K:jA):cA X f a h K↔K v h' x:=
 cA.eq (IT X o ho n d _ _ _ _ _ _ _ H ⟨rfl,rfl,rfl⟩) K
end Go.Am
end
section
/- The abstract machine,part 27: loops,and the rules of computing asv one set. -/
set_option linter.unusedSimpArgs false
set_option linter.unusedVariables false
namespace Go.Am
variable {C:Hd} {gl:Nat→Option PV} {e:List (Nat × AV)} {h:aA} {x:Esc} {K:Ex→St→Prop} {s:St}
def xH {σ:Type}(S:σ→St)(P:σ→Prop)(m:σ→Nat)(K:Ex→St→Prop)(s:σ)(e:Ex)(s':St):Prop:=match e with
 | .normal=>∃t,s'=S t∧P t∧m t<m s
 | .exit i=>K (.exit i) s'
 | .ret=>K .ret s'
theorem z2l {σ:Type}{S:σ→St}{P:σ→Prop}{m:σ→Nat}{K:Ex→St→Prop}{t:σ}{s':St}:xH S P m K t .normal s' = ∃u,s'=S u∧P u∧m u<m t:=(rfl)
theorem z2k {σ:Type}{S:σ→St}{P:σ→Prop}{m:σ→Nat}{K:Ex→St→Prop}{t:σ}{s':St}{i:Nat}:xH S P m K t (.exit i) s'=K (.exit i) s':=(rfl)
theorem z2m {σ:Type}{S:σ→St}{P:σ→Prop}{m:σ→Nat}{K:Ex→St→Prop}{t:σ}{s':St}:xH S P m K t .ret s'=K .ret s':=(rfl)
theorem zg9 {σ:Type}{S:σ→St}{P:σ→Prop}{m:σ→Nat}{K:Ex→St→Prop}{t:σ}{ex ex':Ex}{s s':St}(he:ex=ex')(hs:s=s'):xH S P m K t ex s=xH S P m K t ex' s':=by rw[he,hs]
theorem WM {T:St→(Ex→St→Prop)→Prop}{K:Ex→St→Prop}{s s':St}(h:T s=T s'):ALoop T K s=ALoop T K s':=by
 refine propext ⟨fun H=>?_,fun H=>?_⟩
 ·cases H with|mk _ R a b c d=>exact .mk _ R (h ▸ a) b c d
 ·cases H with|mk _ R a b c d=>exact .mk _ R (h.symm ▸ a) b c d
theorem z7Q {l:List Nat}{e:List (Nat × AV)}{t:Nat}(ht:t∈l):bA (RA (some l) e) t=bA e t:=by
 simp only[RA];induction l with
 | nil=>cases ht
 | cons k r ih=>
  simp only[List.map_cons,bA];split
  ·rename_i hk;rw[hk]
  ·rename_i hk
   rcases List.mem_cons.1 ht with h1|h1
   ·exact absurd h1.symm hk
   ·exact ih h1
theorem fQ {l:List Nat}{e:List (Nat × AV)}:RA (some l) (RA (some l) e)=RA (some l) e:=by
 show l.map _=l.map _
 exact List.map_congr_left fun t ht=>by rw[z7Q ht]
def LoopP (C:Hd)(gl:Nat→Option PV)(l:List Nat)(b:ACode)(K:Ex→St→Prop)(e:List (Nat × AV))(h:aA)(x:Esc):Prop:=AW C gl (.loop (.pr l b)) ⟨e,h,x⟩ K
def LoopS (C:Hd)(gl:Nat→Option PV)(l:List Nat)(b:ACode)(K:Ex→St→Prop)(e:List (Nat × AV))(h:aA)(x:Esc):Prop:=AW C gl (.loop (.scope (.pr l b))) ⟨e,h,x⟩ K
theorem z6A {l:List Nat}{b:ACode}:AW C gl (.loop (.pr l b)) ⟨e,h,x⟩ K=LoopP C gl l b K (RA (some l) e) h x:=by
 show ALoop _ _ _=ALoop _ _ _
 exact WM (funext fun R=>by show AW C gl b _ R=AW C gl b _ R;dsimp only;rw[fQ])
theorem z6B {l:List Nat}{b:ACode}:AW C gl (.loop (.scope (.pr l b))) ⟨e,h,x⟩ K=LoopS C gl l b K (RA (some l) e) h x:=by
 show ALoop _ _ _=ALoop _ _ _
 exact WM (funext fun R=>by show AW C gl b _ _=AW C gl b _ _;dsimp only;rw[fQ])
theorem SR {α:Type}(h l:List α)(n:Nat):(h++l)[h.length+n]?=l[n]?:=by
 rw[List.getElem?_append_right (by omega)];congr 1;omega
theorem z7Z {α:Type}(h l:List α):(h++l)[h.length]?=l[0]?:=by
 rw[List.getElem?_append_right (by omega)];congr 1;omega
theorem TR {α:Type}(h l:List α)(n:Nat)(o:α):(h++l).set (h.length+n) o=h++l.set n o:=by
 rw[List.set_append_right _ _ (by omega)];congr 2;omega
theorem z8b {α:Type}(h l:List α)(o:α):(h++l).set h.length o=h++l.set 0 o:=by
 rw[List.set_append_right _ _ (by omega)];congr 2;omega
theorem mY {α:Type}(h l:List α)(n:Nat):(h++l).take (h.length+n)=h++l.take n:=List.take_length_add_append ..
theorem nY {α:Type}(h l:List α):(h++l).take h.length=h:=List.take_left ..
theorem QR (h l:aA)(n k:Nat):frz (h++l) (h.length+n) k=h++frz l n k:=by
 unfold frz;rw[SR];cases l[n]? with
 | none=>rfl
 | some o=>cases o <;> first|rfl|simp only[TR]
theorem z7Y (h l:aA)(k:Nat):frz (h++l) h.length k=h++frz l 0 k:=QR h l 0 k
theorem BA (n:Int)(h1 : -9223372036854775808≤n)(h2:n≤9223372036854775807):IntKind.i64.wrap n=n:=by
 simp [IntKind.wrap,IntKind.bits,IntKind.signed];omega
def DA (rs:List ARes)(kp:Bool)(b:Nat)(P:jA)(e:Ex)(s:St):Prop:=match e with
 | .exit _=>False
 | _=>match iE s rs with
  | some vs=>match kp with
   | true=>
    let n:=close s.esc.length s.esc (max b (jB vs).top)
    if pC s.esc n then P (jB vs) (s.h.take n) (s.esc.filter fun y=>decide (y.1<n)) else P (jB vs) s.h s.esc
   | false=>match XA b s.h (jB vs) with
    | some v0=>
     let n:=close s.esc.length s.esc (max b v0.top)
     if pC s.esc n then match XA n s.h (jB vs) with
      | some v=>v.top≤n∧P v (s.h.take n) (s.esc.filter fun y=>decide (y.1<n))
      | none=>False
     else P (jB vs) s.h s.esc
    | none=>False
  | none=>False
theorem OT {F:AFun}{b:Nat}{P:jA}:finK F b P=DA F.results F.keep b P:=by
 funext e s;cases e <;> rfl
theorem zeE {rs:List ARes}{kp:Bool}{b:Nat}{P:jA}{i:Nat}{s:St}:DA rs kp b P (.exit i) s=False:=(rfl)
def sD (kp:Bool)(b:Nat)(P:jA)(o:Option (List AV))(h:aA)(x:Esc):Prop:=match o with
 | some vs=>match kp with
  | true=>
   let n:=close x.length x (max b (jB vs).top)
   if pC x n then P (jB vs) (h.take n) (x.filter fun y=>decide (y.1<n)) else P (jB vs) h x
  | false=>match XA b h (jB vs) with
   | some v0=>
    let n:=close x.length x (max b v0.top)
    if pC x n then match XA n h (jB vs) with
     | some v=>v.top≤n∧P v (h.take n) (x.filter fun y=>decide (y.1<n))
     | none=>False
    else P (jB vs) h x
   | none=>False
 | none=>False
theorem z1o {rs:List ARes}{kp:Bool}{b:Nat}{P:jA}{e:List (Nat × AV)}{h:aA}{x:Esc}:DA rs kp b P .normal ⟨e,h,x⟩=sD kp b P (iE ⟨e,h,x⟩ rs) h x:=(rfl)
theorem z1p {rs:List ARes}{kp:Bool}{b:Nat}{P:jA}{e:List (Nat × AV)}{h:aA}{x:Esc}:DA rs kp b P .ret ⟨e,h,x⟩=sD kp b P (iE ⟨e,h,x⟩ rs) h x:=(rfl)
theorem zeD {rs:List ARes}{kp:Bool}{b:Nat}{P:jA}{ex ex':Ex}{s s':St}(he:ex=ex')(hs:s=s'):DA rs kp b P ex s=DA rs kp b P ex' s':=by rw[he,hs]
theorem HM {b:Nat}{P:jA}{vs:List AV}{h:aA}(ht:(jB vs).top≤b)(hr:∀ b,XA b h (jB vs)=some (jB vs)):sD false b P (some vs) h []=P (jB vs) (h.take b) []:=by
 simp only[sD,hr,close,List.length_nil,pC,List.all_nil,if_true,List.filter_nil,Nat.max_eq_left ht,ht,true_and]
theorem zhV {b:Nat}{h:aA}{v:PV}:XA b h (.p v)=some (.p v):=(rfl)
theorem zia {b:Nat}{h:aA}:nE b h []=some []:=(rfl)
theorem zie {b:Nat}{P:jA}{v:PV}{h:aA}:sD false b P (some [.p v]) h []=P (.p v) (h.take b) []:=HM (Nat.zero_le _) (fun _=>rfl)
theorem zif {b:Nat}{P:jA}{v u:PV}{h:aA}:sD false b P (some [.p v,.p u]) h []=P (.tup [.p v,.p u]) (h.take b) []:=HM (by simp [jB,AV.top,AV.tops]) (fun _=>rfl)
theorem zig {b:Nat}{P:jA}{v u w:PV}{h:aA}:sD false b P (some [.p v,.p u,.p w]) h []=P (.tup [.p v,.p u,.p w]) (h.take b) []:=HM (by simp [jB,AV.top,AV.tops]) (fun _=>rfl)
theorem zih {b:Nat}{P:jA}{v u w z:PV}{h:aA}:sD false b P (some [.p v,.p u,.p w,.p z]) h []=P (.tup [.p v,.p u,.p w,.p z]) (h.take b) []:=HM (by simp [jB,AV.top,AV.tops]) (fun _=>rfl)
theorem zid {b:Nat}{P:jA}{h:aA}:sD false b P (some []) h []=P (.tup []) (h.take b) []:=HM (by simp [jB,AV.top,AV.tops]) (fun _=>rfl)
theorem zjB {h:aA}:h.take h.length=h:=List.take_length
theorem zhd {v:AV}:jB [v]=v:=(rfl)
theorem zju {X:Ctx}{f:Nat}{F:AFun}{a asv:List AV}{h h1:aA}{P:jA}(hf:X.fn f=some F)(hr:F.byref=false)(hp:CA h a=some (asv,h1))(hl:asv.length=F.nparams)(hd:F.isDet=false) :
 cA X f a h P=AW (cA X) X.gl F.body ⟨enter asv,h1,[]⟩ (DA F.results F.keep h.length P):=by
 rw[WX hf hd,bY hr hp hl,OT]
theorem zjs {X:Ctx}{f:Nat}{F:AFun}{asv:List AV}{h:aA}{P:jA}(hf:X.fn f=some F)(hr:F.byref=true)(hl:asv.length=F.nparams)(hd:F.isDet=false) :
 cA X f asv h P=AW (cA X) X.gl F.body ⟨enter asv,h,[]⟩ (DA F.results F.keep h.length P):=by
 rw[WX hf hd,z7K hr hl,OT]
theorem zjv {X:Ctx}{f:Nat}{F:AFun}{a asv:List AV}{h h1:aA}{P:jA}(hf:X.fn f=some F)(hr:F.byref=false)(hp:CA h a=some (asv,h1))(hl:asv.length=F.nparams)(hd:F.isDet=true) :
 cA X f a h P = ∃v h' x,P v h' x∧AW (cA X) X.gl F.body ⟨enter asv,h1,[]⟩ (DA F.results F.keep h.length fun v1 h1 x1=>v1=v∧h1=h'∧x1=x):=by
 rw[z75 hf hd];simp only[bY hr hp hl,OT]
theorem MA {X:Ctx}{f:Nat}{a:List AV}{h:aA}{v:AV}{h':aA}{x:Esc}{K:jA}(H:cA X f a h fun v1 h1 x1=>v1=v∧h1=h'∧x1=x):cA X f a h K=K v h' x:=propext (cA.eq H K)
theorem z2u {k:IntKind}{n:Nat}:zB (.p (.int k (n:Int)))=some n:=by simp [zB]
theorem zgQ {k:IntKind}{n:Nat}:zB (.p (.int k (no_index (OfNat.ofNat n:Int))))=some (OfNat.ofNat n:Nat):=z2u (n:=n)
theorem zgO {k:IntKind}:zB (.p (.int k 0))=some 0:=(rfl)
theorem zgP {k:IntKind}:zB (.p (.int k 1))=some 1:=(rfl)
theorem eM {k:IntKind}{n:Int}(h:0≤n):zB (.p (.int k n))=some n.toNat:=by simp [zB,h]
theorem PB {α β:Type}(f:α→β){l:List α}{k:Nat}(h:k<l.length):(l.map f)[k]?=some (f l[k]):=by simp [h]
attribute [go_sem] eqs PV.eq1 PV.kind ne_eq not_false_eq_true not_true_eq_false Bool.and_self Bool.or_self Bool.not_eq_true
attribute [go_sem] Nat.max_le Nat.add_le_add_iff_left Option.isSome_none Option.isSome_some false_and and_false List.length_range Nat.sub_zero Nat.le_add_right
attribute [go_sem] z2u zgO zgP zgQ Int.ofNat_lt Int.ofNat_le List.length_map
attribute [go_sem] zeE z1o z1p zid zie zif zig zih zjB List.zipIdx_cons List.zipIdx_nil List.map_cons List.map_nil Nat.reduceAdd Nat.reduceEqDiff if_true if_false Option.map_some Option.map_none List.append_nil List.nil_append decide_eq_true_eq
def doS (C:Hd)(gl:Nat→Option PV)(q:AOp × List (Nat × AV) × AV)(h:aA):Prop:=ADo C gl q.1 q.2.1 h q.2.2 h []
def agK (C:Hd)(gl:Nat→Option PV)(h:aA)(dn:YC):List Nat→Prop
 | []=>True
 | j::r=>(match dn[j]? with|some q=>doS C gl q h|none=>False)∧agK C gl h dn r
def eaK (C:Hd)(gl:Nat→Option PV)(o:AOp)(e:List (Nat × AV))(v:AV)(hs:List aA):List Nat→Prop
 | []=>True
 | k::r=>(match hs[k]? with|some g=>doS C gl (o,e,v) g|none=>False)∧eaK C gl o e v hs r
theorem eY {C:Hd}{gl:Nat→Option PV}{h:aA}{dn:YC}:∀{l:List Nat},agK C gl h dn l↔∀j∈l,∃q,dn[j]?=some q∧ADo C gl q.1 q.2.1 h q.2.2 h []
 | []=>by simp [agK]
 | j::r=>by
  simp only[agK,List.mem_cons,forall_eq_or_imp];rw[eY (l:=r)];refine and_congr_left (fun _=>?_)
  cases hd:dn[j]? with
  | none=>simp
  | some q=>simp [doS]
theorem z05 {C:Hd}{gl:Nat→Option PV}{o:AOp}{e:List (Nat × AV)}{v:AV}{hs:List aA}:∀{l:List Nat},eaK C gl o e v hs l↔∀k∈l,∃g,hs[k]?=some g∧ADo C gl o e g v g []
 | []=>by simp [eaK]
 | j::r=>by
  simp only[eaK,List.mem_cons,forall_eq_or_imp];rw[z05 (l:=r)];refine and_congr_left (fun _=>?_)
  cases hd:hs[j]? with
  | none=>simp
  | some q=>simp [doS]
def iI (b:Bool)(h h':aA)(y:Esc):Prop:=match b with
 | true=>True
 | false=>h'=h∧y=[]
theorem z03 {C:Hd}{gl:Nat→Option PV}{e:List (Nat × AV)}{h:aA}{x:Esc}{L:List (Nat × AV)→aA→Esc→Prop}{op:AOp}{rd early again:List Nat}{eff:Bool}{r:List DOp}{dn:YC}{hs:List aA}{v:AV}{h':aA}{y:Esc} :
 xO C gl ⟨op,rd,eff,early,again⟩ r dn hs e h x L v h' y=(iI eff h h' y∧eaK C gl op (RA (some rd) e) v hs early∧agK C gl h' dn again∧CC C gl r (dn++[(op,RA (some rd) e,v)]) (hs++[h]) (put op.dst v e) h' (y++x) L):=by
 rw[zbo,←propext z05,←propext eY];cases eff <;> simp [iI]
theorem zeg {h h':aA}{y:Esc}:iI true h h' y=True:=(rfl)
theorem zef {h:aA}:iI false h h []=True:=by simp [iI]
theorem z7N {C:Hd}{gl:Nat→Option PV}{h:aA}{dn:YC}:agK C gl h dn []=True:=(rfl)
theorem z7M {C:Hd}{gl:Nat→Option PV}{h:aA}{dn:YC}{j:Nat}{r:List Nat}:agK C gl h dn (j::r)=((match dn[j]? with|some q=>doS C gl q h|none=>False)∧agK C gl h dn r):=(rfl)
theorem zee {C:Hd}{gl:Nat→Option PV}{o:AOp}{e:List (Nat × AV)}{v:AV}{hs:List aA}:eaK C gl o e v hs []=True:=(rfl)
theorem zec {C:Hd}{gl:Nat→Option PV}{o:AOp}{e:List (Nat × AV)}{v:AV}{hs:List aA}{j:Nat}{r:List Nat}:eaK C gl o e v hs (j::r)=((match hs[j]? with|some g=>doS C gl (o,e,v) g|none=>False)∧eaK C gl o e v hs r):=(rfl)
theorem z01 {C:Hd}{gl:Nat→Option PV}{d:Option Nat}{g:Option (Nat × Bool)}{op:AO}{e:List (Nat × AV)}{v:AV}{h:aA}:doS C gl (⟨d,g,op⟩,e,v) h=doK C gl ⟨d,g,op⟩ e h (fun v1 h1 x1=>v1=v∧h1=h∧x1=[]):=by
 unfold doS doK;refine propext ⟨fun H=>⟨_,_,_,H,rfl,rfl,rfl⟩,fun⟨v1,h1,x1,H,a,b,c⟩=>by subst a;subst b;subst c;exact H⟩
theorem zam {p:Prop}[Decidable p]{A B:Prop}:qA (.p (.bool (decide p))) A B=if p then A else B:=by rw[VY];simp
def TH (C:Hd)(v:AV)(asv:List AV)(h:aA)(L:jA):Prop:=match v with
 | .fn g caps=>C g (asv++caps) h L
 | _=>False
theorem mW {C:Hd}{gl:Nat→Option PV}{e:List (Nat × AV)}{h:aA}{x:Esc}{L:List (Nat × AV)→aA→Esc→Prop}{d:Option Nat}{f:Opd}{args:List Opd}{r:List AOp} :
 zA C gl (⟨d,none,.callv f args⟩::r) e h x L=TH C (Opd.ev gl e f) (args.map (Opd.ev gl e)) h (bB C gl r d e x L):=by
 have h2:wanted none e=some true:=(rfl)
 rw[zA];simp only[h2];unfold TH;split <;> simp_all <;> rfl
def oD (C:Hd)(v:AV)(asv:List AV)(h:aA)(R:AV→aA→Esc→Prop):Prop:=match v with
 | .fn g caps=>BB C g (asv++caps) h R
 | _=>False
theorem z0z {C:Hd}{gl:Nat→Option PV}{e:List (Nat × AV)}{h:aA}{R:AV→aA→Esc→Prop}{d:Option Nat}{f:Opd}{args:List Opd} :
 doK C gl ⟨d,none,.callv f args⟩ e h R=oD C (Opd.ev gl e f) (args.map (Opd.ev gl e)) h R:=by
 have h2:wanted none e=some true:=(rfl)
 unfold doK ADo;simp only[h2];unfold oD BB;split <;> simp_all
theorem z9R {C:Hd}{g:Nat}{caps asv:List AV}{h:aA}{L:jA}:TH C (.fn g caps) asv h L=C g (asv++caps) h L:=(rfl)
theorem z9P {C:Hd}{g:Nat}{caps asv:List AV}{h:aA}{R:AV→aA→Esc→Prop}:oD C (.fn g caps) asv h R=BB C g (asv++caps) h R:=(rfl)
theorem z9Q {C:Hd}{v v':AV}{asv asv':List AV}{h h':aA}{L:jA}(h1:v=v')(h2:asv=asv')(h3:h=h'):TH C v asv h L=TH C v' asv' h' L:=by rw[h1,h2,h3]
theorem z9O {C:Hd}{v v':AV}{asv asv':List AV}{h h':aA}{R:AV→aA→Esc→Prop}(h1:v=v')(h2:asv=asv')(h3:h=h'):oD C v asv h R=oD C v' asv' h' R:=by rw[h1,h2,h3]
attribute [go_sem] mW z0z z9R z9P
attribute [congr] z9Q z9O
theorem zaz {k:IntKind}{n:Int}:aB none 0 (.int k n)=some (.int k n):=(rfl)
theorem zax {b:Bool}:aB none 0 (.bool b)=some (.bool b):=(rfl)
theorem za3 {s:List UInt8}:aB none 0 (.str s)=some (.str s):=(rfl)
theorem za2 {sh:Sh}{xs:List PV}:aB none 0 (.sl sh xs)=some (.sl sh xs):=(rfl)
theorem za0:aB none 0 .nilp=some .nilp:=(rfl)
theorem zay {off:Nat}{cs:List PV}:aB none off (.agg cs)=(cs[off]?).bind fun x=>if x.sc then some x else none:=(rfl)
theorem zaw {n off:Nat}{cs:List PV}:aB (some n) off (.agg cs)=if off+n≤cs.length then some (.agg ((cs.drop off).take n)) else none:=(rfl)
theorem za1 {v:PV}(h:v.sc=true):aB none 0 v=some v:=by cases v <;> first|rfl|cases h
attribute [go_sem] zaz zax za3 za2 za0 zay zaw
theorem zeq {id:Nat}{v:PV}:IC id (.p v)=[]:=(rfl)
attribute [go_sem] List.take_succ_cons List.take_zero List.take_nil List.drop_succ_cons List.drop_zero List.drop_nil List.length_cons List.length_nil Nat.reduceLeDiff Nat.reduceLT Int.reduceLT Int.reduceLE Int.reduceAdd Int.reduceSub Int.reduceMul Int.reduceNeg Int.reduceEq Nat.reduceSub Nat.reduceMul Nat.le_refl List.append_assoc
theorem zkc {b:Nat}{x0:Esc}{e:List (Nat × AV)}{h:aA}:UF b x0 ⟨e,h,[]⟩=⟨RG b e,h.take b,x0⟩:=(rfl)
theorem z9X {n:Nat}:RG n []=[]:=(rfl)
theorem z9W {n k:Nat}{v:AV}{r:List (Nat × AV)}:RG n ((k,v)::r)=(k,if v.top≤n then v else .und)::RG n r:=(rfl)
theorem top_p {v:PV}:AV.top (.p v)=0:=(rfl)
theorem zjP {id g o l:Nat}:AV.top (.own id g o l)=id+1:=by simp [AV.top]
theorem zjQ {id o:Nat}:AV.top (.ref id o)=id+1:=by simp [AV.top]
theorem zjR {id g i o:Nat}:AV.top (.rref id g i o)=id+1:=by simp [AV.top]
theorem zjK {id:Nat}:AV.top (.mp id)=id+1:=by simp [AV.top]
theorem zjJ {id:Nat}:AV.top (.it id)=id+1:=by simp [AV.top]
theorem zjH {f:Nat}{cs:List AV}:AV.top (.fn f cs)=AV.tops cs:=by simp [AV.top]
theorem zjE {cs:List AV}:AV.top (.agg cs)=AV.tops cs:=by simp [AV.top]
theorem zjU {cs:List AV}:AV.top (.tup cs)=AV.tops cs:=by simp [AV.top]
theorem zjW {v:PV}:AV.top (.vp v)=0:=(rfl)
theorem zjV:AV.top .und=0:=(rfl)
theorem zjS:AV.top .skp=0:=(rfl)
theorem zjF:AV.top .anyp=0:=(rfl)
theorem zjG {k t id g:Nat}:AV.top (.bt k t id g)=id+1:=by simp [AV.top]
theorem zjT {sh:Sh}:AV.top (.sl0 sh)=0:=(rfl)
theorem zjO:AV.top .nilp=0:=(rfl)
theorem zjN:AV.top .nilm=0:=(rfl)
theorem zjL:AV.top .nilf=0:=(rfl)
theorem zjM:AV.top .nili=0:=(rfl)
theorem zjI:AV.top .ifc=0:=(rfl)
theorem zka:AV.tops []=0:=(rfl)
theorem zjX {v:AV}{r:List AV}:AV.tops (v::r)=max v.top (AV.tops r):=by simp [AV.tops]
theorem zii {b:Nat}{P:jA}{vs:List AV}{h:aA}:sD false b P (some vs) h []=match XA b h (jB vs) with
 | some v0=>match XA (max b v0.top) h (jB vs) with
  | some v=>v.top≤max b v0.top∧P v (h.take (max b v0.top)) []
  | none=>False
 | none=>False:=by
 simp only[sD,close,List.length_nil,pC,List.all_nil,if_true,List.filter_nil]
theorem zhU {b:Nat}{h:aA}{id g off len:Nat}:XA b h (.own id g off len)=if b≤id then(rd h (.own id g off len)).map fun y=>.p (.sl y.1 y.2) else some (.own id g off len):=by simp only[XA]
theorem zhX {b:Nat}{h:aA}{sh:Sh}:XA b h (.sl0 sh)=some (.p (.sl sh [])):=by simp only[XA]
theorem zhQ {b:Nat}{h:aA}{cs:List AV}:XA b h (.agg cs)=(nE b h cs).map mkA:=by simp only[XA]
theorem zhY {b:Nat}{h:aA}{cs:List AV}:XA b h (.tup cs)=(nE b h cs).map .tup:=by simp only[XA]
theorem zhW {b:Nat}{h:aA}{id o:Nat}:XA b h (.ref id o)=some (.ref id o):=by simp only[XA]
theorem zhS {b:Nat}{h:aA}{id:Nat}:XA b h (.mp id)=some (.mp id):=by simp only[XA]
theorem zhR {b f:Nat}{h:aA}{cs:List AV}:XA b h (.fn f cs)=some (.fn f cs):=by simp only[XA]
theorem zhZ {b:Nat}{h:aA}{v:AV}{r:List AV}:nE b h (v::r)=(match XA b h v with|some x=>(nE b h r).map (x :: ·)|none=>none):=by rw[nE];cases XA b h v <;> rfl
theorem zhe {v u:AV}{r:List AV}:jB (v::u::r) = .tup (v::u::r):=(rfl)
theorem zhc:jB [] = .tup []:=(rfl)
theorem z3F {h l:aA}{id:Nat}{o:Obj}(hid:id<h.length):(h++l).set id o=h.set id o++l:=List.set_append_left _ _ hid
theorem YT {h l:aA}{id:Nat}(hid:id<h.length):(h++l)[id]?=h[id]?:=List.getElem?_append_left hid
theorem z39 {h l:aA}{i n:Nat}{o:Obj}:(h.set i o++l)[h.length+n]?=l[n]?:=by
 have:=SR (h.set i o) l n;rwa [List.length_set]at this
theorem ziJ {h l:aA}{i:Nat}{o:Obj}:(h.set i o++l)[h.length]?=l[0]?:=z39 (n:=0)
theorem z3A {h l:aA}{i n:Nat}{o q:Obj}:(h.set i o++l).set (h.length+n) q=h.set i o++l.set n q:=by
 have:=TR (h.set i o) l n q;rwa [List.length_set]at this
theorem ziK {h l:aA}{i:Nat}{o q:Obj}:(h.set i o++l).set h.length q=h.set i o++l.set 0 q:=z3A (n:=0)
theorem ziL {h l:aA}{i n:Nat}{o:Obj}:(h.set i o++l).take (h.length+n)=h.set i o++l.take n:=by
 have:=mY (h.set i o) l n;rwa [List.length_set]at this
theorem ziM {h l:aA}{i:Nat}{o:Obj}:(h.set i o++l).take h.length=h.set i o:=by
 have:=nY (h.set i o) l;rwa [List.length_set]at this
theorem z38 {h l:aA}{i n k:Nat}{o:Obj}:frz (h.set i o++l) (h.length+n) k=h.set i o++frz l n k:=by
 have:=QR (h.set i o) l n k;rwa [List.length_set]at this
theorem ziI {h l:aA}{i k:Nat}{o:Obj}:frz (h.set i o++l) h.length k=h.set i o++frz l 0 k:=z38 (n:=0)
theorem VF {α:Type}{l:List α}{n:Nat}(h:l.length=n):win l 0 n=l:=by subst h;simp [win]
theorem z4m {α:Type}(l:List α):win l 0 l.length=l:=by simp [win]
attribute [go_sem] zkc z9X z9W top_p zjP zjQ zjR zjK zjJ zjH zjE zjU zjW zjV zjS zjT zjO zjN zjL zjM zjI zjF zjG zka zjX Nat.max_zero Nat.zero_max Nat.zero_le zhV zhU zhX zhQ zhY zhW zhS zhR zia zhZ zhe zhc SR z7Z TR z8b mY nY QR z7Y z39 ziJ z3A ziK ziL ziM z38 ziI List.length_append z4m Nat.add_le_add_iff_right Nat.zero_add Nat.add_zero
attribute [go_sem] tG PV.shp List.reduceReplicate cond_true cond_false Bool.not_true Bool.not_false Bool.false_eq_true Bool.true_and Bool.and_true Bool.false_and Bool.and_false Bool.true_or Bool.or_true Bool.false_or Bool.or_false beq_self_eq_true List.all_cons List.all_nil
attribute [go_sem low] zii
theorem zjC {h:aA}{id:Nat}{o:Obj}:(h.set id o).take h.length=h.set id o:=List.take_of_length_le (by simp)
attribute [go_sem] zjC Int.natCast_zero Int.natCast_one Int.cast_ofNat_Int
attribute [go_sem] aun tF jL kL List.foldlM_cons List.foldlM_nil Option.bind_some Option.pure_def Option.bind_eq_bind List.cons_append List.nil_append Int.zero_sub List.length_singleton
attribute [go_sem] zat gA zeq
attribute [congr] zas
attribute [go_sem] z5p z4y iW zbe zbi za6 za9 zaB zaA zaS zbm zbh za8 zaF zaO zaY zbn zaD zaX zaZ zba zbj zbk zaI zaJ zaK zaL zaM zaN zaT zbd zaV zaG zaU zaH zaP zaR zaQ za7 zaE zbf zbb zbc zaW zbg z0y z00 BB ex3' z03 zeg zef z7N z7M zee zec z01 List.not_mem_nil List.mem_cons List.mem_singleton forall_eq_or_imp forall_eq false_implies true_implies implies_true forall_const and_true true_and List.cons_append and_self reduceCtorEq List.getElem?_cons_zero List.getElem?_cons_succ Option.some.injEq exists_eq_left' List.set_cons_zero List.set_cons_succ List.set_set List.length_set
attribute [congr] zaC z9M z4x z4q
attribute [congr] zeD
attribute [go_sem] z6A z6B
attribute [go_sem] z5v z5s z5q z5l z5r z5u z5n z5m z5t AW_pr zhP ziQ ziP ziR z87 z86 z88 z3B z5c z4Z z5e z41 z44 z46 z45 z4N z5h z5d z43 z4A z4J z4T z5k z48 z4S z4U z4V z5f z5g z4D z4E z4F z4G z4H z4I z4O z4Y z4Q z4B z4P z4C z4K z4M z4L z42 z49 z5a z4W z4X z4R z5b oW lW zhl zhk zhi zhj IN WY zam z4i decide_true decide_false z2l z2k z2m aop Opd.ev bA put RA GB OC aF iE ares zhd enter rd rds pur KK CA mkA unp cut AV.cells PV.cells PV.sc AV.sc splice pint pbool sG
attribute [go_sem low] VY zkq zkp
theorem z4k {A B:Prop}:MC (.p (.bool true)) true A B=A:=(rfl)
theorem z4g {A B:Prop}:MC (.p (.bool false)) false A B=A:=(rfl)
theorem z4j {A B:Prop}:MC (.p (.bool true)) false A B=B:=(rfl)
theorem z4h {A B:Prop}:MC (.p (.bool false)) true A B=B:=(rfl)
attribute [go_sem] z4k z4g z4j z4h
attribute [congr] zal zko zhh z47 z5o zhO ziO z85 ziN zg9
end Go.Am
end
section
/- The abstract machine,part 28: where no map is ranged AE,a call that ends well ends in one way. -/
set_option linter.unusedSimpArgs false
set_option linter.unusedVariables false
namespace Go.Am
def AO.noNext:AO→Bool
 | .mnext _ _=>false
 | _=>true
def ACode.noNext:ACode→Bool
 | .reg ops _=>ops.all fun o=>o.op.noNext
 | .seq a b=>a.noNext&&b.noNext
 | .cond _ a b=>a.noNext&&b.noNext
 | .condu _ _ _=>false
 | .det _=>false
 | .block _ b=>b.noNext
 | .loop b=>b.noNext
 | .scope b=>b.noNext
 | .pr _ b=>b.noNext
 | _=>true
def Dt (C D:Hd):Prop:=∀f a h K,C f a h K→∃v h' x,K v h' x∧D f a h fun v1 h1 x1=>v1=v∧h1=h'∧x1=x
variable {C D:Hd} {gl:Nat→Option PV}
theorem aL (hD:D.Mono)(hC:Dt C D):∀(ops:List AOp) e h x K,(ops.all fun o=>o.op.noNext)=true→zA C gl ops e h x K→∃e' h' x',K e' h' x'∧zA D gl ops e h x fun e1 h1 x1=>e1=e'∧h1=h'∧x1=x'
 | [],e,h,x,K,_,H=>⟨e,h,x,H,rfl,rfl,rfl⟩
 | o::r,e,h,x,K,hn,H=>by
  obtain⟨dst,guard,op⟩:=o;simp only[List.all_cons,Bool.and_eq_true]at hn;obtain⟨hn1,hn2⟩:=hn;unfold zA at H;dsimp only at H;split at H
  ·rename_i hw
   cases op;case call f args=>
    obtain⟨v,h',x',H',G'⟩:=hC _ _ _ _ H;obtain⟨e2,h2,x2,k2,g2⟩:=aL hD hC r _ _ _ K hn2 H';refine⟨e2,h2,x2,k2,?_⟩;unfold zA;simp only[hw]
    exact hD _ _ _ _ _ (fun v1 h1 x1 ⟨a1,a2,a3⟩=>by subst a1;subst a2;subst a3;exact g2) G'
   case callv f args=>
    dsimp only at H;split at H
    ·rename_i hf
     obtain⟨v,h',x',H',G'⟩:=hC _ _ _ _ H;obtain⟨e2,h2,x2,k2,g2⟩:=aL hD hC r _ _ _ K hn2 H';refine⟨e2,h2,x2,k2,?_⟩;unfold zA;simp only[hw,hf]
     exact hD _ _ _ _ _ (fun v1 h1 x1 ⟨a1,a2,a3⟩=>by subst a1;subst a2;subst a3;exact g2) G'
    ·exact H.elim
   case mnext sh xs=>simp [AO.noNext]at hn1
   all_goals
    dsimp only at H;split at H
    ·rename_i ha
     obtain⟨e2,h2,x2,k2,g2⟩:=aL hD hC r _ _ _ K hn2 H;refine⟨e2,h2,x2,k2,?_⟩;unfold zA;simp only[hw,ha]
     exact g2
    ·exact H.elim
  ·rename_i hw
   obtain⟨e2,h2,x2,k2,g2⟩:=aL hD hC r _ _ _ K hn2 H;refine⟨e2,h2,x2,k2,?_⟩;unfold zA;simp only[hw]
   exact g2
  ·exact H.elim
theorem GQ (hD:D.Mono)(hC:Dt C D){o:AOp}{e:List (Nat × AV)}{h h':aA}{v:AV}{x:Esc}(H:ADo C gl o e h v h' x):ADo D gl o e h v h' x:=by
 have key:∀f a h,C f a h (fun v1 h1 x1=>v1=v∧h1=h'∧x1=x)→D f a h (fun v1 h1 x1=>v1=v∧h1=h'∧x1=x):=fun f a h hc=>by
  obtain⟨v2,h2,x2,⟨e1,e2,e3⟩,hd⟩:=hC _ _ _ _ hc;subst e1;subst e2;subst e3
  exact hd
 unfold ADo at H ⊢;split at H
 ·split at H
  ·exact key _ _ _ H
  ·split at H
   ·exact key _ _ _ H
   ·exact H.elim
  ·exact H.elim
  ·exact H
 ·exact H
 ·exact H.elim
theorem jW (hD:D.Mono)(hC:Dt C D):∀(ds:List DOp) dn hs e h x K,CC C gl ds dn hs e h x K→∃e' h' x',K e' h' x'∧CC D gl ds dn hs e h x fun e1 h1 x1=>e1=e'∧h1=h'∧x1=x'
 | [],dn,hs,e,h,x,K,H=>⟨e,h,x,H,rfl,rfl,rfl⟩
 | o::r,dn,hs,e,h,x,K,H=>by
  obtain⟨v,h',y,h1,h2,h3,h4,h5⟩:=H;obtain⟨e2,q2,x2,k2,g2⟩:=jW hD hC r _ _ _ _ _ K h5;exact⟨e2,q2,x2,k2,v,h',y,GQ hD hC h1,h2,fun k hk=>by obtain⟨g,a1,a2⟩:=h3 k hk;exact⟨g,a1,GQ hD hC a2⟩,
   fun j hj=>by obtain⟨q,a1,a2⟩:=h4 j hj;exact⟨q,a1,GQ hD hC a2⟩,g2⟩
theorem z4z {T U:St→(Ex→St→Prop)→Prop}(hT:∀ s K,T s K→∃ e s',K e s'∧U s fun e1 s1=>e1=e∧s1=s'){K:Ex→St→Prop}{s:St}(H:ALoop T K s):∃e s',K e s'∧ALoop U (fun e1 s1=>e1=e∧s1=s') s:=by
 induction H with
 | mk s R h hn he hr ih=>
  obtain⟨e,s',hR,hU⟩:=hT _ _ h;cases e with
  | normal=>
   obtain⟨e2,s2,k2,g2⟩:=ih s' hR;exact⟨e2,s2,k2,.mk _ _ hU (fun s1 ⟨_,h1⟩=>by subst h1;exact g2) (fun i s1 ⟨h1,_⟩=>by cases h1) (fun s1 ⟨h1,_⟩=>by cases h1)⟩
  | exit i=>exact⟨_,_,he i s' hR,.mk _ _ hU (fun s1 ⟨h1,_⟩=>by cases h1) (fun j s1 h1=>h1) (fun s1 ⟨h1,_⟩=>by cases h1)⟩
  | ret=>exact⟨_,_,hr s' hR,.mk _ _ hU (fun s1 ⟨h1,_⟩=>by cases h1) (fun j s1 ⟨h1,_⟩=>by cases h1) (fun s1 h1=>h1)⟩
theorem WF (hD:D.Mono)(hC:Dt C D):∀(c:ACode),c.noNext=true→∀s K,AW C gl c s K→∃e s',K e s'∧AW D gl c s fun e1 s1=>e1=e∧s1=s'
 | .skip,_,s,K,H=>⟨_,_,H,rfl,rfl⟩
 | .reg ops keep,hn,s,K,H=>by
  obtain⟨e,h,x,h1,h2⟩:=aL hD hC ops _ _ _ _ hn H;refine⟨_,_,h1,?_⟩;show zA D gl ops s.env s.h s.esc fun e1 h1 x1=>_
  exact OH (C:=D) (C':=D) (fun f a h K K' hK h=>hD _ _ _ _ _ hK h) ops _ _ _ _ _ (fun e1 h1 x1 ⟨a1,a2,a3⟩=>by subst a1;subst a2;subst a3;exact⟨rfl,rfl⟩) h2
 | .draw ds keep,_,s,K,H=>by
  obtain⟨e,h,x,h1,h2⟩:=jW hD hC ds _ _ _ _ _ _ H;refine⟨_,_,h1,?_⟩;show CC D gl ds [] [] s.env s.h s.esc fun e1 h1 x1=>_
  exact IQ (C:=D) (C':=D) (fun f a h K K' hK h=>hD _ _ _ _ _ hK h) ds _ _ _ _ _ _ _ (fun e1 h1 x1 ⟨a1,a2,a3⟩=>by subst a1;subst a2;subst a3;exact⟨rfl,rfl⟩) h2
 | .seq a b,hn,s,K,H=>by
  simp only[ACode.noNext,Bool.and_eq_true]at hn;obtain⟨e,s',h1,h2⟩:=WF hD hC a hn.1 _ _ H;have mono:=fun(K K':Ex→St→Prop) (hK:∀e s,K e s→K' e s)=>XC (C:=D) (C':=D) (gl:=gl) (fun f a h K K' hK h=>hD _ _ _ _ _ hK h) a s K K' hK
  cases e with
  | normal=>
   obtain⟨e2,s2,k2,g2⟩:=WF hD hC b hn.2 _ _ h1;refine⟨e2,s2,k2,mono _ _ (fun e1 s1 ⟨a1,a2⟩=>?_) h2⟩
   subst a1;subst a2;exact g2
  | exit i=>exact⟨_,_,h1,mono _ _ (fun e1 s1 ⟨a1,a2⟩=>by subst a1;subst a2;exact⟨rfl,rfl⟩) h2⟩
  | ret=>exact⟨_,_,h1,mono _ _ (fun e1 s1 ⟨a1,a2⟩=>by subst a1;subst a2;exact⟨rfl,rfl⟩) h2⟩
 | .condu c a b,hn,s,K,H=>by cases hn
 | .det b,hn,s,K,H=>by cases hn
 | .cond c a b,hn,s,K,H=>by
  simp only[ACode.noNext,Bool.and_eq_true]at hn;unfold AW at H;split at H
  ·rename_i t ht
   split at H
   ·obtain⟨e,s',h1,h2⟩:=WF hD hC a hn.1 _ _ H
    refine⟨e,s',h1,?_⟩;unfold AW;simp only[ht];exact h2
   ·obtain⟨e,s',h1,h2⟩:=WF hD hC b hn.2 _ _ H
    refine⟨e,s',h1,?_⟩;unfold AW;simp only[ht];exact h2
  ·exact H.elim
 | .block id b,hn,s,K,H=>by
  obtain⟨e,s',h1,h2⟩:=WF hD hC b hn _ _ H;have mono:=fun(K K':Ex→St→Prop) (hK:∀e s,K e s→K' e s)=>XC (C:=D) (C':=D) (gl:=gl) (fun f a h K K' hK h=>hD _ _ _ _ _ hK h) b s K K' hK
  cases e with
  | normal=>exact⟨_,_,h1,mono _ _ (fun e1 s1 ⟨a1,a2⟩=>by subst a1;subst a2;exact⟨rfl,rfl⟩) h2⟩
  | exit i=>
   dsimp only at h1;split at h1
   ·rename_i hi
    exact⟨_,_,h1,mono _ _ (fun e1 s1 ⟨a1,a2⟩=>by subst a1;subst a2;dsimp only;rw[if_pos hi];exact⟨rfl,rfl⟩) h2⟩
   ·rename_i hi
    exact⟨_,_,h1,mono _ _ (fun e1 s1 ⟨a1,a2⟩=>by subst a1;subst a2;dsimp only;rw[if_neg hi];exact⟨rfl,rfl⟩) h2⟩
  | ret=>exact⟨_,_,h1,mono _ _ (fun e1 s1 ⟨a1,a2⟩=>by subst a1;subst a2;exact⟨rfl,rfl⟩) h2⟩
 | .loop b,hn,s,K,H=>z4z (fun s K h=>WF hD hC b hn s K h) H
 | .scope b,hn,s,K,H=>by
  obtain⟨e,s',h1,h2⟩:=WF hD hC b hn _ _ H;exact⟨_,_,h1,XC (C:=D) (C':=D) (gl:=gl) (fun f a h K K' hK h=>hD _ _ _ _ _ hK h) b _ _ _ (fun e1 s1 ⟨a1,a2⟩=>by subst a1;subst a2;exact⟨rfl,rfl⟩) h2⟩
 | .pr l b,hn,s,K,H=>WF hD hC b hn _ K H
 | .exit id,_,s,K,H=>⟨_,_,H,rfl,rfl⟩
 | .ret,_,s,K,H=>⟨_,_,H,rfl,rfl⟩
 | .bad,_,s,K,H=>H.elim
theorem z1q {F:AFun}{b:Nat}{s:St}{K:jA}(H:fin F b s K):∃v h x,K v h x∧fin F b s fun v1 h1 x1=>v1=v∧h1=h∧x1=x:=by
 unfold fin at H;cases h1:iE s F.results with
 | none=>rw[h1]at H;exact H.elim
 | some vs=>
  rw[h1]at H;dsimp only at H;cases h2:F.keep with
  | true=>
   rw[h2]at H;dsimp only at H;by_cases h3:pC s.esc (close (List.length s.esc) s.esc (max b (jB vs).top))=true
   ·rw[if_pos h3]at H
    exact⟨_,_,_,H,by unfold fin;rw[h1];dsimp only;rw[h2];dsimp only;rw[if_pos h3];exact⟨rfl,rfl,rfl⟩⟩
   ·rw[if_neg h3]at H
    exact⟨_,_,_,H,by unfold fin;rw[h1];dsimp only;rw[h2];dsimp only;rw[if_neg h3];exact⟨rfl,rfl,rfl⟩⟩
  | false=>
   rw[h2]at H;dsimp only at H;cases h4:XA b s.h (jB vs) with
   | none=>rw[h4]at H;exact H.elim
   | some v0=>
    rw[h4]at H;dsimp only at H;by_cases h3:pC s.esc (close (List.length s.esc) s.esc (max b v0.top))=true
    ·rw[if_pos h3]at H
     cases h5:XA (close (List.length s.esc) s.esc (max b v0.top)) s.h (jB vs) with
     | none=>rw[h5]at H;exact H.elim
     | some v=>
      rw[h5]at H;exact⟨_,_,_,H.2,by unfold fin;rw[h1];dsimp only;rw[h2];dsimp only;rw[h4];dsimp only;rw[if_pos h3,h5];exact⟨H.1,rfl,rfl,rfl⟩⟩
    ·rw[if_neg h3]at H
     exact⟨_,_,_,H,by unfold fin;rw[h1];dsimp only;rw[h2];dsimp only;rw[h4];dsimp only;rw[if_neg h3];exact⟨rfl,rfl,rfl⟩⟩
def Ctx.NoNext (X:Ctx):Prop:=∀f F,X.fn f=some F→(F.isDet||F.body.noNext)=true
theorem z7J (hD:D.Mono)(hC:Dt C D){F:AFun}{a:List AV}{h:aA}{K:jA}(hb:F.body.noNext=true)(H:EC C gl F a h K):∃v h' x,K v h' x∧EC D gl F a h fun v1 h1 x1=>v1=v∧h1=h'∧x1=x:=by
 unfold EC at H ⊢;cases hp:(if F.byref then some (a,h) else CA h a) with
 | none=>rw[hp]at H;exact H.elim
 | some q=>
  obtain⟨asv,h1⟩:=q;rw[hp]at H;obtain⟨hl,H⟩:=H;obtain⟨e,s',k1,g1⟩:=WF hD hC _ hb _ _ H;have mono:=fun(K K':Ex→St→Prop) (hK:∀e s,K e s→K' e s)=>XC (C:=D) (C':=D) (gl:=gl) (fun f a h K K' hK h=>hD _ _ _ _ _ hK h) F.body ⟨enter asv,h1,[]⟩ K K' hK
  cases e with
  | exit i=>exact k1.elim
  | normal=>
   obtain⟨v,h',x,k2,g2⟩:=z1q k1;exact⟨v,h',x,k2,hl,mono _ _ (fun e1 s1 ⟨a1,a2⟩=>by subst a1;subst a2;exact g2) g1⟩
  | ret=>
   obtain⟨v,h',x,k2,g2⟩:=z1q k1;exact⟨v,h',x,k2,hl,mono _ _ (fun e1 s1 ⟨a1,a2⟩=>by subst a1;subst a2;exact g2) g1⟩
theorem z4r {X:Ctx}(hX:X.NoNext):Dt (cA X) (cA X):=by
 intro f a h K H;refine H (fun f a h K=>∃v h' x,K v h' x∧cA X f a h fun v1 h1 x1=>v1=v∧h1=h'∧x1=x) ?_ ?_
 ·intro f a h K K' hK ⟨v,h',x,k,g⟩
  exact⟨v,h',x,hK _ _ _ k,g⟩
 ·intro f a h K H
  have hC:Dt (fun f a h K=>∃v h' x,K v h' x∧cA X f a h fun v1 h1 x1=>v1=v∧h1=h'∧x1=x) (cA X):=fun f a h K H=>H
  have hD:=cA.mono X
  unfold oC at H;split at H
  ·rename_i F hF
   unfold GD at H;cases hd:F.isDet with
   | true=>
    rw[hd]at H;obtain⟨v,h',x,k,H⟩:=H;refine⟨v,h',x,k,cA.fold ?_⟩;unfold oC;simp only[hF,GD,hd];exact⟨v,h',x,⟨rfl,rfl,rfl⟩,tN (fun f a h K K' hK ⟨v2,h2,x2,k2,g2⟩=>hD _ _ _ _ _ (fun v1 h1 x1 hv=>by obtain⟨rfl,rfl,rfl⟩:=hv;exact hK _ _ _ k2) g2) (fun _ _ _ h=>h) H⟩
   | false=>
    rw[hd]at H;obtain⟨v,h',x,k1,g1⟩:=z7J hD hC (by have:=hX f F hF;rw[hd]at this;simpa using this) H
    refine⟨v,h',x,k1,cA.fold ?_⟩;unfold oC;simp only[hF,GD,hd]
    exact g1
  ·rename_i hF
   split at H
   ·rename_i hx2
    refine⟨_,_,_,H,cA.fold ?_⟩;unfold oC;simp only[hF,hx2]
    exact⟨trivial,trivial,trivial⟩
   ·rename_i hx2
    split at H
    ·rename_i hp
     split at H
     ·rename_i hu
      split at H
      ·rename_i hx
       refine⟨_,_,_,H,cA.fold ?_⟩;unfold oC;simp only[hF,hx2,hp,hu,hx]
       exact⟨trivial,trivial,trivial⟩
      ·exact H.elim
     ·exact H.elim
    ·exact H.elim
theorem cA.one {X:Ctx}(hX:X.NoNext){f:Nat}{a:List AV}{h:aA}{Q:jA}(H:cA X f a h Q):∃v h' x,Q v h' x∧∀K:jA,cA X f a h K=K v h' x:=by
 obtain⟨v,h',x,k,g⟩:=z4r hX _ _ _ _ H;exact⟨v,h',x,k,fun K=>MA g⟩
end Go.Am
end
section
/- The abstract machine,part 29: its meaning once more,spelt so that a function's code can be printed asv a formula AE its values (shallow),equal tov the deep one by computing. -/
set_option linter.unusedSimpArgs false
set_option linter.unusedVariables false
namespace Go.Am
def pK (o:Option AV)(k:AV→Prop):Prop:=match o with
 | some v=>k v
 | none=>False
def wK (o:Option (AV × aA × Esc))(k:AV→aA→Esc→Prop):Prop:=match o with
 | some y=>k y.1 y.2.1 y.2.2
 | none=>False
def SA (c a b:AV):Option AV:=match c with
 | .p (.bool t)=>some (bif t then a else b)
 | _=>none
def jD (x:AV)(h:aA):Option (AV×aA×Esc):=match x.cells with
 | some cs=>some (.ref h.length 0,h++[.box cs],[])
 | none=>none
def UL:List (Nat × Nat × AV)→List AV→Option (List AV)
 | [],cs=>some cs
 | (off,n,x)::r,cs=>match x.cells with
  | some vs=>if vs.length=n∧off+n≤cs.length then UL r (splice cs off vs) else none
  | none=>none
def mE (z:List AV)(ps:List (Nat × Nat × AV)):Option AV:=(UL ps z).map mkA
def VL (sh:Sh):List (Nat×AV)→aA→List PV→Option (List PV×aA)
 | [],h,xs=>some (xs,h)
 | (i,x)::r,h,xs=>match pur h x with
  | some (v,h')=>if v.shp sh∧i<xs.length then VL sh r h' (xs.set i v) else none
  | none=>none
def ZA (own:Bool)(sh:Sh)(n:Nat)(z:PV)(ps:List (Nat × AV))(h:aA):Option (AV×aA×Esc):=match VL sh ps h (List.replicate n z) with
 | some (xs,h')=>if !z.shp sh then none else some (bif own then(.own h'.length n 0 n,h'++[.row sh xs 0],[]) else(.p (.sl sh xs),h',[]))
 | none=>none
def oA (sh:Sh)(a:AV)(h:aA):Option AV:=match a with
 | .ref id off=>match h[id]? with
  | some (.box cs)=>cut sh off cs
  | _=>none
 | .rref id g i off=>match h[id]? with
  | some (.row _ xs _)=>if g=xs.length then((xs[i]?).bind (aB sh off)).map .p else none
  | _=>none
 | .vp v=>(aB sh 0 v).map .p
 | .bt k off id g=>ldA sh k off id g h
 | _=>none
def GA (sh:Sh)(a x:AV)(h:aA):Option (AV×aA×Esc):=match a with
 | .ref id off=>match h[id]?,x.cells with
  | some (.box cs),some vs=>if vs.length=gA sh∧off+vs.length≤cs.length then some (.und,h.set id (.box (splice cs off vs)),XD id cs x) else none
  | _,_=>none
 | .rref id g i off=>match pur h x with
  | some (v,h1)=>match h1[id]? with
   | some (.row rsh xs fz)=>if g=xs.length∧fz≤i∧v.cells.length=gA sh∧v.cells.all PV.sc then match xs[i]? with
    | some (.agg cs)=>if off+v.cells.length≤cs.length then some (.und,h1.set id (.row rsh (xs.set i (.agg (splice cs off v.cells))) fz),[]) else none
    | some _=>if off=0∧v.sc then some (.und,h1.set id (.row rsh (xs.set i v) fz),[]) else none
    | none=>none
    else none
   | _=>none
  | none=>none
 | .bt k off id g=>stA sh k off id g x h
 | _=>none
def cD (x:AV):Option AV:=match x with
 | .ref _ _ | .rref _ _ _ _ | .vp _ | .fn _ _=>some x
 | .bt k _ _ _=>nlA k x
 | _=>none
def eA (op:BinOp)(x y:AV):Option AV:=match x,y with
 | .p a,.p b=>(GB op a b).map .p
 | _,_=>none
def iB (ks:List Nat)(neg:Bool)(x y:AV):Option AV:=match x,y with
 | .p (.agg asv),.p (.agg bs)=>if asv.map PV.kind=ks∧bs.map PV.kind=ks∧ks≠[] then(eqs asv bs).map fun t=>pbool (bif neg then !t else t) else none
 | .p (.bool a),.p (.bool b)=>if ks=[] then some (pbool (bif neg then !decide (a=b) else decide (a=b))) else none
 | _,_=>none
def lP (k:Nat)(neg:Bool)(x:AV):Option AV:=bif yH k x then some .anyb else(fM k x).map fun r=>pbool (bif neg then !r else r)
def z24 (x:AV):Option AV:=if zH x then some .ifc else none
def oUn (op:UnOp)(x:AV):Option AV:=match x with
 | .p a=>(aun op a).map .p
 | _=>none
def iM (c:Cv)(x:AV)(h:aA):Option (AV×aA×Esc):=(tF h c x).map fun y=>(y.1,y.2,[])
def CI (k:IntKind)(x:AV):Option AV:=match x with
 | .p (.int _ n)=>some (.p (.int k (k.wrap n)))
 | _=>none
def tU (sh:Sh)(z:PV)(len cap:AV)(h:aA):Option (AV×aA×Esc):=match zB len,zB cap with
 | some n,some m=>if n≤m∧m≤xB∧z.shp sh then some (.own h.length n 0 n,h++[.row sh (List.replicate n z) 0],[]) else none
 | _,_=>none
def yD (d:Nat):Option AV→Option Nat
 | none=>some d
 | some x=>zB x
def mP (x:AV)(lo hi:Option AV):Option AV:=match x with
 | .p (.str s)=>match yD 0 lo,yD s.length hi with
  | some l,some r=>if l≤r∧r≤s.length then some (.p (.str (win s l (r-l)))) else none
  | _,_=>none
 | _=>none
def QC (sh:Sh)(x:AV)(lo hi mx:Option AV)(h:aA):Option AV:=match x with
 | .p (.sl sh' xs)=>match yD 0 lo,yD xs.length hi,yD xs.length mx with
  | some l,some r,some m=>if sh'=sh∧l≤r∧r≤m∧m≤xs.length then some (if mx.isSome∧m=l then .sl0 sh else .p (.sl sh (win xs l (r-l)))) else none
  | _,_,_=>none
 | .sl0 sh'=>match yD 0 lo,yD 0 hi,yD 0 mx with
  | some l,some r,some m=>if l=0∧r=0∧m=0 then some (.sl0 sh') else none
  | _,_,_=>none
 | .own id g off len=>match h[id]? with
  | some (.row rsh xs _)=>match yD 0 lo,yD len hi,yD len mx with
   | some l,some r,some m=>if rsh=sh∧g=xs.length∧off+len≤xs.length∧l≤r∧r≤m∧m≤len then some (if mx.isSome∧m=l then .sl0 sh else .own id g (off+l) (r-l)) else none
   | _,_,_=>none
  | _=>none
 | _=>none
def rA (off:Nat)(sh:Sh)(x:AV):Option AV:=match x with
 | .ref id o=>some (.ref id (o+off))
 | .rref id g i o=>some (.rref id g i (o+off))
 | .vp v=>(aB sh off v).map .vp
 | .bt k o id g=>faA k off o id g
 | _=>none
def kP (off:Nat)(sh:Sh)(x:AV):Option AV:=match x with
 | .p v=>match v with
  | .agg _=>(aB sh off v).map .p
  | _=>none
 | .agg cs=>cut sh off cs
 | _=>none
def uA (sh:Sh)(x i:AV)(h:aA):Option AV:=match x,zB i with
 | .p (.sl sh' xs),some k=>if sh'=sh then(xs[k]?).map .vp else none
 | .own id g off len,some k=>match h[id]? with
  | some (.row rsh xs _)=>if rsh=sh∧g=xs.length∧off+len≤xs.length∧k<len then some (.rref id g (off+k) 0) else none
  | _=>none
 | .bt kk _ id g,some k=>iaA sh kk id g k h
 | _,_=>none
def qU (n:Nat)(sh:Sh)(x i:AV):Option AV:=match x,zB i with
 | .ref id o,some k=>if k<n then some (.ref id (o+k*gA sh)) else none
 | .rref id g j o,some k=>if k<n then some (.rref id g j (o+k*gA sh)) else none
 | .vp v,some k=>if k<n then(aB sh (k*gA sh) v).map .vp else none
 | _,_=>none
def rU (n:Nat)(sh:Sh)(x i:AV):Option AV:=match x,zB i with
 | .p (.agg cs),some k=>if k<n then(aB sh (k*gA sh) (.agg cs)).map .p else none
 | _,_=>none
def zG (x i:AV):Option AV:=match x,zB i with
 | .p (.str s),some k=>(s[k]?).map fun b=>.p (.int .u8 b.toNat)
 | _,_=>none
def xC (x:AV)(i:Nat):Option AV:=match x with
 | .tup vs=>vs[i]?
 | _=>none
def QA (x:AV):Option AV:=match x with
 | .p (.sl _ xs)=>some (pint xs.length)
 | .sl0 _=>some (pint 0)
 | .own _ _ _ len=>some (pint len)
 | .bt k _ _ g=>lnA k g
 | _=>none
def DI (x:AV):Option AV:=match x with
 | .p (.str s)=>some (pint s.length)
 | _=>none
def mF (sh:Sh)(s x:AV)(h:aA):Option (AV×aA×Esc):=match rds h x with
 | some (sh',ys)=>if sh'=sh then match s with
  | .sl0 _=>if ys.length≤xB then some (.own h.length ys.length 0 ys.length,h++[.row sh ys 0],[]) else none
  | .own id g off len=>match h[id]? with
   | some (.row rsh xs fz)=>if rsh=sh∧g=xs.length∧off=0∧len=xs.length∧len+ys.length≤xB∧fz≤xs.length then some (.own id (g+ys.length) off (len+ys.length),h.set id (.row sh (xs++ys) fz),[])
    else if rsh=sh∧g=xs.length∧off+len+ys.length≤xs.length∧fz≤off+len∧1≤ys.length∧len+ys.length≤xB∧sh=none∧xs.all PV.intP=true∧ys.all PV.intP=true then
     some (.p (.sl sh (win xs off len++ys)),h.set id (.row sh (splice xs (off+len) (List.replicate ys.length .unk)) (off+len+ys.length)),[])
    else none
   | _=>none
  | _=>none
  else none
 | none=>none
def z2z (sh:Sh)(d s:AV)(h:aA):Option (AV×aA×Esc):=match d,rds h s with
 | .own id g off len,some (sh',ys)=>match h[id]? with
  | some (.row rsh xs fz)=>if rsh=sh∧sh'=sh∧g=xs.length∧off+len≤xs.length∧fz≤off then
   some (pint (min ys.length len),h.set id (.row sh (splice xs off (ys.take (min ys.length len))) fz),[])
   else none
  | _=>none
 | _,_=>none
def oClr (sh:Sh)(z:PV)(x:AV)(h:aA):Option (AV×aA×Esc):=match x with
 | .sl0 _=>some (.tup [],h,[])
 | .own id g off len=>match h[id]? with
  | some (.row rsh xs fz)=>if rsh=sh∧g=xs.length∧off+len≤xs.length∧fz≤off then
   some (.tup [],h.set id (.row sh (splice xs off (List.replicate len z)) fz),[])
   else none
  | _=>none
 | _=>none
def oMx (xs:List AV):Option AV:=match xs with
 | .p a::r=>((unp r).bind fun l=>l.foldlM jL a).map .p
 | _=>none
def oMn (xs:List AV):Option AV:=match xs with
 | .p a::r=>((unp r).bind fun l=>l.foldlM kL a).map .p
 | _=>none
def aC (kk:Sh × List Nat)(ok:Bool)(z x k:AV)(h:aA):Option AV:=match bD kk k with
 | some key=>match (match x with | .nilm=>some []|m=>(sC h m).map fun y=>y.2.1) with
  | some es=>match wC key es with
   | some r=>
    let v:=((r.bind (es[·]?)).map ME.val)
    some (bif ok then .tup [v.getD z,pbool v.isSome] else v.getD z)
   | none=>none
  | none=>none
 | none=>none
def jC (kk:Sh × List Nat)(m k x:AV)(h:aA):Option (AV×aA×Esc):=match bD kk k,sC h m,zH x with
 | some key,some (id,es,c),true=>match wC key es with
  | some (some i)=>some (.und,h.set id (.amap (es.modify i fun e=>{ e with val:=x }) c),IC id x)
  | some none=>some (.und,h.set id (.amap (es++[⟨key,x,c⟩]) (c+1)),IC id x)
  | none=>none
 | _,_,_=>none
def z23 (kk:Sh × List Nat)(z m k:AV)(h:aA):Option (AV×aA×Esc):=match bD kk k,sC h m with
 | some key,some (id,es,c)=>match wC key es with
  | some (some i)=>(es[i]?).map fun e=>(.tup [e.val,pint e.born],h,[])
  | some none=>some (.tup [z,pint c],h.set id (.amap (es++[⟨key,z,c⟩]) (c+1)),[])
  | none=>none
 | _,_=>none
def z21 (m s x:AV)(h:aA):Option (AV×aA×Esc):=match sC h m,zB s,zH x with
 | some (id,es,c),some b,true=>match es.findIdx? (fun e=>e.born==b) with
  | some i=>some (.und,h.set id (.amap (es.modify i fun e=>{ e with val:=x }) c),IC id x)
  | none=>none
 | _,_,_=>none
def kD (kk:Sh × List Nat)(m k:AV)(h:aA):Option (AV×aA×Esc):=match bD kk k,sC h m with
 | some key,some (id,es,c)=>match wC key es with
  | some (some i)=>some (.und,h.set id (.amap (es.eraseIdx i) c),[])
  | some none=>some (.und,h,[])
  | none=>none
 | _,_=>none
def sU (x:AV)(h:aA):Option AV:=match x with
 | .nilm=>some (pint 0)
 | .mp id=>(sC h (.mp id)).map fun y=>pint y.2.1.length
 | _=>none
def WJ (x:AV)(h:aA):Option (AV×aA×Esc):=match sC h x with
 | some (id,_,c)=>some (.it h.length,h++[.iter (some id) c [] c],[])
 | none=>match x with
  | .nilm=>some (.it h.length,h++[.iter none 0 [] 0],[])
  | _=>none
def VJ (i:AV)(h:aA):Option (AV×aA×Esc):=match i with
 | .it id=>match h[id]? with
  | some (.iter (some m) _ seen last)=>match sC h (.mp m),seen.getLast? with
   | some (_,es,c),some b=>if c=last then(es.find? (fun e=>e.born==b)).map fun e=>(.tup [.p e.key,e.val],h,[]) else none
   | _,_=>none
  | _=>none
 | _=>none
def alK (z:List AV)(h:aA)(k:AV→aA→Esc→Prop):Prop:=k (.ref h.length 0) (h++[.box z]) []
def nwK (sh:Sh)(h:aA)(k:AV→aA→Esc→Prop):Prop:=k (.own h.length 0 0 0) (h++[.row sh [] 0]) []
def mmK (h:aA)(k:AV→aA→Esc→Prop):Prop:=k (.mp h.length) (h++[.amap [] 0]) []
def ev3 (ev:Opd→AV):List (Nat×Nat×Opd)→List (Nat×Nat×AV)
 | []=>[]
 | (a,b,x)::r=>(a,b,ev x)::ev3 ev r
def ev2 (ev:Opd→AV):List (Nat×Opd)→List (Nat×AV)
 | []=>[]
 | (a,x)::r=>(a,ev x)::ev2 ev r
def evO (ev:Opd→AV):Option Opd→Option AV
 | none=>none
 | some x=>some (ev x)
def ev1 (ev:Opd→AV):List Opd→List AV
 | []=>[]
 | x::r=>ev x::ev1 ev r
def opN (o:AO)(ev:Opd→AV)(h:aA)(k:AV→aA→Esc→Prop):Prop:=match o with
 | .mv x=>k (ev x) h []
 | .pick c a b=>pK (SA (ev c) (ev a) (ev b)) fun v=>k v h []
 | .alloc z=>alK z h k
 | .box x=>wK (jD (ev x) h) k
 | .build z ps=>pK (mE z (ev3 ev ps)) fun v=>k v h []
 | .bsl own sh n z ps=>wK (ZA own sh n z (ev2 ev ps) h) k
 | .load sh a=>pK (oA sh (ev a) h) fun v=>k v h []
 | .store sh a x=>wK (GA sh (ev a) (ev x) h) k
 | .nilchk x=>pK (cD (ev x)) fun v=>k v h []
 | .bin op x y=>pK (eA op (ev x) (ev y)) fun v=>k v h []
 | .eqa ks neg x y=>pK (iB ks neg (ev x) (ev y)) fun v=>k v h []
 | .isnil n neg x=>pK (lP n neg (ev x)) fun v=>k v h []
 | .mkif x=>pK (z24 (ev x)) fun v=>k v h []
 | .un op x=>pK (oUn op (ev x)) fun v=>k v h []
 | .conv (.i c) x=>pK (CI c (ev x)) fun v=>k v h []
 | .mkfn f caps=>k (.fn f (ev1 ev caps)) h []
 | .slice sh x lo hi mx=>pK (QC sh (ev x) (evO ev lo) (evO ev hi) (evO ev mx) h) fun v=>k v h []
 | .slstr x lo hi=>pK (mP (ev x) (evO ev lo) (evO ev hi)) fun v=>k v h []
 | .mksl sh z len cap=>wK (tU sh z (ev len) (ev cap) h) k
 | .faddr off sh x=>pK (rA off sh (ev x)) fun v=>k v h []
 | .field off sh x=>pK (kP off sh (ev x)) fun v=>k v h []
 | .iaddr sh x i=>pK (uA sh (ev x) (ev i) h) fun v=>k v h []
 | .iaddra n sh x i=>pK (qU n sh (ev x) (ev i)) fun v=>k v h []
 | .idxa n sh x i=>pK (rU n sh (ev x) (ev i)) fun v=>k v h []
 | .idxs x i=>pK (zG (ev x) (ev i)) fun v=>k v h []
 | .ext x i=>pK (xC (ev x) i) fun v=>k v h []
 | .len x=>pK (QA (ev x)) fun v=>k v h []
 | .lens x=>pK (DI (ev x)) fun v=>k v h []
 | .app sh s x=>wK (mF sh (ev s) (ev x) h) k
 | .copy sh d s=>wK (z2z sh (ev d) (ev s) h) k
 | .uns m t xs=>wK (NI m t (ev1 ev xs) h) k
 | .clr sh z x=>wK (oClr sh z (ev x) h) k
 | .mx xs=>pK (oMx (ev1 ev xs)) fun v=>k v h []
 | .mn xs=>pK (oMn (ev1 ev xs)) fun v=>k v h []
 | .new0 sh=>nwK sh h k
 | .conv .s2b x=>wK (iM .s2b (ev x) h) k
 | .conv .b2s x=>wK (iM .b2s (ev x) h) k
 | .conv .r2s x=>wK (iM .r2s (ev x) h) k
 | .conv .same x=>wK (iM .same (ev x) h) k
 | .mkmap=>mmK h k
 | .look kk ok z x key=>pK (aC kk ok z (ev x) (ev key) h) fun v=>k v h []
 | .mupd kk m key x=>wK (jC kk (ev m) (ev key) (ev x) h) k
 | .ment kk z m key=>wK (z23 kk z (ev m) (ev key) h) k
 | .estore m s x=>wK (z21 (ev m) (ev s) (ev x) h) k
 | .mdel kk m key=>wK (kD kk (ev m) (ev key) h) k
 | .lenm x=>pK (sU (ev x) h) fun v=>k v h []
 | .mrange x=>wK (WJ (ev x) h) k
 | .mentry i=>wK (VJ (ev i) h) k
 | .call _ _ | .callv _ _ | .mnext _ _=>False
theorem z4e {o:Option (AV × aA × Esc)}{k:AV→aA→Esc→Prop}:xA o k=wK o k:=rfl
theorem PF {o:Option AV}{h:aA}{k:AV→aA→Esc→Prop}:wK (o.map fun v=>(v,h,[])) k=pK o fun v=>k v h []:=by cases o <;> rfl
theorem z1j (ev:Opd→AV):∀(ps:List (Nat×Nat×Opd)) (z:List AV),sG ev ps z=UL (ev3 ev ps) z
 | [],z=>rfl
 | (off,n,x)::r,z=>by
  simp only[sG,ev3,UL];cases (ev x).cells with
  | none=>rfl
  | some vs=>simp only[z1j ev r]
theorem z1k (ev:Opd→AV)(sh:Sh):∀(ps:List (Nat×Opd)) (h:aA) (z:List PV),tG ev sh ps h z=VL sh (ev2 ev ps) h z
 | [],h,z=>rfl
 | (i,x)::r,h,z=>by
  simp only[tG,ev2,VL];cases pur h (ev x) with
  | none=>rfl
  | some y=>simp only[z1k ev sh r]
theorem uY (ev:Opd→AV)(d:Nat)(o:Option Opd):bnd ev d o=yD d (evO ev o):=by cases o <;> rfl
theorem zez (ev:Opd→AV)(o:Option Opd):(evO ev o).isSome=o.isSome:=by cases o <;> rfl
theorem lG (ev:Opd→AV)(l:List Opd):l.map ev=ev1 ev l:=by
 induction l with
 | nil=>rfl
 | cons x r ih=>simp only[List.map_cons,ev1,ih]
theorem z8h (sh:Sh)(ev:Opd→AV)(h:aA)(x:AV)(lo hi mx:Option Opd):asl sh ev h x lo hi mx=QC sh x (evO ev lo) (evO ev hi) (evO ev mx) h:=by
 unfold asl QC;simp only[uY,zez];rfl
theorem ZK {p:Prop}[Decidable p]{a:AV}{h:aA}{k:AV→aA→Esc→Prop}:wK (if p then some (a,h,[]) else none) k=pK (if p then some a else none) fun v=>k v h []:=by split <;> rfl
theorem rF {α:Type}{o:Option α}{f:α→AV}{h:aA}{k:AV→aA→Esc→Prop}:wK (o.map fun v=>(f v,h,[])) k=pK (o.map f) fun v=>k v h []:=by cases o <;> rfl
theorem VM {α:Type}{p:Prop}[Decidable p]{o:Option α}{f:α→AV}{h:aA}{k:AV→aA→Esc→Prop}:wK (if p then o.map (fun v=>(f v,h,[])) else none) k=pK (if p then o.map f else none) fun v=>k v h []:=by
 split
 ·exact rF
 ·rfl
theorem z27 {o:AO}(hp:o.plain=true){ev:Opd→AV}{h:aA}{k:AV→aA→Esc→Prop}:xA (aop o ev h) k=opN o ev h k:=by
 rw[z4e];cases o <;> first|(cases hp;done)|skip
 case mv=>rfl
 case pick c a b=>
  simp only[aop,opN,SA];generalize ev c=v;cases v <;> try rfl
  rename_i p;cases p <;> rfl
 case alloc=>rfl
 case box=>rfl
 case build z ps=>simp only[aop,opN];rw[←PF,mE,z1j,Option.map_map];rfl
 case bsl=>simp only[aop,opN,ZA,z1k];rfl
 case load sh a=>
  simp only[aop,opN,oA];generalize ev a=v;cases v with
  | ref id off=>dsimp only;cases h[id]? with
   | none=>rfl
   | some o=>cases o <;> first|rfl|exact PF
  | rref id g i off=>dsimp only;cases h[id]? with
   | none=>rfl
   | some o=>cases o <;> first|rfl|exact VM
  | vp v=>exact rF
  | p v=>cases v <;> rfl
  | bt _ _ _ _=>exact PF
  | _=>rfl
 case store=>simp only[aop,opN];rfl
 case nilchk x=>
  simp only[aop,opN,cD];generalize ev x=v;cases v <;> try rfl
  exact PF
 case bin op x y=>
  simp only[aop,opN,eA];generalize ev x=v;generalize ev y=u;cases v <;> try rfl
  cases u <;> try rfl
  exact rF
 case eqa ks neg x y=>
  simp only[aop,opN,iB];generalize ev x=v;generalize ev y=u;cases v <;> try rfl
  rename_i p;cases p <;> try rfl
  all_goals (cases u <;> try rfl)
  all_goals (rename_i q;cases q <;> try rfl)
  ·exact ZK
  ·exact VM
 case isnil k neg p=>
  simp only[aop,opN,lP];cases yH k (ev p) with
  | true=>rfl
  | false=>exact rF
 case mkif=>exact ZK
 case un op x=>
  simp only[aop,opN,oUn];generalize ev x=v;cases v <;> try rfl
  exact rF
 case conv c x=>
  cases c;case i k'=>
   simp only[aop,opN,CI,tF];generalize ev x=v;cases v <;> try rfl
   rename_i p;cases p <;> rfl
  all_goals rfl
 case mkfn f caps=>simp only[aop,opN,lG];rfl
 case slice=>simp only[aop,opN,z8h];exact PF
 case slstr x lo hi=>
  simp only[aop,opN,mP,uY];generalize ev x=v;cases v <;> try rfl
  rename_i p;cases p <;> try rfl
  rename_i s;dsimp only;generalize yD 0 _=o1;generalize yD s.length _=o2;cases o1 <;> try rfl
  cases o2 <;> try rfl
  exact ZK
 case mksl=>simp only[aop,opN];rfl
 case faddr off sh x=>
  simp only[aop,opN,rA];generalize ev x=v;cases v <;> try rfl
  ·exact rF
  ·exact PF
 case field off sh x=>
  simp only[aop,opN,kP];generalize ev x=v;cases v <;> try rfl
  ·rename_i p;cases p <;> try rfl
   exact rF
  ·exact PF
 case iaddr sh x i=>
  simp only[aop,opN,uA];generalize ev x=v;generalize zB (ev i)=n;cases v <;> try rfl
  ·rename_i p;cases p <;> try rfl
   cases n <;> try rfl
   exact VM
  ·cases n <;> try rfl
   rename_i id g off len k;dsimp only;cases h[id]? with
   | none=>rfl
   | some o=>cases o <;> first|rfl|exact ZK
  ·cases n <;> try rfl
   exact PF
 case iaddra m sh x i=>
  simp only[aop,opN,qU];generalize ev x=v;generalize zB (ev i)=n;cases v <;> try rfl
  all_goals (cases n <;> try rfl)
  ·exact ZK
  ·exact ZK
  ·exact VM
 case idxa m sh x i=>
  simp only[aop,opN,rU];generalize ev x=v;generalize zB (ev i)=n;cases v <;> try rfl
  rename_i p;cases p <;> try rfl
  cases n <;> try rfl
  exact VM
 case idxs x i=>
  simp only[aop,opN,zG];generalize ev x=v;generalize zB (ev i)=n;cases v <;> try rfl
  rename_i p;cases p <;> try rfl
  cases n <;> try rfl
  exact rF
 case ext x i=>
  simp only[aop,opN,xC];generalize ev x=v;cases v <;> try rfl
  exact PF
 case len x=>
  simp only[aop,opN,QA];generalize ev x=v;cases v <;> try rfl
  ·rename_i p;cases p <;> rfl
  ·exact PF
 case lens x=>
  simp only[aop,opN,DI];generalize ev x=v;cases v <;> try rfl
  rename_i p;cases p <;> rfl
 case app=>simp only[aop,opN];rfl
 case copy=>simp only[aop,opN];rfl
 case uns=>simp only[aop,opN,lG,z4e]
 case clr=>simp only[aop,opN];rfl
 case mx xs=>
  simp only[aop,opN,lG,oMx];generalize ev1 ev xs=l;cases l <;> try rfl
  rename_i v r;cases v <;> try rfl
  exact rF
 case mn xs=>
  simp only[aop,opN,lG,oMn];generalize ev1 ev xs=l;cases l <;> try rfl
  rename_i v r;cases v <;> try rfl
  exact rF
 case new0=>rfl
 case look kk ok z x key=>
  simp only[aop,opN,aC];cases bD kk (ev key) <;> try rfl
  rename_i kk;generalize ev x=v;cases v <;> try rfl
  rename_i id;dsimp only;cases sC h (.mp id) <;> try rfl
  rename_i y;dsimp only[Option.map_some];cases wC kk y.2.1 <;> rfl
 case lenm x=>
  simp only[aop,opN,sU];generalize ev x=v;cases v <;> try rfl
  exact rF
 all_goals rfl
end Go.Am
end
section
/- The abstract machine,part 30: the meaning of code in the new spelling,and that it is the old one. -/
set_option linter.unusedSimpArgs false
set_option linter.unusedVariables false
namespace Go.Am
def gV (v:AV)(b:Bool)(h:aA)(A:(AV→aA→Esc→Prop)→Prop)(k:AV→aA→Esc→Prop):Prop:=MC v b (A k) (k .skp h [])
def gP (v:AV)(b:Bool)(o:Option AV)(h:aA)(k:AV→aA→Esc→Prop):Prop:=gV v b h (fun k=>pK o fun u=>k u h []) k
def gM (v:AV)(b:Bool)(u:AV)(h:aA)(k:AV→aA→Esc→Prop):Prop:=gV v b h (fun k=>k u h []) k
def upB (b:Bool):Bool:=(fun(_:AV→Bool→Option AV→aA→(AV→aA→Esc→Prop)→Prop)=>b) gP
def gK (g:Option (Nat × Bool))(e:List (Nat × AV))(h:aA)(A:(AV→aA→Esc→Prop)→Prop)(k:AV→aA→Esc→Prop):Prop:=match g with
 | none=>A k
 | some (t,b)=>gV (bA e t) b h A k
def opC (C:Hd)(o:AO)(ev:Opd→AV)(h:aA)(k:AV→aA→Esc→Prop):Prop:=match o with
 | .call f args=>C f (ev1 ev args) h k
 | .callv f args=>TH C (ev f) (ev1 ev args) h k
 | .mnext sh xs=>match oL h sh (ev1 ev xs) with
  | some l=>l≠[]∧∀y∈l,k y.1 y.2 []
  | none=>False
 | o=>opN o ev h k
def dL (C:Hd)(gl:Nat→Option PV):List AOp→List (Nat×AV)→aA→Esc→(List (Nat×AV)→aA→Esc→Prop)→Prop
 | [],e,h,x,L=>L e h x
 | o::r,e,h,x,L=>gK o.guard e h (opC C o.op (Opd.ev gl e) h) fun v h' x'=>dL C gl r (put o.dst v e) h' (x'++x) L
variable {C:Hd} {gl:Nat→Option PV}
theorem z25 {o:AO}{d:Option Nat}{r:List AOp}{e:List (Nat × AV)}{h:aA}{x:Esc}{L:List (Nat × AV)→aA→Esc→Prop} :
 zA C gl (⟨d,none,o⟩::r) e h x L=opC C o (Opd.ev gl e) h (bB C gl r d e x L):=by
 cases hp:o.plain with
 | true=>
  rw[tB hp,z27 hp];cases o <;> first|rfl|cases hp
 | false=>
  cases o <;> first|(cases hp;done)|skip
  all_goals first
   | (rw[lW,lG];rfl)
   | (rw[mW,lG];rfl)
   | (unfold zA opC;simp only[wanted,lG];rfl)
theorem uW:∀ (ops:List AOp)(e:List (Nat × AV))(h:aA)(x:Esc)(L:List (Nat × AV)→aA→Esc→Prop),zA C gl ops e h x L=dL C gl ops e h x L
 | [],e,h,x,L=>rfl
 | ⟨d,g,o⟩::r,e,h,x,L=>by
  have ih:(fun(v:AV) (h':aA) (x':Esc)=>dL C gl r (put d v e) h' (x'++x) L)=bB C gl r d e x L:=by
   funext v h' x';rw[←uW r];rfl
  show _=gK g e h (opC C o (Opd.ev gl e) h) fun v h' x'=>dL C gl r (put d v e) h' (x'++x) L
  rw[ih];cases g with
  | none=>exact z25
  | some tb=>
   obtain⟨t,b⟩:=tb;rw[oW,z25];rfl
def opE (C:Hd)(o:AO)(ev:Opd→AV)(h:aA)(k:AV→aA→Esc→Prop):Prop:=match o with
 | .call f args=>BB C f (ev1 ev args) h k
 | .callv f args=>oD C (ev f) (ev1 ev args) h k
 | .mnext _ _=>False
 | o=>opN o ev h k
def effN (still eff:Bool)(h h':aA)(y:Esc)(Q:Prop):Prop:=match upB eff with
 | true=>Q
 | false=>match still with
  | true=>Q
  | false=>(h'=h∧y=[])∧Q
def GV (C:Hd)(gl:Nat→Option PV)(q:AOp × List (Nat × AV) × AV)(g:aA):Prop:=
 gK q.1.guard q.2.1 g (opE C q.1.op (Opd.ev gl q.2.1) g) fun v1 h1 x1=>v1=q.2.2∧h1=g∧x1=[]
def NG (C:Hd)(gl:Nat→Option PV)(h:aA)(dn:YC)(Q:Prop):List Nat→Prop
 | []=>Q
 | j::r=>(match dn[j]? with|some q=>GV C gl q h|none=>False)∧NG C gl h dn Q r
def ZG (C:Hd)(gl:Nat→Option PV)(o:AOp)(e:List (Nat × AV))(v:AV)(hs:List aA)(Q:Prop):List Nat→Prop
 | []=>Q
 | k::r=>(match hs[k]? with|some g=>GV C gl (o,e,v) g|none=>False)∧ZG C gl o e v hs Q r
def PI (C:Hd)(gl:Nat→Option PV):List DOp→YC→List aA→List (Nat×AV)→aA→Esc→(List (Nat×AV)→aA→Esc→Prop)→Prop
 | [],_,_,e,h,x,L=>L e h x
 | o::r,dn,hs,e,h,x,L=>gK o.op.guard (RA (some o.rd) e) h (opE C o.op.op (Opd.ev gl (RA (some o.rd) e)) h) fun v h' y=>
  effN o.op.op.still o.eff h h' y (ZG C gl o.op (RA (some o.rd) e) v hs (NG C gl h' dn (PI C gl r (dn++[(o.op,RA (some o.rd) e,v)]) (hs++[h]) (put o.op.dst v e) h' (y++x) L) o.again) o.early)
theorem z26 {o:AO}{d:Option Nat}{e:List (Nat × AV)}{h:aA}{R:AV→aA→Esc→Prop}:doK C gl ⟨d,none,o⟩ e h R=opE C o (Opd.ev gl e) h R:=by
 cases hp:o.plain with
 | true=>
  rw[vB hp,z27 hp];cases o <;> first|rfl|cases hp
 | false=>
  cases o <;> first|(cases hp;done)|skip
  all_goals first
   | (rw[z0y,lG];rfl)
   | (rw[z0z,lG];rfl)
   | (unfold doK ADo opE;simp [wanted])
theorem z11 {o:AOp}{e:List (Nat × AV)}{h:aA}{R:AV→aA→Esc→Prop}:doK C gl o e h R=gK o.guard e h (opE C o.op (Opd.ev gl e) h) R:=by
 obtain⟨d,g,op⟩:=o;cases g with
 | none=>exact z26
 | some tb=>
  obtain⟨t,b⟩:=tb;rw[z00,z26];rfl
theorem z36 {q:AOp × List (Nat × AV) × AV}{g:aA}:doS C gl q g=GV C gl q g:=by
 obtain⟨⟨d,gd,op⟩,e,v⟩:=q;rw[z01,z11];rfl
theorem fY {h:aA}{dn:YC}{Q:Prop}:∀{l:List Nat},NG C gl h dn Q l=(agK C gl h dn l∧Q)
 | []=>by simp [NG,agK]
 | j::r=>by
  unfold NG agK;rw[fY (l:=r)];cases dn[j]? with
  | none=>simp
  | some q=>simp only[z36,and_assoc]
theorem z06 {o:AOp}{e:List (Nat × AV)}{v:AV}{hs:List aA}{Q:Prop}:∀{l:List Nat},ZG C gl o e v hs Q l=(eaK C gl o e v hs l∧Q)
 | []=>by simp [ZG,eaK]
 | j::r=>by
  unfold ZG eaK;rw[z06 (l:=r)];cases hs[j]? with
  | none=>simp
  | some q=>simp only[z36,and_assoc]
theorem zbl {o:AOp}(hs:o.op.still=true){e:List (Nat × AV)}{h:aA}{R:AV→aA→Esc→Prop}:doK C gl o e h (fun v h' y=>(h'=h∧y=[])∧R v h' y)=doK C gl o e h R:=by
 unfold doK;refine propext ⟨fun⟨v,h',y,H,_,r⟩=>⟨v,h',y,H,r⟩,fun⟨v,h',y,H,r⟩=>⟨v,h',y,H,z4w hs H,r⟩⟩
theorem tW:∀ (ds:List DOp)(dn:YC)(hs:List aA)(e:List (Nat × AV))(h:aA)(x:Esc)(L:List (Nat × AV)→aA→Esc→Prop),CC C gl ds dn hs e h x L=PI C gl ds dn hs e h x L
 | [],dn,hs,e,h,x,L=>rfl
 | ⟨o,rd,eff,early,again⟩::r,dn,hs,e,h,x,L=>by
  rw[iW];show _=gK o.guard (RA (some rd) e) h (opE C o.op (Opd.ev gl (RA (some rd) e)) h) fun v h' y=>
   effN o.op.still eff h h' y (ZG C gl o (RA (some rd) e) v hs (NG C gl h' dn (PI C gl r (dn++[(o,RA (some rd) e,v)]) (hs++[h]) (put o.dst v e) h' (y++x) L) again) early)
  rw[←z11];have e1:xO C gl ⟨o,rd,eff,early,again⟩ r dn hs e h x L=fun v h' y=>(iI eff h h' y∧ZG C gl o (RA (some rd) e) v hs (NG C gl h' dn (PI C gl r (dn++[(o,RA (some rd) e,v)]) (hs++[h]) (put o.dst v e) h' (y++x) L) again) early):=by
   funext v h' y
   rw[z03,z06,fY,←tW r]
  rw[e1];cases eff with
  | true=>
   congr 1;funext v h' y
   simp [iI,effN,upB]
  | false=>
   cases hs':o.op.still with
   | true=>
    have:=zbl (C:=C) (gl:=gl) (o:=o) hs' (e:=RA (some rd) e) (h:=h) (R:=fun v h' y=>ZG C gl o (RA (some rd) e) v hs (NG C gl h' dn (PI C gl r (dn++[(o,RA (some rd) e,v)]) (hs++[h]) (put o.dst v e) h' (y++x) L) again) early)
    exact this
   | false=>rfl
def NW (C:Hd)(gl:Nat→Option PV):ACode→St→(Ex→St→Prop)→Prop
 | .skip,s,K=>K .normal s
 | .reg ops keep,s,K=>dL C gl ops s.env s.h s.esc fun e h x=>K .normal ⟨RA keep e,h,x⟩
 | .draw ds keep,s,K=>PI C gl ds [] [] s.env s.h s.esc fun e h x=>K .normal ⟨RA keep e,h,x⟩
 | .seq a b,s,K=>NW C gl a s fun e s'=>match e with
  | .normal=>NW C gl b s' K
  | .exit i=>K (.exit i) s'
  | .ret=>K .ret s'
 | .cond c a b,s,K=>qA (Opd.ev gl s.env c) (NW C gl a s K) (NW C gl b s K)
 | .condu c a b,s,K=>TG (Opd.ev gl s.env c) (NW C gl a s K) (NW C gl b s K)
 | .det b,s,K=>NW C gl b s K
 | .block id b,s,K=>NW C gl b s fun e s'=>match e with
  | .normal=>K .normal s'
  | .exit i=>bif Nat.beq i id then K .normal s' else K (.exit i) s'
  | .ret=>K .ret s'
 | .loop b,s,K=>ALoop (NW C gl b) K s
 | .scope b,s,K=>NW C gl b ⟨s.env,s.h,[]⟩ fun e s'=>K e (UF s.h.length s.esc s')
 | .pr l b,s,K=>NW C gl b ⟨RA (some l) s.env,s.h,s.esc⟩ K
 | .exit id,s,K=>K (.exit id) s
 | .ret,s,K=>K .ret s
 | .bad,_,_=>False
theorem UD:∀ (c:ACode)(s:St)(K:Ex→St→Prop),AW C gl c s K=NW C gl c s K
 | .skip,s,K=>rfl
 | .reg ops keep,s,K=>uW _ _ _ _ _
 | .draw ds keep,s,K=>tW _ _ _ _ _ _ _
 | .seq a b,s,K=>by
  unfold AW NW;rw[UD a];congr 1;funext e s'
  cases e with
  | normal=>exact UD b s' K
  | _=>rfl
 | .cond c a b,s,K=>by
  unfold AW NW qA;rw[←UD a,←UD b];rfl
 | .condu c a b,s,K=>by
  unfold AW NW TG;rw[←UD a,←UD b];rfl
 | .det b,s,K=>UD b s K
 | .block id b,s,K=>by
  unfold AW NW;rw[UD b];congr 1;funext e s'
  cases e with
  | exit i=>
   dsimp only;by_cases hi:i=id
   ·subst hi;simp
   ·rw[if_neg hi]
    have:Nat.beq i id=false:=by cases h:Nat.beq i id with|false=>rfl|true=>exact absurd (Nat.eq_of_beq_eq_true h) hi
    rw[this];rfl
  | _=>rfl
 | .loop b,s,K=>by
  show ALoop (AW C gl b) K s=ALoop (NW C gl b) K s
  rw[show AW C gl b=NW C gl b from funext fun s=>funext fun K=>UD b s K]
 | .scope b,s,K=>UD b _ _
 | .pr l b,s,K=>UD b _ _
 | .exit id,s,K=>rfl
 | .ret,s,K=>rfl
 | .bad,s,K=>rfl
end Go.Am
end
