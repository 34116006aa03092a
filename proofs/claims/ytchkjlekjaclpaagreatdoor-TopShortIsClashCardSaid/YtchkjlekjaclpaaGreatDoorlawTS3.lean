/- Texts of the proof, laid together: Am21, Am22, Am23, Am24, Am25, Am26, Am27, Am28, Am29, Am30. -/
import Derived.Below
import Derived.ChangeSlices
import Derived.Carry
import Derived.Test.YtchkjlekjaclpaaGreatDoorlawTS2
set_option linter.all false
section
/- The abstract machine,part 21: code. -/
set_option linter.unusedSimpArgs false
set_option linter.unusedVariables false
set_option maxHeartbeats 1000000
namespace Go.Am
variable {h h':aA} {μ μ':Mu} {w w':World} {P:Program} {M M':Mem}
variable {gl:Nat→Option PV} {nt:Nat} {M0:Mem} {h0:aA} {μ0:Mu} {e:List (Nat × AV)} {x:Esc} {a:Act}
theorem zaf (H:HeapRel h μ w){id:Nat}{o:Obj}(ho:h[id]?=some o):o.top≤h.length:=by
 obtain⟨m,hm,hO⟩:=nD H ho;cases o with
 | box cs=>
  obtain⟨b,c,rfl,hb,hc⟩:=hO;exact mR H hc
 | row sh xs fz=>simp [Obj.top]
 | amap es c=>
  obtain⟨b,n,ces,rfl,h1,h2,_,h3⟩:=hO;refine UE (fun j y hy=>?_)
  simp only[List.getElem?_map,Option.map_eq_some_iff]at hy;obtain⟨en,he,rfl⟩:=hy;have hj:j<ces.size:=by rw[h2];exact vA he
  exact(h3 j en ces[j] he (Array.getElem?_eq_getElem hj)).2.2.1.top_le
 | iter mm s seen l=>
  obtain⟨b,n,rfl,h1⟩:=hO;cases mm with
  | none=>simp [Obj.top]
  | some i=>
   obtain⟨bm,nm,es,c,h2,h3,h4⟩:=h1;simp only[Obj.top];exact vA h3
 | arow sh cs=>
  obtain⟨h1,h2⟩:=hO;cases m with
  | none=>subst h2;simp [Obj.top,AV.tops]
  | some m=>
   obtain⟨b,n⟩:=m;obtain⟨c,c1,c2,c3⟩:=h2;refine UE (fun j y hy=>?_)
   obtain⟨v,_,q⟩:=c3 j y hy;exact q.top_le
theorem sP (H:HeapRel h μ w)(id:Nat):rD h id≤h.length:=by
 unfold rD;split
 ·exact zaf H ‹_›
 ·omega
theorem z3r (y:Esc)(n:Nat):n≤bump y n:=by
 unfold bump;induction y generalizing n with
 | nil=>simp
 | cons p r ih=>
  simp only[List.foldl_cons];split
  ·exact Nat.le_trans (by omega) (ih _)
  ·exact ih _
theorem FJ:∀ (k:Nat)(y:Esc)(n:Nat),n≤JB k y n
 | 0,y,n=>Nat.le_refl _
 | k+1,y,n=>Nat.le_trans (z3r y n) (FJ k y _)
theorem Evo.take {M'':Mem}(E:Evo M h μ M' h' μ'){n:Nat}(hn:h.length≤n)(L:M'.le M''):Evo M h μ M'' (h'.take n) (μ'.take n):=by
 refine⟨⟨fun b o v hv=>L.c _ _ _ (E.le.c _ _ _ hv),fun b o hv=>L.b _ _ (E.le.b _ _ hv),L.z.trans E.le.z,fun b t h=>L.s _ _ (E.le.s _ _ h)⟩,by have:=E.len;simp;omega,fun id o m h1 h2=>?_⟩
 obtain⟨o',m',h3,h4,h5⟩:=E.obj id o m h1 h2;have hi:id<n:=Nat.lt_of_lt_of_le (vA h1) hn
 exact⟨o',m',by rw[List.getElem?_take,if_pos hi];exact h3,by rw[List.getElem?_take,if_pos hi];exact h4,h5⟩
theorem rP {hs:aA}{μs:Mu}{Ms:Mem}{es:Esc}(Hs:∀ id,rD hs id≤hs.length)(H:HeapRel h μ w)(E:Evo Ms hs μs (imm h μ w) h μ)(I:rA hs h es){n:Nat}(hn:hs.length≤n)(hc:EB es n=true) :
 HeapRel (h.take n) (μ.take n) w∧(imm h μ w).le (imm (h.take n) (μ.take n) w)∧Evo Ms hs μs (imm (h.take n) (μ.take n) w) (h.take n) (μ.take n)∧rA hs (h.take n) (es.filter fun y=>decide (y.1<n)):=by
 have ht:∀id o,h[id]?=some o→id<n→o.top≤n:=by
  intro id o ho hi;have h1:=I id o ho
  have h2:=Hs id
  have h3:=z7F hc hi
  omega
 obtain⟨H1,L⟩:=H.take n ht;refine⟨H1,L,E.take hn L,fun id o ho=>?_⟩
 rw[List.getElem?_take]at ho;split at ho
 ·rename_i hi
  rw[z7G hi];exact I id o ho
 ·cases ho
theorem z2w (n:Nat)(e:List (Nat × AV))(t:Nat):bA (wE n e) t=if(bA e t).top≤n then bA e t else .und:=by
 induction e with
 | nil=>simp [wE,bA,AV.top]
 | cons y r ih=>
  simp only[wE,List.map_cons,bA]at ih ⊢;split
  ·rfl
  ·exact ih
theorem xJ (keep:Option (List Nat))(e:List (Nat × AV))(t:Nat):bA (AA keep e) t=bA e t∨bA (AA keep e) t = .und:=by
 cases keep with
 | none=>exact .inl rfl
 | some l=>
  simp only[AA];induction l with
  | nil=>exact .inr rfl
  | cons k r ih=>
   simp only[List.map_cons,bA];split
   ·rename_i hk;subst hk;exact .inl rfl
   ·exact ih
theorem zd5 {x0:Esc}{s:St}{hs:aA}{μs:Mu}{ws:World}{e0:List (Nat × AV)}{a0:Act}(R:Rel gl nt M0 h0 μ0 e0 hs x0 a0 ws μs)(R':Rel gl nt (imm hs μs ws) hs μs s.env s.h s.esc a w μ) :
 ∃μ',Rel gl nt M0 h0 μ0 (MD hs.length x0 s).env (MD hs.length x0 s).h (MD hs.length x0 s).esc a w μ':=by
 unfold MD;dsimp only;split
 ·rename_i hc
  have hn:=FJ s.esc.length s.esc hs.length
  generalize JB s.esc.length s.esc hs.length=n at hc hn;obtain⟨q1,q2,q3,q4⟩:=rP (fun id=>sP R.heap id) R'.heap R'.evo R'.esc hn hc
  refine⟨μ.take n,q1,fun t=>?_,R'.glob.mono q2,R.evo.trans q3,rA.trans R.esc q4,R'.size,R'.defers⟩
  dsimp only;rw[z2w];split
  ·exact(R'.env t).take q2 ‹_›
  ·exact .und _
 ·exact⟨μ,R'.heap,R'.env,R'.glob,R.evo.trans R'.evo,rA.trans R.esc R'.esc,R'.size,R'.defers⟩
theorem Rel.drew (R:Rel gl nt M0 h0 μ0 e h x a w μ)(n:Nat):Rel gl nt M0 h0 μ0 e h x a { w with drawn:=n } μ:=by
 obtain⟨h1,h2⟩:=R.heap.ext (WExt.drew w n);exact⟨h1,fun t=>(R.env t).evo h2,R.glob.mono h2.le,R.evo.trans h2,R.esc,R.size,R.defers⟩
def kB (P:Program)(nt:Nat):ACode→Code→Bool
 | .skip,c=>match c with
  | .skip=>true
  | _=>false
 | .reg aops _,c=>match c with
  | .region _ ops false=>XD P nt ops aops 0
  | _=>false
 | .draw ds _,c=>match c with
  | .region _ ops true=>AJ P nt ops ds
  | _=>false
 | .seq a b,c=>match c with
  | .seq a' b'=>kB P nt a a'&&kB P nt b b'
  | _=>false
 | .cond t a b,c=>match c with
  | .cond t' a' b'=>uA t t'&&kB P nt a a'&&kB P nt b b'
  | _=>false
 | .det b,c=>kB P nt b c
 | .condu t a b,c=>match c with
  | .cond t' a' b'=>uA t t'&&kB P nt a a'&&kB P nt b b'
  | .region _ ops true=>BR P nt ops t a b
  | _=>false
 | .block i b,c=>match c with
  | .block i' b'=>i==i'&&kB P nt b b'
  | _=>false
 | .loop b,c=>match c with
  | .loop b'=>kB P nt b b'
  | _=>false
 | .scope b,c=>kB P nt b c
 | .pr _ b,c=>kB P nt b c
 | .exit i,c=>match c with
  | .exit i'=>i==i'
  | _=>false
 | .ret,c=>match c with
  | .ret=>true
  | _=>false
 | .bad,_=>true
def Ex.toExit:Ex→Exit
 | .normal=>.normal
 | .exit i=>.exit i
 | .ret=>.ret
theorem z22 {M:Mem}{h:aA}{μ:Mu}{x:Value}(R:RAV M h μ .anyb x):∃b,x = .bool b:=by
 cases R with|anyb b=>exact⟨b,rfl⟩
theorem CC (hm:P.follows .mixedOrders=true){C:Hd}(hC:∀ f a h K,C f a h K→CB P gl f a h K):∀(c:ACode) {k:Code},kB P nt c k=true→∀{s:St} {K:Ex→St→Prop} {M0:Mem} {h0:aA} {μ0:Mu} {a:Act} {w:World} {μ:Mu} {Q:Exit→Act→World→Prop},
 AW C gl c s K→Rel gl nt M0 h0 μ0 s.env s.h s.esc a w μ→(∀ex s' a' w' μ',K ex s'→Rel gl nt M0 h0 μ0 s'.env s'.h s'.esc a' w' μ'→Q ex.toExit a' w')→k.wp P Q a w
 | .skip,k,hc,s,K,M0,h0,μ0,a,w,μ,Q,H,R,hQ=>by
  simp only[kB]at hc;split at hc
  ·exact wp_skip (hQ .normal _ _ _ _ H R)
  ·cases hc
 | .reg aops keep,k,hc,s,K,M0,h0,μ0,a,w,μ,Q,H,R,hQ=>by
  simp only[kB]at hc;split at hc
  ·rename_i id ops
   refine wp_region ?_;have:=JD hC aops 0 (Q:=Q) hc H R (fun e h x a w μ hk R'=>hQ .normal ⟨AA keep e,h,x⟩ a w μ hk ⟨R'.heap,fun t=>?_,R'.glob,R'.evo,R'.esc,R'.size,R'.defers⟩)
   ·rwa [Nat.sub_zero,←List.range_eq_range']at this
   ·rcases xJ keep e t with q|q
    ·rw[q];exact R'.env t
    ·rw[q];exact .und _
  ·cases hc
 | .draw ds keep,k,hc,s,K,M0,h0,μ0,a,w,μ,Q,H,R,hQ=>by
  simp only[kB]at hc;split at hc
  ·rename_i id ops
   refine wp_region_any hm ?_;exact FT hC (Q:=Q) hc H (R.drew _) (fun e h x a w μ hk R'=>hQ .normal ⟨AA keep e,h,x⟩ a w μ hk ⟨R'.heap,fun t=>(by
    rcases xJ keep e t with q|q
    ·rw[q];exact R'.env t
    ·rw[q];exact .und _),R'.glob,R'.evo,R'.esc,R'.size,R'.defers⟩)
  ·cases hc
 | .seq c1 c2,k,hc,s,K,M0,h0,μ0,a,w,μ,Q,H,R,hQ=>by
  simp only[kB]at hc;split at hc
  ·simp only[Bool.and_eq_true]at hc
   refine wp_seq (CC hm hC c1 hc.1 H R (fun ex s' a' w' μ' hk R'=>?_))
   cases ex with
   | normal=>exact CC hm hC c2 hc.2 hk R' hQ
   | exit i=>exact hQ (.exit i) _ _ _ _ hk R'
   | ret=>exact hQ .ret _ _ _ _ hk R'
  ·cases hc
 | .det c,k,hc,s,K,M0,h0,μ0,a,w,μ,Q,H,R,hQ=>by
  simp only[kB]at hc;exact CC hm hC c hc H R hQ
 | .condu t c1 c2,k,hc,s,K,M0,h0,μ0,a,w,μ,Q,H,R,hQ=>by
  simp only[kB]at hc;split at hc
  ·simp only[Bool.and_eq_true]at hc
   unfold AW at H;split at H
   ·rename_i b hb
    have ht:=R.opds _ _ hc.1.1
    rw[hb]at ht;refine wp_cond ht.p_bool ?_;cases b with
    | true=>exact CC hm hC c1 hc.1.2 H R hQ
    | false=>exact CC hm hC c2 hc.2 H R hQ
   ·rename_i hb
    have ht:=R.opds _ _ hc.1.1
    rw[hb]at ht;obtain⟨g1,g2⟩:=H;obtain⟨b,hb'⟩:=z22 ht;refine wp_cond hb' ?_;cases b with
    | true=>exact CC hm hC c1 hc.1.2 g1 R hQ
    | false=>exact CC hm hC c2 hc.2 g2 R hQ
   ·exact H.elim
  ·rename_i id ops
   unfold BR at hc;exact zd8 hm hC (Q:=Q) hc H (R.drew _) fun keep e h x a w μ hk R'=>hQ .normal ⟨AA keep e,h,x⟩ a w μ hk ⟨R'.heap,fun t=>(by
    rcases xJ keep e t with q|q
    ·rw[q];exact R'.env t
    ·rw[q];exact .und _),R'.glob,R'.evo,R'.esc,R'.size,R'.defers⟩
  ·cases hc
 | .cond t c1 c2,k,hc,s,K,M0,h0,μ0,a,w,μ,Q,H,R,hQ=>by
  simp only[kB]at hc;split at hc
  ·simp only[Bool.and_eq_true]at hc
   unfold AW at H;split at H
   ·rename_i b hb
    have ht:=R.opds _ _ hc.1.1
    rw[hb]at ht;refine wp_cond ht.p_bool ?_;cases b with
    | true=>exact CC hm hC c1 hc.1.2 H R hQ
    | false=>exact CC hm hC c2 hc.2 H R hQ
   ·exact H.elim
  ·cases hc
 | .block i c,k,hc,s,K,M0,h0,μ0,a,w,μ,Q,H,R,hQ=>by
  simp only[kB]at hc;split at hc
  ·simp only[Bool.and_eq_true,beq_iff_eq]at hc
   obtain⟨rfl,hc⟩:=hc;refine wp_block (CC hm hC c hc H R (fun ex s' a' w' μ' hk R'=>?_))
   cases ex with
   | normal=>exact hQ .normal _ _ _ _ hk R'
   | exit j=>
    simp only[Ex.toExit,Exit.inBlock];dsimp only at hk;split
    ·rename_i hj;rw[if_pos hj]at hk;exact hQ .normal _ _ _ _ hk R'
    ·rename_i hj;rw[if_neg hj]at hk;exact hQ (.exit j) _ _ _ _ hk R'
   | ret=>exact hQ .ret _ _ _ _ hk R'
  ·cases hc
 | .loop c,k,hc,s,K,M0,h0,μ0,a,w,μ,Q,H,R,hQ=>by
  simp only[kB]at hc;split at hc
  ·rename_i b'
   intro b k cs;have key:∀(s:St),ALoop (AW C gl c) K s→∀(a:Act) (w:World) (μ:Mu),Rel gl nt M0 h0 μ0 s.env s.h s.esc a w μ →
    ∃e a' w',Q e a' w'∧Arrives P (lone (b.at a (.code b' :: .inLoop b'::k)) cs w) b k cs e a' w':=by
    intro s H;induction H with
    | mk s T hT hn he hr ih=>
     intro a w μ R;obtain⟨e,a1,w1,hq,harr⟩:=CC hm hC c hc (Q:=fun e a' w'=>match e with
      | .normal=>∃s' μ',T .normal s'∧Rel gl nt M0 h0 μ0 s'.env s'.h s'.esc a' w' μ'
      | e=>Q e a' w') hT R (fun ex s' a' w' μ' hk R'=>by
       cases ex with
       | normal=>exact⟨s',μ',hk,R'⟩
       | exit i=>exact hQ (.exit i) _ _ _ _ (he _ _ hk) R'
       | ret=>exact hQ .ret _ _ _ _ (hr _ hk) R') b (.inLoop b'::k) cs
     cases e with
     | normal=>
      obtain⟨s',μ',hk,R'⟩:=hq;obtain⟨e2,a2,w2,hq2,harr2⟩:=ih s' hk a1 w1 μ' R';exact⟨e2,a2,w2,hq2,.of_steps (Steps.trans harr (.one step_inLoop)) harr2⟩
     | exit id=>exact⟨_,a1,w1,hq,.pass (x:=.inLoop b') rfl (fun _ _=>.inl (by simp)) harr⟩
     | goto l=>exact⟨_,a1,w1,hq,.pass (x:=.inLoop b') rfl (fun _ _=>.inl (by simp)) harr⟩
     | ret=>exact⟨_,a1,w1,hq,.pass (x:=.inLoop b') rfl (fun _ _=>.inl (by simp)) harr⟩
     | panic ch=>exact⟨_,a1,w1,hq,.pass (x:=.inLoop b') rfl (fun _ _=>.inl (by simp)) harr⟩
     | outgrown=>exact⟨_,a1,w1,hq,.pass (x:=.inLoop b') rfl (fun _ _=>.inl (by simp)) harr⟩
   obtain⟨e,a',w',hq,harr⟩:=key s H a w μ R;exact⟨e,a',w',hq,.of_steps (.one step_loop) harr⟩
  ·cases hc
 | .scope c,k,hc,s,K,M0,h0,μ0,a,w,μ,Q,H,R,hQ=>by
  simp only[kB]at hc;refine CC hm hC c hc (M0:=imm s.h μ w) (h0:=s.h) (μ0:=μ) H ⟨R.heap,R.env,R.glob,Evo.refl _ _ _,rA.refl _ _,R.size,R.defers⟩ (fun ex s' a' w' μ' hk R'=>?_)
  obtain⟨μ'',R''⟩:=zd5 R R';exact hQ ex _ _ _ _ hk R''
 | .pr l c,k,hc,s,K,M0,h0,μ0,a,w,μ,Q,H,R,hQ=>by
  simp only[kB]at hc;refine CC hm hC c hc H ⟨R.heap,fun t=>?_,R.glob,R.evo,R.esc,R.size,R.defers⟩ hQ
  dsimp only;rcases xJ (some l) s.env t with q|q
  ·rw[q];exact R.env t
  ·rw[q];exact .und _
 | .exit i,k,hc,s,K,M0,h0,μ0,a,w,μ,Q,H,R,hQ=>by
  simp only[kB]at hc;split at hc
  ·simp only[beq_iff_eq]at hc
   subst hc;exact wp_exit (hQ (.exit i) _ _ _ _ H R)
  ·cases hc
 | .ret,k,hc,s,K,M0,h0,μ0,a,w,μ,Q,H,R,hQ=>by
  simp only[kB]at hc;split at hc
  ·exact wp_ret (hQ .ret _ _ _ _ H R)
  ·cases hc
 | .bad,k,hc,s,K,M0,h0,μ0,a,w,μ,Q,H,R,hQ=>H.elim
end Go.Am
end
section
/- The abstract machine,part 22: results,calls;a call that ends well here ends well in the model. -/
set_option linter.unusedSimpArgs false
set_option linter.unusedVariables false
set_option maxHeartbeats 1000000
namespace Go.Am
variable {h h':aA} {μ μ':Mu} {w w':World} {P:Program} {M M':Mem}
variable {gl:Nat→Option PV} {nt:Nat} {M0:Mem} {h0:aA} {μ0:Mu} {e:List (Nat × AV)} {x:Esc} {a:Act}
def NC (P:Program):List ARes→List ResultVar→Bool
 | [],[]=>true
 | .t n::r,.tmp m::s=>n==m&&NC P r s
 | .cell n sh::r,.cell m t::s=>n==m&&UA P t==some sh&&NC P r s
 | _,_=>false
def PI (tmps:Array Value):ResultVar→Sem Value
 | .tmp t=>pure (tmps.getD t undef)
 | .cell a t=>do loadVar t (←asAddr (tmps.getD a undef))
theorem cP {s:St}(H:HeapRel s.h μ w)(he:∀ t,RAV (imm s.h μ w) s.h μ (bA s.env t) (a.tmps.getD t undef)):∀{rs:List ARes} {qs:List ResultVar} {vs:List AV},NC P rs qs=true→MC s rs=some vs →
 ∃us,(qs.mapM (PI a.tmps)).run P w = .ok us w∧vs.length=us.length∧∀(j:Nat) (y:AV) (v:Value),vs[j]?=some y→us[j]?=some v→RAV (imm s.h μ w) s.h μ y v
 | [],[],vs,_,hv=>by
  simp [MC]at hv;subst hv;exact⟨[],by simp,rfl,fun j y v h1 h2=>by simp at h1⟩
 | [],_::_,_,hc,_=>by simp [NC]at hc
 | .t n::r,[],_,hc,_=>by simp [NC]at hc
 | .cell n sh::r,[],_,hc,_=>by simp [NC]at hc
 | .t n::r,.cell _ _::q,_,hc,_=>by simp [NC]at hc
 | .cell n sh::r,.tmp _::q,_,hc,_=>by simp [NC]at hc
 | .t n::r,.tmp m::q,vs,hc,hv=>by
  simp only[NC,Bool.and_eq_true,beq_iff_eq]at hc;obtain⟨rfl,hc⟩:=hc;simp only[MC,ares]at hv;simp only[Option.map_eq_some_iff]at hv;obtain⟨l,hl,rfl⟩:=hv;obtain⟨us,h1,h2,h3⟩:=cP H he hc hl;refine⟨a.tmps.getD n undef::us,by simp [PI,h1],by simp [h2],fun j y v hy hv=>?_⟩
  cases j with
  | zero=>simp at hy hv;subst hy;subst hv;simpa using he n
  | succ j=>exact h3 j y v (by simpa using hy) (by simpa using hv)
 | .cell n sh::r,.cell m t::q,vs,hc,hv=>by
  simp only[NC,Bool.and_eq_true,beq_iff_eq]at hc;obtain⟨⟨rfl,hs⟩,hc⟩:=hc;simp only[MC]at hv;split at hv
  ·rename_i u hu
   simp only[Option.map_eq_some_iff]at hv;obtain⟨l,hl,rfl⟩:=hv;obtain⟨us,h1,h2,h3⟩:=cP H he hc hl;simp only[ares]at hu;split at hu
   ·rename_i id off hr
    split at hu
    ·rename_i cs ho
     have hR:=he n
     rw[hr]at hR;generalize hz:a.tmps.getD n undef=z at hR;cases hR with|ref _ _ b k cs' ho' hm=>
     obtain⟨b',c,hm',hb,hcell⟩:=H.obj _ _ _ ho hm;injection hm' with hm'
     injection hm' with e1 e2
     subst e1;obtain⟨c1,c2⟩:=JJ (M:=imm s.h μ w) (h:=s.h) (μ:=μ) (f:=fun j=>(c[j]?).getD undef) hu (fun j x hx=>by obtain⟨_,v,q1,q2⟩:=hcell j x hx;simpa [q1] using q2)
     have hload:(loadVar t ⟨b,off,none⟩).run P w = .ok (iC sh fun j=>(c[off+j]?).getD undef) w:=by
      refine GW hs (fun j hj=>?_)
      rw[qC hb];have hlt:off+j<c.size:=by rw[hb.1];have:=c1;omega
      simp [hlt]
     refine⟨(iC sh fun j=>(c[off+j]?).getD undef)::us,?_,by simp [h2],fun j y v hy hv=>?_⟩
     ·simp only[List.mapM_cons,Sem.run_bind,PI,hz,asAddr]
      simp [hload,h1]
     ·cases j with
      | zero=>simp at hy hv;subst hy;subst hv;exact c2
      | succ j=>exact h3 j y v (by simpa using hy) (by simpa using hv)
    ·cases hu
   ·cases hu
  ·cases hv
theorem zb8 {fn:Func}{s:St}(H:HeapRel s.h μ w)(he:∀ t,RAV (imm s.h μ w) s.h μ (bA s.env t) (a.tmps.getD t undef)){rs:List ARes}{vs:List AV}(hc:NC P rs fn.results.toList=true)(hv:MC s rs=some vs) :
 ∃u,(results fn a.tmps).run P w = .ok u w∧RAV (imm s.h μ w) s.h μ (JA vs) u:=by
 obtain⟨us,h1,h2,h3⟩:=cP H he hc hv;have hm:(fn.results.mapM (PI a.tmps)).run P w = .ok us.toArray w:=by
  rw[Array.mapM_eq_mapM_toList];simp [h1]
 refine⟨if hz:us.toArray.size=1 then us.toArray[0] else .tuple us.toArray,?_,?_⟩
 ·unfold results
  rw[Sem.run_bind];show(Sem.run P (fn.results.mapM (PI a.tmps)) w).andThen _=_
  rw[hm];rfl
 ·match vs,us,h2,h3 with
  | [v],[u],_,h3=>exact h3 0 v u rfl rfl
  | [],[],_,h3=>exact .tup [] [] rfl (fun j y v h1 h2=>by simp at h1)
  | a::b::r,c::d::q,h2,h3=>exact .tup _ (c::d::q) h2 h3
theorem cW (H:HeapRel h μ w){n:Nat}(L:(imm h μ w).le (imm (h.take n) (μ.take n) w)){id g off len:Nat}{x:Value}{sh:Sh}{xs:List PV}(R:RAV (imm h μ w) h μ (.own id g off len) x)(hr:rd h (.own id g off len)=some (sh,xs))
 (hn:n≤id):RPV (imm (h.take n) (μ.take n) w) (.sl sh xs) x:=by
 obtain⟨ys,fz,ho,hc1,hc2,hr⟩:=aP hr;obtain⟨_,g2,a,cap,rfl,g3,g4⟩:=GD H R ho hc1;have hlen:xs.length=len:=by rw[hr];exact wL hc2
 by_cases hne:xs=[]
 ·have hl0:len=0:=by rw[←hlen,hne];rfl
  rw[hne,hl0];exact .nils _ _ _
 ·have hpos:0<xs.length:=List.length_pos_iff.2 hne
  obtain⟨b,m,c,hm,ha,hB,hn1,hn2,hcells⟩:=g4 (by omega)
  have he:∀x∈xs,x.cells.length=cA sh:=fun x hx=>sB (g2 x (XE (hr ▸ hx)))
  have hcell:∀(j:Nat) (y:PV),(xs.flatMap PV.cells)[j]?=some y→∃v,c[off*cA sh+j]?=some v∧RPV (imm h μ w) y v:=by
   intro j y hy;obtain⟨x,h5,h6,h8,h7⟩:=gE he hy;rw[hr]at h5;have h9:=vL h5
   have h10:=hcells _ _ x y h9.2 h6
   rw[show(off+j / cA sh)*cA sh+j%cA sh=off*cA sh+j by rw[Nat.add_mul];omega]at h10
   exact h10
  subst ha;have key:RPV (imm (h.take n) (μ.take n) w) (.sl sh xs) (.slice (some ⟨b,off*cA sh,none⟩) xs.length cap):=by
   refine .sl sh xs b (off*cA sh) cap (fun j=>(c[off*cA sh+j]?).getD undef) hne (by omega) (fun x hx=>g2 x (XE (hr ▸ hx))) (fun j y hy=>?_) (fun j y hy=>?_)
   ·obtain⟨v,h5,h6⟩:=hcell j y hy
    refine vC.2 ⟨?_,by rw[qC hB,h5];simp [h5]⟩
    rintro⟨i,n',h8,h9⟩
    rw[List.getElem?_take]at h8;split at h8
    ·have:=H.distinct i id b n' m h8 hm
     omega
    ·cases h8
   ·obtain⟨v,h5,h6⟩:=hcell j y hy
    have:(c[off*cA sh+j]?).getD undef=v:=by simp [h5]
    simp only[this];exact h6.mono L
  rwa [hlen]at key
theorem qW (H:HeapRel h μ w){n:Nat}(L:(imm h μ w).le (imm (h.take n) (μ.take n) w)):∀(cs:List AV) {vs:List PV},(∀x∈cs,x.sc=true)→NI n h cs=some vs →
 vs.length=cs.length∧(∀x∈vs,x.sc=true)∧∀(j:Nat) (y:AV) (z:PV) (v:Value),cs[j]?=some y→vs[j]?=some z→RAV (imm h μ w) h μ y v→RPV (imm (h.take n) (μ.take n) w) z v
 | [],vs,_,e=>by
  simp [NI]at e;subst e;exact⟨rfl,by simp,fun j y z v hy=>by simp at hy⟩
 | a::r,vs,hs,e=>by
  simp only[NI]at e;split at e;case h_2=>cases e
  rename_i x hx;simp only[Option.map_eq_some_iff]at e;obtain⟨xs,h1,rfl⟩:=e;obtain⟨q1,q2,q3⟩:=qW H L r (fun x hx=>hs x (by simp [hx])) h1
  have hsa:=hs a (by simp)
  have key:x.sc=true∧∀v,RAV (imm h μ w) h μ a v→RPV (imm (h.take n) (μ.take n) w) x v:=by
   unfold rd0 at hx;split at hx
   ·injection hx with hx;subst hx;exact⟨hsa,fun v R=>R.p_inv.mono L⟩
   ·injection hx with hx;subst hx;exact⟨rfl,fun v R=>by obtain⟨a,rfl⟩:=tH R;exact .nils _ _ _⟩
   ·injection hx with hx;subst hx;exact⟨rfl,fun v R=>by cases R;exact .nilp⟩
   ·split at hx
    ·rename_i hn
     simp only[Option.map_eq_some_iff]at hx;obtain⟨⟨sh,ys⟩,h1,rfl⟩:=hx;exact⟨rfl,fun v R=>cW H L R h1 hn⟩
    ·cases hx
   ·cases hx
  refine⟨by simp [q1],fun y hy=>?_,fun j y z v hy hz R=>?_⟩
  ·rcases List.mem_cons.1 hy with rfl|hy
   ·exact key.1
   ·exact q2 y hy
  ·cases j with
   | zero=>simp at hy hz;subst hy;subst hz;exact key.2 v R
   | succ j=>exact q3 j y z v (by simpa using hy) (by simpa using hz) R
theorem z2C (H:HeapRel h μ w){n:Nat}(L:(imm h μ w).le (imm (h.take n) (μ.take n) w)){t id g:Nat}{x:Value}{u:AV}(R:RAV (imm h μ w) h μ (.bt 3 t id g) x)(hr:rdA n h id g=some u)
 (hn:n≤id):RAV (imm (h.take n) (μ.take n) w) (h.take n) (μ.take n) u x:=by
 unfold rdA at hr;split at hr;case h_2=>cases hr
 rename_i sh cs ho;split at hr;case isFalse=>cases hr
 rename_i hg;simp only[Option.map_eq_some_iff]at hr;obtain⟨vs,h1,rfl⟩:=hr;cases R with|bt3 _ _ _ a cap o m hl ho' hm hv=>
 rw[ho]at ho';injection ho' with ho'
 obtain⟨hv1,hv2⟩:=hv sh cs ho'.symm;have hO:=hv2 hg
 obtain⟨k1,k2⟩:=H.obj id _ m ho hm;obtain⟨q1,q2,q3⟩:=qW H L cs k1 h1;obtain⟨s1,s2,s3⟩:=DR (sh:=sh) (g:=g) (vs:=vs) (by rw[q1,hg]) q2
 by_cases hz:g=0
 ·subst hz
  have hxs:NB sh 0 vs=[]:=List.length_eq_zero_iff.1 s1
  rw[hxs];exact .p _ _ (.nils _ _ _)
 ·have hm2:∃b k c,m=some (b,k)∧a=some ⟨b,0,none⟩∧MA w b k c∧∀(j:Nat) (x:AV),cs[j]?=some x→∃v,c[j]?=some v∧RAV (imm h μ w) h μ x v:=by
   cases m with
   | none=>simp [PD]at hO;omega
   | some m=>
    obtain⟨b,k⟩:=m;obtain⟨c,c1,c2,c3⟩:=k2;rcases hO with q|q
    ·omega
    ·exact⟨b,k,c,rfl,by rw[q.1,Nat.zero_mul],c1,c3⟩
  obtain⟨b,k,c,rfl,rfl,hB,hcells⟩:=hm2;have he:∀x∈NB sh g vs,x.cells.length=cA sh:=fun x hx=>sB (s2 x hx)
  have hcell:∀(j:Nat) (y:PV),((NB sh g vs).flatMap PV.cells)[j]?=some y→∃v,c[j]?=some v∧RPV (imm (h.take n) (μ.take n) w) y v:=by
   intro j y hy;obtain⟨x,h5,h6,h8,h7⟩:=gE he hy;have h9:=s3 _ _ x y h5 h6
   have hj:j / cA sh*cA sh+j%cA sh=j:=Nat.div_add_mod' j (cA sh)
   rw[hj]at h9;have hlt:j<cs.length:=by have:=vA h9;omega
   obtain⟨v,v1,v2⟩:=hcells j cs[j] (List.getElem?_eq_getElem hlt);exact⟨v,v1,q3 j cs[j] y v (List.getElem?_eq_getElem hlt) h9 v2⟩
  have key:RPV (imm (h.take n) (μ.take n) w) (.sl sh (NB sh g vs)) (.slice (some ⟨b,0,none⟩) (NB sh g vs).length cap):=by
   refine .sl sh _ b 0 cap (fun j=>(c[j]?).getD undef) (fun e=>hz (by rw[←s1,e];rfl)) (by rw[s1];exact hl) s2 (fun j y hy=>?_) (fun j y hy=>?_)
   ·obtain⟨v,h5,h6⟩:=hcell j y hy
    refine vC.2 ⟨?_,by rw[qC hB,Nat.zero_add,h5];simp [h5]⟩
    rintro⟨i,n',h8,h9⟩
    rw[List.getElem?_take]at h8;split at h8
    ·have:=H.distinct i id b n' k h8 hm
     omega
    ·cases h8
   ·obtain⟨v,h5,h6⟩:=hcell j y hy
    have:(c[j]?).getD undef=v:=by simp [h5]
    simp only[this];exact h6
  rw[s1]at key;exact .p _ _ key
mutual
theorem sW (H:HeapRel h μ w){n:Nat}(L:(imm h μ w).le (imm (h.take n) (μ.take n) w)):∀(v:AV) {u:AV} {x:Value},RAV (imm h μ w) h μ v x→DA n h v=some u→u.top≤n→RAV (imm (h.take n) (μ.take n) w) (h.take n) (μ.take n) u x
 | .own id g off len,u,x,R,hr,ht=>by
  simp only[DA]at hr;split at hr
  ·rename_i hn
   simp only[Option.map_eq_some_iff]at hr;obtain⟨⟨sh,xs⟩,h1,rfl⟩:=hr;exact .p _ _ (cW H L R h1 hn)
  ·injection hr with hr;subst hr;exact R.take L ht
 | .sl0 sh,u,x,R,hr,ht=>by
  simp only[DA]at hr;injection hr with hr
  subst hr;obtain⟨a,rfl⟩:=tH R;exact .p _ _ (.nils _ _ _)
 | .agg cs,u,x,R,hr,ht=>by
  simp only[DA,Option.map_eq_some_iff]at hr;obtain⟨us,h1,rfl⟩:=hr;cases R with|agg _ xs hl hrr=>
  have htop:AV.tops us≤n:=by
   unfold mkA at ht;split at ht
   ·rename_i ps hp
    have:=wH hp;subst this;rw[nX];omega
   ·simpa [AV.top] using ht
  obtain⟨q1,q2⟩:=bP H L cs hl hrr h1 htop;exact eO q1 q2
 | .tup cs,u,x,R,hr,ht=>by
  simp only[DA,Option.map_eq_some_iff]at hr;obtain⟨us,h1,rfl⟩:=hr;cases R with|tup _ xs hl hrr=>
  obtain⟨q1,q2⟩:=bP H L cs hl hrr h1 (by simpa [AV.top] using ht)
  exact .tup us xs q1 q2
 | .p v,u,x,R,hr,ht=>by simp only[DA]at hr;injection hr with hr;subst hr;exact R.take L ht
 | .ref _ _,u,x,R,hr,ht=>by simp only[DA]at hr;injection hr with hr;subst hr;exact R.take L ht
 | .rref _ _ _ _,u,x,R,hr,ht=>by simp only[DA]at hr;injection hr with hr;subst hr;exact R.take L ht
 | .vp _,u,x,R,hr,ht=>by simp only[DA]at hr;injection hr with hr;subst hr;exact R.take L ht
 | .nilp,u,x,R,hr,ht=>by simp only[DA]at hr;injection hr with hr;subst hr;exact R.take L ht
 | .nilm,u,x,R,hr,ht=>by simp only[DA]at hr;injection hr with hr;subst hr;exact R.take L ht
 | .nilf,u,x,R,hr,ht=>by simp only[DA]at hr;injection hr with hr;subst hr;exact R.take L ht
 | .nili,u,x,R,hr,ht=>by simp only[DA]at hr;injection hr with hr;subst hr;exact R.take L ht
 | .ifc,u,x,R,hr,ht=>by simp only[DA]at hr;injection hr with hr;subst hr;exact R.take L ht
 | .mp _,u,x,R,hr,ht=>by simp only[DA]at hr;injection hr with hr;subst hr;exact R.take L ht
 | .it _,u,x,R,hr,ht=>by simp only[DA]at hr;injection hr with hr;subst hr;exact R.take L ht
 | .fn _ _,u,x,R,hr,ht=>by simp only[DA]at hr;injection hr with hr;subst hr;exact R.take L ht
 | .anyb,u,x,R,hr,ht=>by simp only[DA]at hr;injection hr with hr;subst hr;exact R.take L ht
 | .skp,u,x,R,hr,ht=>by simp only[DA]at hr;injection hr with hr;subst hr;exact R.take L ht
 | .und,u,x,R,hr,ht=>by simp only[DA]at hr;injection hr with hr;subst hr;exact R.take L ht
 | .anyp,u,x,R,hr,ht=>by simp only[DA]at hr;injection hr with hr;subst hr;exact R.take L ht
 | .bt k t id g,u,x,R,hr,ht=>by
  simp only[DA]at hr;cases hk:(Nat.beq k 3&&decide (n≤id)) with
  | false=>rw[hk]at hr;injection hr with hr;subst hr;exact R.take L ht
  | true=>
   rw[hk]at hr;simp only[Bool.and_eq_true,decide_eq_true_eq]at hk;have hk1:=Nat.eq_of_beq_eq_true hk.1
   subst hk1;exact z2C H L R hr hk.2
theorem bP (H:HeapRel h μ w){n:Nat}(L:(imm h μ w).le (imm (h.take n) (μ.take n) w)):∀(cs:List AV) {us:List AV} {xs:List Value},cs.length=xs.length →
 (∀(j:Nat) (y:AV) (v:Value),cs[j]?=some y→xs[j]?=some v→RAV (imm h μ w) h μ y v)→bD n h cs=some us→AV.tops us≤n →
 us.length=xs.length∧∀(j:Nat) (y:AV) (v:Value),us[j]?=some y→xs[j]?=some v→RAV (imm (h.take n) (μ.take n) w) (h.take n) (μ.take n) y v
 | [],us,xs,hl,hr,e,ht=>by
  simp only[bD]at e;injection e with e
  subst e;exact⟨hl,fun j y v h1 _=>by simp at h1⟩
 | c::r,us,xs,hl,hr,e,ht=>by
  cases xs with
  | nil=>simp at hl
  | cons x xs=>
   simp only[bD]at e;split at e
   ·rename_i u hu
    simp only[Option.map_eq_some_iff]at e;obtain⟨l,h1,rfl⟩:=e;simp only[AV.tops]at ht;have k1:=sW H L c (hr 0 c x rfl rfl) hu (by omega)
    obtain⟨k2,k3⟩:=bP H L r (xs:=xs) (by simpa using hl) (fun j y v h1 h2=>hr (j+1) y v (by simpa using h1) (by simpa using h2)) h1 (by omega)
    refine⟨by simp [k2],fun j y v hy hv=>?_⟩
    cases j with
    | zero=>simp at hy hv;subst hy;subst hv;exact k1
    | succ j=>exact k3 j y v (by simpa using hy) (by simpa using hv)
   ·cases e
end
theorem gL:∀ (asv:List AV){h:aA}{vs:List Value}{asv':List AV}{h1:aA},HeapRel h μ w→asv.length=vs.length →
 (∀(j:Nat) (y:AV) (v:Value),asv[j]?=some y→vs[j]?=some v→RAV (imm h μ w) h μ y v)→yA h asv=some (asv',h1) →
 eD h μ w h1∧asv'.length=vs.length∧∀(j:Nat) (y:AV) (v:Value),asv'[j]?=some y→vs[j]?=some v→RAV (imm h1 μ w) h1 μ y v
 | [],h,vs,asv',h1,H,hl,hr,e=>by
  simp only[yA,Option.some.injEq,Prod.mk.injEq]at e;obtain⟨rfl,rfl⟩:=e;exact⟨⟨H,Evo.refl _ _ _,rA.refl _ _⟩,hl,fun j y v hy=>by simp at hy⟩
 | a::r,h,vs,asv',h1,H,hl,hr,e=>by
  cases vs with
  | nil=>simp at hl
  | cons x vs=>
   have step:∀{h2:aA} {u:AV},eD h μ w h2→RAV (imm h2 μ w) h2 μ u x→(yA h2 r).map (fun y=>(u::y.1,y.2))=some (asv',h1) →
    eD h μ w h1∧asv'.length=(x::vs).length∧∀(j:Nat) (y:AV) (v:Value),asv'[j]?=some y→(x::vs)[j]?=some v→RAV (imm h1 μ w) h1 μ y v:=by
    intro h2 u ⟨a1,a2,a3⟩ hu e;simp only[Option.map_eq_some_iff,Prod.mk.injEq]at e;obtain⟨⟨l,h3⟩,hp,rfl,rfl⟩:=e;obtain⟨⟨b1,b2,b3⟩,b4,b5⟩:=gL r a1 (vs:=vs) (by simpa using hl) (fun j y v hy hv=>(hr (j+1) y v (by simpa using hy) (by simpa using hv)).evo a2) hp
    refine⟨⟨b1,a2.trans b2,by simpa using rA.trans a3 b3⟩,by simp [b4],fun j y v hy hv=>?_⟩
    cases j with
    | zero=>simp at hy hv;subst hy;subst hv;exact hu.evo b2
    | succ j=>exact b5 j y v (by simpa using hy) (by simpa using hv)
   have h0:=hr 0 a x rfl rfl
   cases a;case own id g off len=>
    simp only[yA]at e;split at e
    ·rename_i z hz
     obtain⟨sh,xs⟩:=z;obtain⟨k1,k2,k3,k4⟩:=kI H h0 hz;exact step ⟨k1,k2,k3⟩ (.p _ _ k4) e
    ·cases e
   case agg cs=>
    simp only[yA]at e;split at e
    ·rename_i pv h2 hp
     obtain⟨k1,k2⟩:=fL _ H h0 hp;exact step k1 (.p _ _ k2) e
    ·cases e
   case sl0 sh=>
    simp only[yA]at e;obtain⟨b,rfl⟩:=tH h0;exact step ⟨H,Evo.refl _ _ _,rA.refl _ _⟩ (.p _ _ (.nils _ _ _)) e
   all_goals
    simp only[yA]at e;exact step ⟨H,Evo.refl _ _ _,rA.refl _ _⟩ h0 e
end Go.Am
end
section
/- The abstract machine,part 23: a call that ends well here ends well in the model. -/
set_option linter.unusedSimpArgs false
set_option linter.unusedVariables false
set_option maxHeartbeats 1000000
namespace Go.Am
variable {h h':aA} {μ μ':Mu} {w w':World} {P:Program} {M M':Mem}
variable {gl:Nat→Option PV} {nt:Nat} {M0:Mem} {h0:aA} {μ0:Mu} {e:List (Nat × AV)} {x:Esc} {a:Act}
theorem QU {F:AFun}{fn:Func}{s:St}{K:kA}(R:Rel gl nt M0 h0 μ0 s.env s.h s.esc a w μ)(Hs:∀ id,rD h0 id≤h0.length)(hc:NC P F.results fn.results.toList=true)(H:fin F h0.length s K) :
 ∃u,(results fn a.tmps).run P w = .ok u w∧∃v h' x μ',K v h' x∧RAV (imm h' μ' w) h' μ' v u∧HeapRel h' μ' w∧Evo M0 h0 μ0 (imm h' μ' w) h' μ'∧rA h0 h' x:=by
 unfold fin at H;split at H
 ·rename_i vs hvs
  obtain⟨u,hu,hR⟩:=zb8 R.heap R.env hc hvs;refine⟨u,hu,?_⟩;split at H
  ·dsimp only at H
   split at H
   ·rename_i hcl
    have hn:=FJ s.esc.length s.esc (max h0.length (JA vs).top)
    generalize JB s.esc.length s.esc (max h0.length (JA vs).top)=n at H hcl hn;obtain⟨q1,q2,q3,q4⟩:=rP Hs R.heap R.evo R.esc (by omega) hcl
    exact⟨_,_,_,μ.take n,H,hR.take q2 (by omega),q1,q3,q4⟩
   ·exact⟨_,_,_,μ,H,hR,R.heap,R.evo,R.esc⟩
  ·split at H
   ·rename_i v0 hv0
    dsimp only at H;split at H
    ·rename_i hcl
     have hn:=FJ s.esc.length s.esc (max h0.length v0.top)
     generalize JB s.esc.length s.esc (max h0.length v0.top)=n at H hcl hn;split at H
     ·rename_i v hv
      obtain⟨q1,q2,q3,q4⟩:=rP Hs R.heap R.evo R.esc (by omega) hcl
      exact⟨_,_,_,μ.take n,H.2,sW R.heap q2 _ hR hv H.1,q1,q3,q4⟩
     ·exact H.elim
    ·exact⟨_,_,_,μ,H,hR,R.heap,R.evo,R.esc⟩
   ·exact H.elim
 ·exact H.elim
def uM (P:Program)(f:Nat)(F:AFun):Bool:=match P.funcs[f]? with
 | some fn=>match fn.body with
  | some c=>kB P fn.ntmps F.body c&&NC P F.results fn.results.toList&&fn.name != "runtime.NumGoroutine"
  | none=>false
 | none=>false
theorem AN {f:Nat}{fn:Func}{c:Code}(hf:P.funcs[f]?=some fn)(hb:fn.body=some c)(hn:fn.name ≠ "runtime.NumGoroutine")(args:Array Value)(w:World):(callFunc f args).run P w = .ok (.enter f args) w:=by
 unfold callFunc;simp [hf,hb,hn]
theorem z77 {asv:List AV}{t:Nat}:bA (enter asv) t=(asv[t]?).getD .und:=by
 have key:∀(l:List AV) (k t:Nat),bA ((l.zipIdx k).map fun y=>(y.2,y.1)) t=if t<k then .und else(l[t-k]?).getD .und:=by
  intro l;induction l with
  | nil=>intro k t;simp [bA]
  | cons v r ih=>
   intro k t;simp only[List.zipIdx_cons,List.map_cons,bA];by_cases hk:k=t
   ·subst hk;simp
   ·rw[if_neg hk,ih]
    by_cases h1:t<k
    ·rw[if_pos h1,if_pos (by omega)]
    ·rw[if_neg h1,if_neg (by omega),show t-k=(t-(k+1))+1 by omega]
     simp
 have:=key asv 0 t;simpa [enter] using this
def pE (M:Mem)(w w':World):Mem:=⟨fun b o=>if b<w.heap.size then M.c b o else w'.cell? ⟨b,o,none⟩,fun _=>none,some (zed w'),fun _=>none⟩
def NP (P:Program)(f:Nat)(vs:List PV)(r:PV):Prop:=∀(M:Mem) (w:World) (us:List Value),(∀b o v,M.c b o=some v→w.cell? ⟨b,o,none⟩=some v)→vs.length=us.length →
 (∀(j:Nat) (y:PV) (v:Value),vs[j]?=some y→us[j]?=some v→RPV M y v) →
 ∃x w',(callFunc f us.toArray).run P w = .ok (.value x) w'∧WExt w w'∧RPV (pE M w w') r x
structure Fits (P:Program) (X:Ctx):Prop where
 mixed:P.follows .mixedOrders=true
 fn:∀f F,X.fn f=some F→uM P f F=true
 ext:∀f vs r,X.fn f=none→X.ext f vs=some r→NP P f vs r
 ex2:∀f asv h v h' x,X.fn f=none→X.ex2 f asv h=some (v,h',x)→CB P X.gl f asv h fun v1 h1 x1=>v1=v∧h1=h'∧x1=x
theorem zcM {X:Ctx}(HX:Fits P X){f:Nat}{asv:List AV}{h:aA}{K:kA}(H:nB X (CB P X.gl) f asv h K):CB P X.gl f asv h K:=by
 intro μ w vs Hh Hg hl hr;unfold nB at H;split at H
 ·rename_i F hF
  have H:=z7V (CB.mono P X.gl) H
  have hck:=HX.fn f F hF
  unfold uM at hck;split at hck
  ·rename_i fn hfn
   split at hck
   ·rename_i c hb
    simp only[Bool.and_eq_true,bne_iff_ne,ne_eq]at hck;obtain⟨⟨c1,c2⟩,c3⟩:=hck;refine .inl ⟨fun w=>AN hfn hb c3 _ w,calls_of_wp hfn hb ?_⟩
    unfold DB at H;have body:∀{asv':List AV} {h1:aA},eD h μ w h1→asv'.length=vs.length→(∀(j:Nat) (y:AV) (v:Value),asv'[j]?=some y→vs[j]?=some v→RAV (imm h1 μ w) h1 μ y v) →
     (asv'.length=F.nparams∧AW (CB P X.gl) X.gl F.body ⟨enter asv',h1,[]⟩ fun e s=>match e with
      | .exit _=>False
      | _=>fin F h.length s K)→Code.wp P c (bodyPost P fn fun
       | .returned r,w'=>∃v h' x μ',K v h' x∧RAV (imm h' μ' w') h' μ' v r∧HeapRel h' μ' w'∧Evo (imm h μ w) h μ (imm h' μ' w') h' μ'∧rA h h' x
       | _,_=>False) { tmps:=vs.toArray++Array.replicate (fn.ntmps-vs.toArray.size) undef,defers:=[] } w:=by
     intro asv' h1 ⟨a1,a2,a3⟩ hl' hr' ⟨_,hA⟩;refine CC HX.mixed (nt:=fn.ntmps) (M0:=imm h μ w) (h0:=h) (μ0:=μ) (μ:=μ) (fun _ _ _ _ h=>h) F.body c1 hA ⟨a1,fun t=>?_,Hg.mono a2.le,a2,a3,?_,rfl⟩ (fun ex s' a' w' μ' hk R'=>?_)
     ·dsimp only
      rw[z77];cases ht:asv'[t]? with
      | none=>exact .und _
      | some y=>
       have hlt:t<vs.length:=by rw[←hl'];exact vA ht
       have:(vs.toArray++Array.replicate (fn.ntmps-vs.toArray.size) undef).getD t undef=vs[t]:=by
        simp [Array.getD,hlt];intro hh;omega
       rw[this];exact hr' t y _ ht (List.getElem?_eq_getElem hlt)
     ·simp;omega
     ·cases ex with
      | normal=>
       obtain⟨u,q1,q2⟩:=QU R' (fun id=>sP Hh id) c2 hk
       exact⟨R'.defers,u,q1,q2⟩
      | exit i=>exact hk.elim
      | ret=>
       obtain⟨u,q1,q2⟩:=QU R' (fun id=>sP Hh id) c2 hk
       exact⟨R'.defers,u,q1,q2⟩
    split at H
    ·rename_i asv' h1 hp
     split at hp
     ·injection hp with hp
      injection hp with e1 e2
      subst e1;subst e2
      exact body ⟨Hh,Evo.refl _ _ _,rA.refl _ _⟩ hl hr H
     ·obtain⟨q1,q2,q3⟩:=gL asv Hh hl hr hp
      exact body q1 q2 q3 H
    ·exact H.elim
   ·cases hck
  ·cases hck
 ·rename_i hF
  split at H
  ·rename_i hx2
   exact CB.mono P X.gl _ _ _ _ _ (fun v1 h1' x1 hv=>by obtain⟨rfl,rfl,rfl⟩:=hv;exact H) (HX.ex2 f asv h _ _ _ hF hx2) μ w vs Hh Hg hl hr
  ·rename_i hx2
   split at H
   ·rename_i asv' h1 hp
    split at H
    ·rename_i ps hps
     split at H
     ·rename_i r hrr
      obtain⟨q1,q2,q3⟩:=gL asv Hh hl hr hp;have hm:=wH hps
      subst hm;obtain⟨u,w',k1,g1,g2⟩:=HX.ext f ps r hF hrr (imm h1 μ w) w vs (fun b o v hv=>(vC.1 hv).2) (by simpa using q2) (fun j y v hy hv=>(q3 j (.p y) v (by simp [hy]) hv).p_inv)
      obtain⟨n1,n2⟩:=q1.1.ext g1;have L:(pE (imm h1 μ w) w w').le (imm h1 μ w'):=by
       refine⟨fun b o v hv=>?_,fun b o hv=>?_,rfl,fun _ _ h=>by cases h⟩
       ·dsimp only[pE]at hv
        split at hv
        ·exact n2.le.c _ _ _ hv
        ·rename_i hb
         exact vC.2 ⟨fun hO=>hb (pO q1.1 hO),hv⟩
       ·dsimp only[pE]at hv
        cases hv
      exact .inr ⟨_,_,_,_,_,μ,k1,H,.p _ _ (g2.mono L),n1,q1.2.1.trans n2,q1.2.2⟩
     ·exact H.elim
    ·exact H.elim
   ·exact H.elim
theorem qR {X:Ctx}(HX:Fits P X){f:Nat}{asv:List AV}{h:aA}{K:kA}(H:gA X f asv h K):CB P X.gl f asv h K:=
 H (CB P X.gl) (CB.mono P X.gl) (fun f a h K hs=>zcM HX hs)
end Go.Am
end
section
/- The abstract machine,part 24: rules by which its code is computed on what is only partly known. -/
set_option linter.unusedSimpArgs false
set_option linter.unusedVariables false
namespace Go.Am
def oA (o:Option (AV × aA × Esc))(f:AV→aA→Esc→Prop):Prop:=match o with
 | some y=>f y.1 y.2.1 y.2.2
 | none=>False
def JH (v:AV)(A B:Prop):Prop:=match v with
 | .p (.bool t)=>match t with
  | true=>A
  | false=>B
 | .anyb=>A∧B
 | _=>False
def mA (v:AV)(A B:Prop):Prop:=match v with
 | .p (.bool t)=>match t with
  | true=>A
  | false=>B
 | _=>False
def FB (v:AV)(b:Bool)(A B:Prop):Prop:=match v with
 | .p (.bool c)=>match c==b with
  | true=>A
  | false=>B
 | .skp=>B
 | _=>False
def OI (keep:Option (List Nat))(K:Ex→St→Prop)(e:List (Nat × AV))(h:aA)(x:Esc):Prop:=K .normal ⟨AA keep e,h,x⟩
def oH (C:Hd)(gl:Nat→Option PV)(b:ACode)(K:Ex→St→Prop)(e:Ex)(s:St):Prop:=match e with
 | .normal=>AW C gl b s K
 | .exit i=>K (.exit i) s
 | .ret=>K .ret s
def UF (id:Nat)(K:Ex→St→Prop)(e:Ex)(s:St):Prop:=match e with
 | .normal=>K .normal s
 | .exit i=>if i=id then K .normal s else K (.exit i) s
 | .ret=>K .ret s
def finK (F:AFun)(b:Nat)(K:kA)(e:Ex)(s:St):Prop:=match e with
 | .exit _=>False
 | _=>fin F b s K
def SI (n:Nat)(x:Esc)(K:Ex→St→Prop)(e:Ex)(s:St):Prop:=K e (MD n x s)
def AO.plain:AO→Bool
 | .call _ _ | .callv _ _ | .mnext _ _=>false
 | .mv _=>true
 | .pick _ _ _=>true
 | .alloc _=>true
 | .box _=>true
 | .build _ _=>true
 | .bsl _ _ _ _ _=>true
 | .load _ _=>true
 | .store _ _ _=>true
 | .nilchk _=>true
 | .bin _ _ _=>true
 | .eqa _ _ _ _=>true
 | .isnil _ _ _=>true
 | .mkif _=>true
 | .un _ _=>true
 | .conv _ _=>true
 | .mkfn _ _=>true
 | .mkmap=>true
 | .mksl _ _ _ _=>true
 | .slice _ _ _ _ _=>true
 | .slstr _ _ _=>true
 | .faddr _ _ _=>true
 | .field _ _ _=>true
 | .iaddr _ _ _=>true
 | .iaddra _ _ _ _=>true
 | .idxa _ _ _ _=>true
 | .idxs _ _=>true
 | .look _ _ _ _ _=>true
 | .mupd _ _ _ _=>true
 | .ment _ _ _ _=>true
 | .estore _ _ _=>true
 | .mdel _ _ _=>true
 | .ext _ _=>true
 | .len _=>true
 | .lens _=>true
 | .lenm _=>true
 | .app _ _ _=>true
 | .copy _ _ _=>true
 | .uns _ _ _=>true
 | .clr _ _ _=>true
 | .mx _=>true
 | .mn _=>true
 | .mrange _=>true
 | .mentry _=>true
 | .new0 _=>true
variable {C:Hd} {gl:Nat→Option PV} {e:List (Nat × AV)} {h:aA} {x:Esc} {K:Ex→St→Prop} {L:List (Nat × AV)→aA→Esc→Prop} {s:St}
theorem cZ:AW C gl .skip s K=K .normal s:=(rfl)
theorem ZY:AW C gl .ret s K=K .ret s:=(rfl)
theorem XY {i:Nat}:AW C gl (.exit i) s K=K (.exit i) s:=(rfl)
theorem SY:AW C gl .bad s K=False:=(rfl)
theorem YY {ops:List AOp}{keep:Option (List Nat)}:AW C gl (.reg ops keep) ⟨e,h,x⟩ K=qA C gl ops e h x (OI keep K):=(rfl)
theorem bZ {a b:ACode}:AW C gl (.seq a b) s K=AW C gl a s (oH C gl b K):=(rfl)
theorem UY {c:Opd}{a b:ACode}:AW C gl (.cond c a b) ⟨e,h,x⟩ K=mA (Opd.ev gl e c) (AW C gl a ⟨e,h,x⟩ K) (AW C gl b ⟨e,h,x⟩ K):=(rfl)
theorem TY {i:Nat}{b:ACode}:AW C gl (.block i b) s K=AW C gl b s (UF i K):=(rfl)
theorem aZ {b:ACode}:AW C gl (.scope b) ⟨e,h,x⟩ K=AW C gl b ⟨e,h,[]⟩ (SI h.length x K):=(rfl)
theorem AW_pr {l:List Nat}{b:ACode}:AW C gl (.pr l b) ⟨e,h,x⟩ K=AW C gl b ⟨AA (some l) e,h,x⟩ K:=(rfl)
theorem zbs {keep:Option (List Nat)}:OI keep K e h x=K .normal ⟨AA keep e,h,x⟩:=(rfl)
theorem zcu {b:ACode}:oH C gl b K .normal s=AW C gl b s K:=(rfl)
theorem zct {b:ACode}{i:Nat}:oH C gl b K (.exit i) s=K (.exit i) s:=(rfl)
theorem zcv {b:ACode}:oH C gl b K .ret s=K .ret s:=(rfl)
theorem z3j {i:Nat}:UF i K .normal s=K .normal s:=(rfl)
theorem z3i {i j:Nat}:UF i K (.exit j) s=if j=i then K .normal s else K (.exit j) s:=(rfl)
theorem z3k {i:Nat}:UF i K .ret s=K .ret s:=(rfl)
theorem aX {n:Nat}{y:Esc}{ex:Ex}:SI n y K ex s=K ex (MD n y s):=(rfl)
def EA (C:Hd)(gl:Nat→Option PV)(r:List AOp)(d:Option Nat)(e:List (Nat × AV))(x:Esc)(L:List (Nat × AV)→aA→Esc→Prop)(v:AV)(h':aA)(x':Esc):Prop:=qA C gl r (put d v e) h' (x'++x) L
theorem z4p {r:List AOp}{d:Option Nat}{v:AV}{h':aA}{x':Esc}:EA C gl r d e x L v h' x'=qA C gl r (put d v e) h' (x'++x) L:=(rfl)
theorem z4o {r:List AOp}{d:Option Nat}{v w:AV}{h' h'':aA}{x' x'':Esc}(h1:v=w)(h2:h'=h'')(h3:x'=x''):EA C gl r d e x L v h' x'=EA C gl r d e x L w h'' x'':=by rw[h1,h2,h3]
theorem IY:qA C gl [] e h x L=L e h x:=(rfl)
theorem LA {d:Option Nat}{op:AO}{r:List AOp}(hp:op.plain=true):qA C gl (⟨d,none,op⟩::r) e h x L=oA (aop op (Opd.ev gl e) h) (EA C gl r d e x L):=by
 cases op <;> first|(cases hp;done)|(simp only[qA,wanted,oA,EA];split <;> simp_all)
theorem FY {d:Option Nat}{r:List AOp}{q0:Opd}:qA C gl (⟨d,none,(.mv q0)⟩::r) e h x L=oA (aop (.mv q0) (Opd.ev gl e) h) (EA C gl r d e x L):=LA rfl
theorem LY {d:Option Nat}{r:List AOp}{q0 q1 q2:Opd}:qA C gl (⟨d,none,(.pick q0 q1 q2)⟩::r) e h x L=oA (aop (.pick q0 q1 q2) (Opd.ev gl e) h) (EA C gl r d e x L):=LA rfl
theorem WX {d:Option Nat}{r:List AOp}{q0:List AV}:qA C gl (⟨d,none,(.alloc q0)⟩::r) e h x L=oA (aop (.alloc q0) (Opd.ev gl e) h) (EA C gl r d e x L):=LA rfl
theorem ZX {d:Option Nat}{r:List AOp}{q0:Opd}:qA C gl (⟨d,none,(.box q0)⟩::r) e h x L=oA (aop (.box q0) (Opd.ev gl e) h) (EA C gl r d e x L):=LA rfl
theorem bY {d:Option Nat}{r:List AOp}{q0:List AV}{q1:List (Nat × Nat × Opd)}:qA C gl (⟨d,none,(.build q0 q1)⟩::r) e h x L=oA (aop (.build q0 q1) (Opd.ev gl e) h) (EA C gl r d e x L):=LA rfl
theorem aY {d:Option Nat}{r:List AOp}{q0:Bool}{q1:Sh}{q2:Nat}{q3:PV}{q4:List (Nat × Opd)}:qA C gl (⟨d,none,(.bsl q0 q1 q2 q3 q4)⟩::r) e h x L=oA (aop (.bsl q0 q1 q2 q3 q4) (Opd.ev gl e) h) (EA C gl r d e x L):=LA rfl
theorem tY {d:Option Nat}{r:List AOp}{q0:Sh}{q1:Opd}:qA C gl (⟨d,none,(.load q0 q1)⟩::r) e h x L=oA (aop (.load q0 q1) (Opd.ev gl e) h) (EA C gl r d e x L):=LA rfl
theorem OY {d:Option Nat}{r:List AOp}{q0:Sh}{q1 q2:Opd}:qA C gl (⟨d,none,(.store q0 q1 q2)⟩::r) e h x L=oA (aop (.store q0 q1 q2) (Opd.ev gl e) h) (EA C gl r d e x L):=LA rfl
theorem JY {d:Option Nat}{r:List AOp}{q0:Opd}:qA C gl (⟨d,none,(.nilchk q0)⟩::r) e h x L=oA (aop (.nilchk q0) (Opd.ev gl e) h) (EA C gl r d e x L):=LA rfl
theorem YX {d:Option Nat}{r:List AOp}{q0:BinOp}{q1 q2:Opd}:qA C gl (⟨d,none,(.bin q0 q1 q2)⟩::r) e h x L=oA (aop (.bin q0 q1 q2) (Opd.ev gl e) h) (EA C gl r d e x L):=LA rfl
theorem fY {d:Option Nat}{r:List AOp}{q0:List Nat}{q1:Bool}{q2 q3:Opd}:qA C gl (⟨d,none,(.eqa q0 q1 q2 q3)⟩::r) e h x L=oA (aop (.eqa q0 q1 q2 q3) (Opd.ev gl e) h) (EA C gl r d e x L):=LA rfl
theorem pY {d:Option Nat}{r:List AOp}{q0:Nat}{q1:Bool}{q2:Opd}:qA C gl (⟨d,none,(.isnil q0 q1 q2)⟩::r) e h x L=oA (aop (.isnil q0 q1 q2) (Opd.ev gl e) h) (EA C gl r d e x L):=LA rfl
theorem zY {d:Option Nat}{r:List AOp}{q0:Opd}:qA C gl (⟨d,none,(.mkif q0)⟩::r) e h x L=oA (aop (.mkif q0) (Opd.ev gl e) h) (EA C gl r d e x L):=LA rfl
theorem RY {d:Option Nat}{r:List AOp}{q0:UnOp}{q1:Opd}:qA C gl (⟨d,none,(.un q0 q1)⟩::r) e h x L=oA (aop (.un q0 q1) (Opd.ev gl e) h) (EA C gl r d e x L):=LA rfl
theorem dY {d:Option Nat}{r:List AOp}{q0:Cv}{q1:Opd}:qA C gl (⟨d,none,(.conv q0 q1)⟩::r) e h x L=oA (aop (.conv q0 q1) (Opd.ev gl e) h) (EA C gl r d e x L):=LA rfl
theorem yY {d:Option Nat}{r:List AOp}{q0:Nat}{q1:List Opd}:qA C gl (⟨d,none,(.mkfn q0 q1)⟩::r) e h x L=oA (aop (.mkfn q0 q1) (Opd.ev gl e) h) (EA C gl r d e x L):=LA rfl
theorem AY {d:Option Nat}{r:List AOp}  : qA C gl (⟨d,none,.mkmap⟩::r) e h x L=oA (aop .mkmap (Opd.ev gl e) h) (EA C gl r d e x L):=LA rfl
theorem BY {d:Option Nat}{r:List AOp}{q0:Sh}{q1:PV}{q2 q3:Opd}:qA C gl (⟨d,none,(.mksl q0 q1 q2 q3)⟩::r) e h x L=oA (aop (.mksl q0 q1 q2 q3) (Opd.ev gl e) h) (EA C gl r d e x L):=LA rfl
theorem MY {d:Option Nat}{r:List AOp}{q0:Sh}{q1:Opd}{q2 q3 q4:Option Opd}:qA C gl (⟨d,none,(.slice q0 q1 q2 q3 q4)⟩::r) e h x L=oA (aop (.slice q0 q1 q2 q3 q4) (Opd.ev gl e) h) (EA C gl r d e x L):=LA rfl
theorem NY {d:Option Nat}{r:List AOp}{q0:Opd}{q1 q2:Option Opd}:qA C gl (⟨d,none,(.slstr q0 q1 q2)⟩::r) e h x L=oA (aop (.slstr q0 q1 q2) (Opd.ev gl e) h) (EA C gl r d e x L):=LA rfl
theorem jY {d:Option Nat}{r:List AOp}{q0:Nat}{q1:Sh}{q2:Opd}:qA C gl (⟨d,none,(.faddr q0 q1 q2)⟩::r) e h x L=oA (aop (.faddr q0 q1 q2) (Opd.ev gl e) h) (EA C gl r d e x L):=LA rfl
theorem kY {d:Option Nat}{r:List AOp}{q0:Nat}{q1:Sh}{q2:Opd}:qA C gl (⟨d,none,(.field q0 q1 q2)⟩::r) e h x L=oA (aop (.field q0 q1 q2) (Opd.ev gl e) h) (EA C gl r d e x L):=LA rfl
theorem lY {d:Option Nat}{r:List AOp}{q0:Sh}{q1 q2:Opd}:qA C gl (⟨d,none,(.iaddr q0 q1 q2)⟩::r) e h x L=oA (aop (.iaddr q0 q1 q2) (Opd.ev gl e) h) (EA C gl r d e x L):=LA rfl
theorem mY {d:Option Nat}{r:List AOp}{q0:Nat}{q1:Sh}{q2 q3:Opd}:qA C gl (⟨d,none,(.iaddra q0 q1 q2 q3)⟩::r) e h x L=oA (aop (.iaddra q0 q1 q2 q3) (Opd.ev gl e) h) (EA C gl r d e x L):=LA rfl
theorem nY {d:Option Nat}{r:List AOp}{q0:Nat}{q1:Sh}{q2 q3:Opd}:qA C gl (⟨d,none,(.idxa q0 q1 q2 q3)⟩::r) e h x L=oA (aop (.idxa q0 q1 q2 q3) (Opd.ev gl e) h) (EA C gl r d e x L):=LA rfl
theorem oY {d:Option Nat}{r:List AOp}{q0 q1:Opd}:qA C gl (⟨d,none,(.idxs q0 q1)⟩::r) e h x L=oA (aop (.idxs q0 q1) (Opd.ev gl e) h) (EA C gl r d e x L):=LA rfl
theorem uY {d:Option Nat}{r:List AOp}{kk:Sh × List Nat}{q0:Bool}{q1:AV}{q2 q3:Opd}:qA C gl (⟨d,none,(.look kk q0 q1 q2 q3)⟩::r) e h x L=oA (aop (.look kk q0 q1 q2 q3) (Opd.ev gl e) h) (EA C gl r d e x L):=LA rfl
theorem EY {d:Option Nat}{r:List AOp}{kk:Sh × List Nat}{q0 q1 q2:Opd}:qA C gl (⟨d,none,(.mupd kk q0 q1 q2)⟩::r) e h x L=oA (aop (.mupd kk q0 q1 q2) (Opd.ev gl e) h) (EA C gl r d e x L):=LA rfl
theorem wY {d:Option Nat}{r:List AOp}{kk:Sh × List Nat}{q0:AV}{q1 q2:Opd}:qA C gl (⟨d,none,(.ment kk q0 q1 q2)⟩::r) e h x L=oA (aop (.ment kk q0 q1 q2) (Opd.ev gl e) h) (EA C gl r d e x L):=LA rfl
theorem gY {d:Option Nat}{r:List AOp}{q0 q1 q2:Opd}:qA C gl (⟨d,none,(.estore q0 q1 q2)⟩::r) e h x L=oA (aop (.estore q0 q1 q2) (Opd.ev gl e) h) (EA C gl r d e x L):=LA rfl
theorem vY {d:Option Nat}{r:List AOp}{kk:Sh × List Nat}{q0 q1:Opd}:qA C gl (⟨d,none,(.mdel kk q0 q1)⟩::r) e h x L=oA (aop (.mdel kk q0 q1) (Opd.ev gl e) h) (EA C gl r d e x L):=LA rfl
theorem iY {d:Option Nat}{r:List AOp}{q0:Opd}{q1:Nat}:qA C gl (⟨d,none,(.ext q0 q1)⟩::r) e h x L=oA (aop (.ext q0 q1) (Opd.ev gl e) h) (EA C gl r d e x L):=LA rfl
theorem qY {d:Option Nat}{r:List AOp}{q0:Opd}:qA C gl (⟨d,none,(.len q0)⟩::r) e h x L=oA (aop (.len q0) (Opd.ev gl e) h) (EA C gl r d e x L):=LA rfl
theorem sY {d:Option Nat}{r:List AOp}{q0:Opd}:qA C gl (⟨d,none,(.lens q0)⟩::r) e h x L=oA (aop (.lens q0) (Opd.ev gl e) h) (EA C gl r d e x L):=LA rfl
theorem rY {d:Option Nat}{r:List AOp}{q0:Opd}:qA C gl (⟨d,none,(.lenm q0)⟩::r) e h x L=oA (aop (.lenm q0) (Opd.ev gl e) h) (EA C gl r d e x L):=LA rfl
theorem XX {d:Option Nat}{r:List AOp}{q0:Sh}{q1 q2:Opd}:qA C gl (⟨d,none,(.app q0 q1 q2)⟩::r) e h x L=oA (aop (.app q0 q1 q2) (Opd.ev gl e) h) (EA C gl r d e x L):=LA rfl
theorem eY {d:Option Nat}{r:List AOp}{q0:Sh}{q1 q2:Opd}:qA C gl (⟨d,none,(.copy q0 q1 q2)⟩::r) e h x L=oA (aop (.copy q0 q1 q2) (Opd.ev gl e) h) (EA C gl r d e x L):=LA rfl
theorem GY {d:Option Nat}{r:List AOp}{q0:List Opd}:qA C gl (⟨d,none,(.mx q0)⟩::r) e h x L=oA (aop (.mx q0) (Opd.ev gl e) h) (EA C gl r d e x L):=LA rfl
theorem CY {d:Option Nat}{r:List AOp}{q0:List Opd}:qA C gl (⟨d,none,(.mn q0)⟩::r) e h x L=oA (aop (.mn q0) (Opd.ev gl e) h) (EA C gl r d e x L):=LA rfl
theorem DY {d:Option Nat}{r:List AOp}{q0:Opd}:qA C gl (⟨d,none,(.mrange q0)⟩::r) e h x L=oA (aop (.mrange q0) (Opd.ev gl e) h) (EA C gl r d e x L):=LA rfl
theorem xY {d:Option Nat}{r:List AOp}{q0:Opd}:qA C gl (⟨d,none,(.mentry q0)⟩::r) e h x L=oA (aop (.mentry q0) (Opd.ev gl e) h) (EA C gl r d e x L):=LA rfl
theorem HY {d:Option Nat}{r:List AOp}{q0:Sh}:qA C gl (⟨d,none,(.new0 q0)⟩::r) e h x L=oA (aop (.new0 q0) (Opd.ev gl e) h) (EA C gl r d e x L):=LA rfl
theorem IP {d:Option Nat}{f:Nat}{args:List Opd}{r:List AOp}:qA C gl (⟨d,none,.call f args⟩::r) e h x L=C f (args.map (Opd.ev gl e)) h (EA C gl r d e x L):=(rfl)
theorem QY {d:Option Nat}{g:Option (Nat × Bool)}{op:AO}{r:List AOp}(hw:wanted g e=some true):qA C gl (⟨d,g,op⟩::r) e h x L=qA C gl (⟨d,none,op⟩::r) e h x L:=by
 rw[qA,qA];have h2:wanted none e=some true:=(rfl)
 simp only[hw,h2]
theorem KP {d:Option Nat}{g:Option (Nat × Bool)}{op:AO}{r:List AOp}(hw:wanted g e=some false):qA C gl (⟨d,g,op⟩::r) e h x L=qA C gl r (put d .skp e) h x L:=by
 rw[qA];simp only[hw]
theorem PY {d:Option Nat}{g:Option (Nat × Bool)}{op:AO}{r:List AOp}(hw:wanted g e=none):qA C gl (⟨d,g,op⟩::r) e h x L=False:=by
 rw[qA];simp only[hw]
theorem LP {d:Option Nat}{t:Nat}{b:Bool}{op:AO}{r:List AOp}:qA C gl (⟨d,some (t,b),op⟩::r) e h x L=FB (bA e t) b (qA C gl (⟨d,none,op⟩::r) e h x L) (qA C gl r (put d .skp e) h x L):=by
 have key:∀v,bA e t=v→qA C gl (⟨d,some (t,b),op⟩::r) e h x L=FB v b (qA C gl (⟨d,none,op⟩::r) e h x L) (qA C gl r (put d .skp e) h x L):=by
  intro v hv;unfold FB;split
  ·rename_i c
   split
   ·rename_i hcb;exact QY (by simp [wanted,hv,hcb])
   ·rename_i hcb;exact KP (by simp [wanted,hv,hcb])
  ·exact KP (by simp [wanted,hv])
  ·rename_i h1 h2
   refine PY ?_;simp only[wanted,hv]
 exact key _ rfl
theorem zap {v:AV}{h:aA}{x:Esc}{f:AV→aA→Esc→Prop}:oA (some (v,h,x)) f=f v h x:=(rfl)
theorem zao {f:AV→aA→Esc→Prop}:oA none f=False:=(rfl)
theorem zam {p:Prop}[Decidable p]{a b:Option (AV × aA × Esc)}{f:AV→aA→Esc→Prop}:oA (if p then a else b) f=if p then oA a f else oA b f:=by split <;> rfl
theorem zan {α:Type}{p:Prop}[Decidable p]{a b:Option α}{g:α→AV × aA × Esc}{f:AV→aA→Esc→Prop}:oA (Option.map g (if p then a else b)) f=if p then oA (a.map g) f else oA (b.map g) f:=by split <;> rfl
theorem KR {t:Bool}{A B:Prop}:mA (.p (.bool t)) A B=if t=true then A else B:=by cases t <;> simp [mA]
theorem MR {A B:Prop}:mA (.p (.bool true)) A B=A:=(rfl)
theorem LR {A B:Prop}:mA (.p (.bool false)) A B=B:=(rfl)
theorem FX {b:Bool}{A B:Prop}:FB .skp b A B=B:=(rfl)
theorem zdL {t:Bool}{A B:Prop}:FB (.p (.bool t)) true A B=if t=true then A else B:=by cases t <;> simp [FB]
theorem zdK {t:Bool}{A B:Prop}:FB (.p (.bool t)) false A B=if t=true then B else A:=by cases t <;> simp [FB]
theorem z4i {v v':AV}{A B:Prop}(hv:v=v'):mA v A B=mA v' A B:=by rw[hv]
theorem zdJ {v v':AV}{b:Bool}{A B:Prop}(hv:v=v'):FB v b A B=FB v' b A B:=by rw[hv]
theorem zal {o o':Option (AV × aA × Esc)}{f:AV→aA→Esc→Prop}(ho:o=o'):oA o f=oA o' f:=by rw[ho]
theorem cY {ops:List AOp}{e e':List (Nat × AV)}{h h':aA}{x x':Esc}(he:e=e')(hh:h=h')(hx:x=x'):qA C gl ops e h x L=qA C gl ops e' h' x' L:=by rw[he,hh,hx]
theorem VY {c:ACode}{s s':St}(hs:s=s'):AW C gl c s K=AW C gl c s' K:=by rw[hs]
theorem zbr {keep:Option (List Nat)}{e e':List (Nat × AV)}{h h':aA}{x x':Esc}(he:e=e')(hh:h=h')(hx:x=x'):OI keep K e h x=OI keep K e' h' x':=by rw[he,hh,hx]
theorem zcs {b:ACode}{ex ex':Ex}{s s':St}(he:ex=ex')(hs:s=s'):oH C gl b K ex s=oH C gl b K ex' s':=by rw[he,hs]
theorem z3h {i:Nat}{ex ex':Ex}{s s':St}(he:ex=ex')(hs:s=s'):UF i K ex s=UF i K ex' s':=by rw[he,hs]
theorem zcr {n:Nat}{y:Esc}{ex ex':Ex}{s s':St}(he:ex=ex')(hs:s=s'):SI n y K ex s=SI n y K ex' s':=by rw[he,hs]
theorem OQ {X:Ctx}{f:Nat}{F:AFun}{a:List AV}{h:aA}{P:kA}(hf:X.fn f=some F)(hd:F.isDet=false):gA X f a h P=DB (gA X) X.gl F a h P:=by
 rw[propext DP];unfold nB;rw[hf];simp only[uC,hd]
theorem z13 {X:Ctx}{f:Nat}{F:AFun}{a:List AV}{h:aA}{P:kA}(hf:X.fn f=some F)(hd:F.isDet=true):gA X f a h P = ∃v h' x,P v h' x∧DB (gA X) X.gl F a h fun v1 h1 x1=>v1=v∧h1=h'∧x1=x:=by
 rw[propext DP];unfold nB;rw[hf];simp only[uC,hd]
theorem z7J {A B:AV→aA→Esc→Prop}(h:∀ v h' x,A v h' x=B v h' x):(∃v h' x,A v h' x) = ∃v h' x,B v h' x:=by
 simp only[h]
theorem TQ {F:AFun}{a asv:List AV}{h h1:aA}{P:kA}(hr:F.byref=false)(hp:yA h a=some (asv,h1))(hl:asv.length=F.nparams) :
 DB C gl F a h P=AW C gl F.body ⟨enter asv,h1,[]⟩ (finK F h.length P):=by
 unfold DB;rw[hr];simp only[Bool.false_eq_true,if_false,hp,hl,true_and];congr 1
theorem z2t {F:AFun}{asv:List AV}{h:aA}{P:kA}(hr:F.byref=true)(hl:asv.length=F.nparams) :
 DB C gl F asv h P=AW C gl F.body ⟨enter asv,h,[]⟩ (finK F h.length P):=by
 unfold DB;rw[hr];simp only[if_true,hl,true_and];congr 1
def doK (C:Hd)(gl:Nat→Option PV)(o:AOp)(e:List (Nat × AV))(h:aA)(R:AV→aA→Esc→Prop):Prop:=∃v h' y,ADo C gl o e h v h' y∧R v h' y
def MB (C:Hd)(f:Nat)(a:List AV)(h:aA)(R:AV→aA→Esc→Prop):Prop:=∃v h' y,C f a h (fun v1 h1 x1=>v1=v∧h1=h'∧x1=y)∧R v h' y
def YJ (C:Hd)(gl:Nat→Option PV)(o:DOp)(r:List DOp)(dn:RB)(hs:List aA)(e:List (Nat × AV))(h:aA)(x:Esc)(L:List (Nat × AV)→aA→Esc→Prop)(v:AV)(h':aA)(y:Esc):Prop:=
 (o.eff=false→h'=h∧y=[])∧(∀k∈o.early,∃g,hs[k]?=some g∧ADo C gl o.op (AA (some o.rd) e) g v g []) ∧
  (∀j∈o.again,∃q,dn[j]?=some q∧ADo C gl q.1 q.2.1 h' q.2.2 h' [])∧BB C gl r (dn++[(o.op,AA (some o.rd) e,v)]) (hs++[h]) (put o.op.dst v e) h' (y++x) L
theorem WY {ds:List DOp}{keep:Option (List Nat)}:AW C gl (.draw ds keep) ⟨e,h,x⟩ K=BB C gl ds [] [] e h x (OI keep K):=(rfl)
theorem TX {dn:RB}{hs:List aA}:BB C gl [] dn hs e h x L=L e h x:=(rfl)
theorem EP {o:DOp}{r:List DOp}{dn:RB}{hs:List aA}:BB C gl (o::r) dn hs e h x L=doK C gl o.op (AA (some o.rd) e) h (YJ C gl o r dn hs e h x L):=(rfl)
variable {R:AV→aA→Esc→Prop}
theorem ex3 {v0:AV}{h0:aA}{y0:Esc}:(∃v h y,(v=v0∧h=h0∧y=y0)∧R v h y)=R v0 h0 y0:=
 propext ⟨fun⟨_,_,_,⟨h1,h2,h3⟩,r⟩=>by subst h1;subst h2;subst h3;exact r,fun r=>⟨_,_,_,⟨rfl,rfl,rfl⟩,r⟩⟩
theorem ex3' {v0:AV}{h0:aA}{y0:Esc}:(∃v h y,(v0=v∧h0=h∧y0=y)∧R v h y)=R v0 h0 y0:=
 propext ⟨fun⟨_,_,_,⟨h1,h2,h3⟩,r⟩=>by subst h1;subst h2;subst h3;exact r,fun r=>⟨_,_,_,⟨rfl,rfl,rfl⟩,r⟩⟩
theorem NA {d:Option Nat}{op:AO}(hp:op.plain=true):doK C gl ⟨d,none,op⟩ e h R=oA (aop op (Opd.ev gl e) h) R:=by
 have key:∀o:Option (AV×aA×Esc),(∃v h' y,o=some (v,h',y)∧R v h' y)=oA o R:=by
  intro o;cases o with
  | none=>simp [oA]
  | some z=>obtain⟨v,h',y⟩:=z;simp only[Option.some.injEq,Prod.mk.injEq,ex3'];rfl
 rw[←key];unfold doK ADo;cases op <;> first|(cases hp;done)|rfl
theorem yT {d:Option Nat}{f:Nat}{args:List Opd}:doK C gl ⟨d,none,.call f args⟩ e h R=MB C f (args.map (Opd.ev gl e)) h R:=(rfl)
theorem AT {d:Option Nat}{t:Nat}{b:Bool}{op:AO}:doK C gl ⟨d,some (t,b),op⟩ e h R=FB (bA e t) b (doK C gl ⟨d,none,op⟩ e h R) (R .skp h []):=by
 have h2:wanted none e=some true:=(rfl)
 have key:∀v,bA e t=v→doK C gl ⟨d,some (t,b),op⟩ e h R=FB v b (doK C gl ⟨d,none,op⟩ e h R) (R .skp h []):=by
  intro v hv;unfold FB;split
  ·rename_i c
   split
   ·rename_i hcb
    have hw:wanted (some (t,b)) e=some true:=by simp [wanted,hv,hcb]
    unfold doK ADo;simp only[hw,h2]
   ·rename_i hcb
    have hw:wanted (some (t,b)) e=some false:=by simp [wanted,hv,hcb]
    unfold doK ADo;simp only[hw,ex3]
  ·have hw:wanted (some (t,b)) e=some false:=by simp [wanted,hv]
   unfold doK ADo;simp only[hw,ex3]
  ·rename_i h3 h4
   have hw:wanted (some (t,b)) e=none:=by
    simp only[wanted,hv]
   unfold doK ADo;simp only[hw];simp
 exact key _ rfl
theorem z5b {d:Option Nat}{q0:Opd}:doK C gl ⟨d,none,(.mv q0)⟩ e h R=oA (aop (.mv q0) (Opd.ev gl e) h) R:=NA rfl
theorem z5f {d:Option Nat}{q0 q1 q2:Opd}:doK C gl ⟨d,none,(.pick q0 q1 q2)⟩ e h R=oA (aop (.pick q0 q1 q2) (Opd.ev gl e) h) R:=NA rfl
theorem z42 {d:Option Nat}{q0:List AV}:doK C gl ⟨d,none,(.alloc q0)⟩ e h R=oA (aop (.alloc q0) (Opd.ev gl e) h) R:=NA rfl
theorem z45 {d:Option Nat}{q0:Opd}:doK C gl ⟨d,none,(.box q0)⟩ e h R=oA (aop (.box q0) (Opd.ev gl e) h) R:=NA rfl
theorem z48 {d:Option Nat}{q0:List AV}{q1:List (Nat × Nat × Opd)}:doK C gl ⟨d,none,(.build q0 q1)⟩ e h R=oA (aop (.build q0 q1) (Opd.ev gl e) h) R:=NA rfl
theorem z47 {d:Option Nat}{q0:Bool}{q1:Sh}{q2:Nat}{q3:PV}{q4:List (Nat × Opd)}:doK C gl ⟨d,none,(.bsl q0 q1 q2 q3 q4)⟩ e h R=oA (aop (.bsl q0 q1 q2 q3 q4) (Opd.ev gl e) h) R:=NA rfl
theorem z4P {d:Option Nat}{q0:Sh}{q1:Opd}:doK C gl ⟨d,none,(.load q0 q1)⟩ e h R=oA (aop (.load q0 q1) (Opd.ev gl e) h) R:=NA rfl
theorem z5j {d:Option Nat}{q0:Sh}{q1 q2:Opd}:doK C gl ⟨d,none,(.store q0 q1 q2)⟩ e h R=oA (aop (.store q0 q1 q2) (Opd.ev gl e) h) R:=NA rfl
theorem z5e {d:Option Nat}{q0:Opd}:doK C gl ⟨d,none,(.nilchk q0)⟩ e h R=oA (aop (.nilchk q0) (Opd.ev gl e) h) R:=NA rfl
theorem z44 {d:Option Nat}{q0:BinOp}{q1 q2:Opd}:doK C gl ⟨d,none,(.bin q0 q1 q2)⟩ e h R=oA (aop (.bin q0 q1 q2) (Opd.ev gl e) h) R:=NA rfl
theorem z4C {d:Option Nat}{q0:List Nat}{q1:Bool}{q2 q3:Opd}:doK C gl ⟨d,none,(.eqa q0 q1 q2 q3)⟩ e h R=oA (aop (.eqa q0 q1 q2 q3) (Opd.ev gl e) h) R:=NA rfl
theorem z4L {d:Option Nat}{q0:Nat}{q1:Bool}{q2:Opd}:doK C gl ⟨d,none,(.isnil q0 q1 q2)⟩ e h R=oA (aop (.isnil q0 q1 q2) (Opd.ev gl e) h) R:=NA rfl
theorem z4V {d:Option Nat}{q0:Opd}:doK C gl ⟨d,none,(.mkif q0)⟩ e h R=oA (aop (.mkif q0) (Opd.ev gl e) h) R:=NA rfl
theorem z5k {d:Option Nat}{q0:UnOp}{q1:Opd}:doK C gl ⟨d,none,(.un q0 q1)⟩ e h R=oA (aop (.un q0 q1) (Opd.ev gl e) h) R:=NA rfl
theorem z4A {d:Option Nat}{q0:Cv}{q1:Opd}:doK C gl ⟨d,none,(.conv q0 q1)⟩ e h R=oA (aop (.conv q0 q1) (Opd.ev gl e) h) R:=NA rfl
theorem z4U {d:Option Nat}{q0:Nat}{q1:List Opd}:doK C gl ⟨d,none,(.mkfn q0 q1)⟩ e h R=oA (aop (.mkfn q0 q1) (Opd.ev gl e) h) R:=NA rfl
theorem z4W {d:Option Nat}  : doK C gl ⟨d,none,.mkmap⟩ e h R=oA (aop .mkmap (Opd.ev gl e) h) R:=NA rfl
theorem z4X {d:Option Nat}{q0:Sh}{q1:PV}{q2 q3:Opd}:doK C gl ⟨d,none,(.mksl q0 q1 q2 q3)⟩ e h R=oA (aop (.mksl q0 q1 q2 q3) (Opd.ev gl e) h) R:=NA rfl
theorem z5g {d:Option Nat}{q0:Sh}{q1:Opd}{q2 q3 q4:Option Opd}:doK C gl ⟨d,none,(.slice q0 q1 q2 q3 q4)⟩ e h R=oA (aop (.slice q0 q1 q2 q3 q4) (Opd.ev gl e) h) R:=NA rfl
theorem z5h {d:Option Nat}{q0:Opd}{q1 q2:Option Opd}:doK C gl ⟨d,none,(.slstr q0 q1 q2)⟩ e h R=oA (aop (.slstr q0 q1 q2) (Opd.ev gl e) h) R:=NA rfl
theorem z4F {d:Option Nat}{q0:Nat}{q1:Sh}{q2:Opd}:doK C gl ⟨d,none,(.faddr q0 q1 q2)⟩ e h R=oA (aop (.faddr q0 q1 q2) (Opd.ev gl e) h) R:=NA rfl
theorem z4G {d:Option Nat}{q0:Nat}{q1:Sh}{q2:Opd}:doK C gl ⟨d,none,(.field q0 q1 q2)⟩ e h R=oA (aop (.field q0 q1 q2) (Opd.ev gl e) h) R:=NA rfl
theorem z4H {d:Option Nat}{q0:Sh}{q1 q2:Opd}:doK C gl ⟨d,none,(.iaddr q0 q1 q2)⟩ e h R=oA (aop (.iaddr q0 q1 q2) (Opd.ev gl e) h) R:=NA rfl
theorem z4I {d:Option Nat}{q0:Nat}{q1:Sh}{q2 q3:Opd}:doK C gl ⟨d,none,(.iaddra q0 q1 q2 q3)⟩ e h R=oA (aop (.iaddra q0 q1 q2 q3) (Opd.ev gl e) h) R:=NA rfl
theorem z4J {d:Option Nat}{q0:Nat}{q1:Sh}{q2 q3:Opd}:doK C gl ⟨d,none,(.idxa q0 q1 q2 q3)⟩ e h R=oA (aop (.idxa q0 q1 q2 q3) (Opd.ev gl e) h) R:=NA rfl
theorem z4K {d:Option Nat}{q0 q1:Opd}:doK C gl ⟨d,none,(.idxs q0 q1)⟩ e h R=oA (aop (.idxs q0 q1) (Opd.ev gl e) h) R:=NA rfl
theorem z4Q {d:Option Nat}{kk:Sh × List Nat}{q0:Bool}{q1:AV}{q2 q3:Opd}:doK C gl ⟨d,none,(.look kk q0 q1 q2 q3)⟩ e h R=oA (aop (.look kk q0 q1 q2 q3) (Opd.ev gl e) h) R:=NA rfl
theorem z5a {d:Option Nat}{kk:Sh × List Nat}{q0 q1 q2:Opd}:doK C gl ⟨d,none,(.mupd kk q0 q1 q2)⟩ e h R=oA (aop (.mupd kk q0 q1 q2) (Opd.ev gl e) h) R:=NA rfl
theorem z4S {d:Option Nat}{kk:Sh × List Nat}{q0:AV}{q1 q2:Opd}:doK C gl ⟨d,none,(.ment kk q0 q1 q2)⟩ e h R=oA (aop (.ment kk q0 q1 q2) (Opd.ev gl e) h) R:=NA rfl
theorem z4D {d:Option Nat}{q0 q1 q2:Opd}:doK C gl ⟨d,none,(.estore q0 q1 q2)⟩ e h R=oA (aop (.estore q0 q1 q2) (Opd.ev gl e) h) R:=NA rfl
theorem z4R {d:Option Nat}{kk:Sh × List Nat}{q0 q1:Opd}:doK C gl ⟨d,none,(.mdel kk q0 q1)⟩ e h R=oA (aop (.mdel kk q0 q1) (Opd.ev gl e) h) R:=NA rfl
theorem z4E {d:Option Nat}{q0:Opd}{q1:Nat}:doK C gl ⟨d,none,(.ext q0 q1)⟩ e h R=oA (aop (.ext q0 q1) (Opd.ev gl e) h) R:=NA rfl
theorem z4M {d:Option Nat}{q0:Opd}:doK C gl ⟨d,none,(.len q0)⟩ e h R=oA (aop (.len q0) (Opd.ev gl e) h) R:=NA rfl
theorem z4O {d:Option Nat}{q0:Opd}:doK C gl ⟨d,none,(.lens q0)⟩ e h R=oA (aop (.lens q0) (Opd.ev gl e) h) R:=NA rfl
theorem z4N {d:Option Nat}{q0:Opd}:doK C gl ⟨d,none,(.lenm q0)⟩ e h R=oA (aop (.lenm q0) (Opd.ev gl e) h) R:=NA rfl
theorem z43 {d:Option Nat}{q0:Sh}{q1 q2:Opd}:doK C gl ⟨d,none,(.app q0 q1 q2)⟩ e h R=oA (aop (.app q0 q1 q2) (Opd.ev gl e) h) R:=NA rfl
theorem z4B {d:Option Nat}{q0:Sh}{q1 q2:Opd}:doK C gl ⟨d,none,(.copy q0 q1 q2)⟩ e h R=oA (aop (.copy q0 q1 q2) (Opd.ev gl e) h) R:=NA rfl
theorem z5c {d:Option Nat}{q0:List Opd}:doK C gl ⟨d,none,(.mx q0)⟩ e h R=oA (aop (.mx q0) (Opd.ev gl e) h) R:=NA rfl
theorem z4Y {d:Option Nat}{q0:List Opd}:doK C gl ⟨d,none,(.mn q0)⟩ e h R=oA (aop (.mn q0) (Opd.ev gl e) h) R:=NA rfl
theorem z4Z {d:Option Nat}{q0:Opd}:doK C gl ⟨d,none,(.mrange q0)⟩ e h R=oA (aop (.mrange q0) (Opd.ev gl e) h) R:=NA rfl
theorem z4T {d:Option Nat}{q0:Opd}:doK C gl ⟨d,none,(.mentry q0)⟩ e h R=oA (aop (.mentry q0) (Opd.ev gl e) h) R:=NA rfl
theorem z5d {d:Option Nat}{q0:Sh}:doK C gl ⟨d,none,(.new0 q0)⟩ e h R=oA (aop (.new0 q0) (Opd.ev gl e) h) R:=NA rfl
theorem z49 {o:AOp}{e e':List (Nat × AV)}{h h':aA}(he:e=e')(hh:h=h'):doK C gl o e h R=doK C gl o e' h' R:=by rw[he,hh]
theorem z3L {f:Nat}{a a':List AV}{h h':aA}(ha:a=a')(hh:h=h'):MB C f a h R=MB C f a' h' R:=by rw[ha,hh]
theorem MX {X:Ctx}{f:Nat}{a a':List AV}{h h':aA}{K:kA}(ha:a=a')(hh:h=h'):gA X f a h K=gA X f a' h' K:=by rw[ha,hh]
theorem SX {ds:List DOp}{dn dn':RB}{hs hs':List aA}{e e':List (Nat × AV)}{h h':aA}{x x':Esc}(hd:dn=dn')(hh:hs=hs')(he:e=e')(hhh:h=h')(hx:x=x'):BB C gl ds dn hs e h x L=BB C gl ds dn' hs' e' h' x' L:=by rw[hd,hh,he,hhh,hx]
theorem z5l {o:DOp}{r:List DOp}{dn:RB}{hs:List aA}{v:AV}{h':aA}{y:Esc}:YJ C gl o r dn hs e h x L v h' y=((o.eff=false→h'=h∧y=[])∧(∀k∈o.early,∃g,hs[k]?=some g∧ADo C gl o.op (AA (some o.rd) e) g v g []) ∧
 (∀j∈o.again,∃q,dn[j]?=some q∧ADo C gl q.1 q.2.1 h' q.2.2 h' [])∧BB C gl r (dn++[(o.op,AA (some o.rd) e,v)]) (hs++[h]) (put o.op.dst v e) h' (y++x) L):=(rfl)
end Go.Am
end
section
/- The abstract machine,part 25: from a call that ends well here tov the model's call on a whole world. -/
set_option linter.unusedSimpArgs false
set_option linter.unusedVariables false
namespace Go.Am
variable {P:Program}
theorem z8p (W:World):HeapRel [] [] W:=⟨rfl,fun id o m h=>by simp at h,fun i j b n n' h=>by simp at h,fun i b n h=>by simp at h⟩
theorem z84 {W:World}{b:Nat}{o:Go.Obj}(hb:W.heap[b]?=some o):(imm [] [] W).b b=some o:=GE.2 ⟨fun⟨id,n,h⟩=>by simp at h,hb⟩
theorem z85 {W:World}{b o:Nat}{v:Value}(hb:W.cell? ⟨b,o,none⟩=some v):(imm [] [] W).c b o=some v:=vC.2 ⟨fun⟨id,n,h,_⟩=>by simp at h,hb⟩
theorem z2M {W W':World}{h:aA}{μ:Mu}(E:(imm [] [] W).le (imm h μ W')):RowKit.Below W.heap.size W W':=by
 have hz:zed W'=zed W:=Option.some.inj E.z
 have hb:∀b,b<W.heap.size→W'.heap[b]?=W.heap[b]?:=fun b hb=>by
  have h1:=Array.getElem?_eq_getElem hb
  rw[h1];exact(GE.1 (E.b b _ (z84 h1))).2
 refine⟨(congrArg World.os hz:(zed W').os=(zed W).os),(congrArg World.tape hz:(zed W').tape=(zed W).tape),(congrArg World.output hz:(zed W').output=(zed W).output),?_,hb⟩;rcases Nat.eq_zero_or_pos W.heap.size with h0|h0
 ·omega
 ·have h1:=hb (W.heap.size-1) (by omega)
  rw[Array.getElem?_eq_getElem (show W.heap.size-1<W.heap.size by omega)]at h1
  have:=(Array.getElem?_eq_some_iff.1 h1).1;omega
theorem z3M {X:Ctx}(HX:Fits P X){f:Nat}{F:AFun}(hF:X.fn f=some F)(args:Array Value)(w:World):(callFunc f args).run P w = .ok (.enter f args) w:=by
 have hck:=HX.fn f F hF
 unfold uM at hck;split at hck
 ·rename_i fn hfn
  split at hck
  ·rename_i c hb
   simp only[Bool.and_eq_true,bne_iff_ne,ne_eq]at hck;exact AN hfn hb hck.2 _ w
  ·cases hck
 ·cases hck
theorem tR {X:Ctx}(HX:Fits P X){f:Nat}{F:AFun}(hF:X.fn f=some F){asv:List AV}{K:kA}(H:gA X f asv [] K){W:World}{vs:List Value}(hG:AC X.gl (imm [] [] W))(hl:asv.length=vs.length)
 (hr:∀(j:Nat) (y:AV) (v:Value),asv[j]?=some y→vs[j]?=some v→RAV (imm [] [] W) [] [] y v) :
 Calls P f vs.toArray W fun
  | .returned r,W'=>(∃v h x μ,K v h x∧RAV (imm h μ W') h μ v r)∧RowKit.Below W.heap.size W W'
  | _,_=>False:=by
 rcases qR HX H [] W vs (z8p W) hG hl hr with⟨_,q⟩|⟨r,w',_,_,_,_,q,_⟩
 case inr=>rw[z3M HX hF]at q;cases q
 refine q.mono fun e W' he=>?_
 cases e with
 | returned r=>
  obtain⟨v,h',x,μ',k1,k2,k3,k4,k5⟩:=he;exact⟨⟨v,h',x,μ',k1,k2⟩,z2M k4.le⟩
 | panicked _=>exact he
 | outgrown=>exact he
def dL (zs:List Int):AV:=.p (.sl none (zs.map fun n=>.int .i64 n))
theorem z3S (W:World):RAV (imm [] [] W) [] [] (dL []) (.slice none 0 0):=.p _ _ (.nils _ _ _)
theorem z3R {W:World}{a:Addr}{len cap:Nat}{zs:List Int}(hs:a.spot=none)(hl:len≤cap)(hz:len≤zs.length)(hc:∀ i,i<zs.length→W.cell? (a.add i)=some (.int .i64 (zs.getD i 0))) :
 RAV (imm [] [] W) [] [] (dL (zs.take len)) (.slice (some a) len cap):=by
 obtain⟨b,o,s⟩:=a;simp only at hs;subst hs;refine .p _ _ ?_;have hlen:((zs.take len).map fun n=>PV.int .i64 n).length=len:=by simp [hz]
 have hfl:((zs.take len).map fun n=>PV.int .i64 n).flatMap PV.cells=(zs.take len).map fun n=>PV.int .i64 n:=by
  generalize zs.take len=l;induction l with
  | nil=>rfl
  | cons n r ih=>simp only[List.map_cons,List.flatMap_cons,ih];rfl
 by_cases h0:len=0
 ·subst h0
  simp;exact .nils _ _ _
 ·have key:=RPV.sl (M:=imm [] [] W) none ((zs.take len).map fun n=>PV.int .i64 n) b o cap (fun j=>.int .i64 (zs.getD j 0)) (fun hh=>by rw[hh]at hlen;simp at hlen;omega) (by rw[hlen];exact hl)
   (fun x hx=>by obtain⟨n,_,rfl⟩:=List.mem_map.1 hx;rfl)
   (fun j y hy=>by
    rw[hfl]at hy;have hj:j<len:=by have:=vA hy;rw[hlen]at this;exact this
    have:=hc j (by omega)
    rw[GB]at this;exact z85 this)
   (fun j y hy=>by
    rw[hfl]at hy;have hj:j<len:=by have:=vA hy;rw[hlen]at this;exact this
    have hjz:j<zs.length:=by omega
    simp [List.getElem?_take,hj,hjz]at hy;subst hy;have:zs.getD j 0=zs[j]:=by simp [List.getD,hjz]
    rw[this];exact .int _ _)
  rwa [hlen]at key
end Go.Am
end
section
/- The abstract machine,part 26: EB calls are computed. -/
set_option linter.unusedSimpArgs false
set_option linter.unusedVariables false
namespace Go.Am
mutual
def PV.same:PV→PV→Bool
 | .int k a,.int k' b=>decide (k=k')&&decide (a=b)
 | .bool a,.bool b=>decide (a=b)
 | .str a,.str b=>decide (a=b)
 | .sl s xs,.sl t ys=>decide (s=t)&&PV.sames xs ys
 | .agg xs,.agg ys=>PV.sames xs ys
 | .nilp,.nilp=>true
 | _,_=>false
def PV.sames:List PV→List PV→Bool
 | [],[]=>true
 | a::asv,b::bs=>PV.same a b&&PV.sames asv bs
 | _,_=>false
end
mutual
theorem PV.same_eq:∀ (a b:PV),PV.same a b=true→a=b
 | .int k a,b,h=>by
  cases b <;> simp [PV.same]at h
  obtain⟨h1,h2⟩:=h;subst h1;subst h2;rfl
 | .bool a,b,h=>by cases b <;> simp [PV.same]at h;subst h;rfl
 | .str a,b,h=>by cases b <;> simp [PV.same]at h;subst h;rfl
 | .sl s xs,b,h=>by
  cases b <;> simp [PV.same]at h
  obtain⟨h1,h2⟩:=h;subst h1;rw[PV.sames_eq _ _ h2]
 | .agg xs,b,h=>by
  cases b <;> simp [PV.same]at h
  rw[PV.sames_eq _ _ h]
 | .nilp,b,h=>by cases b <;> simp [PV.same]at h;rfl
theorem PV.sames_eq:∀ (a b:List PV),PV.sames a b=true→a=b
 | [],b,h=>by cases b <;> simp [PV.sames]at h;rfl
 | x::xs,b,h=>by
  cases b <;> simp [PV.sames]at h
  rw[PV.same_eq _ _ h.1,PV.sames_eq _ _ h.2]
end
mutual
def AV.same:AV→AV→Bool
 | .p a,.p b=>PV.same a b
 | .own a b c d,.own a' b' c' d'=>decide (a=a')&&decide (b=b')&&decide (c=c')&&decide (d=d')
 | .sl0 a,.sl0 b=>decide (a=b)
 | .ref a b,.ref a' b'=>decide (a=a')&&decide (b=b')
 | .rref a b c d,.rref a' b' c' d'=>decide (a=a')&&decide (b=b')&&decide (c=c')&&decide (d=d')
 | .vp a,.vp b=>PV.same a b
 | .nilp,.nilp=>true
 | .nilm,.nilm=>true
 | .nilf,.nilf=>true
 | .nili,.nili=>true
 | .ifc,.ifc=>true
 | .mp a,.mp b=>decide (a=b)
 | .it a,.it b=>decide (a=b)
 | .fn a b,.fn a' b'=>decide (a=a')&&AV.sames b b'
 | .agg a,.agg b=>AV.sames a b
 | .tup a,.tup b=>AV.sames a b
 | .anyb,.anyb=>true
 | .skp,.skp=>true
 | .und,.und=>true
 | .anyp,.anyp=>true
 | .bt a b c d,.bt a' b' c' d'=>decide (a=a')&&decide (b=b')&&decide (c=c')&&decide (d=d')
 | _,_=>false
def AV.sames:List AV→List AV→Bool
 | [],[]=>true
 | a::asv,b::bs=>AV.same a b&&AV.sames asv bs
 | _,_=>false
end
mutual
theorem AV.same_eq:∀ (a b:AV),AV.same a b=true→a=b
 | .p a,b,h=>by cases b <;> simp [AV.same]at h;rw[PV.same_eq _ _ h]
 | .own _ _ _ _,b,h=>by cases b <;> simp [AV.same]at h;simp [h]
 | .sl0 _,b,h=>by cases b <;> simp [AV.same]at h;simp [h]
 | .ref _ _,b,h=>by cases b <;> simp [AV.same]at h;simp [h]
 | .rref _ _ _ _,b,h=>by cases b <;> simp [AV.same]at h;simp [h]
 | .vp a,b,h=>by cases b <;> simp [AV.same]at h;rw[PV.same_eq _ _ h]
 | .nilp,b,h=>by cases b <;> simp [AV.same]at h;rfl
 | .nilm,b,h=>by cases b <;> simp [AV.same]at h;rfl
 | .nilf,b,h=>by cases b <;> simp [AV.same]at h;rfl
 | .nili,b,h=>by cases b <;> simp [AV.same]at h;rfl
 | .ifc,b,h=>by cases b <;> simp [AV.same]at h;rfl
 | .mp _,b,h=>by cases b <;> simp [AV.same]at h;simp [h]
 | .it _,b,h=>by cases b <;> simp [AV.same]at h;simp [h]
 | .fn _ cs,b,h=>by cases b <;> simp [AV.same]at h;rw[h.1,AV.sames_eq _ _ h.2]
 | .agg cs,b,h=>by cases b <;> simp [AV.same]at h;rw[AV.sames_eq _ _ h]
 | .tup cs,b,h=>by cases b <;> simp [AV.same]at h;rw[AV.sames_eq _ _ h]
 | .anyb,b,h=>by cases b <;> simp [AV.same]at h;rfl
 | .skp,b,h=>by cases b <;> simp [AV.same]at h;rfl
 | .und,b,h=>by cases b <;> simp [AV.same]at h;rfl
 | .anyp,b,h=>by cases b <;> simp [AV.same]at h;rfl
 | .bt _ _ _ _,b,h=>by cases b <;> simp [AV.same]at h;simp [h]
theorem AV.sames_eq:∀ (a b:List AV),AV.sames a b=true→a=b
 | [],b,h=>by cases b <;> simp [AV.sames]at h;rfl
 | x::xs,b,h=>by
  cases b <;> simp [AV.sames]at h
  rw[AV.same_eq _ _ h.1,AV.sames_eq _ _ h.2]
end
abbrev EvC:=Nat→List AV→aA→Option (AV×aA×Esc)
def dG (C:EvC)(gl:Nat→Option PV)(o:AOp)(e:List (Nat × AV))(h:aA):Option (AV×aA×Esc):=match wanted o.guard e with
 | some true=>match o.op with
  | .call f args=>C f (args.map (Opd.ev gl e)) h
  | .callv f args=>match Opd.ev gl e f with
   | .fn g caps=>C g (args.map (Opd.ev gl e)++caps) h
   | _=>none
  | .mnext _ _=>none
  | op=>aop op (Opd.ev gl e) h
 | some false=>some (.skp,h,[])
 | none=>none
def WT (gl:Nat→Option PV)(o:AOp)(e:List (Nat × AV))(h:aA):Option (AV×aA):=match o.op with
 | .mnext sh xs=>match wanted o.guard e with
  | some true=>match mF h sh (xs.map (Opd.ev gl e)) with
   | some [y]=>some y
   | _=>none
  | _=>none
 | _=>none
def eG (C:EvC)(gl:Nat→Option PV):List AOp→List (Nat×AV)→aA→Esc→Option (List (Nat×AV)×aA×Esc)
 | [],e,h,x=>some (e,h,x)
 | o::r,e,h,x=>match dG C gl o e h with
  | some (v,h',x')=>eG C gl r (put o.dst v e) h' (x'++x)
  | none=>match WT gl o e h with
   | some (v,h')=>eG C gl r (put o.dst v e) h' x
   | none=>none
def AO.still:AO→Bool
 | .mv _ | .pick _ _ _ | .build _ _ | .load _ _ | .nilchk _ | .bin _ _ _ | .eqa _ _ _ _ | .isnil _ _ _ | .mkif _ | .un _ _ | .mkfn _ _ | .slice _ _ _ _ _ | .slstr _ _ _ | .faddr _ _ _ | .field _ _ _ | .iaddr _ _ _
 | .iaddra _ _ _ _ | .idxa _ _ _ _ | .idxs _ _ | .look _ _ _ _ _ | .ext _ _ | .len _ | .lens _ | .lenm _ | .mx _ | .mn _=>true
 | _=>false
def AO.still2:AO→Bool
 | .conv (.i _) _=>true
 | o=>o.still
def ME.same (a b:ME):Bool:=PV.same a.key b.key&&AV.same a.val b.val&&decide (a.born=b.born)
def MEs.same:List ME→List ME→Bool
 | [],[]=>true
 | a::asv,b::bs=>ME.same a b&&MEs.same asv bs
 | _,_=>false
def Obj.same:Obj→Obj→Bool
 | .box a,.box b=>AV.sames a b
 | .row a b c,.row a' b' c'=>decide (a=a')&&PV.sames b b'&&decide (c=c')
 | .amap a b,.amap a' b'=>MEs.same a a'&&decide (b=b')
 | .iter a b c d,.iter a' b' c' d'=>decide (a=a')&&decide (b=b')&&decide (c=c')&&decide (d=d')
 | _,_=>false
def aA.same:List Obj→List Obj→Bool
 | [],[]=>true
 | a::asv,b::bs=>Obj.same a b&&aA.same asv bs
 | _,_=>false
theorem ME.same_eq {a b:ME}(h:ME.same a b=true):a=b:=by
 cases a;cases b
 simp only[ME.same,Bool.and_eq_true,decide_eq_true_eq]at h;obtain⟨⟨h1,h2⟩,h3⟩:=h;rw[PV.same_eq _ _ h1,AV.same_eq _ _ h2,h3]
theorem MEs.same_eq:∀ {a b:List ME},MEs.same a b=true→a=b
 | [],[],_=>rfl
 | [],_::_,h=>by simp [MEs.same]at h
 | _::_,[],h=>by simp [MEs.same]at h
 | a::asv,b::bs,h=>by
  simp only[MEs.same,Bool.and_eq_true]at h;rw[ME.same_eq h.1,MEs.same_eq h.2]
theorem Obj.same_eq {a b:Obj}(h:Obj.same a b=true):a=b:=by
 cases a <;> cases b <;> simp only[Obj.same,Bool.and_eq_true,decide_eq_true_eq]at h <;> first
  | (cases h;done)
  | (rw[AV.sames_eq _ _ h])
  | (obtain⟨⟨h1,h2⟩,h3⟩:=h;rw[h1,PV.sames_eq _ _ h2,h3])
  | (obtain⟨h1,h2⟩:=h;rw[MEs.same_eq h1,h2])
  | (obtain⟨⟨⟨h1,h2⟩,h3⟩,h4⟩:=h;rw[h1,h2,h3,h4])
theorem aA.same_eq:∀ {a b:List Obj},aA.same a b=true→a=b
 | [],[],_=>rfl
 | [],_::_,h=>by simp [aA.same]at h
 | _::_,[],h=>by simp [aA.same]at h
 | a::asv,b::bs,h=>by
  simp only[aA.same,Bool.and_eq_true]at h;rw[Obj.same_eq h.1,aA.same_eq h.2]
def eK (C:EvC)(gl:Nat→Option PV)(o:AOp)(e:List (Nat × AV))(g:aA)(v:AV):Bool:=match dG C gl o e g with
 | some (v',g',y)=>AV.same v' v&&y.isEmpty&&(o.op.still2||aA.same g' g)
 | none=>false
def QH (C:EvC)(gl:Nat→Option PV):List DOp→RB→List aA→List (Nat×AV)→aA→Esc→Option (List (Nat×AV)×aA×Esc)
 | [],_,_,e,h,x=>some (e,h,x)
 | o::r,dn,hs,e,h,x=>match dG C gl o.op (AA (some o.rd) e) h with
  | some (v,h',y)=>
   if(o.eff||o.op.op.still2||y.isEmpty&&aA.same h' h)&&(o.early.all fun k=>match hs[k]? with|some g=>eK C gl o.op (AA (some o.rd) e) g v|none=>false)
    && (o.again.all fun j=>match dn[j]? with|some q=>eK C gl q.1 q.2.1 h' q.2.2|none=>false) then
    QH C gl r (dn++[(o.op,AA (some o.rd) e,v)]) (hs++[h]) (put o.op.dst v e) h' (y++x)
   else none
  | none=>none
def dK (T:St→Option (Ex × St)):Nat→St→Option (Ex×St)
 | 0,_=>none
 | n+1,s=>match T s with
  | some (.normal,s')=>dK T n s'
  | r=>r
def dB (C:EvC)(gl:Nat→Option PV)(n:Nat):ACode→St→Option (Ex×St)
 | .skip,s=>some (.normal,s)
 | .reg ops keep,s=>match eG C gl ops s.env s.h s.esc with
  | some (e,h,x)=>some (.normal,⟨AA keep e,h,x⟩)
  | none=>none
 | .draw ds keep,s=>match QH C gl ds [] [] s.env s.h s.esc with
  | some (e,h,x)=>some (.normal,⟨AA keep e,h,x⟩)
  | none=>none
 | .seq a b,s=>match dB C gl n a s with
  | some (.normal,s')=>dB C gl n b s'
  | r=>r
 | .cond c a b,s=>match Opd.ev gl s.env c with
  | .p (.bool t)=>match t with
   | true=>dB C gl n a s
   | false=>dB C gl n b s
  | _=>none
 | .det b,s=>dB C gl n b s
 | .condu c a b,s=>match Opd.ev gl s.env c with
  | .p (.bool t)=>match t with
   | true=>dB C gl n a s
   | false=>dB C gl n b s
  | _=>none
 | .block id b,s=>match dB C gl n b s with
  | some (.exit i,s')=>if i=id then some (.normal,s') else some (.exit i,s')
  | r=>r
 | .loop b,s=>dK (dB C gl n b) n s
 | .scope b,s=>match dB C gl n b ⟨s.env,s.h,[]⟩ with
  | some (e,s')=>some (e,MD s.h.length s.esc s')
  | none=>none
 | .pr l b,s=>dB C gl n b ⟨AA (some l) s.env,s.h,s.esc⟩
 | .exit id,s=>some (.exit id,s)
 | .ret,s=>some (.ret,s)
 | .bad,_=>none
def GN (F:AFun)(b:Nat)(s:St):Option (AV×aA×Esc):=match MC s F.results with
 | some vs=>match F.keep with
  | true=>
   let n:=JB s.esc.length s.esc (max b (JA vs).top)
   if EB s.esc n then some (JA vs,s.h.take n,s.esc.filter fun y=>decide (y.1<n)) else some (JA vs,s.h,s.esc)
  | false=>match DA b s.h (JA vs) with
   | some v0=>
    let n:=JB s.esc.length s.esc (max b v0.top)
    if EB s.esc n then match DA n s.h (JA vs) with
     | some v=>if v.top≤n then some (v,s.h.take n,s.esc.filter fun y=>decide (y.1<n)) else none
     | none=>none
    else some (JA vs,s.h,s.esc)
   | none=>none
 | none=>none
def EN (C:EvC)(gl:Nat→Option PV)(n:Nat)(F:AFun)(args:List AV)(h:aA):Option (AV×aA×Esc):=
 match (if F.byref then some (args,h) else yA h args) with
 | some (asv,h1)=>if asv.length=F.nparams then match dB C gl n F.body ⟨enter asv,h1,[]⟩ with
  | some (.exit _,_)=>none
  | some (_,s)=>GN F h.length s
  | none=>none
  else none
 | none=>none
def ZE (C':EvC)(C:Hd):Prop:=∀f a h v h' x (K:kA),C' f a h=some (v,h',x)→K v h' x→C f a h K
variable {C':EvC} {C:Hd} {gl:Nat→Option PV}
theorem ST (hC:ZE C' C){o:AOp}{e:List (Nat × AV)}{h h':aA}{v:AV}{x:Esc}(H:dG C' gl o e h=some (v,h',x)):ADo C gl o e h v h' x:=by
 unfold dG at H;unfold ADo;split at H
 ·rename_i hw
  simp only[hw];obtain⟨dst,guard,op⟩:=o;cases op;case call f args=>exact hC _ _ _ _ _ _ _ H ⟨rfl,rfl,rfl⟩
  case callv f args=>
   dsimp only at H ⊢;split at H
   ·rename_i hf
    simp only[hf];exact hC _ _ _ _ _ _ _ H ⟨rfl,rfl,rfl⟩
   ·cases H
  case mnext sh xs=>cases H
  all_goals exact H
 ·rename_i hw
  simp only[hw];injection H with H
  injection H with h1 H
  injection H with h2 h3
  exact⟨h1.symm,h2.symm,h3.symm⟩
 ·cases H
theorem HN (hC:ZE C' C):∀(ops:List AOp) e h x e' h' x' (K:List (Nat×AV)→aA→Esc→Prop),eG C' gl ops e h x=some (e',h',x')→K e' h' x'→qA C gl ops e h x K
 | [],e,h,x,e',h',x',K,H,hK=>by
  simp only[eG,Option.some.injEq,Prod.mk.injEq]at H;obtain⟨rfl,rfl,rfl⟩:=H;exact hK
 | o::r,e,h,x,e',h',x',K,H,hK=>by
  unfold eG at H;split at H
  ·rename_i v h1 x1 hd
   have ih:=HN hC r _ _ _ _ _ _ K H hK
   unfold dG at hd;unfold qA;split at hd
   ·rename_i hw
    simp only[hw];obtain⟨dst,guard,op⟩:=o;cases op;case call f args=>exact hC _ _ _ _ _ _ _ hd ih
    case callv f args=>
     dsimp only at hd ⊢;split at hd
     ·rename_i hf
      simp only[hf];exact hC _ _ _ _ _ _ _ hd ih
     ·cases hd
    case mnext sh xs=>cases hd
    all_goals
     dsimp only at hd ⊢;rw[hd];exact ih
   ·rename_i hw
    simp only[hw];injection hd with hd
    injection hd with h1 hd
    injection hd with h2 h3
    subst h1;subst h2;subst h3
    exact ih
   ·cases hd
  ·split at H
   ·rename_i v h1 hd
    have ih:=HN hC r _ _ _ _ _ _ K H hK
    unfold WT at hd;unfold qA;split at hd
    ·rename_i sh xs hop
     split at hd
     ·rename_i hw
      simp only[hw,hop];split at hd
      ·rename_i y hm
       injection hd with hd
       subst hd;simp only[hm];refine⟨by simp,fun z hz=>?_⟩
       rw[List.mem_singleton]at hz;subst hz;exact ih
      ·cases hd
     ·cases hd
    ·cases hd
   ·cases H
theorem z23 {o:AO}(hs:o.still=true){ev:Opd→AV}{h h':aA}{v:AV}{x:Esc}(H:aop o ev h=some (v,h',x)):h'=h∧x=[]:=by
 cases o <;> first|(cases hs;done)|skip
 all_goals
  unfold aop at H;dsimp only at H;repeat' split at H
  all_goals first
   | (cases H;done)
   | (simp only[Option.some.injEq,Prod.mk.injEq]at H;obtain⟨_,rfl,rfl⟩:=H;exact⟨rfl,rfl⟩)
   | (simp only[Option.map_eq_some_iff,Prod.mk.injEq]at H;obtain⟨_,_,_,rfl,rfl⟩:=H;exact⟨rfl,rfl⟩)
   | (have H2:=nilc (g:=[]) H;rename_i k neg p;cases hb:LE k (ev p) <;> rw[hb]at H <;> simp only[cond_true,cond_false,Option.map_eq_some_iff,Option.some.injEq,Prod.mk.injEq]at H <;> first|(obtain⟨_,rfl,rfl⟩:=H;exact⟨rfl,rfl⟩)|(obtain⟨_,_,_,rfl,rfl⟩:=H;exact⟨rfl,rfl⟩))
theorem z24 {o:AO}(hs:o.still2=true){ev:Opd→AV}{h h':aA}{v:AV}{x:Esc}(H:aop o ev h=some (v,h',x)):h'=h∧x=[]:=by
 unfold AO.still2 at hs;split at hs
 ·simp only[aop,tD]at H
  split at H
  ·simp at H;exact⟨H.2.1.symm,H.2.2⟩
  ·simp at H
 ·exact z23 hs H
theorem BL {o:AOp}(hs:o.op.still2=true){e:List (Nat × AV)}{h h':aA}{v:AV}{x:Esc}(H:ADo C gl o e h v h' x):h'=h∧x=[]:=by
 unfold ADo at H;split at H
 ·obtain⟨dst,guard,op⟩:=o
  cases op <;> first|(cases hs;done)|exact z24 hs H
 ·exact H.2
 ·exact H.elim
theorem zcP {o:AO}(h:o.still=true):o.still2=true:=by
 cases o <;> first|exact h|(cases h;done)
theorem RX {o:AOp}(hs:o.op.still=true){e:List (Nat × AV)}{h h':aA}{v:AV}{x:Esc}(H:ADo C gl o e h v h' x):h'=h∧x=[]:=BL (zcP hs) H
theorem XT (hC:ZE C' C){o:AOp}{e:List (Nat × AV)}{g:aA}{v:AV}(H:eK C' gl o e g v=true):ADo C gl o e g v g []:=by
 unfold eK at H;split at H
 ·rename_i v' g' y hd
  simp only[Bool.and_eq_true,Bool.or_eq_true,List.isEmpty_iff]at H;obtain⟨⟨h1,h2⟩,h3⟩:=H;have h1:=AV.same_eq _ _ h1
  have:=ST (C:=C) hC hd;rcases h3 with hs|hs
  ·obtain⟨e1,e2⟩:=BL hs this
   subst e1;subst e2;subst h1
   exact this
  ·have e1:=aA.same_eq hs
   subst e1;subst h2;subst h1
   exact this
 ·cases H
theorem TT (hC:ZE C' C):∀(ds:List DOp) dn hs e h x e' h' x' (K:List (Nat×AV)→aA→Esc→Prop),QH C' gl ds dn hs e h x=some (e',h',x')→K e' h' x'→BB C gl ds dn hs e h x K
 | [],dn,hs,e,h,x,e',h',x',K,H,hK=>by
  simp only[QH,Option.some.injEq,Prod.mk.injEq]at H;obtain⟨rfl,rfl,rfl⟩:=H;exact hK
 | o::r,dn,hs,e,h,x,e',h',x',K,H,hK=>by
  unfold QH at H;split at H
  ·rename_i v h1 y hd
   split at H
   ·rename_i hc
    simp only[Bool.and_eq_true,Bool.or_eq_true,List.all_eq_true]at hc;obtain⟨⟨c1,c2⟩,c3⟩:=hc;have hdo:=ST (C:=C) hC hd
    refine⟨v,h1,y,hdo,fun he=>?_,fun k hk=>?_,fun j hj=>?_,TT hC r _ _ _ _ _ _ _ _ K H hK⟩
    ·rcases c1 with(c1|c1)|⟨c1,c4⟩
     ·rw[c1]at he;cases he
     ·exact BL c1 hdo
     ·rw[List.isEmpty_iff]at c1
      exact⟨aA.same_eq c4,c1⟩
    ·have:=c2 k hk
     split at this
     ·rename_i g hg
      exact⟨g,hg,XT hC this⟩
     ·cases this
    ·have:=c3 j hj
     split at this
     ·rename_i q hq
      exact⟨q,hq,XT hC this⟩
     ·cases this
   ·cases H
  ·cases H
theorem VT {T':St→Option (Ex × St)}{T:St→(Ex→St→Prop)→Prop}(hT:∀ s e s' K,T' s=some (e,s')→K e s'→T s K):∀n s e s' K,dK T' n s=some (e,s')→K e s'→ALoop T K s
 | 0,s,e,s',K,H,hK=>by cases H
 | n+1,s,e,s',K,H,hK=>by
  unfold dK at H;split at H
  ·rename_i s1 h1
   refine .mk s (fun e2 s2=>e2 = .normal∧s2=s1) (hT _ _ _ _ h1 ⟨rfl,rfl⟩) (fun s2 ⟨_,h2⟩=>?_) (fun i s2 ⟨h2,_⟩=>by cases h2) (fun s2 ⟨h2,_⟩=>by cases h2)
   subst h2;exact VT hT n _ _ _ K H hK
  ·rename_i hne
   have hne':e ≠ .normal:=fun he=>by subst he;exact hne _ H
   refine .mk s (fun e2 s2=>e2=e∧s2=s') (hT _ _ _ _ H ⟨rfl,rfl⟩) (fun s2 ⟨h2,_⟩=>(hne' h2.symm).elim) (fun i s2 ⟨h2,h3⟩=>by subst h3;rw[h2];exact hK) (fun s2 ⟨h2,h3⟩=>by subst h3;rw[h2];exact hK)
theorem EC (hC:ZE C' C)(n:Nat):∀(c:ACode) s e s' (K:Ex→St→Prop),dB C' gl n c s=some (e,s')→K e s'→AW C gl c s K
 | .skip,s,e,s',K,H,hK=>by
  simp only[dB,Option.some.injEq,Prod.mk.injEq]at H;obtain⟨rfl,rfl⟩:=H;exact hK
 | .reg ops keep,s,e,s',K,H,hK=>by
  unfold dB at H;split at H
  ·rename_i h1
   simp only[Option.some.injEq,Prod.mk.injEq]at H;obtain⟨rfl,rfl⟩:=H;exact HN hC _ _ _ _ _ _ _ _ h1 hK
  ·cases H
 | .draw ds keep,s,e,s',K,H,hK=>by
  unfold dB at H;split at H
  ·rename_i h1
   simp only[Option.some.injEq,Prod.mk.injEq]at H;obtain⟨rfl,rfl⟩:=H;exact TT hC _ _ _ _ _ _ _ _ _ _ h1 hK
  ·cases H
 | .seq a b,s,e,s',K,H,hK=>by
  unfold dB at H;unfold AW;split at H
  ·rename_i s1 h1
   exact EC hC n a s _ _ _ h1 (EC hC n b _ _ _ K H hK)
  ·rename_i hne
   have hne':e ≠ .normal:=fun he=>by subst he;exact hne _ H
   refine EC hC n a s _ _ _ H ?_;cases e with
   | normal=>exact(hne' rfl).elim
   | exit i=>exact hK
   | ret=>exact hK
 | .det b,s,e,s',K,H,hK=>by
  unfold dB at H;exact EC hC n b s _ _ K H hK
 | .condu c a b,s,e,s',K,H,hK=>by
  unfold dB at H;unfold AW;split at H
  ·rename_i t ht
   simp only[ht];split at H
   ·exact EC hC n a s _ _ _ H hK
   ·exact EC hC n b s _ _ _ H hK
  ·cases H
 | .cond c a b,s,e,s',K,H,hK=>by
  unfold dB at H;unfold AW;split at H
  ·rename_i t ht
   simp only[ht];split at H
   ·exact EC hC n a s _ _ _ H hK
   ·exact EC hC n b s _ _ _ H hK
  ·cases H
 | .block id b,s,e,s',K,H,hK=>by
  unfold dB at H;unfold AW;split at H
  ·rename_i i s1 h1
   refine EC hC n b s _ _ _ h1 ?_;dsimp only;split at H
   ·rw[if_pos ‹_›]
    simp only[Option.some.injEq,Prod.mk.injEq]at H;obtain⟨rfl,rfl⟩:=H;exact hK
   ·rw[if_neg ‹_›]
    simp only[Option.some.injEq,Prod.mk.injEq]at H;obtain⟨rfl,rfl⟩:=H;exact hK
  ·rename_i hne
   refine EC hC n b s _ _ _ H ?_;cases e with
   | normal=>exact hK
   | exit i=>exact(hne _ _ H).elim
   | ret=>exact hK
 | .loop b,s,e,s',K,H,hK=>by
  unfold dB at H;unfold AW;exact VT (fun s e s' K h k=>EC hC n b s e s' K h k) n s e s' K H hK
 | .scope b,s,e,s',K,H,hK=>by
  unfold dB at H;unfold AW;split at H
  ·rename_i e1 s1 h1
   simp only[Option.some.injEq,Prod.mk.injEq]at H;obtain⟨rfl,rfl⟩:=H;exact EC hC n b _ _ _ _ h1 hK
  ·cases H
 | .pr l b,s,e,s',K,H,hK=>by
  unfold dB at H;unfold AW;exact EC hC n b _ _ _ K H hK
 | .exit id,s,e,s',K,H,hK=>by
  simp only[dB,Option.some.injEq,Prod.mk.injEq]at H;obtain⟨rfl,rfl⟩:=H;exact hK
 | .ret,s,e,s',K,H,hK=>by
  simp only[dB,Option.some.injEq,Prod.mk.injEq]at H;obtain⟨rfl,rfl⟩:=H;exact hK
 | .bad,s,e,s',K,H,hK=>by simp only[dB]at H;cases H
theorem UT {F:AFun}{b:Nat}{s:St}{v:AV}{h:aA}{x:Esc}{K:kA}(H:GN F b s=some (v,h,x))(hK:K v h x):fin F b s K:=by
 unfold GN at H;unfold fin;split at H
 ·rename_i h1
  simp only[h1];split at H
  ·rename_i h2
   simp only[h2];dsimp only at H ⊢;split at H
   ·rw[if_pos ‹_›];simp only[Option.some.injEq,Prod.mk.injEq]at H;obtain⟨rfl,rfl,rfl⟩:=H;exact hK
   ·rw[if_neg ‹_›];simp only[Option.some.injEq,Prod.mk.injEq]at H;obtain⟨rfl,rfl,rfl⟩:=H;exact hK
  ·rename_i h2
   simp only[h2];split at H
   ·rename_i h3
    simp only[h3];dsimp only at H ⊢;split at H
    ·rw[if_pos ‹_›]
     split at H
     ·rename_i h4
      simp only[h4];split at H
      ·simp only[Option.some.injEq,Prod.mk.injEq]at H;obtain⟨rfl,rfl,rfl⟩:=H;exact⟨‹_›,hK⟩
      ·cases H
     ·cases H
    ·rw[if_neg ‹_›];simp only[Option.some.injEq,Prod.mk.injEq]at H;obtain⟨rfl,rfl,rfl⟩:=H;exact hK
   ·cases H
 ·cases H
theorem RT (hC:ZE C' C){n:Nat}{F:AFun}{a:List AV}{h:aA}{v:AV}{h':aA}{x:Esc}{K:kA}(H:EN C' gl n F a h=some (v,h',x))(hK:K v h' x):DB C gl F a h K:=by
 unfold EN at H;unfold DB;split at H
 ·rename_i asv h1 hp
  simp only[hp];split at H
  ·rename_i hl
   refine⟨hl,?_⟩;cases he:dB C' gl n F.body ⟨enter asv,h1,[]⟩ with
   | none=>rw[he]at H;cases H
   | some y=>
    obtain⟨e,s⟩:=y;rw[he]at H;refine EC hC n _ _ _ _ _ he ?_;cases e with
    | exit i=>cases H
    | normal=>exact UT H hK
    | ret=>exact UT H hK
  ·cases H
 ·cases H
def aC (X:Ctx)(o:Nat→List AV→Option AV)(n:Nat):Nat→EvC
 | 0,_,_,_=>none
 | d+1,f,a,h=>match o f a with
  | some v=>some (v,h,[])
  | none=>match X.fn f with
   | some F=>EN (aC X o n d) X.gl n F a h
   | none=>match X.ex2 f a h with
    | some r=>some r
    | none=>match yA h a with
     | some (asv,h1)=>match unp asv with
      | some vs=>match X.ext f vs with
       | some r=>some (.p r,h1,[])
       | none=>none
      | none=>none
     | none=>none
theorem FN (X:Ctx)(o:Nat→List AV→Option AV)(ho:∀ f a v,o f a=some v→∀ h (K:kA),K v h []→gA X f a h K)(n:Nat):∀d,ZE (aC X o n d) (gA X)
 | 0,f,a,h,v,h',x,K,H,hK=>by cases H
 | d+1,f,a,h,v,h',x,K,H,hK=>by
  unfold aC at H;split at H
  ·rename_i v1 hv
   simp only[Option.some.injEq,Prod.mk.injEq]at H;obtain⟨rfl,rfl,rfl⟩:=H;exact ho _ _ _ hv _ _ hK
  refine gA.fold ?_;unfold nB;split at H
  ·rename_i F hF
   simp only[hF];unfold uC;cases hd:F.isDet with
   | true=>exact⟨v,h',x,hK,RT (FN X o ho n d) H ⟨rfl,rfl,rfl⟩⟩
   | false=>exact RT (FN X o ho n d) H hK
  ·rename_i hF
   simp only[hF];split at H
   ·rename_i hx2
    simp only[hx2];simp only[Option.some.injEq]at H;subst H;exact hK
   ·rename_i hx2
    simp only[hx2];split at H
    ·rename_i hp
     simp only[hp];split at H
     ·rename_i hu
      simp only[hu];split at H
      ·rename_i hx
       simp only[hx];simp only[Option.some.injEq,Prod.mk.injEq]at H;obtain⟨rfl,rfl,rfl⟩:=H;exact hK
      ·cases H
     ·cases H
    ·cases H
theorem KC {X:Ctx}{f:Nat}{a:List AV}{h:aA}{v:AV}{h':aA}{x:Esc}{o:Nat→List AV→Option AV}(ho:∀ f a v,o f a=some v→∀ h (K:kA),K v h []→gA X f a h K)(n d:Nat)(H:aC X o n d f a h=some (v,h',x))(K:kA):gA X f a h K↔K v h' x:=
 gA.eq (FN X o ho n d _ _ _ _ _ _ _ H ⟨rfl,rfl,rfl⟩) K
end Go.Am
end
section
/- The abstract machine,part 27: loops,and the rules of computing asv one set. -/
set_option linter.unusedSimpArgs false
set_option linter.unusedVariables false
namespace Go.Am
variable {C:Hd} {gl:Nat→Option PV} {e:List (Nat × AV)} {h:aA} {x:Esc} {K:Ex→St→Prop} {s:St}
def GG {σ:Type}(S:σ→St)(P:σ→Prop)(m:σ→Nat)(K:Ex→St→Prop)(s:σ)(e:Ex)(s':St):Prop:=match e with
 | .normal=>∃t,s'=S t∧P t∧m t<m s
 | .exit i=>K (.exit i) s'
 | .ret=>K .ret s'
theorem EV {σ:Type}{S:σ→St}{P:σ→Prop}{m:σ→Nat}{K:Ex→St→Prop}{t:σ}{s':St}:GG S P m K t .normal s' = ∃u,s'=S u∧P u∧m u<m t:=(rfl)
theorem DV {σ:Type}{S:σ→St}{P:σ→Prop}{m:σ→Nat}{K:Ex→St→Prop}{t:σ}{s':St}{i:Nat}:GG S P m K t (.exit i) s'=K (.exit i) s':=(rfl)
theorem FV {σ:Type}{S:σ→St}{P:σ→Prop}{m:σ→Nat}{K:Ex→St→Prop}{t:σ}{s':St}:GG S P m K t .ret s'=K .ret s':=(rfl)
theorem z9E {σ:Type}{S:σ→St}{P:σ→Prop}{m:σ→Nat}{K:Ex→St→Prop}{t:σ}{ex ex':Ex}{s s':St}(he:ex=ex')(hs:s=s'):GG S P m K t ex s=GG S P m K t ex' s':=by rw[he,hs]
theorem ZI {T:St→(Ex→St→Prop)→Prop}{K:Ex→St→Prop}{s s':St}(h:T s=T s'):ALoop T K s=ALoop T K s':=by
 refine propext ⟨fun H=>?_,fun H=>?_⟩
 ·cases H with|mk _ R a b c d=>exact .mk _ R (h ▸ a) b c d
 ·cases H with|mk _ R a b c d=>exact .mk _ R (h.symm ▸ a) b c d
theorem z2y {l:List Nat}{e:List (Nat × AV)}{t:Nat}(ht:t∈l):bA (AA (some l) e) t=bA e t:=by
 simp only[AA];induction l with
 | nil=>cases ht
 | cons k r ih=>
  simp only[List.map_cons,bA];split
  ·rename_i hk;rw[hk]
  ·rename_i hk
   rcases List.mem_cons.1 ht with h1|h1
   ·exact absurd h1.symm hk
   ·exact ih h1
theorem eL {l:List Nat}{e:List (Nat × AV)}:AA (some l) (AA (some l) e)=AA (some l) e:=by
 show l.map _=l.map _
 exact List.map_congr_left fun t ht=>by rw[z2y ht]
def LoopP (C:Hd)(gl:Nat→Option PV)(l:List Nat)(b:ACode)(K:Ex→St→Prop)(e:List (Nat × AV))(h:aA)(x:Esc):Prop:=AW C gl (.loop (.pr l b)) ⟨e,h,x⟩ K
def LoopS (C:Hd)(gl:Nat→Option PV)(l:List Nat)(b:ACode)(K:Ex→St→Prop)(e:List (Nat × AV))(h:aA)(x:Esc):Prop:=AW C gl (.loop (.scope (.pr l b))) ⟨e,h,x⟩ K
theorem z0f {l:List Nat}{b:ACode}:AW C gl (.loop (.pr l b)) ⟨e,h,x⟩ K=LoopP C gl l b K (AA (some l) e) h x:=by
 show ALoop _ _ _=ALoop _ _ _
 exact ZI (funext fun R=>by show AW C gl b _ R=AW C gl b _ R;dsimp only;rw[eL])
theorem z0g {l:List Nat}{b:ACode}:AW C gl (.loop (.scope (.pr l b))) ⟨e,h,x⟩ K=LoopS C gl l b K (AA (some l) e) h x:=by
 show ALoop _ _ _=ALoop _ _ _
 exact ZI (funext fun R=>by show AW C gl b _ _=AW C gl b _ _;dsimp only;rw[eL])
theorem nM {α:Type}(h l:List α)(n:Nat):(h++l)[h.length+n]?=l[n]?:=by
 rw[List.getElem?_append_right (by omega)];congr 1;omega
theorem z28 {α:Type}(h l:List α):(h++l)[h.length]?=l[0]?:=by
 rw[List.getElem?_append_right (by omega)];congr 1;omega
theorem oM {α:Type}(h l:List α)(n:Nat)(o:α):(h++l).set (h.length+n) o=h++l.set n o:=by
 rw[List.set_append_right _ _ (by omega)];congr 2;omega
theorem z2A {α:Type}(h l:List α)(o:α):(h++l).set h.length o=h++l.set 0 o:=by
 rw[List.set_append_right _ _ (by omega)];congr 2;omega
theorem bR {α:Type}(h l:List α)(n:Nat):(h++l).take (h.length+n)=h++l.take n:=List.take_length_add_append ..
theorem cR {α:Type}(h l:List α):(h++l).take h.length=h:=List.take_left ..
theorem mM (h l:aA)(n k:Nat):frz (h++l) (h.length+n) k=h++frz l n k:=by
 unfold frz;rw[nM];cases l[n]? with
 | none=>rfl
 | some o=>cases o <;> first|rfl|simp only[oM]
theorem z27 (h l:aA)(k:Nat):frz (h++l) h.length k=h++frz l 0 k:=mM h l 0 k
theorem eB (n:Int)(h1 : -9223372036854775808≤n)(h2:n≤9223372036854775807):IntKind.i64.wrap n=n:=by
 simp [IntKind.wrap,IntKind.bits,IntKind.signed];omega
def BA (rs:List ARes)(kp:Bool)(b:Nat)(P:kA)(e:Ex)(s:St):Prop:=match e with
 | .exit _=>False
 | _=>match MC s rs with
  | some vs=>match kp with
   | true=>
    let n:=JB s.esc.length s.esc (max b (JA vs).top)
    if EB s.esc n then P (JA vs) (s.h.take n) (s.esc.filter fun y=>decide (y.1<n)) else P (JA vs) s.h s.esc
   | false=>match DA b s.h (JA vs) with
    | some v0=>
     let n:=JB s.esc.length s.esc (max b v0.top)
     if EB s.esc n then match DA n s.h (JA vs) with
      | some v=>v.top≤n∧P v (s.h.take n) (s.esc.filter fun y=>decide (y.1<n))
      | none=>False
     else P (JA vs) s.h s.esc
    | none=>False
  | none=>False
theorem SN {F:AFun}{b:Nat}{P:kA}:finK F b P=BA F.results F.keep b P:=by
 funext e s;cases e <;> rfl
theorem z8a {rs:List ARes}{kp:Bool}{b:Nat}{P:kA}{i:Nat}{s:St}:BA rs kp b P (.exit i) s=False:=(rfl)
def QC (kp:Bool)(b:Nat)(P:kA)(o:Option (List AV))(h:aA)(x:Esc):Prop:=match o with
 | some vs=>match kp with
  | true=>
   let n:=JB x.length x (max b (JA vs).top)
   if EB x n then P (JA vs) (h.take n) (x.filter fun y=>decide (y.1<n)) else P (JA vs) h x
  | false=>match DA b h (JA vs) with
   | some v0=>
    let n:=JB x.length x (max b v0.top)
    if EB x n then match DA n h (JA vs) with
     | some v=>v.top≤n∧P v (h.take n) (x.filter fun y=>decide (y.1<n))
     | none=>False
    else P (JA vs) h x
   | none=>False
 | none=>False
theorem LU {rs:List ARes}{kp:Bool}{b:Nat}{P:kA}{e:List (Nat × AV)}{h:aA}{x:Esc}:BA rs kp b P .normal ⟨e,h,x⟩=QC kp b P (MC ⟨e,h,x⟩ rs) h x:=(rfl)
theorem MU {rs:List ARes}{kp:Bool}{b:Nat}{P:kA}{e:List (Nat × AV)}{h:aA}{x:Esc}:BA rs kp b P .ret ⟨e,h,x⟩=QC kp b P (MC ⟨e,h,x⟩ rs) h x:=(rfl)
theorem z7Z {rs:List ARes}{kp:Bool}{b:Nat}{P:kA}{ex ex':Ex}{s s':St}(he:ex=ex')(hs:s=s'):BA rs kp b P ex s=BA rs kp b P ex' s':=by rw[he,hs]
theorem QI {b:Nat}{P:kA}{vs:List AV}{h:aA}(ht:(JA vs).top≤b)(hr:∀ b,DA b h (JA vs)=some (JA vs)):QC false b P (some vs) h []=P (JA vs) (h.take b) []:=by
 simp only[QC,hr,JB,List.length_nil,EB,List.all_nil,if_true,List.filter_nil,Nat.max_eq_left ht,ht,true_and]
theorem zbx {b:Nat}{h:aA}{v:PV}:DA b h (.p v)=some (.p v):=(rfl)
theorem zb2 {b:Nat}{h:aA}:bD b h []=some []:=(rfl)
theorem zbA {b:Nat}{P:kA}{v:PV}{h:aA}:QC false b P (some [.p v]) h []=P (.p v) (h.take b) []:=QI (Nat.zero_le _) (fun _=>rfl)
theorem zbB {b:Nat}{P:kA}{v u:PV}{h:aA}:QC false b P (some [.p v,.p u]) h []=P (.tup [.p v,.p u]) (h.take b) []:=QI (by simp [JA,AV.top,AV.tops]) (fun _=>rfl)
theorem zbC {b:Nat}{P:kA}{v u w:PV}{h:aA}:QC false b P (some [.p v,.p u,.p w]) h []=P (.tup [.p v,.p u,.p w]) (h.take b) []:=QI (by simp [JA,AV.top,AV.tops]) (fun _=>rfl)
theorem zbD {b:Nat}{P:kA}{v u w z:PV}{h:aA}:QC false b P (some [.p v,.p u,.p w,.p z]) h []=P (.tup [.p v,.p u,.p w,.p z]) (h.take b) []:=QI (by simp [JA,AV.top,AV.tops]) (fun _=>rfl)
theorem zb9 {b:Nat}{P:kA}{h:aA}:QC false b P (some []) h []=P (.tup []) (h.take b) []:=QI (by simp [JA,AV.top,AV.tops]) (fun _=>rfl)
theorem zde {h:aA}:h.take h.length=h:=List.take_length
theorem zah {v:AV}:JA [v]=v:=(rfl)
theorem zcN {X:Ctx}{f:Nat}{F:AFun}{a asv:List AV}{h h1:aA}{P:kA}(hf:X.fn f=some F)(hr:F.byref=false)(hp:yA h a=some (asv,h1))(hl:asv.length=F.nparams)(hd:F.isDet=false) :
 gA X f a h P=AW (gA X) X.gl F.body ⟨enter asv,h1,[]⟩ (BA F.results F.keep h.length P):=by
 rw[OQ hf hd,TQ hr hp hl,SN]
theorem zcL {X:Ctx}{f:Nat}{F:AFun}{asv:List AV}{h:aA}{P:kA}(hf:X.fn f=some F)(hr:F.byref=true)(hl:asv.length=F.nparams)(hd:F.isDet=false) :
 gA X f asv h P=AW (gA X) X.gl F.body ⟨enter asv,h,[]⟩ (BA F.results F.keep h.length P):=by
 rw[OQ hf hd,z2t hr hl,SN]
theorem zcO {X:Ctx}{f:Nat}{F:AFun}{a asv:List AV}{h h1:aA}{P:kA}(hf:X.fn f=some F)(hr:F.byref=false)(hp:yA h a=some (asv,h1))(hl:asv.length=F.nparams)(hd:F.isDet=true) :
 gA X f a h P = ∃v h' x,P v h' x∧AW (gA X) X.gl F.body ⟨enter asv,h1,[]⟩ (BA F.results F.keep h.length fun v1 h1 x1=>v1=v∧h1=h'∧x1=x):=by
 rw[z13 hf hd];simp only[TQ hr hp hl,SN]
theorem cB {X:Ctx}{f:Nat}{a:List AV}{h:aA}{v:AV}{h':aA}{x:Esc}{K:kA}(H:gA X f a h fun v1 h1 x1=>v1=v∧h1=h'∧x1=x):gA X f a h K=K v h' x:=propext (gA.eq H K)
theorem fO {k:IntKind}{n:Nat}:OA (.p (.int k (n:Int)))=some n:=by simp [OA]
theorem z9R {k:IntKind}{n:Nat}:OA (.p (.int k (no_index (OfNat.ofNat n:Int))))=some (OfNat.ofNat n:Nat):=fO (n:=n)
theorem z9P {k:IntKind}:OA (.p (.int k 0))=some 0:=(rfl)
theorem z9Q {k:IntKind}:OA (.p (.int k 1))=some 1:=(rfl)
theorem NV {k:IntKind}{n:Int}(h:0≤n):OA (.p (.int k n))=some n.toNat:=by simp [OA,h]
theorem eC {α β:Type}(f:α→β){l:List α}{k:Nat}(h:k<l.length):(l.map f)[k]?=some (f l[k]):=by simp [h]
attribute [go_sem] eqs PV.eq1 PV.kind ne_eq not_false_eq_true not_true_eq_false Bool.and_self Bool.or_self Bool.not_eq_true
attribute [go_sem] Nat.max_le Nat.add_le_add_iff_left Option.isSome_none Option.isSome_some false_and and_false List.length_range Nat.sub_zero Nat.le_add_right
attribute [go_sem] fO z9P z9Q z9R Int.ofNat_lt Int.ofNat_le List.length_map
attribute [go_sem] z8a LU MU zb9 zbA zbB zbC zbD zde List.zipIdx_cons List.zipIdx_nil List.map_cons List.map_nil Nat.reduceAdd Nat.reduceEqDiff if_true if_false Option.map_some Option.map_none List.append_nil List.nil_append decide_eq_true_eq
def doS (C:Hd)(gl:Nat→Option PV)(q:AOp × List (Nat × AV) × AV)(h:aA):Prop:=ADo C gl q.1 q.2.1 h q.2.2 h []
def agK (C:Hd)(gl:Nat→Option PV)(h:aA)(dn:RB):List Nat→Prop
 | []=>True
 | j::r=>(match dn[j]? with|some q=>doS C gl q h|none=>False)∧agK C gl h dn r
def eaK (C:Hd)(gl:Nat→Option PV)(o:AOp)(e:List (Nat × AV))(v:AV)(hs:List aA):List Nat→Prop
 | []=>True
 | k::r=>(match hs[k]? with|some g=>doS C gl (o,e,v) g|none=>False)∧eaK C gl o e v hs r
theorem UQ {C:Hd}{gl:Nat→Option PV}{h:aA}{dn:RB}:∀{l:List Nat},agK C gl h dn l↔∀j∈l,∃q,dn[j]?=some q∧ADo C gl q.1 q.2.1 h q.2.2 h []
 | []=>by simp [agK]
 | j::r=>by
  simp only[agK,List.mem_cons,forall_eq_or_imp];rw[UQ (l:=r)];refine and_congr_left (fun _=>?_)
  cases hd:dn[j]? with
  | none=>simp
  | some q=>simp [doS]
theorem GT {C:Hd}{gl:Nat→Option PV}{o:AOp}{e:List (Nat × AV)}{v:AV}{hs:List aA}:∀{l:List Nat},eaK C gl o e v hs l↔∀k∈l,∃g,hs[k]?=some g∧ADo C gl o e g v g []
 | []=>by simp [eaK]
 | j::r=>by
  simp only[eaK,List.mem_cons,forall_eq_or_imp];rw[GT (l:=r)];refine and_congr_left (fun _=>?_)
  cases hd:hs[j]? with
  | none=>simp
  | some q=>simp [doS]
def oF (b:Bool)(h h':aA)(y:Esc):Prop:=match b with
 | true=>True
 | false=>h'=h∧y=[]
theorem ET {C:Hd}{gl:Nat→Option PV}{e:List (Nat × AV)}{h:aA}{x:Esc}{L:List (Nat × AV)→aA→Esc→Prop}{op:AOp}{rd early again:List Nat}{eff:Bool}{r:List DOp}{dn:RB}{hs:List aA}{v:AV}{h':aA}{y:Esc} :
 YJ C gl ⟨op,rd,eff,early,again⟩ r dn hs e h x L v h' y=(oF eff h h' y∧eaK C gl op (AA (some rd) e) v hs early∧agK C gl h' dn again∧BB C gl r (dn++[(op,AA (some rd) e,v)]) (hs++[h]) (put op.dst v e) h' (y++x) L):=by
 rw[z5l,←propext GT,←propext UQ];cases eff <;> simp [oF]
theorem z76 {h h':aA}{y:Esc}:oF true h h' y=True:=(rfl)
theorem z75 {h:aA}:oF false h h []=True:=by simp [oF]
theorem z2v {C:Hd}{gl:Nat→Option PV}{h:aA}{dn:RB}:agK C gl h dn []=True:=(rfl)
theorem z2u {C:Hd}{gl:Nat→Option PV}{h:aA}{dn:RB}{j:Nat}{r:List Nat}:agK C gl h dn (j::r)=((match dn[j]? with|some q=>doS C gl q h|none=>False)∧agK C gl h dn r):=(rfl)
theorem z74 {C:Hd}{gl:Nat→Option PV}{o:AOp}{e:List (Nat × AV)}{v:AV}{hs:List aA}:eaK C gl o e v hs []=True:=(rfl)
theorem z73 {C:Hd}{gl:Nat→Option PV}{o:AOp}{e:List (Nat × AV)}{v:AV}{hs:List aA}{j:Nat}{r:List Nat}:eaK C gl o e v hs (j::r)=((match hs[j]? with|some g=>doS C gl (o,e,v) g|none=>False)∧eaK C gl o e v hs r):=(rfl)
theorem BT {C:Hd}{gl:Nat→Option PV}{d:Option Nat}{g:Option (Nat × Bool)}{op:AO}{e:List (Nat × AV)}{v:AV}{h:aA}:doS C gl (⟨d,g,op⟩,e,v) h=doK C gl ⟨d,g,op⟩ e h (fun v1 h1 x1=>v1=v∧h1=h∧x1=[]):=by
 unfold doS doK;refine propext ⟨fun H=>⟨_,_,_,H,rfl,rfl,rfl⟩,fun⟨v1,h1,x1,H,a,b,c⟩=>by subst a;subst b;subst c;exact H⟩
theorem z4j {p:Prop}[Decidable p]{A B:Prop}:mA (.p (.bool (decide p))) A B=if p then A else B:=by rw[KR];simp
def pC (C:Hd)(v:AV)(asv:List AV)(h:aA)(L:kA):Prop:=match v with
 | .fn g caps=>C g (asv++caps) h L
 | _=>False
theorem JP {C:Hd}{gl:Nat→Option PV}{e:List (Nat × AV)}{h:aA}{x:Esc}{L:List (Nat × AV)→aA→Esc→Prop}{d:Option Nat}{f:Opd}{args:List Opd}{r:List AOp} :
 qA C gl (⟨d,none,.callv f args⟩::r) e h x L=pC C (Opd.ev gl e f) (args.map (Opd.ev gl e)) h (EA C gl r d e x L):=by
 have h2:wanted none e=some true:=(rfl)
 rw[qA];simp only[h2];unfold pC;split <;> simp_all <;> rfl
def WF (C:Hd)(v:AV)(asv:List AV)(h:aA)(R:AV→aA→Esc→Prop):Prop:=match v with
 | .fn g caps=>MB C g (asv++caps) h R
 | _=>False
theorem zT {C:Hd}{gl:Nat→Option PV}{e:List (Nat × AV)}{h:aA}{R:AV→aA→Esc→Prop}{d:Option Nat}{f:Opd}{args:List Opd} :
 doK C gl ⟨d,none,.callv f args⟩ e h R=WF C (Opd.ev gl e f) (args.map (Opd.ev gl e)) h R:=by
 have h2:wanted none e=some true:=(rfl)
 unfold doK ADo;simp only[h2];unfold WF MB;split <;> simp_all
theorem z3Q {C:Hd}{g:Nat}{caps asv:List AV}{h:aA}{L:kA}:pC C (.fn g caps) asv h L=C g (asv++caps) h L:=(rfl)
theorem z3O {C:Hd}{g:Nat}{caps asv:List AV}{h:aA}{R:AV→aA→Esc→Prop}:WF C (.fn g caps) asv h R=MB C g (asv++caps) h R:=(rfl)
theorem z3P {C:Hd}{v v':AV}{asv asv':List AV}{h h':aA}{L:kA}(h1:v=v')(h2:asv=asv')(h3:h=h'):pC C v asv h L=pC C v' asv' h' L:=by rw[h1,h2,h3]
theorem z3N {C:Hd}{v v':AV}{asv asv':List AV}{h h':aA}{R:AV→aA→Esc→Prop}(h1:v=v')(h2:asv=asv')(h3:h=h'):WF C v asv h R=WF C v' asv' h' R:=by rw[h1,h2,h3]
attribute [go_sem] JP zT z3Q z3O
attribute [congr] z3P z3N
theorem z4v {k:IntKind}{n:Int}:IA none 0 (.int k n)=some (.int k n):=(rfl)
theorem z4t {b:Bool}:IA none 0 (.bool b)=some (.bool b):=(rfl)
theorem z4z {s:List UInt8}:IA none 0 (.str s)=some (.str s):=(rfl)
theorem z4y {sh:Sh}{xs:List PV}:IA none 0 (.sl sh xs)=some (.sl sh xs):=(rfl)
theorem z4w:IA none 0 .nilp=some .nilp:=(rfl)
theorem z4u {off:Nat}{cs:List PV}:IA none off (.agg cs)=(cs[off]?).bind fun x=>if x.sc then some x else none:=(rfl)
theorem z4s {n off:Nat}{cs:List PV}:IA (some n) off (.agg cs)=if off+n≤cs.length then some (.agg ((cs.drop off).take n)) else none:=(rfl)
theorem z4x {v:PV}(h:v.sc=true):IA none 0 v=some v:=by cases v <;> first|rfl|cases h
attribute [go_sem] z4v z4t z4z z4y z4w z4u z4s
theorem z79 {id:Nat}{v:PV}:TB id (.p v)=[]:=(rfl)
attribute [go_sem] List.take_succ_cons List.take_zero List.take_nil List.drop_succ_cons List.drop_zero List.drop_nil List.length_cons List.length_nil Nat.reduceLeDiff Nat.reduceLT Int.reduceLT Int.reduceLE Int.reduceAdd Int.reduceSub Int.reduceMul Int.reduceNeg Int.reduceEq Nat.reduceSub Nat.reduceMul Nat.le_refl List.append_assoc
theorem zd4 {b:Nat}{x0:Esc}{e:List (Nat × AV)}{h:aA}:MD b x0 ⟨e,h,[]⟩=⟨wE b e,h.take b,x0⟩:=(rfl)
theorem z4d {n:Nat}:wE n []=[]:=(rfl)
theorem z4c {n k:Nat}{v:AV}{r:List (Nat × AV)}:wE n ((k,v)::r)=(k,if v.top≤n then v else .und)::wE n r:=(rfl)
theorem top_p {v:PV}:AV.top (.p v)=0:=(rfl)
theorem zdr {id g o l:Nat}:AV.top (.own id g o l)=id+1:=by simp [AV.top]
theorem zds {id o:Nat}:AV.top (.ref id o)=id+1:=by simp [AV.top]
theorem zdt {id g i o:Nat}:AV.top (.rref id g i o)=id+1:=by simp [AV.top]
theorem zdm {id:Nat}:AV.top (.mp id)=id+1:=by simp [AV.top]
theorem zdl {id:Nat}:AV.top (.it id)=id+1:=by simp [AV.top]
theorem zdj {f:Nat}{cs:List AV}:AV.top (.fn f cs)=AV.tops cs:=by simp [AV.top]
theorem zdg {cs:List AV}:AV.top (.agg cs)=AV.tops cs:=by simp [AV.top]
theorem zdw {cs:List AV}:AV.top (.tup cs)=AV.tops cs:=by simp [AV.top]
theorem zdy {v:PV}:AV.top (.vp v)=0:=(rfl)
theorem zdx:AV.top .und=0:=(rfl)
theorem zdu:AV.top .skp=0:=(rfl)
theorem zdh:AV.top .anyp=0:=(rfl)
theorem zdi {k t id g:Nat}:AV.top (.bt k t id g)=id+1:=by simp [AV.top]
theorem zdv {sh:Sh}:AV.top (.sl0 sh)=0:=(rfl)
theorem zdq:AV.top .nilp=0:=(rfl)
theorem zdp:AV.top .nilm=0:=(rfl)
theorem zdn:AV.top .nilf=0:=(rfl)
theorem zdo:AV.top .nili=0:=(rfl)
theorem zdk:AV.top .ifc=0:=(rfl)
theorem zd2:AV.tops []=0:=(rfl)
theorem zdz {v:AV}{r:List AV}:AV.tops (v::r)=max v.top (AV.tops r):=by simp [AV.tops]
theorem zbE {b:Nat}{P:kA}{vs:List AV}{h:aA}:QC false b P (some vs) h []=match DA b h (JA vs) with
 | some v0=>match DA (max b v0.top) h (JA vs) with
  | some v=>v.top≤max b v0.top∧P v (h.take (max b v0.top)) []
  | none=>False
 | none=>False:=by
 simp only[QC,JB,List.length_nil,EB,List.all_nil,if_true,List.filter_nil]
theorem zbw {b:Nat}{h:aA}{id g off len:Nat}:DA b h (.own id g off len)=if b≤id then(rd h (.own id g off len)).map fun y=>.p (.sl y.1 y.2) else some (.own id g off len):=by simp only[DA]
theorem zbz {b:Nat}{h:aA}{sh:Sh}:DA b h (.sl0 sh)=some (.p (.sl sh [])):=by simp only[DA]
theorem zbt {b:Nat}{h:aA}{cs:List AV}:DA b h (.agg cs)=(bD b h cs).map mkA:=by simp only[DA]
theorem zb0 {b:Nat}{h:aA}{cs:List AV}:DA b h (.tup cs)=(bD b h cs).map .tup:=by simp only[DA]
theorem zby {b:Nat}{h:aA}{id o:Nat}:DA b h (.ref id o)=some (.ref id o):=by simp only[DA]
theorem zbv {b:Nat}{h:aA}{id:Nat}:DA b h (.mp id)=some (.mp id):=by simp only[DA]
theorem zbu {b f:Nat}{h:aA}{cs:List AV}:DA b h (.fn f cs)=some (.fn f cs):=by simp only[DA]
theorem zb1 {b:Nat}{h:aA}{v:AV}{r:List AV}:bD b h (v::r)=(match DA b h v with|some x=>(bD b h r).map (x :: ·)|none=>none):=by rw[bD];cases DA b h v <;> rfl
theorem zai {v u:AV}{r:List AV}:JA (v::u::r) = .tup (v::u::r):=(rfl)
theorem zag:JA [] = .tup []:=(rfl)
theorem fX {h l:aA}{id:Nat}{o:Obj}(hid:id<h.length):(h++l).set id o=h.set id o++l:=List.set_append_left _ _ hid
theorem rV {h l:aA}{id:Nat}(hid:id<h.length):(h++l)[id]?=h[id]?:=List.getElem?_append_left hid
theorem YW {h l:aA}{i n:Nat}{o:Obj}:(h.set i o++l)[h.length+n]?=l[n]?:=by
 have:=nM (h.set i o) l n;rwa [List.length_set]at this
theorem zcn {h l:aA}{i:Nat}{o:Obj}:(h.set i o++l)[h.length]?=l[0]?:=YW (n:=0)
theorem ZW {h l:aA}{i n:Nat}{o q:Obj}:(h.set i o++l).set (h.length+n) q=h.set i o++l.set n q:=by
 have:=oM (h.set i o) l n q;rwa [List.length_set]at this
theorem zco {h l:aA}{i:Nat}{o q:Obj}:(h.set i o++l).set h.length q=h.set i o++l.set 0 q:=ZW (n:=0)
theorem zcp {h l:aA}{i n:Nat}{o:Obj}:(h.set i o++l).take (h.length+n)=h.set i o++l.take n:=by
 have:=bR (h.set i o) l n;rwa [List.length_set]at this
theorem zcq {h l:aA}{i:Nat}{o:Obj}:(h.set i o++l).take h.length=h.set i o:=by
 have:=cR (h.set i o) l;rwa [List.length_set]at this
theorem XW {h l:aA}{i n k:Nat}{o:Obj}:frz (h.set i o++l) (h.length+n) k=h.set i o++frz l n k:=by
 have:=mM (h.set i o) l n k;rwa [List.length_set]at this
theorem zcm {h l:aA}{i k:Nat}{o:Obj}:frz (h.set i o++l) h.length k=h.set i o++frz l 0 k:=XW (n:=0)
theorem zdN {α:Type}(l:List α):win l 0 l.length=l:=by simp [win]
attribute [go_sem] zd4 z4d z4c top_p zdr zds zdt zdm zdl zdj zdg zdw zdy zdx zdu zdv zdq zdp zdn zdo zdk zdh zdi zd2 zdz Nat.max_zero Nat.zero_max Nat.zero_le zbx zbw zbz zbt zb0 zby zbv zbu zb2 zb1 zai zag nM z28 oM z2A bR cR mM z27 YW zcn ZW zco zcp zcq XW zcm List.length_append zdN Nat.add_le_add_iff_right Nat.zero_add Nat.add_zero
attribute [go_sem] fE PV.shp List.reduceReplicate cond_true cond_false Bool.not_true Bool.not_false Bool.false_eq_true Bool.true_and Bool.and_true Bool.false_and Bool.and_false Bool.true_or Bool.or_true Bool.false_or Bool.or_false beq_self_eq_true List.all_cons List.all_nil
attribute [go_sem low] zbE
theorem zdf {h:aA}{id:Nat}{o:Obj}:(h.set id o).take h.length=h.set id o:=List.take_of_length_le (by simp)
attribute [go_sem] zdf Int.natCast_zero Int.natCast_one Int.cast_ofNat_Int
attribute [go_sem] aun tD EH FH List.foldlM_cons List.foldlM_nil Option.bind_some Option.pure_def Option.bind_eq_bind List.cons_append List.nil_append Int.zero_sub List.length_singleton
attribute [go_sem] z4p cA z79
attribute [congr] z4o
attribute [go_sem] WY TX EP z5b z5f z42 z45 z48 z47 z4P z5j z5e z44 z4C z4L z4V z5k z4A z4U z4W z4X z5g z5h z4F z4G z4H z4I z4J z4K z4Q z5a z4S z4D z4R z4E z4M z4O z4N z43 z4B z5c z4Y z4Z z4T z5d yT AT MB ex3' ET z76 z75 z2v z2u z74 z73 BT List.not_mem_nil List.mem_cons List.mem_singleton forall_eq_or_imp forall_eq false_implies true_implies implies_true forall_const and_true true_and List.cons_append and_self reduceCtorEq List.getElem?_cons_zero List.getElem?_cons_succ Option.some.injEq exists_eq_left' List.set_cons_zero List.set_cons_succ List.set_set List.length_set
attribute [congr] z49 z3L SX MX
attribute [congr] z7Z
attribute [go_sem] z0f z0g
attribute [go_sem] cZ ZY XY SY YY bZ UY TY aZ AW_pr zbs zcu zct zcv z3j z3i z3k aX IY FY LY WX ZX bY aY tY OY JY YX fY pY zY RY dY yY AY BY MY NY jY kY lY mY nY oY uY EY wY gY vY iY qY sY rY XX eY GY CY DY xY HY LP IP zap zao zam zan MR LR z4j FX decide_true decide_false EV DV FV aop Opd.ev bA put AA VA IB fD MC ares zah enter rd rds pur lH yA mkA unp cut AV.cells PV.cells PV.sc AV.sc splice pint pbool eE
attribute [go_sem low] KR zdL zdK
theorem IX {A B:Prop}:FB (.p (.bool true)) true A B=A:=(rfl)
theorem DX {A B:Prop}:FB (.p (.bool false)) false A B=A:=(rfl)
theorem GX {A B:Prop}:FB (.p (.bool true)) false A B=B:=(rfl)
theorem EX {A B:Prop}:FB (.p (.bool false)) true A B=B:=(rfl)
attribute [go_sem] IX DX GX EX
attribute [congr] z4i zdJ zal cY VY zbr zcs z3h zcr z9E
end Go.Am
end
section
/- The abstract machine,part 28: where no map is ranged over,a call that ends well ends in one way. -/
set_option linter.unusedSimpArgs false
set_option linter.unusedVariables false
namespace Go.Am
def AO.noNext:AO→Bool
 | .mnext _ _=>false
 | _=>true
def ACode.noNext:ACode→Bool
 | .reg ops _=>ops.all fun o=>o.op.noNext
 | .seq a b=>a.noNext&&b.noNext
 | .cond _ a b=>a.noNext&&b.noNext
 | .condu _ _ _=>false
 | .det _=>false
 | .block _ b=>b.noNext
 | .loop b=>b.noNext
 | .scope b=>b.noNext
 | .pr _ b=>b.noNext
 | _=>true
def Dt (C D:Hd):Prop:=∀f a h K,C f a h K→∃v h' x,K v h' x∧D f a h fun v1 h1 x1=>v1=v∧h1=h'∧x1=x
variable {C D:Hd} {gl:Nat→Option PV}
theorem zH (hD:D.Mono)(hC:Dt C D):∀(ops:List AOp) e h x K,(ops.all fun o=>o.op.noNext)=true→qA C gl ops e h x K→∃e' h' x',K e' h' x'∧qA D gl ops e h x fun e1 h1 x1=>e1=e'∧h1=h'∧x1=x'
 | [],e,h,x,K,_,H=>⟨e,h,x,H,rfl,rfl,rfl⟩
 | o::r,e,h,x,K,hn,H=>by
  obtain⟨dst,guard,op⟩:=o;simp only[List.all_cons,Bool.and_eq_true]at hn;obtain⟨hn1,hn2⟩:=hn;unfold qA at H;dsimp only at H;split at H
  ·rename_i hw
   cases op;case call f args=>
    obtain⟨v,h',x',H',G'⟩:=hC _ _ _ _ H;obtain⟨e2,h2,x2,k2,g2⟩:=zH hD hC r _ _ _ K hn2 H';refine⟨e2,h2,x2,k2,?_⟩;unfold qA;simp only[hw]
    exact hD _ _ _ _ _ (fun v1 h1 x1 ⟨a1,a2,a3⟩=>by subst a1;subst a2;subst a3;exact g2) G'
   case callv f args=>
    dsimp only at H;split at H
    ·rename_i hf
     obtain⟨v,h',x',H',G'⟩:=hC _ _ _ _ H;obtain⟨e2,h2,x2,k2,g2⟩:=zH hD hC r _ _ _ K hn2 H';refine⟨e2,h2,x2,k2,?_⟩;unfold qA;simp only[hw,hf]
     exact hD _ _ _ _ _ (fun v1 h1 x1 ⟨a1,a2,a3⟩=>by subst a1;subst a2;subst a3;exact g2) G'
    ·exact H.elim
   case mnext sh xs=>simp [AO.noNext]at hn1
   all_goals
    dsimp only at H;split at H
    ·rename_i ha
     obtain⟨e2,h2,x2,k2,g2⟩:=zH hD hC r _ _ _ K hn2 H;refine⟨e2,h2,x2,k2,?_⟩;unfold qA;simp only[hw,ha]
     exact g2
    ·exact H.elim
  ·rename_i hw
   obtain⟨e2,h2,x2,k2,g2⟩:=zH hD hC r _ _ _ K hn2 H;refine⟨e2,h2,x2,k2,?_⟩;unfold qA;simp only[hw]
   exact g2
  ·exact H.elim
theorem zL (hD:D.Mono)(hC:Dt C D){o:AOp}{e:List (Nat × AV)}{h h':aA}{v:AV}{x:Esc}(H:ADo C gl o e h v h' x):ADo D gl o e h v h' x:=by
 have key:∀f a h,C f a h (fun v1 h1 x1=>v1=v∧h1=h'∧x1=x)→D f a h (fun v1 h1 x1=>v1=v∧h1=h'∧x1=x):=fun f a h hc=>by
  obtain⟨v2,h2,x2,⟨e1,e2,e3⟩,hd⟩:=hC _ _ _ _ hc;subst e1;subst e2;subst e3
  exact hd
 unfold ADo at H ⊢;split at H
 ·split at H
  ·exact key _ _ _ H
  ·split at H
   ·exact key _ _ _ H
   ·exact H.elim
  ·exact H.elim
  ·exact H
 ·exact H
 ·exact H.elim
theorem FP (hD:D.Mono)(hC:Dt C D):∀(ds:List DOp) dn hs e h x K,BB C gl ds dn hs e h x K→∃e' h' x',K e' h' x'∧BB D gl ds dn hs e h x fun e1 h1 x1=>e1=e'∧h1=h'∧x1=x'
 | [],dn,hs,e,h,x,K,H=>⟨e,h,x,H,rfl,rfl,rfl⟩
 | o::r,dn,hs,e,h,x,K,H=>by
  obtain⟨v,h',y,h1,h2,h3,h4,h5⟩:=H;obtain⟨e2,q2,x2,k2,g2⟩:=FP hD hC r _ _ _ _ _ K h5;exact⟨e2,q2,x2,k2,v,h',y,zL hD hC h1,h2,fun k hk=>by obtain⟨g,a1,a2⟩:=h3 k hk;exact⟨g,a1,zL hD hC a2⟩,
   fun j hj=>by obtain⟨q,a1,a2⟩:=h4 j hj;exact⟨q,a1,zL hD hC a2⟩,g2⟩
theorem UX {T U:St→(Ex→St→Prop)→Prop}(hT:∀ s K,T s K→∃ e s',K e s'∧U s fun e1 s1=>e1=e∧s1=s'){K:Ex→St→Prop}{s:St}(H:ALoop T K s):∃e s',K e s'∧ALoop U (fun e1 s1=>e1=e∧s1=s') s:=by
 induction H with
 | mk s R h hn he hr ih=>
  obtain⟨e,s',hR,hU⟩:=hT _ _ h;cases e with
  | normal=>
   obtain⟨e2,s2,k2,g2⟩:=ih s' hR;exact⟨e2,s2,k2,.mk _ _ hU (fun s1 ⟨_,h1⟩=>by subst h1;exact g2) (fun i s1 ⟨h1,_⟩=>by cases h1) (fun s1 ⟨h1,_⟩=>by cases h1)⟩
  | exit i=>exact⟨_,_,he i s' hR,.mk _ _ hU (fun s1 ⟨h1,_⟩=>by cases h1) (fun j s1 h1=>h1) (fun s1 ⟨h1,_⟩=>by cases h1)⟩
  | ret=>exact⟨_,_,hr s' hR,.mk _ _ hU (fun s1 ⟨h1,_⟩=>by cases h1) (fun j s1 ⟨h1,_⟩=>by cases h1) (fun s1 h1=>h1)⟩
theorem ND (hD:D.Mono)(hC:Dt C D):∀(c:ACode),c.noNext=true→∀s K,AW C gl c s K→∃e s',K e s'∧AW D gl c s fun e1 s1=>e1=e∧s1=s'
 | .skip,_,s,K,H=>⟨_,_,H,rfl,rfl⟩
 | .reg ops keep,hn,s,K,H=>by
  obtain⟨e,h,x,h1,h2⟩:=zH hD hC ops _ _ _ _ hn H;refine⟨_,_,h1,?_⟩;show qA D gl ops s.env s.h s.esc fun e1 h1 x1=>_
  exact YE (C:=D) (C':=D) (fun f a h K K' hK h=>hD _ _ _ _ _ hK h) ops _ _ _ _ _ (fun e1 h1 x1 ⟨a1,a2,a3⟩=>by subst a1;subst a2;subst a3;exact⟨rfl,rfl⟩) h2
 | .draw ds keep,_,s,K,H=>by
  obtain⟨e,h,x,h1,h2⟩:=FP hD hC ds _ _ _ _ _ _ H;refine⟨_,_,h1,?_⟩;show BB D gl ds [] [] s.env s.h s.esc fun e1 h1 x1=>_
  exact CL (C:=D) (C':=D) (fun f a h K K' hK h=>hD _ _ _ _ _ hK h) ds _ _ _ _ _ _ _ (fun e1 h1 x1 ⟨a1,a2,a3⟩=>by subst a1;subst a2;subst a3;exact⟨rfl,rfl⟩) h2
 | .seq a b,hn,s,K,H=>by
  simp only[ACode.noNext,Bool.and_eq_true]at hn;obtain⟨e,s',h1,h2⟩:=ND hD hC a hn.1 _ _ H;have mono:=fun(K K':Ex→St→Prop) (hK:∀e s,K e s→K' e s)=>QB (C:=D) (C':=D) (gl:=gl) (fun f a h K K' hK h=>hD _ _ _ _ _ hK h) a s K K' hK
  cases e with
  | normal=>
   obtain⟨e2,s2,k2,g2⟩:=ND hD hC b hn.2 _ _ h1;refine⟨e2,s2,k2,mono _ _ (fun e1 s1 ⟨a1,a2⟩=>?_) h2⟩
   subst a1;subst a2;exact g2
  | exit i=>exact⟨_,_,h1,mono _ _ (fun e1 s1 ⟨a1,a2⟩=>by subst a1;subst a2;exact⟨rfl,rfl⟩) h2⟩
  | ret=>exact⟨_,_,h1,mono _ _ (fun e1 s1 ⟨a1,a2⟩=>by subst a1;subst a2;exact⟨rfl,rfl⟩) h2⟩
 | .condu c a b,hn,s,K,H=>by cases hn
 | .det b,hn,s,K,H=>by cases hn
 | .cond c a b,hn,s,K,H=>by
  simp only[ACode.noNext,Bool.and_eq_true]at hn;unfold AW at H;split at H
  ·rename_i t ht
   split at H
   ·obtain⟨e,s',h1,h2⟩:=ND hD hC a hn.1 _ _ H
    refine⟨e,s',h1,?_⟩;unfold AW;simp only[ht];exact h2
   ·obtain⟨e,s',h1,h2⟩:=ND hD hC b hn.2 _ _ H
    refine⟨e,s',h1,?_⟩;unfold AW;simp only[ht];exact h2
  ·exact H.elim
 | .block id b,hn,s,K,H=>by
  obtain⟨e,s',h1,h2⟩:=ND hD hC b hn _ _ H;have mono:=fun(K K':Ex→St→Prop) (hK:∀e s,K e s→K' e s)=>QB (C:=D) (C':=D) (gl:=gl) (fun f a h K K' hK h=>hD _ _ _ _ _ hK h) b s K K' hK
  cases e with
  | normal=>exact⟨_,_,h1,mono _ _ (fun e1 s1 ⟨a1,a2⟩=>by subst a1;subst a2;exact⟨rfl,rfl⟩) h2⟩
  | exit i=>
   dsimp only at h1;split at h1
   ·rename_i hi
    exact⟨_,_,h1,mono _ _ (fun e1 s1 ⟨a1,a2⟩=>by subst a1;subst a2;dsimp only;rw[if_pos hi];exact⟨rfl,rfl⟩) h2⟩
   ·rename_i hi
    exact⟨_,_,h1,mono _ _ (fun e1 s1 ⟨a1,a2⟩=>by subst a1;subst a2;dsimp only;rw[if_neg hi];exact⟨rfl,rfl⟩) h2⟩
  | ret=>exact⟨_,_,h1,mono _ _ (fun e1 s1 ⟨a1,a2⟩=>by subst a1;subst a2;exact⟨rfl,rfl⟩) h2⟩
 | .loop b,hn,s,K,H=>UX (fun s K h=>ND hD hC b hn s K h) H
 | .scope b,hn,s,K,H=>by
  obtain⟨e,s',h1,h2⟩:=ND hD hC b hn _ _ H;exact⟨_,_,h1,QB (C:=D) (C':=D) (gl:=gl) (fun f a h K K' hK h=>hD _ _ _ _ _ hK h) b _ _ _ (fun e1 s1 ⟨a1,a2⟩=>by subst a1;subst a2;exact⟨rfl,rfl⟩) h2⟩
 | .pr l b,hn,s,K,H=>ND hD hC b hn _ K H
 | .exit id,_,s,K,H=>⟨_,_,H,rfl,rfl⟩
 | .ret,_,s,K,H=>⟨_,_,H,rfl,rfl⟩
 | .bad,_,s,K,H=>H.elim
theorem NU {F:AFun}{b:Nat}{s:St}{K:kA}(H:fin F b s K):∃v h x,K v h x∧fin F b s fun v1 h1 x1=>v1=v∧h1=h∧x1=x:=by
 unfold fin at H;cases h1:MC s F.results with
 | none=>rw[h1]at H;exact H.elim
 | some vs=>
  rw[h1]at H;dsimp only at H;cases h2:F.keep with
  | true=>
   rw[h2]at H;dsimp only at H;by_cases h3:EB s.esc (JB (List.length s.esc) s.esc (max b (JA vs).top))=true
   ·rw[if_pos h3]at H
    exact⟨_,_,_,H,by unfold fin;rw[h1];dsimp only;rw[h2];dsimp only;rw[if_pos h3];exact⟨rfl,rfl,rfl⟩⟩
   ·rw[if_neg h3]at H
    exact⟨_,_,_,H,by unfold fin;rw[h1];dsimp only;rw[h2];dsimp only;rw[if_neg h3];exact⟨rfl,rfl,rfl⟩⟩
  | false=>
   rw[h2]at H;dsimp only at H;cases h4:DA b s.h (JA vs) with
   | none=>rw[h4]at H;exact H.elim
   | some v0=>
    rw[h4]at H;dsimp only at H;by_cases h3:EB s.esc (JB (List.length s.esc) s.esc (max b v0.top))=true
    ·rw[if_pos h3]at H
     cases h5:DA (JB (List.length s.esc) s.esc (max b v0.top)) s.h (JA vs) with
     | none=>rw[h5]at H;exact H.elim
     | some v=>
      rw[h5]at H;exact⟨_,_,_,H.2,by unfold fin;rw[h1];dsimp only;rw[h2];dsimp only;rw[h4];dsimp only;rw[if_pos h3,h5];exact⟨H.1,rfl,rfl,rfl⟩⟩
    ·rw[if_neg h3]at H
     exact⟨_,_,_,H,by unfold fin;rw[h1];dsimp only;rw[h2];dsimp only;rw[h4];dsimp only;rw[if_neg h3];exact⟨rfl,rfl,rfl⟩⟩
def Ctx.NoNext (X:Ctx):Prop:=∀f F,X.fn f=some F→(F.isDet||F.body.noNext)=true
theorem z2s (hD:D.Mono)(hC:Dt C D){F:AFun}{a:List AV}{h:aA}{K:kA}(hb:F.body.noNext=true)(H:DB C gl F a h K):∃v h' x,K v h' x∧DB D gl F a h fun v1 h1 x1=>v1=v∧h1=h'∧x1=x:=by
 unfold DB at H ⊢;cases hp:(if F.byref then some (a,h) else yA h a) with
 | none=>rw[hp]at H;exact H.elim
 | some q=>
  obtain⟨asv,h1⟩:=q;rw[hp]at H;obtain⟨hl,H⟩:=H;obtain⟨e,s',k1,g1⟩:=ND hD hC _ hb _ _ H;have mono:=fun(K K':Ex→St→Prop) (hK:∀e s,K e s→K' e s)=>QB (C:=D) (C':=D) (gl:=gl) (fun f a h K K' hK h=>hD _ _ _ _ _ hK h) F.body ⟨enter asv,h1,[]⟩ K K' hK
  cases e with
  | exit i=>exact k1.elim
  | normal=>
   obtain⟨v,h',x,k2,g2⟩:=NU k1;exact⟨v,h',x,k2,hl,mono _ _ (fun e1 s1 ⟨a1,a2⟩=>by subst a1;subst a2;exact g2) g1⟩
  | ret=>
   obtain⟨v,h',x,k2,g2⟩:=NU k1;exact⟨v,h',x,k2,hl,mono _ _ (fun e1 s1 ⟨a1,a2⟩=>by subst a1;subst a2;exact g2) g1⟩
theorem NX {X:Ctx}(hX:X.NoNext):Dt (gA X) (gA X):=by
 intro f a h K H;refine H (fun f a h K=>∃v h' x,K v h' x∧gA X f a h fun v1 h1 x1=>v1=v∧h1=h'∧x1=x) ?_ ?_
 ·intro f a h K K' hK ⟨v,h',x,k,g⟩
  exact⟨v,h',x,hK _ _ _ k,g⟩
 ·intro f a h K H
  have hC:Dt (fun f a h K=>∃v h' x,K v h' x∧gA X f a h fun v1 h1 x1=>v1=v∧h1=h'∧x1=x) (gA X):=fun f a h K H=>H
  have hD:=gA.mono X
  unfold nB at H;split at H
  ·rename_i F hF
   unfold uC at H;cases hd:F.isDet with
   | true=>
    rw[hd]at H;obtain⟨v,h',x,k,H⟩:=H;refine⟨v,h',x,k,gA.fold ?_⟩;unfold nB;simp only[hF,uC,hd];exact⟨v,h',x,⟨rfl,rfl,rfl⟩,wJ (fun f a h K K' hK ⟨v2,h2,x2,k2,g2⟩=>hD _ _ _ _ _ (fun v1 h1 x1 hv=>by obtain⟨rfl,rfl,rfl⟩:=hv;exact hK _ _ _ k2) g2) (fun _ _ _ h=>h) H⟩
   | false=>
    rw[hd]at H;obtain⟨v,h',x,k1,g1⟩:=z2s hD hC (by have:=hX f F hF;rw[hd]at this;simpa using this) H
    refine⟨v,h',x,k1,gA.fold ?_⟩;unfold nB;simp only[hF,uC,hd]
    exact g1
  ·rename_i hF
   split at H
   ·rename_i hx2
    refine⟨_,_,_,H,gA.fold ?_⟩;unfold nB;simp only[hF,hx2]
    exact⟨trivial,trivial,trivial⟩
   ·rename_i hx2
    split at H
    ·rename_i hp
     split at H
     ·rename_i hu
      split at H
      ·rename_i hx
       refine⟨_,_,_,H,gA.fold ?_⟩;unfold nB;simp only[hF,hx2,hp,hu,hx]
       exact⟨trivial,trivial,trivial⟩
      ·exact H.elim
     ·exact H.elim
    ·exact H.elim
theorem gA.one {X:Ctx}(hX:X.NoNext){f:Nat}{a:List AV}{h:aA}{Q:kA}(H:gA X f a h Q):∃v h' x,Q v h' x∧∀K:kA,gA X f a h K=K v h' x:=by
 obtain⟨v,h',x,k,g⟩:=NX hX _ _ _ _ H;exact⟨v,h',x,k,fun K=>cB g⟩
end Go.Am
end
section
/- The abstract machine,part 29: its meaning once more,spelt so that a function's code can be printed asv a formula over its values (shallow),equal tov the deep one by computing. -/
set_option linter.unusedSimpArgs false
set_option linter.unusedVariables false
namespace Go.Am
def pK (o:Option AV)(k:AV→Prop):Prop:=match o with
 | some v=>k v
 | none=>False
def wK (o:Option (AV × aA × Esc))(k:AV→aA→Esc→Prop):Prop:=match o with
 | some y=>k y.1 y.2.1 y.2.2
 | none=>False
def QA (c a b:AV):Option AV:=match c with
 | .p (.bool t)=>some (bif t then a else b)
 | _=>none
def iB (x:AV)(h:aA):Option (AV×aA×Esc):=match x.cells with
 | some cs=>some (.ref h.length 0,h++[.box cs],[])
 | none=>none
def YH:List (Nat × Nat × AV)→List AV→Option (List AV)
 | [],cs=>some cs
 | (off,n,x)::r,cs=>match x.cells with
  | some vs=>if vs.length=n∧off+n≤cs.length then YH r (splice cs off vs) else none
  | none=>none
def WA (z:List AV)(ps:List (Nat × Nat × AV)):Option AV:=(YH ps z).map mkA
def ZH (sh:Sh):List (Nat×AV)→aA→List PV→Option (List PV×aA)
 | [],h,xs=>some (xs,h)
 | (i,x)::r,h,xs=>match pur h x with
  | some (v,h')=>if v.shp sh∧i<xs.length then ZH sh r h' (xs.set i v) else none
  | none=>none
def wB (own:Bool)(sh:Sh)(n:Nat)(z:PV)(ps:List (Nat × AV))(h:aA):Option (AV×aA×Esc):=match ZH sh ps h (List.replicate n z) with
 | some (xs,h')=>if !z.shp sh then none else some (bif own then(.own h'.length n 0 n,h'++[.row sh xs 0],[]) else(.p (.sl sh xs),h',[]))
 | none=>none
def jA (sh:Sh)(a:AV)(h:aA):Option AV:=match a with
 | .ref id off=>match h[id]? with
  | some (.box cs)=>cut sh off cs
  | _=>none
 | .rref id g i off=>match h[id]? with
  | some (.row _ xs _)=>if g=xs.length then((xs[i]?).bind (IA sh off)).map .p else none
  | _=>none
 | .vp v=>(IA sh 0 v).map .p
 | .bt k off id g=>ldA sh k off id g h
 | _=>none
def XA (sh:Sh)(a x:AV)(h:aA):Option (AV×aA×Esc):=match a with
 | .ref id off=>match h[id]?,x.cells with
  | some (.box cs),some vs=>if vs.length=cA sh∧off+vs.length≤cs.length then some (.und,h.set id (.box (splice cs off vs)),DC id cs x) else none
  | _,_=>none
 | .rref id g i off=>match pur h x with
  | some (v,h1)=>match h1[id]? with
   | some (.row rsh xs fz)=>if g=xs.length∧fz≤i∧v.cells.length=cA sh∧v.cells.all PV.sc then match xs[i]? with
    | some (.agg cs)=>if off+v.cells.length≤cs.length then some (.und,h1.set id (.row rsh (xs.set i (.agg (splice cs off v.cells))) fz),[]) else none
    | some _=>if off=0∧v.sc then some (.und,h1.set id (.row rsh (xs.set i v) fz),[]) else none
    | none=>none
    else none
   | _=>none
  | none=>none
 | .bt k off id g=>stA sh k off id g x h
 | _=>none
def lC (x:AV):Option AV:=match x with
 | .ref _ _ | .rref _ _ _ _ | .vp _ | .fn _ _=>some x
 | .bt k _ _ _=>nlA k x
 | _=>none
def eA (op:BinOp)(x y:AV):Option AV:=match x,y with
 | .p a,.p b=>(VA op a b).map .p
 | _,_=>none
def iI (ks:List Nat)(neg:Bool)(x y:AV):Option AV:=match x,y with
 | .p (.agg asv),.p (.agg bs)=>if asv.map PV.kind=ks∧bs.map PV.kind=ks∧ks≠[] then(eqs asv bs).map fun t=>pbool (bif neg then !t else t) else none
 | .p (.bool a),.p (.bool b)=>if ks=[] then some (pbool (bif neg then !decide (a=b) else decide (a=b))) else none
 | _,_=>none
def iO (k:Nat)(neg:Bool)(x:AV):Option AV:=bif LE k x then some .anyb else(gI k x).map fun r=>pbool (bif neg then !r else r)
def XV (x:AV):Option AV:=if NE x then some .ifc else none
def oUn (op:UnOp)(x:AV):Option AV:=match x with
 | .p a=>(aun op a).map .p
 | _=>none
def jE (c:Cv)(x:AV)(h:aA):Option (AV×aA×Esc):=(tD h c x).map fun y=>(y.1,y.2,[])
def ED (k:IntKind)(x:AV):Option AV:=match x with
 | .p (.int _ n)=>some (.p (.int k (k.wrap n)))
 | _=>none
def lO (sh:Sh)(z:PV)(len cap:AV)(h:aA):Option (AV×aA×Esc):=match OA len,OA cap with
 | some n,some m=>if n≤m∧m≤oB∧z.shp sh then some (.own h.length n 0 n,h++[.row sh (List.replicate n z) 0],[]) else none
 | _,_=>none
def oC (d:Nat):Option AV→Option Nat
 | none=>some d
 | some x=>OA x
def mO (x:AV)(lo hi:Option AV):Option AV:=match x with
 | .p (.str s)=>match oC 0 lo,oC s.length hi with
  | some l,some r=>if l≤r∧r≤s.length then some (.p (.str (win s l (r-l)))) else none
  | _,_=>none
 | _=>none
def YC (sh:Sh)(x:AV)(lo hi mx:Option AV)(h:aA):Option AV:=match x with
 | .p (.sl sh' xs)=>match oC 0 lo,oC xs.length hi,oC xs.length mx with
  | some l,some r,some m=>if sh'=sh∧l≤r∧r≤m∧m≤xs.length then some (if mx.isSome∧m=l then .sl0 sh else .p (.sl sh (win xs l (r-l)))) else none
  | _,_,_=>none
 | .sl0 sh'=>match oC 0 lo,oC 0 hi,oC 0 mx with
  | some l,some r,some m=>if l=0∧r=0∧m=0 then some (.sl0 sh') else none
  | _,_,_=>none
 | .own id g off len=>match h[id]? with
  | some (.row rsh xs _)=>match oC 0 lo,oC len hi,oC len mx with
   | some l,some r,some m=>if rsh=sh∧g=xs.length∧off+len≤xs.length∧l≤r∧r≤m∧m≤len then some (if mx.isSome∧m=l then .sl0 sh else .own id g (off+l) (r-l)) else none
   | _,_,_=>none
  | _=>none
 | _=>none
def nA (off:Nat)(sh:Sh)(x:AV):Option AV:=match x with
 | .ref id o=>some (.ref id (o+off))
 | .rref id g i o=>some (.rref id g i (o+off))
 | .vp v=>(IA sh off v).map .vp
 | .bt k o id g=>faA k off o id g
 | _=>none
def zK (off:Nat)(sh:Sh)(x:AV):Option AV:=match x with
 | .p v=>match v with
  | .agg _=>(IA sh off v).map .p
  | _=>none
 | .agg cs=>cut sh off cs
 | _=>none
def sA (sh:Sh)(x i:AV)(h:aA):Option AV:=match x,OA i with
 | .p (.sl sh' xs),some k=>if sh'=sh then(xs[k]?).map .vp else none
 | .own id g off len,some k=>match h[id]? with
  | some (.row rsh xs _)=>if rsh=sh∧g=xs.length∧off+len≤xs.length∧k<len then some (.rref id g (off+k) 0) else none
  | _=>none
 | .bt kk _ id g,some k=>iaA sh kk id g k h
 | _,_=>none
def jI (n:Nat)(sh:Sh)(x i:AV):Option AV:=match x,OA i with
 | .ref id o,some k=>if k<n then some (.ref id (o+k*cA sh)) else none
 | .rref id g j o,some k=>if k<n then some (.rref id g j (o+k*cA sh)) else none
 | .vp v,some k=>if k<n then(IA sh (k*cA sh) v).map .vp else none
 | _,_=>none
def gO (n:Nat)(sh:Sh)(x i:AV):Option AV:=match x,OA i with
 | .p (.agg cs),some k=>if k<n then(IA sh (k*cA sh) (.agg cs)).map .p else none
 | _,_=>none
def FD (x i:AV):Option AV:=match x,OA i with
 | .p (.str s),some k=>(s[k]?).map fun b=>.p (.int .u8 b.toNat)
 | _,_=>none
def xB (x:AV)(i:Nat):Option AV:=match x with
 | .tup vs=>vs[i]?
 | _=>none
def zA (x:AV):Option AV:=match x with
 | .p (.sl _ xs)=>some (pint xs.length)
 | .sl0 _=>some (pint 0)
 | .own _ _ _ len=>some (pint len)
 | .bt k _ _ g=>lnA k g
 | _=>none
def XC (x:AV):Option AV:=match x with
 | .p (.str s)=>some (pint s.length)
 | _=>none
def HF (sh:Sh)(s x:AV)(h:aA):Option (AV×aA×Esc):=match rds h x with
 | some (sh',ys)=>if sh'=sh then match s with
  | .sl0 _=>if ys.length≤oB then some (.own h.length ys.length 0 ys.length,h++[.row sh ys 0],[]) else none
  | .own id g off len=>match h[id]? with
   | some (.row rsh xs fz)=>if rsh=sh∧g=xs.length∧off=0∧len=xs.length∧len+ys.length≤oB∧fz≤xs.length then some (.own id (g+ys.length) off (len+ys.length),h.set id (.row sh (xs++ys) fz),[])
    else if rsh=sh∧g=xs.length∧off+len+ys.length≤xs.length∧fz≤off+len∧1≤ys.length∧len+ys.length≤oB∧sh=none∧xs.all PV.intP=true∧ys.all PV.intP=true then
     some (.p (.sl sh (win xs off len++ys)),h.set id (.row sh (splice xs (off+len) (List.replicate ys.length .unk)) (off+len+ys.length)),[])
    else none
   | _=>none
  | _=>none
  else none
 | none=>none
def TV (sh:Sh)(d s:AV)(h:aA):Option (AV×aA×Esc):=match d,rds h s with
 | .own id g off len,some (sh',ys)=>match h[id]? with
  | some (.row rsh xs fz)=>if rsh=sh∧sh'=sh∧g=xs.length∧off+len≤xs.length∧fz≤off then
   some (pint (min ys.length len),h.set id (.row sh (splice xs off (ys.take (min ys.length len))) fz),[])
   else none
  | _=>none
 | _,_=>none
def oClr (sh:Sh)(z:PV)(x:AV)(h:aA):Option (AV×aA×Esc):=match x with
 | .sl0 _=>some (.tup [],h,[])
 | .own id g off len=>match h[id]? with
  | some (.row rsh xs fz)=>if rsh=sh∧g=xs.length∧off+len≤xs.length∧fz≤off then
   some (.tup [],h.set id (.row sh (splice xs off (List.replicate len z)) fz),[])
   else none
  | _=>none
 | _=>none
def oMx (xs:List AV):Option AV:=match xs with
 | .p a::r=>((unp r).bind fun l=>l.foldlM EH a).map .p
 | _=>none
def oMn (xs:List AV):Option AV:=match xs with
 | .p a::r=>((unp r).bind fun l=>l.foldlM FH a).map .p
 | _=>none
def yB (kk:Sh × List Nat)(ok:Bool)(z x k:AV)(h:aA):Option AV:=match UB kk k with
 | some key=>match (match x with | .nilm=>some []|m=>(qB h m).map fun y=>y.2.1) with
  | some es=>match tB key es with
   | some r=>
    let v:=((r.bind (es[·]?)).map ME.val)
    some (bif ok then .tup [v.getD z,pbool v.isSome] else v.getD z)
   | none=>none
  | none=>none
 | none=>none
def gC (kk:Sh × List Nat)(m k x:AV)(h:aA):Option (AV×aA×Esc):=match UB kk k,qB h m,NE x with
 | some key,some (id,es,c),true=>match tB key es with
  | some (some i)=>some (.und,h.set id (.amap (es.modify i fun e=>{ e with val:=x }) c),TB id x)
  | some none=>some (.und,h.set id (.amap (es++[⟨key,x,c⟩]) (c+1)),TB id x)
  | none=>none
 | _,_,_=>none
def WV (kk:Sh × List Nat)(z m k:AV)(h:aA):Option (AV×aA×Esc):=match UB kk k,qB h m with
 | some key,some (id,es,c)=>match tB key es with
  | some (some i)=>(es[i]?).map fun e=>(.tup [e.val,pint e.born],h,[])
  | some none=>some (.tup [z,pint c],h.set id (.amap (es++[⟨key,z,c⟩]) (c+1)),[])
  | none=>none
 | _,_=>none
def UV (m s x:AV)(h:aA):Option (AV×aA×Esc):=match qB h m,OA s,NE x with
 | some (id,es,c),some b,true=>match es.findIdx? (fun e=>e.born==b) with
  | some i=>some (.und,h.set id (.amap (es.modify i fun e=>{ e with val:=x }) c),TB id x)
  | none=>none
 | _,_,_=>none
def VV (kk:Sh × List Nat)(m k:AV)(h:aA):Option (AV×aA×Esc):=match UB kk k,qB h m with
 | some key,some (id,es,c)=>match tB key es with
  | some (some i)=>some (.und,h.set id (.amap (es.eraseIdx i) c),[])
  | some none=>some (.und,h,[])
  | none=>none
 | _,_=>none
def jO (x:AV)(h:aA):Option AV:=match x with
 | .nilm=>some (pint 0)
 | .mp id=>(qB h (.mp id)).map fun y=>pint y.2.1.length
 | _=>none
def BK (x:AV)(h:aA):Option (AV×aA×Esc):=match qB h x with
 | some (id,_,c)=>some (.it h.length,h++[.iter (some id) c [] c],[])
 | none=>match x with
  | .nilm=>some (.it h.length,h++[.iter none 0 [] 0],[])
  | _=>none
def AK (i:AV)(h:aA):Option (AV×aA×Esc):=match i with
 | .it id=>match h[id]? with
  | some (.iter (some m) _ seen last)=>match qB h (.mp m),seen.getLast? with
   | some (_,es,c),some b=>if c=last then(es.find? (fun e=>e.born==b)).map fun e=>(.tup [.p e.key,e.val],h,[]) else none
   | _,_=>none
  | _=>none
 | _=>none
def alK (z:List AV)(h:aA)(k:AV→aA→Esc→Prop):Prop:=k (.ref h.length 0) (h++[.box z]) []
def nwK (sh:Sh)(h:aA)(k:AV→aA→Esc→Prop):Prop:=k (.own h.length 0 0 0) (h++[.row sh [] 0]) []
def mmK (h:aA)(k:AV→aA→Esc→Prop):Prop:=k (.mp h.length) (h++[.amap [] 0]) []
def ev3 (ev:Opd→AV):List (Nat×Nat×Opd)→List (Nat×Nat×AV)
 | []=>[]
 | (a,b,x)::r=>(a,b,ev x)::ev3 ev r
def ev2 (ev:Opd→AV):List (Nat×Opd)→List (Nat×AV)
 | []=>[]
 | (a,x)::r=>(a,ev x)::ev2 ev r
def evO (ev:Opd→AV):Option Opd→Option AV
 | none=>none
 | some x=>some (ev x)
def ev1 (ev:Opd→AV):List Opd→List AV
 | []=>[]
 | x::r=>ev x::ev1 ev r
def opN (o:AO)(ev:Opd→AV)(h:aA)(k:AV→aA→Esc→Prop):Prop:=match o with
 | .mv x=>k (ev x) h []
 | .pick c a b=>pK (QA (ev c) (ev a) (ev b)) fun v=>k v h []
 | .alloc z=>alK z h k
 | .box x=>wK (iB (ev x) h) k
 | .build z ps=>pK (WA z (ev3 ev ps)) fun v=>k v h []
 | .bsl own sh n z ps=>wK (wB own sh n z (ev2 ev ps) h) k
 | .load sh a=>pK (jA sh (ev a) h) fun v=>k v h []
 | .store sh a x=>wK (XA sh (ev a) (ev x) h) k
 | .nilchk x=>pK (lC (ev x)) fun v=>k v h []
 | .bin op x y=>pK (eA op (ev x) (ev y)) fun v=>k v h []
 | .eqa ks neg x y=>pK (iI ks neg (ev x) (ev y)) fun v=>k v h []
 | .isnil n neg x=>pK (iO n neg (ev x)) fun v=>k v h []
 | .mkif x=>pK (XV (ev x)) fun v=>k v h []
 | .un op x=>pK (oUn op (ev x)) fun v=>k v h []
 | .conv (.i c) x=>pK (ED c (ev x)) fun v=>k v h []
 | .mkfn f caps=>k (.fn f (ev1 ev caps)) h []
 | .slice sh x lo hi mx=>pK (YC sh (ev x) (evO ev lo) (evO ev hi) (evO ev mx) h) fun v=>k v h []
 | .slstr x lo hi=>pK (mO (ev x) (evO ev lo) (evO ev hi)) fun v=>k v h []
 | .mksl sh z len cap=>wK (lO sh z (ev len) (ev cap) h) k
 | .faddr off sh x=>pK (nA off sh (ev x)) fun v=>k v h []
 | .field off sh x=>pK (zK off sh (ev x)) fun v=>k v h []
 | .iaddr sh x i=>pK (sA sh (ev x) (ev i) h) fun v=>k v h []
 | .iaddra n sh x i=>pK (jI n sh (ev x) (ev i)) fun v=>k v h []
 | .idxa n sh x i=>pK (gO n sh (ev x) (ev i)) fun v=>k v h []
 | .idxs x i=>pK (FD (ev x) (ev i)) fun v=>k v h []
 | .ext x i=>pK (xB (ev x) i) fun v=>k v h []
 | .len x=>pK (zA (ev x)) fun v=>k v h []
 | .lens x=>pK (XC (ev x)) fun v=>k v h []
 | .app sh s x=>wK (HF sh (ev s) (ev x) h) k
 | .copy sh d s=>wK (TV sh (ev d) (ev s) h) k
 | .uns m t xs=>wK (OF m t (ev1 ev xs) h) k
 | .clr sh z x=>wK (oClr sh z (ev x) h) k
 | .mx xs=>pK (oMx (ev1 ev xs)) fun v=>k v h []
 | .mn xs=>pK (oMn (ev1 ev xs)) fun v=>k v h []
 | .new0 sh=>nwK sh h k
 | .conv .s2b x=>wK (jE .s2b (ev x) h) k
 | .conv .b2s x=>wK (jE .b2s (ev x) h) k
 | .conv .r2s x=>wK (jE .r2s (ev x) h) k
 | .conv .same x=>wK (jE .same (ev x) h) k
 | .mkmap=>mmK h k
 | .look kk ok z x key=>pK (yB kk ok z (ev x) (ev key) h) fun v=>k v h []
 | .mupd kk m key x=>wK (gC kk (ev m) (ev key) (ev x) h) k
 | .ment kk z m key=>wK (WV kk z (ev m) (ev key) h) k
 | .estore m s x=>wK (UV (ev m) (ev s) (ev x) h) k
 | .mdel kk m key=>wK (VV kk (ev m) (ev key) h) k
 | .lenm x=>pK (jO (ev x) h) fun v=>k v h []
 | .mrange x=>wK (BK (ev x) h) k
 | .mentry i=>wK (AK (ev i) h) k
 | .call _ _ | .callv _ _ | .mnext _ _=>False
theorem AX {o:Option (AV × aA × Esc)}{k:AV→aA→Esc→Prop}:oA o k=wK o k:=rfl
theorem ID {o:Option AV}{h:aA}{k:AV→aA→Esc→Prop}:wK (o.map fun v=>(v,h,[])) k=pK o fun v=>k v h []:=by cases o <;> rfl
theorem IU (ev:Opd→AV):∀(ps:List (Nat×Nat×Opd)) (z:List AV),eE ev ps z=YH (ev3 ev ps) z
 | [],z=>rfl
 | (off,n,x)::r,z=>by
  simp only[eE,ev3,YH];cases (ev x).cells with
  | none=>rfl
  | some vs=>simp only[IU ev r]
theorem JU (ev:Opd→AV)(sh:Sh):∀(ps:List (Nat×Opd)) (h:aA) (z:List PV),fE ev sh ps h z=ZH sh (ev2 ev ps) h z
 | [],h,z=>rfl
 | (i,x)::r,h,z=>by
  simp only[fE,ev2,ZH];cases pur h (ev x) with
  | none=>rfl
  | some y=>simp only[JU ev sh r]
theorem lR (ev:Opd→AV)(d:Nat)(o:Option Opd):bnd ev d o=oC d (evO ev o):=by cases o <;> rfl
theorem z7I (ev:Opd→AV)(o:Option Opd):(evO ev o).isSome=o.isSome:=by cases o <;> rfl
theorem YD (ev:Opd→AV)(l:List Opd):l.map ev=ev1 ev l:=by
 induction l with
 | nil=>rfl
 | cons x r ih=>simp only[List.map_cons,ev1,ih]
theorem z2D (sh:Sh)(ev:Opd→AV)(h:aA)(x:AV)(lo hi mx:Option Opd):asl sh ev h x lo hi mx=YC sh x (evO ev lo) (evO ev hi) (evO ev mx) h:=by
 unfold asl YC;simp only[lR,z7I];rfl
theorem xH {p:Prop}[Decidable p]{a:AV}{h:aA}{k:AV→aA→Esc→Prop}:wK (if p then some (a,h,[]) else none) k=pK (if p then some a else none) fun v=>k v h []:=by split <;> rfl
theorem sD {α:Type}{o:Option α}{f:α→AV}{h:aA}{k:AV→aA→Esc→Prop}:wK (o.map fun v=>(f v,h,[])) k=pK (o.map f) fun v=>k v h []:=by cases o <;> rfl
theorem YI {α:Type}{p:Prop}[Decidable p]{o:Option α}{f:α→AV}{h:aA}{k:AV→aA→Esc→Prop}:wK (if p then o.map (fun v=>(f v,h,[])) else none) k=pK (if p then o.map f else none) fun v=>k v h []:=by
 split
 ·exact sD
 ·rfl
theorem aW {o:AO}(hp:o.plain=true){ev:Opd→AV}{h:aA}{k:AV→aA→Esc→Prop}:oA (aop o ev h) k=opN o ev h k:=by
 rw[AX];cases o <;> first|(cases hp;done)|skip
 case mv=>rfl
 case pick c a b=>
  simp only[aop,opN,QA];generalize ev c=v;cases v <;> try rfl
  rename_i p;cases p <;> rfl
 case alloc=>rfl
 case box=>rfl
 case build z ps=>simp only[aop,opN];rw[←ID,WA,IU,Option.map_map];rfl
 case bsl=>simp only[aop,opN,wB,JU];rfl
 case load sh a=>
  simp only[aop,opN,jA];generalize ev a=v;cases v with
  | ref id off=>dsimp only;cases h[id]? with
   | none=>rfl
   | some o=>cases o <;> first|rfl|exact ID
  | rref id g i off=>dsimp only;cases h[id]? with
   | none=>rfl
   | some o=>cases o <;> first|rfl|exact YI
  | vp v=>exact sD
  | p v=>cases v <;> rfl
  | bt _ _ _ _=>exact ID
  | _=>rfl
 case store=>simp only[aop,opN];rfl
 case nilchk x=>
  simp only[aop,opN,lC];generalize ev x=v;cases v <;> try rfl
  exact ID
 case bin op x y=>
  simp only[aop,opN,eA];generalize ev x=v;generalize ev y=u;cases v <;> try rfl
  cases u <;> try rfl
  exact sD
 case eqa ks neg x y=>
  simp only[aop,opN,iI];generalize ev x=v;generalize ev y=u;cases v <;> try rfl
  rename_i p;cases p <;> try rfl
  all_goals (cases u <;> try rfl)
  all_goals (rename_i q;cases q <;> try rfl)
  ·exact xH
  ·exact YI
 case isnil k neg p=>
  simp only[aop,opN,iO];cases LE k (ev p) with
  | true=>rfl
  | false=>exact sD
 case mkif=>exact xH
 case un op x=>
  simp only[aop,opN,oUn];generalize ev x=v;cases v <;> try rfl
  exact sD
 case conv c x=>
  cases c;case i k'=>
   simp only[aop,opN,ED,tD];generalize ev x=v;cases v <;> try rfl
   rename_i p;cases p <;> rfl
  all_goals rfl
 case mkfn f caps=>simp only[aop,opN,YD];rfl
 case slice=>simp only[aop,opN,z2D];exact ID
 case slstr x lo hi=>
  simp only[aop,opN,mO,lR];generalize ev x=v;cases v <;> try rfl
  rename_i p;cases p <;> try rfl
  rename_i s;dsimp only;generalize oC 0 _=o1;generalize oC s.length _=o2;cases o1 <;> try rfl
  cases o2 <;> try rfl
  exact xH
 case mksl=>simp only[aop,opN];rfl
 case faddr off sh x=>
  simp only[aop,opN,nA];generalize ev x=v;cases v <;> try rfl
  ·exact sD
  ·exact ID
 case field off sh x=>
  simp only[aop,opN,zK];generalize ev x=v;cases v <;> try rfl
  ·rename_i p;cases p <;> try rfl
   exact sD
  ·exact ID
 case iaddr sh x i=>
  simp only[aop,opN,sA];generalize ev x=v;generalize OA (ev i)=n;cases v <;> try rfl
  ·rename_i p;cases p <;> try rfl
   cases n <;> try rfl
   exact YI
  ·cases n <;> try rfl
   rename_i id g off len k;dsimp only;cases h[id]? with
   | none=>rfl
   | some o=>cases o <;> first|rfl|exact xH
  ·cases n <;> try rfl
   exact ID
 case iaddra m sh x i=>
  simp only[aop,opN,jI];generalize ev x=v;generalize OA (ev i)=n;cases v <;> try rfl
  all_goals (cases n <;> try rfl)
  ·exact xH
  ·exact xH
  ·exact YI
 case idxa m sh x i=>
  simp only[aop,opN,gO];generalize ev x=v;generalize OA (ev i)=n;cases v <;> try rfl
  rename_i p;cases p <;> try rfl
  cases n <;> try rfl
  exact YI
 case idxs x i=>
  simp only[aop,opN,FD];generalize ev x=v;generalize OA (ev i)=n;cases v <;> try rfl
  rename_i p;cases p <;> try rfl
  cases n <;> try rfl
  exact sD
 case ext x i=>
  simp only[aop,opN,xB];generalize ev x=v;cases v <;> try rfl
  exact ID
 case len x=>
  simp only[aop,opN,zA];generalize ev x=v;cases v <;> try rfl
  ·rename_i p;cases p <;> rfl
  ·exact ID
 case lens x=>
  simp only[aop,opN,XC];generalize ev x=v;cases v <;> try rfl
  rename_i p;cases p <;> rfl
 case app=>simp only[aop,opN];rfl
 case copy=>simp only[aop,opN];rfl
 case uns=>simp only[aop,opN,YD,AX]
 case clr=>simp only[aop,opN];rfl
 case mx xs=>
  simp only[aop,opN,YD,oMx];generalize ev1 ev xs=l;cases l <;> try rfl
  rename_i v r;cases v <;> try rfl
  exact sD
 case mn xs=>
  simp only[aop,opN,YD,oMn];generalize ev1 ev xs=l;cases l <;> try rfl
  rename_i v r;cases v <;> try rfl
  exact sD
 case new0=>rfl
 case look kk ok z x key=>
  simp only[aop,opN,yB];cases UB kk (ev key) <;> try rfl
  rename_i kk;generalize ev x=v;cases v <;> try rfl
  rename_i id;dsimp only;cases qB h (.mp id) <;> try rfl
  rename_i y;dsimp only[Option.map_some];cases tB kk y.2.1 <;> rfl
 case lenm x=>
  simp only[aop,opN,jO];generalize ev x=v;cases v <;> try rfl
  exact sD
 all_goals rfl
end Go.Am
end
section
/- The abstract machine,part 30: the meaning of code in the new spelling,and that it is the old one. -/
set_option linter.unusedSimpArgs false
set_option linter.unusedVariables false
namespace Go.Am
def gV (v:AV)(b:Bool)(h:aA)(A:(AV→aA→Esc→Prop)→Prop)(k:AV→aA→Esc→Prop):Prop:=FB v b (A k) (k .skp h [])
def gP (v:AV)(b:Bool)(o:Option AV)(h:aA)(k:AV→aA→Esc→Prop):Prop:=gV v b h (fun k=>pK o fun u=>k u h []) k
def gM (v:AV)(b:Bool)(u:AV)(h:aA)(k:AV→aA→Esc→Prop):Prop:=gV v b h (fun k=>k u h []) k
def upB (b:Bool):Bool:=(fun(_:AV→Bool→Option AV→aA→(AV→aA→Esc→Prop)→Prop)=>b) gP
def gK (g:Option (Nat × Bool))(e:List (Nat × AV))(h:aA)(A:(AV→aA→Esc→Prop)→Prop)(k:AV→aA→Esc→Prop):Prop:=match g with
 | none=>A k
 | some (t,b)=>gV (bA e t) b h A k
def opC (C:Hd)(o:AO)(ev:Opd→AV)(h:aA)(k:AV→aA→Esc→Prop):Prop:=match o with
 | .call f args=>C f (ev1 ev args) h k
 | .callv f args=>pC C (ev f) (ev1 ev args) h k
 | .mnext sh xs=>match mF h sh (ev1 ev xs) with
  | some l=>l≠[]∧∀y∈l,k y.1 y.2 []
  | none=>False
 | o=>opN o ev h k
def CH (C:Hd)(gl:Nat→Option PV):List AOp→List (Nat×AV)→aA→Esc→(List (Nat×AV)→aA→Esc→Prop)→Prop
 | [],e,h,x,L=>L e h x
 | o::r,e,h,x,L=>gK o.guard e h (opC C o.op (Opd.ev gl e) h) fun v h' x'=>CH C gl r (put o.dst v e) h' (x'++x) L
variable {C:Hd} {gl:Nat→Option PV}
theorem YV {o:AO}{d:Option Nat}{r:List AOp}{e:List (Nat × AV)}{h:aA}{x:Esc}{L:List (Nat × AV)→aA→Esc→Prop} :
 qA C gl (⟨d,none,o⟩::r) e h x L=opC C o (Opd.ev gl e) h (EA C gl r d e x L):=by
 cases hp:o.plain with
 | true=>
  rw[LA hp,aW hp];cases o <;> first|rfl|cases hp
 | false=>
  cases o <;> first|(cases hp;done)|skip
  all_goals first
   | (rw[IP,YD];rfl)
   | (rw[JP,YD];rfl)
   | (unfold qA opC;simp only[wanted,YD];rfl)
theorem PP:∀ (ops:List AOp)(e:List (Nat × AV))(h:aA)(x:Esc)(L:List (Nat × AV)→aA→Esc→Prop),qA C gl ops e h x L=CH C gl ops e h x L
 | [],e,h,x,L=>rfl
 | ⟨d,g,o⟩::r,e,h,x,L=>by
  have ih:(fun(v:AV) (h':aA) (x':Esc)=>CH C gl r (put d v e) h' (x'++x) L)=EA C gl r d e x L:=by
   funext v h' x';rw[←PP r];rfl
  show _=gK g e h (opC C o (Opd.ev gl e) h) fun v h' x'=>CH C gl r (put d v e) h' (x'++x) L
  rw[ih];cases g with
  | none=>exact YV
  | some tb=>
   obtain⟨t,b⟩:=tb;rw[LP,YV];rfl
def opE (C:Hd)(o:AO)(ev:Opd→AV)(h:aA)(k:AV→aA→Esc→Prop):Prop:=match o with
 | .call f args=>MB C f (ev1 ev args) h k
 | .callv f args=>WF C (ev f) (ev1 ev args) h k
 | .mnext _ _=>False
 | o=>opN o ev h k
def effN (still eff:Bool)(h h':aA)(y:Esc)(Q:Prop):Prop:=match upB eff with
 | true=>Q
 | false=>match still with
  | true=>Q
  | false=>(h'=h∧y=[])∧Q
def mP (C:Hd)(gl:Nat→Option PV)(q:AOp × List (Nat × AV) × AV)(g:aA):Prop:=
 gK q.1.guard q.2.1 g (opE C q.1.op (Opd.ev gl q.2.1) g) fun v1 h1 x1=>v1=q.2.2∧h1=g∧x1=[]
def rE (C:Hd)(gl:Nat→Option PV)(h:aA)(dn:RB)(Q:Prop):List Nat→Prop
 | []=>Q
 | j::r=>(match dn[j]? with|some q=>mP C gl q h|none=>False)∧rE C gl h dn Q r
def zE (C:Hd)(gl:Nat→Option PV)(o:AOp)(e:List (Nat × AV))(v:AV)(hs:List aA)(Q:Prop):List Nat→Prop
 | []=>Q
 | k::r=>(match hs[k]? with|some g=>mP C gl (o,e,v) g|none=>False)∧zE C gl o e v hs Q r
def QF (C:Hd)(gl:Nat→Option PV):List DOp→RB→List aA→List (Nat×AV)→aA→Esc→(List (Nat×AV)→aA→Esc→Prop)→Prop
 | [],_,_,e,h,x,L=>L e h x
 | o::r,dn,hs,e,h,x,L=>gK o.op.guard (AA (some o.rd) e) h (opE C o.op.op (Opd.ev gl (AA (some o.rd) e)) h) fun v h' y=>
  effN o.op.op.still o.eff h h' y (zE C gl o.op (AA (some o.rd) e) v hs (rE C gl h' dn (QF C gl r (dn++[(o.op,AA (some o.rd) e,v)]) (hs++[h]) (put o.op.dst v e) h' (y++x) L) o.again) o.early)
theorem ZV {o:AO}{d:Option Nat}{e:List (Nat × AV)}{h:aA}{R:AV→aA→Esc→Prop}:doK C gl ⟨d,none,o⟩ e h R=opE C o (Opd.ev gl e) h R:=by
 cases hp:o.plain with
 | true=>
  rw[NA hp,aW hp];cases o <;> first|rfl|cases hp
 | false=>
  cases o <;> first|(cases hp;done)|skip
  all_goals first
   | (rw[yT,YD];rfl)
   | (rw[zT,YD];rfl)
   | (unfold doK ADo opE;simp [wanted])
theorem WU {o:AOp}{e:List (Nat × AV)}{h:aA}{R:AV→aA→Esc→Prop}:doK C gl o e h R=gK o.guard e h (opE C o.op (Opd.ev gl e) h) R:=by
 obtain⟨d,g,op⟩:=o;cases g with
 | none=>exact ZV
 | some tb=>
  obtain⟨t,b⟩:=tb;rw[AT,ZV];rfl
theorem VW {q:AOp × List (Nat × AV) × AV}{g:aA}:doS C gl q g=mP C gl q g:=by
 obtain⟨⟨d,gd,op⟩,e,v⟩:=q;rw[BT,WU];rfl
theorem VQ {h:aA}{dn:RB}{Q:Prop}:∀{l:List Nat},rE C gl h dn Q l=(agK C gl h dn l∧Q)
 | []=>by simp [rE,agK]
 | j::r=>by
  unfold rE agK;rw[VQ (l:=r)];cases dn[j]? with
  | none=>simp
  | some q=>simp only[VW,and_assoc]
theorem HT {o:AOp}{e:List (Nat × AV)}{v:AV}{hs:List aA}{Q:Prop}:∀{l:List Nat},zE C gl o e v hs Q l=(eaK C gl o e v hs l∧Q)
 | []=>by simp [zE,eaK]
 | j::r=>by
  unfold zE eaK;rw[HT (l:=r)];cases hs[j]? with
  | none=>simp
  | some q=>simp only[VW,and_assoc]
theorem z5i {o:AOp}(hs:o.op.still=true){e:List (Nat × AV)}{h:aA}{R:AV→aA→Esc→Prop}:doK C gl o e h (fun v h' y=>(h'=h∧y=[])∧R v h' y)=doK C gl o e h R:=by
 unfold doK;refine propext ⟨fun⟨v,h',y,H,_,r⟩=>⟨v,h',y,H,r⟩,fun⟨v,h',y,H,r⟩=>⟨v,h',y,H,RX hs H,r⟩⟩
theorem OP:∀ (ds:List DOp)(dn:RB)(hs:List aA)(e:List (Nat × AV))(h:aA)(x:Esc)(L:List (Nat × AV)→aA→Esc→Prop),BB C gl ds dn hs e h x L=QF C gl ds dn hs e h x L
 | [],dn,hs,e,h,x,L=>rfl
 | ⟨o,rd,eff,early,again⟩::r,dn,hs,e,h,x,L=>by
  rw[EP];show _=gK o.guard (AA (some rd) e) h (opE C o.op (Opd.ev gl (AA (some rd) e)) h) fun v h' y=>
   effN o.op.still eff h h' y (zE C gl o (AA (some rd) e) v hs (rE C gl h' dn (QF C gl r (dn++[(o,AA (some rd) e,v)]) (hs++[h]) (put o.dst v e) h' (y++x) L) again) early)
  rw[←WU];have e1:YJ C gl ⟨o,rd,eff,early,again⟩ r dn hs e h x L=fun v h' y=>(oF eff h h' y∧zE C gl o (AA (some rd) e) v hs (rE C gl h' dn (QF C gl r (dn++[(o,AA (some rd) e,v)]) (hs++[h]) (put o.dst v e) h' (y++x) L) again) early):=by
   funext v h' y
   rw[ET,HT,VQ,←OP r]
  rw[e1];cases eff with
  | true=>
   congr 1;funext v h' y
   simp [oF,effN,upB]
  | false=>
   cases hs':o.op.still with
   | true=>
    have:=z5i (C:=C) (gl:=gl) (o:=o) hs' (e:=AA (some rd) e) (h:=h) (R:=fun v h' y=>zE C gl o (AA (some rd) e) v hs (rE C gl h' dn (QF C gl r (dn++[(o,AA (some rd) e,v)]) (hs++[h]) (put o.dst v e) h' (y++x) L) again) early)
    exact this
   | false=>rfl
def NW (C:Hd)(gl:Nat→Option PV):ACode→St→(Ex→St→Prop)→Prop
 | .skip,s,K=>K .normal s
 | .reg ops keep,s,K=>CH C gl ops s.env s.h s.esc fun e h x=>K .normal ⟨AA keep e,h,x⟩
 | .draw ds keep,s,K=>QF C gl ds [] [] s.env s.h s.esc fun e h x=>K .normal ⟨AA keep e,h,x⟩
 | .seq a b,s,K=>NW C gl a s fun e s'=>match e with
  | .normal=>NW C gl b s' K
  | .exit i=>K (.exit i) s'
  | .ret=>K .ret s'
 | .cond c a b,s,K=>mA (Opd.ev gl s.env c) (NW C gl a s K) (NW C gl b s K)
 | .condu c a b,s,K=>JH (Opd.ev gl s.env c) (NW C gl a s K) (NW C gl b s K)
 | .det b,s,K=>NW C gl b s K
 | .block id b,s,K=>NW C gl b s fun e s'=>match e with
  | .normal=>K .normal s'
  | .exit i=>bif Nat.beq i id then K .normal s' else K (.exit i) s'
  | .ret=>K .ret s'
 | .loop b,s,K=>ALoop (NW C gl b) K s
 | .scope b,s,K=>NW C gl b ⟨s.env,s.h,[]⟩ fun e s'=>K e (MD s.h.length s.esc s')
 | .pr l b,s,K=>NW C gl b ⟨AA (some l) s.env,s.h,s.esc⟩ K
 | .exit id,s,K=>K (.exit id) s
 | .ret,s,K=>K .ret s
 | .bad,_,_=>False
theorem BC:∀ (c:ACode)(s:St)(K:Ex→St→Prop),AW C gl c s K=NW C gl c s K
 | .skip,s,K=>rfl
 | .reg ops keep,s,K=>PP _ _ _ _ _
 | .draw ds keep,s,K=>OP _ _ _ _ _ _ _
 | .seq a b,s,K=>by
  unfold AW NW;rw[BC a];congr 1;funext e s'
  cases e with
  | normal=>exact BC b s' K
  | _=>rfl
 | .cond c a b,s,K=>by
  unfold AW NW mA;rw[←BC a,←BC b];rfl
 | .condu c a b,s,K=>by
  unfold AW NW JH;rw[←BC a,←BC b];rfl
 | .det b,s,K=>BC b s K
 | .block id b,s,K=>by
  unfold AW NW;rw[BC b];congr 1;funext e s'
  cases e with
  | exit i=>
   dsimp only;by_cases hi:i=id
   ·subst hi;simp
   ·rw[if_neg hi]
    have:Nat.beq i id=false:=by cases h:Nat.beq i id with|false=>rfl|true=>exact absurd (Nat.eq_of_beq_eq_true h) hi
    rw[this];rfl
  | _=>rfl
 | .loop b,s,K=>by
  show ALoop (AW C gl b) K s=ALoop (NW C gl b) K s
  rw[show AW C gl b=NW C gl b from funext fun s=>funext fun K=>BC b s K]
 | .scope b,s,K=>BC b _ _
 | .pr l b,s,K=>BC b _ _
 | .exit id,s,K=>rfl
 | .ret,s,K=>rfl
 | .bad,s,K=>rfl
end Go.Am
end
