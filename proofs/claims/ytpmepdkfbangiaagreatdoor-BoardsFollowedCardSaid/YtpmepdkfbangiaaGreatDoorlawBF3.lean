/- Texts of the proof, laid together: Am21, Am22, Am23, Am24, Am25, Am26, Am27, Am28, Am29, Am30, Am31, AmX. -/
import Derived.Below
import Derived.ChangeSlices
import Derived.Carry
import GoSem.Extern.Table
import Derived.Laws.World
import Derived.Test.YtpmepdkfbangiaaGreatDoorlawBF2
set_option linter.all false
section
/- The abstract machine,part 21: code. -/
set_option linter.unusedSimpArgs false
set_option linter.unusedVariables false
set_option maxHeartbeats 1000000
namespace Go.Am
variable {h h':aA} {μ μ':Mu} {w w':World} {P:Program} {M M':Mem}
variable {gl:Nat→Option PV} {nt:Nat} {M0:Mem} {h0:aA} {μ0:Mu} {e:List (Nat × AV)} {x:Esc} {a:Act}
theorem znx (H:HeapRel h μ w){id:Nat}{o:Obj}(ho:h[id]?=some o):o.top≤h.length:=by
 obtain⟨m,hm,hO⟩:=cG H ho;cases o with
 | box cs=>
  obtain⟨b,c,rfl,hb,hc⟩:=hO;exact z3I H hc
 | row sh xs fz=>simp [Obj.top]
 | amap es c=>
  obtain⟨b,n,ces,rfl,h1,h2,_,h3⟩:=hO;refine eJ (fun j y hy=>?_)
  simp only[List.getElem?_map,Option.map_eq_some_iff]at hy;obtain⟨en,he,rfl⟩:=hy;have hj:j<ces.size:=by rw[h2];exact GA he
  exact(h3 j en ces[j] he (Array.getElem?_eq_getElem hj)).2.2.1.top_le
 | iter mm s seen l=>
  obtain⟨b,n,rfl,h1⟩:=hO;cases mm with
  | none=>simp [Obj.top]
  | some i=>
   obtain⟨bm,nm,es,c,h2,h3,h4⟩:=h1;simp only[Obj.top];exact GA h3
 | arow sh cs=>
  obtain⟨h1,h2⟩:=hO;cases m with
  | none=>subst h2;simp [Obj.top,AV.tops]
  | some m=>
   obtain⟨b,n⟩:=m;obtain⟨c,c1,c2,c3⟩:=h2;refine eJ (fun j y hy=>?_)
   obtain⟨v,_,q⟩:=c3 j y hy;exact q.top_le
theorem z0L (H:HeapRel h μ w)(id:Nat):jG h id≤h.length:=by
 unfold jG;split
 ·exact znx H ‹_›
 ·omega
theorem zdX (y:Esc)(n:Nat):n≤HF y n:=by
 unfold HF;induction y generalizing n with
 | nil=>simp
 | cons p r ih=>
  simp only[List.foldl_cons];split
  ·exact Nat.le_trans (by omega) (ih _)
  ·exact ih _
theorem YQ:∀ (k:Nat)(y:Esc)(n:Nat),n≤close k y n
 | 0,y,n=>Nat.le_refl _
 | k+1,y,n=>Nat.le_trans (zdX y n) (YQ k y _)
theorem Evo.take {M'':Mem}(E:Evo M h μ M' h' μ'){n:Nat}(hn:h.length≤n)(L:M'.le M''):Evo M h μ M'' (h'.take n) (μ'.take n):=by
 refine⟨⟨fun b o v hv=>L.c _ _ _ (E.le.c _ _ _ hv),fun b o hv=>L.b _ _ (E.le.b _ _ hv),L.z.trans E.le.z,fun b t h=>L.s _ _ (E.le.s _ _ h)⟩,by have:=E.len;simp;omega,fun id o m h1 h2=>?_⟩
 obtain⟨o',m',h3,h4,h5⟩:=E.obj id o m h1 h2;have hi:id<n:=Nat.lt_of_lt_of_le (GA h1) hn
 exact⟨o',m',by rw[List.getElem?_take,if_pos hi];exact h3,by rw[List.getElem?_take,if_pos hi];exact h4,h5⟩
theorem z0K {hs:aA}{μs:Mu}{Ms:Mem}{es:Esc}(Hs:∀ id,jG hs id≤hs.length)(H:HeapRel h μ w)(E:Evo Ms hs μs (imm h μ w) h μ)(I:xA hs h es){n:Nat}(hn:hs.length≤n)(hc:FB es n=true) :
 HeapRel (h.take n) (μ.take n) w∧(imm h μ w).le (imm (h.take n) (μ.take n) w)∧Evo Ms hs μs (imm (h.take n) (μ.take n) w) (h.take n) (μ.take n)∧xA hs (h.take n) (es.filter fun y=>decide (y.1<n)):=by
 have ht:∀id o,h[id]?=some o→id<n→o.top≤n:=by
  intro id o ho hi;have h1:=I id o ho
  have h2:=Hs id
  have h3:=zkF hc hi
  omega
 obtain⟨H1,L⟩:=H.take n ht;refine⟨H1,L,E.take hn L,fun id o ho=>?_⟩
 rw[List.getElem?_take]at ho;split at ho
 ·rename_i hi
  rw[zkG hi];exact I id o ho
 ·cases ho
theorem zds (n:Nat)(e:List (Nat × AV))(t:Nat):bA (JF n e) t=if(bA e t).top≤n then bA e t else .und:=by
 induction e with
 | nil=>simp [JF,bA,AV.top]
 | cons y r ih=>
  simp only[JF,List.map_cons,bA]at ih ⊢;split
  ·rfl
  ·exact ih
theorem OQ (keep:Option (List Nat))(e:List (Nat × AV))(t:Nat):bA (SA keep e) t=bA e t∨bA (SA keep e) t = .und:=by
 cases keep with
 | none=>exact .inl rfl
 | some l=>
  simp only[SA];induction l with
  | nil=>exact .inr rfl
  | cons k r ih=>
   simp only[List.map_cons,bA];split
   ·rename_i hk;subst hk;exact .inl rfl
   ·exact ih
theorem zqw {x0:Esc}{s:St}{hs:aA}{μs:Mu}{ws:World}{e0:List (Nat × AV)}{a0:Act}(R:Rel gl nt M0 h0 μ0 e0 hs x0 a0 ws μs)(R':Rel gl nt (imm hs μs ws) hs μs s.env s.h s.esc a w μ) :
 ∃μ',Rel gl nt M0 h0 μ0 (gE hs.length x0 s).env (gE hs.length x0 s).h (gE hs.length x0 s).esc a w μ':=by
 unfold gE;dsimp only;split
 ·rename_i hc
  have hn:=YQ s.esc.length s.esc hs.length
  generalize close s.esc.length s.esc hs.length=n at hc hn;obtain⟨q1,q2,q3,q4⟩:=z0K (fun id=>z0L R.heap id) R'.heap R'.evo R'.esc hn hc
  refine⟨μ.take n,q1,fun t=>?_,R'.glob.mono q2,R.evo.trans q3,xA.trans R.esc q4,R'.size,R'.defers⟩
  dsimp only;rw[zds];split
  ·exact(R'.env t).take q2 ‹_›
  ·exact .und _
 ·exact⟨μ,R'.heap,R'.env,R'.glob,R.evo.trans R'.evo,xA.trans R.esc R'.esc,R'.size,R'.defers⟩
theorem Rel.drew (R:Rel gl nt M0 h0 μ0 e h x a w μ)(n:Nat):Rel gl nt M0 h0 μ0 e h x a { w with drawn:=n } μ:=by
 obtain⟨h1,h2⟩:=R.heap.ext (WExt.drew w n);exact⟨h1,fun t=>(R.env t).evo h2,R.glob.mono h2.le,R.evo.trans h2,R.esc,R.size,R.defers⟩
def jC (P:Program)(nt:Nat):ACode→Code→Bool
 | .skip,c=>match c with
  | .skip=>true
  | _=>false
 | .reg aops _,c=>match c with
  | .region _ ops false=>jH P nt ops aops 0
  | _=>false
 | .draw ds _,c=>match c with
  | .region _ ops true=>TQ P nt ops ds
  | _=>false
 | .seq a b,c=>match c with
  | .seq a' b'=>jC P nt a a'&&jC P nt b b'
  | _=>false
 | .cond t a b,c=>match c with
  | .cond t' a' b'=>FA t t'&&jC P nt a a'&&jC P nt b b'
  | _=>false
 | .det b,c=>jC P nt b c
 | .condu t a b,c=>match c with
  | .cond t' a' b'=>FA t t'&&jC P nt a a'&&jC P nt b b'
  | .region _ ops true=>z3U P nt ops t a b
  | _=>false
 | .block i b,c=>match c with
  | .block i' b'=>i==i'&&jC P nt b b'
  | _=>false
 | .loop b,c=>match c with
  | .loop b'=>jC P nt b b'
  | _=>false
 | .scope b,c=>jC P nt b c
 | .pr _ b,c=>jC P nt b c
 | .exit i,c=>match c with
  | .exit i'=>i==i'
  | _=>false
 | .ret,c=>match c with
  | .ret=>true
  | _=>false
 | .bad,_=>true
def Ex.toExit:Ex→Exit
 | .normal=>.normal
 | .exit i=>.exit i
 | .ret=>.ret
theorem zdx {M:Mem}{h:aA}{μ:Mu}{x:Value}(R:RAV M h μ .anyb x):∃b,x = .bool b:=by
 cases R with|anyb b=>exact⟨b,rfl⟩
theorem rE (hm:P.follows .mixedOrders=true){C:Hd}(hC:∀ f a h K,C f a h K→uC P gl f a h K):∀(c:ACode) {k:Code},jC P nt c k=true→∀{s:St} {K:Ex→St→Prop} {M0:Mem} {h0:aA} {μ0:Mu} {a:Act} {w:World} {μ:Mu} {Q:Exit→Act→World→Prop},
 AW C gl c s K→Rel gl nt M0 h0 μ0 s.env s.h s.esc a w μ→(∀ex s' a' w' μ',K ex s'→Rel gl nt M0 h0 μ0 s'.env s'.h s'.esc a' w' μ'→Q ex.toExit a' w')→k.wp P Q a w
 | .skip,k,hc,s,K,M0,h0,μ0,a,w,μ,Q,H,R,hQ=>by
  simp only[jC]at hc;split at hc
  ·exact wp_skip (hQ .normal _ _ _ _ H R)
  ·cases hc
 | .reg aops keep,k,hc,s,K,M0,h0,μ0,a,w,μ,Q,H,R,hQ=>by
  simp only[jC]at hc;split at hc
  ·rename_i id ops
   refine wp_region ?_;have:=MG hC aops 0 (Q:=Q) hc H R (fun e h x a w μ hk R'=>hQ .normal ⟨SA keep e,h,x⟩ a w μ hk ⟨R'.heap,fun t=>?_,R'.glob,R'.evo,R'.esc,R'.size,R'.defers⟩)
   ·rwa [Nat.sub_zero,←List.range_eq_range']at this
   ·rcases OQ keep e t with q|q
    ·rw[q];exact R'.env t
    ·rw[q];exact .und _
  ·cases hc
 | .draw ds keep,k,hc,s,K,M0,h0,μ0,a,w,μ,Q,H,R,hQ=>by
  simp only[jC]at hc;split at hc
  ·rename_i id ops
   refine wp_region_any hm ?_;exact z6e hC (Q:=Q) hc H (R.drew _) (fun e h x a w μ hk R'=>hQ .normal ⟨SA keep e,h,x⟩ a w μ hk ⟨R'.heap,fun t=>(by
    rcases OQ keep e t with q|q
    ·rw[q];exact R'.env t
    ·rw[q];exact .und _),R'.glob,R'.evo,R'.esc,R'.size,R'.defers⟩)
  ·cases hc
 | .seq c1 c2,k,hc,s,K,M0,h0,μ0,a,w,μ,Q,H,R,hQ=>by
  simp only[jC]at hc;split at hc
  ·simp only[Bool.and_eq_true]at hc
   refine wp_seq (rE hm hC c1 hc.1 H R (fun ex s' a' w' μ' hk R'=>?_))
   cases ex with
   | normal=>exact rE hm hC c2 hc.2 hk R' hQ
   | exit i=>exact hQ (.exit i) _ _ _ _ hk R'
   | ret=>exact hQ .ret _ _ _ _ hk R'
  ·cases hc
 | .det c,k,hc,s,K,M0,h0,μ0,a,w,μ,Q,H,R,hQ=>by
  simp only[jC]at hc;exact rE hm hC c hc H R hQ
 | .condu t c1 c2,k,hc,s,K,M0,h0,μ0,a,w,μ,Q,H,R,hQ=>by
  simp only[jC]at hc;split at hc
  ·simp only[Bool.and_eq_true]at hc
   unfold AW at H;split at H
   ·rename_i b hb
    have ht:=R.opds _ _ hc.1.1
    rw[hb]at ht;refine wp_cond ht.p_bool ?_;cases b with
    | true=>exact rE hm hC c1 hc.1.2 H R hQ
    | false=>exact rE hm hC c2 hc.2 H R hQ
   ·rename_i hb
    have ht:=R.opds _ _ hc.1.1
    rw[hb]at ht;obtain⟨g1,g2⟩:=H;obtain⟨b,hb'⟩:=zdx ht;refine wp_cond hb' ?_;cases b with
    | true=>exact rE hm hC c1 hc.1.2 g1 R hQ
    | false=>exact rE hm hC c2 hc.2 g2 R hQ
   ·exact H.elim
  ·rename_i id ops
   unfold z3U at hc;exact zqy hm hC (Q:=Q) hc H (R.drew _) fun keep e h x a w μ hk R'=>hQ .normal ⟨SA keep e,h,x⟩ a w μ hk ⟨R'.heap,fun t=>(by
    rcases OQ keep e t with q|q
    ·rw[q];exact R'.env t
    ·rw[q];exact .und _),R'.glob,R'.evo,R'.esc,R'.size,R'.defers⟩
  ·cases hc
 | .cond t c1 c2,k,hc,s,K,M0,h0,μ0,a,w,μ,Q,H,R,hQ=>by
  simp only[jC]at hc;split at hc
  ·simp only[Bool.and_eq_true]at hc
   unfold AW at H;split at H
   ·rename_i b hb
    have ht:=R.opds _ _ hc.1.1
    rw[hb]at ht;refine wp_cond ht.p_bool ?_;cases b with
    | true=>exact rE hm hC c1 hc.1.2 H R hQ
    | false=>exact rE hm hC c2 hc.2 H R hQ
   ·exact H.elim
  ·cases hc
 | .block i c,k,hc,s,K,M0,h0,μ0,a,w,μ,Q,H,R,hQ=>by
  simp only[jC]at hc;split at hc
  ·simp only[Bool.and_eq_true,beq_iff_eq]at hc
   obtain⟨rfl,hc⟩:=hc;refine wp_block (rE hm hC c hc H R (fun ex s' a' w' μ' hk R'=>?_))
   cases ex with
   | normal=>exact hQ .normal _ _ _ _ hk R'
   | exit j=>
    simp only[Ex.toExit,Exit.inBlock];dsimp only at hk;split
    ·rename_i hj;rw[if_pos hj]at hk;exact hQ .normal _ _ _ _ hk R'
    ·rename_i hj;rw[if_neg hj]at hk;exact hQ (.exit j) _ _ _ _ hk R'
   | ret=>exact hQ .ret _ _ _ _ hk R'
  ·cases hc
 | .loop c,k,hc,s,K,M0,h0,μ0,a,w,μ,Q,H,R,hQ=>by
  simp only[jC]at hc;split at hc
  ·rename_i b'
   intro b k cs;have key:∀(s:St),ALoop (AW C gl c) K s→∀(a:Act) (w:World) (μ:Mu),Rel gl nt M0 h0 μ0 s.env s.h s.esc a w μ →
    ∃e a' w',Q e a' w'∧Arrives P (lone (b.at a (.code b' :: .inLoop b'::k)) cs w) b k cs e a' w':=by
    intro s H;induction H with
    | mk s T hT hn he hr ih=>
     intro a w μ R;obtain⟨e,a1,w1,hq,harr⟩:=rE hm hC c hc (Q:=fun e a' w'=>match e with
      | .normal=>∃s' μ',T .normal s'∧Rel gl nt M0 h0 μ0 s'.env s'.h s'.esc a' w' μ'
      | e=>Q e a' w') hT R (fun ex s' a' w' μ' hk R'=>by
       cases ex with
       | normal=>exact⟨s',μ',hk,R'⟩
       | exit i=>exact hQ (.exit i) _ _ _ _ (he _ _ hk) R'
       | ret=>exact hQ .ret _ _ _ _ (hr _ hk) R') b (.inLoop b'::k) cs
     cases e with
     | normal=>
      obtain⟨s',μ',hk,R'⟩:=hq;obtain⟨e2,a2,w2,hq2,harr2⟩:=ih s' hk a1 w1 μ' R';exact⟨e2,a2,w2,hq2,.of_steps (Steps.trans harr (.one step_inLoop)) harr2⟩
     | exit id=>exact⟨_,a1,w1,hq,.pass (x:=.inLoop b') rfl (fun _ _=>.inl (by simp)) harr⟩
     | goto l=>exact⟨_,a1,w1,hq,.pass (x:=.inLoop b') rfl (fun _ _=>.inl (by simp)) harr⟩
     | ret=>exact⟨_,a1,w1,hq,.pass (x:=.inLoop b') rfl (fun _ _=>.inl (by simp)) harr⟩
     | panic ch=>exact⟨_,a1,w1,hq,.pass (x:=.inLoop b') rfl (fun _ _=>.inl (by simp)) harr⟩
     | outgrown=>exact⟨_,a1,w1,hq,.pass (x:=.inLoop b') rfl (fun _ _=>.inl (by simp)) harr⟩
   obtain⟨e,a',w',hq,harr⟩:=key s H a w μ R;exact⟨e,a',w',hq,.of_steps (.one step_loop) harr⟩
  ·cases hc
 | .scope c,k,hc,s,K,M0,h0,μ0,a,w,μ,Q,H,R,hQ=>by
  simp only[jC]at hc;refine rE hm hC c hc (M0:=imm s.h μ w) (h0:=s.h) (μ0:=μ) H ⟨R.heap,R.env,R.glob,Evo.refl _ _ _,xA.refl _ _,R.size,R.defers⟩ (fun ex s' a' w' μ' hk R'=>?_)
  obtain⟨μ'',R''⟩:=zqw R R';exact hQ ex _ _ _ _ hk R''
 | .pr l c,k,hc,s,K,M0,h0,μ0,a,w,μ,Q,H,R,hQ=>by
  simp only[jC]at hc;refine rE hm hC c hc H ⟨R.heap,fun t=>?_,R.glob,R.evo,R.esc,R.size,R.defers⟩ hQ
  dsimp only;rcases OQ (some l) s.env t with q|q
  ·rw[q];exact R.env t
  ·rw[q];exact .und _
 | .exit i,k,hc,s,K,M0,h0,μ0,a,w,μ,Q,H,R,hQ=>by
  simp only[jC]at hc;split at hc
  ·simp only[beq_iff_eq]at hc
   subst hc;exact wp_exit (hQ (.exit i) _ _ _ _ H R)
  ·cases hc
 | .ret,k,hc,s,K,M0,h0,μ0,a,w,μ,Q,H,R,hQ=>by
  simp only[jC]at hc;split at hc
  ·exact wp_ret (hQ .ret _ _ _ _ H R)
  ·cases hc
 | .bad,k,hc,s,K,M0,h0,μ0,a,w,μ,Q,H,R,hQ=>H.elim
end Go.Am
end
section
/- The abstract machine,part 22: results,calls;a call that ends well here ends well in the model. -/
set_option linter.unusedSimpArgs false
set_option linter.unusedVariables false
set_option maxHeartbeats 1000000
namespace Go.Am
variable {h h':aA} {μ μ':Mu} {w w':World} {P:Program} {M M':Mem}
variable {gl:Nat→Option PV} {nt:Nat} {M0:Mem} {h0:aA} {μ0:Mu} {e:List (Nat × AV)} {x:Esc} {a:Act}
def JE (P:Program):List ARes→List ResultVar→Bool
 | [],[]=>true
 | .t n::r,.tmp m::s=>n==m&&JE P r s
 | .cell n sh::r,.cell m t::s=>n==m&&zB P t==some sh&&JE P r s
 | _,_=>false
def LP (tmps:Array Value):ResultVar→Sem Value
 | .tmp t=>pure (tmps.getD t undef)
 | .cell a t=>do loadVar t (←asAddr (tmps.getD a undef))
theorem z04 {s:St}(H:HeapRel s.h μ w)(he:∀ t,RAV (imm s.h μ w) s.h μ (bA s.env t) (a.tmps.getD t undef)):∀{rs:List ARes} {qs:List ResultVar} {vs:List AV},JE P rs qs=true→IE s rs=some vs →
 ∃us,(qs.mapM (LP a.tmps)).run P w = .ok us w∧vs.length=us.length∧∀(j:Nat) (y:AV) (v:Value),vs[j]?=some y→us[j]?=some v→RAV (imm s.h μ w) s.h μ y v
 | [],[],vs,_,hv=>by
  simp [IE]at hv;subst hv;exact⟨[],by simp,rfl,fun j y v h1 h2=>by simp at h1⟩
 | [],_::_,_,hc,_=>by simp [JE]at hc
 | .t n::r,[],_,hc,_=>by simp [JE]at hc
 | .cell n sh::r,[],_,hc,_=>by simp [JE]at hc
 | .t n::r,.cell _ _::q,_,hc,_=>by simp [JE]at hc
 | .cell n sh::r,.tmp _::q,_,hc,_=>by simp [JE]at hc
 | .t n::r,.tmp m::q,vs,hc,hv=>by
  simp only[JE,Bool.and_eq_true,beq_iff_eq]at hc;obtain⟨rfl,hc⟩:=hc;simp only[IE,ares]at hv;simp only[Option.map_eq_some_iff]at hv;obtain⟨l,hl,rfl⟩:=hv;obtain⟨us,h1,h2,h3⟩:=z04 H he hc hl;refine⟨a.tmps.getD n undef::us,by simp [LP,h1],by simp [h2],fun j y v hy hv=>?_⟩
  cases j with
  | zero=>simp at hy hv;subst hy;subst hv;simpa using he n
  | succ j=>exact h3 j y v (by simpa using hy) (by simpa using hv)
 | .cell n sh::r,.cell m t::q,vs,hc,hv=>by
  simp only[JE,Bool.and_eq_true,beq_iff_eq]at hc;obtain⟨⟨rfl,hs⟩,hc⟩:=hc;simp only[IE]at hv;split at hv
  ·rename_i u hu
   simp only[Option.map_eq_some_iff]at hv;obtain⟨l,hl,rfl⟩:=hv;obtain⟨us,h1,h2,h3⟩:=z04 H he hc hl;simp only[ares]at hu;split at hu
   ·rename_i id off hr
    split at hu
    ·rename_i cs ho
     have hR:=he n
     rw[hr]at hR;generalize hz:a.tmps.getD n undef=z at hR;cases hR with|ref _ _ b k cs' ho' hm=>
     obtain⟨b',c,hm',hb,hcell⟩:=H.obj _ _ _ ho hm;injection hm' with hm'
     injection hm' with e1 e2
     subst e1;obtain⟨c1,c2⟩:=eR (M:=imm s.h μ w) (h:=s.h) (μ:=μ) (f:=fun j=>(c[j]?).getD undef) hu (fun j x hx=>by obtain⟨_,v,q1,q2⟩:=hcell j x hx;simpa [q1] using q2)
     have hload:(loadVar t ⟨b,off,none⟩).run P w = .ok (sD sh fun j=>(c[off+j]?).getD undef) w:=by
      refine z9g hs (fun j hj=>?_)
      rw[MD hb];have hlt:off+j<c.size:=by rw[hb.1];have:=c1;omega
      simp [hlt]
     refine⟨(sD sh fun j=>(c[off+j]?).getD undef)::us,?_,by simp [h2],fun j y v hy hv=>?_⟩
     ·simp only[List.mapM_cons,Sem.run_bind,LP,hz,asAddr]
      simp [hload,h1]
     ·cases j with
      | zero=>simp at hy hv;subst hy;subst hv;exact c2
      | succ j=>exact h3 j y v (by simpa using hy) (by simpa using hv)
    ·cases hu
   ·cases hu
  ·cases hv
theorem znR {fn:Func}{s:St}(H:HeapRel s.h μ w)(he:∀ t,RAV (imm s.h μ w) s.h μ (bA s.env t) (a.tmps.getD t undef)){rs:List ARes}{vs:List AV}(hc:JE P rs fn.results.toList=true)(hv:IE s rs=some vs) :
 ∃u,(results fn a.tmps).run P w = .ok u w∧RAV (imm s.h μ w) s.h μ (dB vs) u:=by
 obtain⟨us,h1,h2,h3⟩:=z04 H he hc hv;have hm:(fn.results.mapM (LP a.tmps)).run P w = .ok us.toArray w:=by
  rw[Array.mapM_eq_mapM_toList];simp [h1]
 refine⟨if hz:us.toArray.size=1 then us.toArray[0] else .tuple us.toArray,?_,?_⟩
 ·unfold results
  rw[Sem.run_bind];show(Sem.run P (fn.results.mapM (LP a.tmps)) w).andThen _=_
  rw[hm];rfl
 ·match vs,us,h2,h3 with
  | [v],[u],_,h3=>exact h3 0 v u rfl rfl
  | [],[],_,h3=>exact .tup [] [] rfl (fun j y v h1 h2=>by simp at h1)
  | a::b::r,c::d::q,h2,h3=>exact .tup _ (c::d::q) h2 h3
theorem z8B (H:HeapRel h μ w){n:Nat}(L:(imm h μ w).le (imm (h.take n) (μ.take n) w)){id g off len:Nat}{x:Value}{sh:Sh}{xs:List PV}(R:RAV (imm h μ w) h μ (.own id g off len) x)(hr:rd h (.own id g off len)=some (sh,xs))
 (hn:n≤id):RPV (imm (h.take n) (μ.take n) w) (.sl sh xs) x:=by
 obtain⟨ys,fz,ho,hc1,hc2,hr⟩:=z02 hr;obtain⟨_,g2,a,cap,rfl,g3,g4⟩:=KG H R ho hc1;have hlen:xs.length=len:=by rw[hr];exact SU hc2
 by_cases hne:xs=[]
 ·have hl0:len=0:=by rw[←hlen,hne];rfl
  rw[hne,hl0];exact .nils _ _ _
 ·have hpos:0<xs.length:=List.length_pos_iff.2 hne
  obtain⟨b,m,c,hm,ha,hB,hn1,hn2,hcells⟩:=g4 (by omega)
  have he:∀x∈xs,x.cells.length=kA sh:=fun x hx=>rC (g2 x (fJ (hr ▸ hx)))
  have hcell:∀(j:Nat) (y:PV),(xs.flatMap PV.cells)[j]?=some y→∃v,c[off*kA sh+j]?=some v∧RPV (imm h μ w) y v:=by
   intro j y hy;obtain⟨x,h5,h6,h8,h7⟩:=xH he hy;rw[hr]at h5;have h9:=PU h5
   have h10:=hcells _ _ x y h9.2 h6
   rw[show(off+j / kA sh)*kA sh+j%kA sh=off*kA sh+j by rw[Nat.add_mul];omega]at h10
   exact h10
  subst ha;have key:RPV (imm (h.take n) (μ.take n) w) (.sl sh xs) (.slice (some ⟨b,off*kA sh,none⟩) xs.length cap):=by
   refine .sl sh xs b (off*kA sh) cap (fun j=>(c[off*kA sh+j]?).getD undef) hne (by omega) (fun x hx=>g2 x (fJ (hr ▸ hx))) (fun j y hy=>?_) (fun j y hy=>?_)
   ·obtain⟨v,h5,h6⟩:=hcell j y hy
    refine ED.2 ⟨?_,by rw[MD hB,h5];simp [h5]⟩
    rintro⟨i,n',h8,h9⟩
    rw[List.getElem?_take]at h8;split at h8
    ·have:=H.distinct i id b n' m h8 hm
     omega
    ·cases h8
   ·obtain⟨v,h5,h6⟩:=hcell j y hy
    have:(c[off*kA sh+j]?).getD undef=v:=by simp [h5]
    simp only[this];exact h6.mono L
  rwa [hlen]at key
theorem z8N (H:HeapRel h μ w){n:Nat}(L:(imm h μ w).le (imm (h.take n) (μ.take n) w)):∀(cs:List AV) {vs:List PV},(∀x∈cs,x.sc=true)→KP n h cs=some vs →
 vs.length=cs.length∧(∀x∈vs,x.sc=true)∧∀(j:Nat) (y:AV) (z:PV) (v:Value),cs[j]?=some y→vs[j]?=some z→RAV (imm h μ w) h μ y v→RPV (imm (h.take n) (μ.take n) w) z v
 | [],vs,_,e=>by
  simp [KP]at e;subst e;exact⟨rfl,by simp,fun j y z v hy=>by simp at hy⟩
 | a::r,vs,hs,e=>by
  simp only[KP]at e;split at e;case h_2=>cases e
  rename_i x hx;simp only[Option.map_eq_some_iff]at e;obtain⟨xs,h1,rfl⟩:=e;obtain⟨q1,q2,q3⟩:=z8N H L r (fun x hx=>hs x (by simp [hx])) h1
  have hsa:=hs a (by simp)
  have key:x.sc=true∧∀v,RAV (imm h μ w) h μ a v→RPV (imm (h.take n) (μ.take n) w) x v:=by
   unfold rd0 at hx;split at hx
   ·injection hx with hx;subst hx;exact⟨hsa,fun v R=>R.p_inv.mono L⟩
   ·injection hx with hx;subst hx;exact⟨rfl,fun v R=>by obtain⟨a,rfl⟩:=IN R;exact .nils _ _ _⟩
   ·injection hx with hx;subst hx;exact⟨rfl,fun v R=>by cases R;exact .nilp⟩
   ·split at hx
    ·rename_i hn
     simp only[Option.map_eq_some_iff]at hx;obtain⟨⟨sh,ys⟩,h1,rfl⟩:=hx;exact⟨rfl,fun v R=>z8B H L R h1 hn⟩
    ·cases hx
   ·cases hx
  refine⟨by simp [q1],fun y hy=>?_,fun j y z v hy hz R=>?_⟩
  ·rcases List.mem_cons.1 hy with rfl|hy
   ·exact key.1
   ·exact q2 y hy
  ·cases j with
   | zero=>simp at hy hz;subst hy;subst hz;exact key.2 v R
   | succ j=>exact q3 j y z v (by simpa using hy) (by simpa using hz) R
theorem zd4 (H:HeapRel h μ w){n:Nat}(L:(imm h μ w).le (imm (h.take n) (μ.take n) w)){t id g:Nat}{x:Value}{u:AV}(R:RAV (imm h μ w) h μ (.bt 3 t id g) x)(hr:rdA n h id g=some u)
 (hn:n≤id):RAV (imm (h.take n) (μ.take n) w) (h.take n) (μ.take n) u x:=by
 unfold rdA at hr;split at hr;case h_2=>cases hr
 rename_i sh cs ho;split at hr;case isFalse=>cases hr
 rename_i hg;simp only[Option.map_eq_some_iff]at hr;obtain⟨vs,h1,rfl⟩:=hr;cases R with|bt3 _ _ _ a cap o m hl ho' hm hv=>
 rw[ho]at ho';injection ho' with ho'
 obtain⟨hv1,hv2⟩:=hv sh cs ho'.symm;have hO:=hv2 hg
 obtain⟨k1,k2⟩:=H.obj id _ m ho hm;obtain⟨q1,q2,q3⟩:=z8N H L cs k1 h1;obtain⟨s1,s2,s3⟩:=z3W (sh:=sh) (g:=g) (vs:=vs) (by rw[q1,hg]) q2
 by_cases hz:g=0
 ·subst hz
  have hxs:TC sh 0 vs=[]:=List.length_eq_zero_iff.1 s1
  rw[hxs];exact .p _ _ (.nils _ _ _)
 ·have hm2:∃b k c,m=some (b,k)∧a=some ⟨b,0,none⟩∧rB w b k c∧∀(j:Nat) (x:AV),cs[j]?=some x→∃v,c[j]?=some v∧RAV (imm h μ w) h μ x v:=by
   cases m with
   | none=>simp [XG]at hO;omega
   | some m=>
    obtain⟨b,k⟩:=m;obtain⟨c,c1,c2,c3⟩:=k2;rcases hO with q|q
    ·omega
    ·exact⟨b,k,c,rfl,by rw[q.1,Nat.zero_mul],c1,c3⟩
  obtain⟨b,k,c,rfl,rfl,hB,hcells⟩:=hm2;have he:∀x∈TC sh g vs,x.cells.length=kA sh:=fun x hx=>rC (s2 x hx)
  have hcell:∀(j:Nat) (y:PV),((TC sh g vs).flatMap PV.cells)[j]?=some y→∃v,c[j]?=some v∧RPV (imm (h.take n) (μ.take n) w) y v:=by
   intro j y hy;obtain⟨x,h5,h6,h8,h7⟩:=xH he hy;have h9:=s3 _ _ x y h5 h6
   have hj:j / kA sh*kA sh+j%kA sh=j:=Nat.div_add_mod' j (kA sh)
   rw[hj]at h9;have hlt:j<cs.length:=by have:=GA h9;omega
   obtain⟨v,v1,v2⟩:=hcells j cs[j] (List.getElem?_eq_getElem hlt);exact⟨v,v1,q3 j cs[j] y v (List.getElem?_eq_getElem hlt) h9 v2⟩
  have key:RPV (imm (h.take n) (μ.take n) w) (.sl sh (TC sh g vs)) (.slice (some ⟨b,0,none⟩) (TC sh g vs).length cap):=by
   refine .sl sh _ b 0 cap (fun j=>(c[j]?).getD undef) (fun e=>hz (by rw[←s1,e];rfl)) (by rw[s1];exact hl) s2 (fun j y hy=>?_) (fun j y hy=>?_)
   ·obtain⟨v,h5,h6⟩:=hcell j y hy
    refine ED.2 ⟨?_,by rw[MD hB,Nat.zero_add,h5];simp [h5]⟩
    rintro⟨i,n',h8,h9⟩
    rw[List.getElem?_take]at h8;split at h8
    ·have:=H.distinct i id b n' k h8 hm
     omega
    ·cases h8
   ·obtain⟨v,h5,h6⟩:=hcell j y hy
    have:(c[j]?).getD undef=v:=by simp [h5]
    simp only[this];exact h6
  rw[s1]at key;exact .p _ _ key
mutual
theorem z8Q (H:HeapRel h μ w){n:Nat}(L:(imm h μ w).le (imm (h.take n) (μ.take n) w)):∀(v:AV) {u:AV} {x:Value},RAV (imm h μ w) h μ v x→MA n h v=some u→u.top≤n→RAV (imm (h.take n) (μ.take n) w) (h.take n) (μ.take n) u x
 | .own id g off len,u,x,R,hr,ht=>by
  simp only[MA]at hr;split at hr
  ·rename_i hn
   simp only[Option.map_eq_some_iff]at hr;obtain⟨⟨sh,xs⟩,h1,rfl⟩:=hr;exact .p _ _ (z8B H L R h1 hn)
  ·injection hr with hr;subst hr;exact R.take L ht
 | .sl0 sh,u,x,R,hr,ht=>by
  simp only[MA]at hr;injection hr with hr
  subst hr;obtain⟨a,rfl⟩:=IN R;exact .p _ _ (.nils _ _ _)
 | .agg cs,u,x,R,hr,ht=>by
  simp only[MA,Option.map_eq_some_iff]at hr;obtain⟨us,h1,rfl⟩:=hr;cases R with|agg _ xs hl hrr=>
  have htop:AV.tops us≤n:=by
   unfold mkA at ht;split at ht
   ·rename_i ps hp
    have:=NN hp;subst this;rw[z9N];omega
   ·simpa [AV.top] using ht
  obtain⟨q1,q2⟩:=z03 H L cs hl hrr h1 htop;exact CZ q1 q2
 | .tup cs,u,x,R,hr,ht=>by
  simp only[MA,Option.map_eq_some_iff]at hr;obtain⟨us,h1,rfl⟩:=hr;cases R with|tup _ xs hl hrr=>
  obtain⟨q1,q2⟩:=z03 H L cs hl hrr h1 (by simpa [AV.top] using ht)
  exact .tup us xs q1 q2
 | .p v,u,x,R,hr,ht=>by simp only[MA]at hr;injection hr with hr;subst hr;exact R.take L ht
 | .ref _ _,u,x,R,hr,ht=>by simp only[MA]at hr;injection hr with hr;subst hr;exact R.take L ht
 | .rref _ _ _ _,u,x,R,hr,ht=>by simp only[MA]at hr;injection hr with hr;subst hr;exact R.take L ht
 | .vp _,u,x,R,hr,ht=>by simp only[MA]at hr;injection hr with hr;subst hr;exact R.take L ht
 | .nilp,u,x,R,hr,ht=>by simp only[MA]at hr;injection hr with hr;subst hr;exact R.take L ht
 | .nilm,u,x,R,hr,ht=>by simp only[MA]at hr;injection hr with hr;subst hr;exact R.take L ht
 | .nilf,u,x,R,hr,ht=>by simp only[MA]at hr;injection hr with hr;subst hr;exact R.take L ht
 | .nili,u,x,R,hr,ht=>by simp only[MA]at hr;injection hr with hr;subst hr;exact R.take L ht
 | .ifc,u,x,R,hr,ht=>by simp only[MA]at hr;injection hr with hr;subst hr;exact R.take L ht
 | .mp _,u,x,R,hr,ht=>by simp only[MA]at hr;injection hr with hr;subst hr;exact R.take L ht
 | .it _,u,x,R,hr,ht=>by simp only[MA]at hr;injection hr with hr;subst hr;exact R.take L ht
 | .fn _ _,u,x,R,hr,ht=>by simp only[MA]at hr;injection hr with hr;subst hr;exact R.take L ht
 | .anyb,u,x,R,hr,ht=>by simp only[MA]at hr;injection hr with hr;subst hr;exact R.take L ht
 | .skp,u,x,R,hr,ht=>by simp only[MA]at hr;injection hr with hr;subst hr;exact R.take L ht
 | .und,u,x,R,hr,ht=>by simp only[MA]at hr;injection hr with hr;subst hr;exact R.take L ht
 | .anyp,u,x,R,hr,ht=>by simp only[MA]at hr;injection hr with hr;subst hr;exact R.take L ht
 | .bt k t id g,u,x,R,hr,ht=>by
  simp only[MA]at hr;cases hk:(Nat.beq k 3&&decide (n≤id)) with
  | false=>rw[hk]at hr;injection hr with hr;subst hr;exact R.take L ht
  | true=>
   rw[hk]at hr;simp only[Bool.and_eq_true,decide_eq_true_eq]at hk;have hk1:=Nat.eq_of_beq_eq_true hk.1
   subst hk1;exact zd4 H L R hr hk.2
theorem z03 (H:HeapRel h μ w){n:Nat}(L:(imm h μ w).le (imm (h.take n) (μ.take n) w)):∀(cs:List AV) {us:List AV} {xs:List Value},cs.length=xs.length →
 (∀(j:Nat) (y:AV) (v:Value),cs[j]?=some y→xs[j]?=some v→RAV (imm h μ w) h μ y v)→fD n h cs=some us→AV.tops us≤n →
 us.length=xs.length∧∀(j:Nat) (y:AV) (v:Value),us[j]?=some y→xs[j]?=some v→RAV (imm (h.take n) (μ.take n) w) (h.take n) (μ.take n) y v
 | [],us,xs,hl,hr,e,ht=>by
  simp only[fD]at e;injection e with e
  subst e;exact⟨hl,fun j y v h1 _=>by simp at h1⟩
 | c::r,us,xs,hl,hr,e,ht=>by
  cases xs with
  | nil=>simp at hl
  | cons x xs=>
   simp only[fD]at e;split at e
   ·rename_i u hu
    simp only[Option.map_eq_some_iff]at e;obtain⟨l,h1,rfl⟩:=e;simp only[AV.tops]at ht;have k1:=z8Q H L c (hr 0 c x rfl rfl) hu (by omega)
    obtain⟨k2,k3⟩:=z03 H L r (xs:=xs) (by simpa using hl) (fun j y v h1 h2=>hr (j+1) y v (by simpa using h1) (by simpa using h2)) h1 (by omega)
    refine⟨by simp [k2],fun j y v hy hv=>?_⟩
    cases j with
    | zero=>simp at hy hv;subst hy;subst hv;exact k1
    | succ j=>exact k3 j y v (by simpa using hy) (by simpa using hv)
   ·cases e
end
theorem tU:∀ (asv:List AV){h:aA}{vs:List Value}{asv':List AV}{h1:aA},HeapRel h μ w→asv.length=vs.length →
 (∀(j:Nat) (y:AV) (v:Value),asv[j]?=some y→vs[j]?=some v→RAV (imm h μ w) h μ y v)→sA h asv=some (asv',h1) →
 CF h μ w h1∧asv'.length=vs.length∧∀(j:Nat) (y:AV) (v:Value),asv'[j]?=some y→vs[j]?=some v→RAV (imm h1 μ w) h1 μ y v
 | [],h,vs,asv',h1,H,hl,hr,e=>by
  simp only[sA,Option.some.injEq,Prod.mk.injEq]at e;obtain⟨rfl,rfl⟩:=e;exact⟨⟨H,Evo.refl _ _ _,xA.refl _ _⟩,hl,fun j y v hy=>by simp at hy⟩
 | a::r,h,vs,asv',h1,H,hl,hr,e=>by
  cases vs with
  | nil=>simp at hl
  | cons x vs=>
   have step:∀{h2:aA} {u:AV},CF h μ w h2→RAV (imm h2 μ w) h2 μ u x→(sA h2 r).map (fun y=>(u::y.1,y.2))=some (asv',h1) →
    CF h μ w h1∧asv'.length=(x::vs).length∧∀(j:Nat) (y:AV) (v:Value),asv'[j]?=some y→(x::vs)[j]?=some v→RAV (imm h1 μ w) h1 μ y v:=by
    intro h2 u ⟨a1,a2,a3⟩ hu e;simp only[Option.map_eq_some_iff,Prod.mk.injEq]at e;obtain⟨⟨l,h3⟩,hp,rfl,rfl⟩:=e;obtain⟨⟨b1,b2,b3⟩,b4,b5⟩:=tU r a1 (vs:=vs) (by simpa using hl) (fun j y v hy hv=>(hr (j+1) y v (by simpa using hy) (by simpa using hv)).evo a2) hp
    refine⟨⟨b1,a2.trans b2,by simpa using xA.trans a3 b3⟩,by simp [b4],fun j y v hy hv=>?_⟩
    cases j with
    | zero=>simp at hy hv;subst hy;subst hv;exact hu.evo b2
    | succ j=>exact b5 j y v (by simpa using hy) (by simpa using hv)
   have h0:=hr 0 a x rfl rfl
   cases a;case own id g off len=>
    simp only[sA]at e;split at e
    ·rename_i z hz
     obtain⟨sh,xs⟩:=z;obtain⟨k1,k2,k3,k4⟩:=nP H h0 hz;exact step ⟨k1,k2,k3⟩ (.p _ _ k4) e
    ·cases e
   case agg cs=>
    simp only[sA]at e;split at e
    ·rename_i pv h2 hp
     obtain⟨k1,k2⟩:=sU _ H h0 hp;exact step k1 (.p _ _ k2) e
    ·cases e
   case sl0 sh=>
    simp only[sA]at e;obtain⟨b,rfl⟩:=IN h0;exact step ⟨H,Evo.refl _ _ _,xA.refl _ _⟩ (.p _ _ (.nils _ _ _)) e
   all_goals
    simp only[sA]at e;exact step ⟨H,Evo.refl _ _ _,xA.refl _ _⟩ h0 e
end Go.Am
end
section
/- The abstract machine,part 23: a call that ends well here ends well in the model. -/
set_option linter.unusedSimpArgs false
set_option linter.unusedVariables false
set_option maxHeartbeats 1000000
namespace Go.Am
variable {h h':aA} {μ μ':Mu} {w w':World} {P:Program} {M M':Mem}
variable {gl:Nat→Option PV} {nt:Nat} {M0:Mem} {h0:aA} {μ0:Mu} {e:List (Nat × AV)} {x:Esc} {a:Act}
theorem z7d {F:AFun}{fn:Func}{s:St}{K:lA}(R:Rel gl nt M0 h0 μ0 s.env s.h s.esc a w μ)(Hs:∀ id,jG h0 id≤h0.length)(hc:JE P F.results fn.results.toList=true)(H:fin F h0.length s K) :
 ∃u,(results fn a.tmps).run P w = .ok u w∧∃v h' x μ',K v h' x∧RAV (imm h' μ' w) h' μ' v u∧HeapRel h' μ' w∧Evo M0 h0 μ0 (imm h' μ' w) h' μ'∧xA h0 h' x:=by
 unfold fin at H;split at H
 ·rename_i vs hvs
  obtain⟨u,hu,hR⟩:=znR R.heap R.env hc hvs;refine⟨u,hu,?_⟩;split at H
  ·dsimp only at H
   split at H
   ·rename_i hcl
    have hn:=YQ s.esc.length s.esc (max h0.length (dB vs).top)
    generalize close s.esc.length s.esc (max h0.length (dB vs).top)=n at H hcl hn;obtain⟨q1,q2,q3,q4⟩:=z0K Hs R.heap R.evo R.esc (by omega) hcl
    exact⟨_,_,_,μ.take n,H,hR.take q2 (by omega),q1,q3,q4⟩
   ·exact⟨_,_,_,μ,H,hR,R.heap,R.evo,R.esc⟩
  ·split at H
   ·rename_i v0 hv0
    dsimp only at H;split at H
    ·rename_i hcl
     have hn:=YQ s.esc.length s.esc (max h0.length v0.top)
     generalize close s.esc.length s.esc (max h0.length v0.top)=n at H hcl hn;split at H
     ·rename_i v hv
      obtain⟨q1,q2,q3,q4⟩:=z0K Hs R.heap R.evo R.esc (by omega) hcl
      exact⟨_,_,_,μ.take n,H.2,z8Q R.heap q2 _ hR hv H.1,q1,q3,q4⟩
     ·exact H.elim
    ·exact⟨_,_,_,μ,H,hR,R.heap,R.evo,R.esc⟩
   ·exact H.elim
 ·exact H.elim
def nX (P:Program)(f:Nat)(F:AFun):Bool:=match P.funcs[f]? with
 | some fn=>match fn.body with
  | some c=>jC P fn.ntmps F.body c&&JE P F.results fn.results.toList&&fn.name != "runtime.NumGoroutine"
  | none=>false
 | none=>false
theorem oS {f:Nat}{fn:Func}{c:Code}(hf:P.funcs[f]?=some fn)(hb:fn.body=some c)(hn:fn.name ≠ "runtime.NumGoroutine")(args:Array Value)(w:World):(callFunc f args).run P w = .ok (.enter f args) w:=by
 unfold callFunc;simp [hf,hb,hn]
theorem zk6 {asv:List AV}{t:Nat}:bA (enter asv) t=(asv[t]?).getD .und:=by
 have key:∀(l:List AV) (k t:Nat),bA ((l.zipIdx k).map fun y=>(y.2,y.1)) t=if t<k then .und else(l[t-k]?).getD .und:=by
  intro l;induction l with
  | nil=>intro k t;simp [bA]
  | cons v r ih=>
   intro k t;simp only[List.zipIdx_cons,List.map_cons,bA];by_cases hk:k=t
   ·subst hk;simp
   ·rw[if_neg hk,ih]
    by_cases h1:t<k
    ·rw[if_pos h1,if_pos (by omega)]
    ·rw[if_neg h1,if_neg (by omega),show t-k=(t-(k+1))+1 by omega]
     simp
 have:=key asv 0 t;simpa [enter] using this
def mE (M:Mem)(w w':World):Mem:=⟨fun b o=>if b<w.heap.size then M.c b o else w'.cell? ⟨b,o,none⟩,fun _=>none,some (zed w'),fun _=>none⟩
def z1j (P:Program)(f:Nat)(vs:List PV)(r:PV):Prop:=∀(M:Mem) (w:World) (us:List Value),(∀b o v,M.c b o=some v→w.cell? ⟨b,o,none⟩=some v)→vs.length=us.length →
 (∀(j:Nat) (y:PV) (v:Value),vs[j]?=some y→us[j]?=some v→RPV M y v) →
 ∃x w',(callFunc f us.toArray).run P w = .ok (.value x) w'∧WExt w w'∧RPV (mE M w w') r x
structure Fits (P:Program) (X:Ctx):Prop where
 mixed:P.follows .mixedOrders=true
 fn:∀f F,X.fn f=some F→nX P f F=true
 ext:∀f vs r,X.fn f=none→X.ext f vs=some r→z1j P f vs r
 ex2:∀f asv h v h' x,X.fn f=none→X.ex2 f asv h=some (v,h',x)→uC P X.gl f asv h fun v1 h1 x1=>v1=v∧h1=h'∧x1=x
theorem zpT {X:Ctx}(HX:Fits P X){f:Nat}{asv:List AV}{h:aA}{K:lA}(H:nC X (uC P X.gl) f asv h K):uC P X.gl f asv h K:=by
 intro μ w vs Hh Hg hl hr;unfold nC at H;split at H
 ·rename_i F hF
  have H:=zkR (uC.mono P X.gl) H
  have hck:=HX.fn f F hF
  unfold nX at hck;split at hck
  ·rename_i fn hfn
   split at hck
   ·rename_i c hb
    simp only[Bool.and_eq_true,bne_iff_ne,ne_eq]at hck;obtain⟨⟨c1,c2⟩,c3⟩:=hck;refine .inl ⟨fun w=>oS hfn hb c3 _ w,calls_of_wp hfn hb ?_⟩
    unfold EC at H;have body:∀{asv':List AV} {h1:aA},CF h μ w h1→asv'.length=vs.length→(∀(j:Nat) (y:AV) (v:Value),asv'[j]?=some y→vs[j]?=some v→RAV (imm h1 μ w) h1 μ y v) →
     (asv'.length=F.nparams∧AW (uC P X.gl) X.gl F.body ⟨enter asv',h1,[]⟩ fun e s=>match e with
      | .exit _=>False
      | _=>fin F h.length s K)→Code.wp P c (bodyPost P fn fun
       | .returned r,w'=>∃v h' x μ',K v h' x∧RAV (imm h' μ' w') h' μ' v r∧HeapRel h' μ' w'∧Evo (imm h μ w) h μ (imm h' μ' w') h' μ'∧xA h h' x
       | _,_=>False) { tmps:=vs.toArray++Array.replicate (fn.ntmps-vs.toArray.size) undef,defers:=[] } w:=by
     intro asv' h1 ⟨a1,a2,a3⟩ hl' hr' ⟨_,hA⟩;refine rE HX.mixed (nt:=fn.ntmps) (M0:=imm h μ w) (h0:=h) (μ0:=μ) (μ:=μ) (fun _ _ _ _ h=>h) F.body c1 hA ⟨a1,fun t=>?_,Hg.mono a2.le,a2,a3,?_,rfl⟩ (fun ex s' a' w' μ' hk R'=>?_)
     ·dsimp only
      rw[zk6];cases ht:asv'[t]? with
      | none=>exact .und _
      | some y=>
       have hlt:t<vs.length:=by rw[←hl'];exact GA ht
       have:(vs.toArray++Array.replicate (fn.ntmps-vs.toArray.size) undef).getD t undef=vs[t]:=by
        simp [Array.getD,hlt];intro hh;omega
       rw[this];exact hr' t y _ ht (List.getElem?_eq_getElem hlt)
     ·simp;omega
     ·cases ex with
      | normal=>
       obtain⟨u,q1,q2⟩:=z7d R' (fun id=>z0L Hh id) c2 hk
       exact⟨R'.defers,u,q1,q2⟩
      | exit i=>exact hk.elim
      | ret=>
       obtain⟨u,q1,q2⟩:=z7d R' (fun id=>z0L Hh id) c2 hk
       exact⟨R'.defers,u,q1,q2⟩
    split at H
    ·rename_i asv' h1 hp
     split at hp
     ·injection hp with hp
      injection hp with e1 e2
      subst e1;subst e2
      exact body ⟨Hh,Evo.refl _ _ _,xA.refl _ _⟩ hl hr H
     ·obtain⟨q1,q2,q3⟩:=tU asv Hh hl hr hp
      exact body q1 q2 q3 H
    ·exact H.elim
   ·cases hck
  ·cases hck
 ·rename_i hF
  split at H
  ·rename_i hx2
   exact uC.mono P X.gl _ _ _ _ _ (fun v1 h1' x1 hv=>by obtain⟨rfl,rfl,rfl⟩:=hv;exact H) (HX.ex2 f asv h _ _ _ hF hx2) μ w vs Hh Hg hl hr
  ·rename_i hx2
   split at H
   ·rename_i asv' h1 hp
    split at H
    ·rename_i ps hps
     split at H
     ·rename_i r hrr
      obtain⟨q1,q2,q3⟩:=tU asv Hh hl hr hp;have hm:=NN hps
      subst hm;obtain⟨u,w',k1,g1,g2⟩:=HX.ext f ps r hF hrr (imm h1 μ w) w vs (fun b o v hv=>(ED.1 hv).2) (by simpa using q2) (fun j y v hy hv=>(q3 j (.p y) v (by simp [hy]) hv).p_inv)
      obtain⟨n1,n2⟩:=q1.1.ext g1;have L:(mE (imm h1 μ w) w w').le (imm h1 μ w'):=by
       refine⟨fun b o v hv=>?_,fun b o hv=>?_,rfl,fun _ _ h=>by cases h⟩
       ·dsimp only[mE]at hv
        split at hv
        ·exact n2.le.c _ _ _ hv
        ·rename_i hb
         exact ED.2 ⟨fun hO=>hb (kT q1.1 hO),hv⟩
       ·dsimp only[mE]at hv
        cases hv
      exact .inr ⟨_,_,_,_,_,μ,k1,H,.p _ _ (g2.mono L),n1,q1.2.1.trans n2,q1.2.2⟩
     ·exact H.elim
    ·exact H.elim
   ·exact H.elim
theorem z3N {X:Ctx}(HX:Fits P X){f:Nat}{asv:List AV}{h:aA}{K:lA}(H:cA X f asv h K):uC P X.gl f asv h K:=
 H (uC P X.gl) (uC.mono P X.gl) (fun f a h K hs=>zpT HX hs)
end Go.Am
end
section
/- The abstract machine,part 24: rules by which its code is computed on what is only partly known. -/
set_option linter.unusedSimpArgs false
set_option linter.unusedVariables false
namespace Go.Am
def oK (o:Option (AV × aA × Esc))(f:AV→aA→Esc→Prop):Prop:=match o with
 | some y=>f y.1 y.2.1 y.2.2
 | none=>False
def bR (v:AV)(A B:Prop):Prop:=match v with
 | .p (.bool t)=>match t with
  | true=>A
  | false=>B
 | .anyb=>A∧B
 | _=>False
def mA (v:AV)(A B:Prop):Prop:=match v with
 | .p (.bool t)=>match t with
  | true=>A
  | false=>B
 | _=>False
def FE (v:AV)(b:Bool)(A B:Prop):Prop:=match v with
 | .p (.bool c)=>match c==b with
  | true=>A
  | false=>B
 | .skp=>B
 | _=>False
def finK (F:AFun)(b:Nat)(K:lA)(e:Ex)(s:St):Prop:=match e with
 | .exit _=>False
 | _=>fin F b s K
def z0F (n:Nat)(x:Esc)(K:Ex→St→Prop)(e:Ex)(s:St):Prop:=K e (gE n x s)
def AO.plain:AO→Bool
 | .call _ _ | .callv _ _ | .mnext _ _=>false
 | .mv _=>true
 | .pick _ _ _=>true
 | .alloc _=>true
 | .box _=>true
 | .build _ _=>true
 | .bsl _ _ _ _ _=>true
 | .load _ _=>true
 | .store _ _ _=>true
 | .nilchk _=>true
 | .bin _ _ _=>true
 | .eqa _ _ _ _=>true
 | .isnil _ _ _=>true
 | .mkif _=>true
 | .un _ _=>true
 | .conv _ _=>true
 | .mkfn _ _=>true
 | .mkmap=>true
 | .mksl _ _ _ _=>true
 | .slice _ _ _ _ _=>true
 | .slstr _ _ _=>true
 | .faddr _ _ _=>true
 | .field _ _ _=>true
 | .iaddr _ _ _=>true
 | .iaddra _ _ _ _=>true
 | .idxa _ _ _ _=>true
 | .idxs _ _=>true
 | .look _ _ _ _ _=>true
 | .mupd _ _ _ _=>true
 | .ment _ _ _ _=>true
 | .estore _ _ _=>true
 | .mdel _ _ _=>true
 | .ext _ _=>true
 | .len _=>true
 | .lens _=>true
 | .lenm _=>true
 | .app _ _ _=>true
 | .copy _ _ _=>true
 | .uns _ _ _=>true
 | .clr _ _ _=>true
 | .mx _=>true
 | .mn _=>true
 | .mrange _=>true
 | .mentry _=>true
 | .new0 _=>true
variable {C:Hd} {gl:Nat→Option PV} {e:List (Nat × AV)} {h:aA} {x:Esc} {K:Ex→St→Prop} {L:List (Nat × AV)→aA→Esc→Prop} {s:St}
theorem z9B {n:Nat}{y:Esc}{ex:Ex}:z0F n y K ex s=K ex (gE n y s):=(rfl)
def SK (C:Hd)(gl:Nat→Option PV)(r:List AOp)(d:Option Nat)(e:List (Nat × AV))(x:Esc)(L:List (Nat × AV)→aA→Esc→Prop)(v:AV)(h':aA)(x':Esc):Prop:=iB C gl r (put d v e) h' (x'++x) L
theorem zas {d:Option Nat}{op:AO}{r:List AOp}(hp:op.plain=true):iB C gl (⟨d,none,op⟩::r) e h x L=oK (aop op (Opd.ev gl e) h) (SK C gl r d e x L):=by
 cases op <;> first|(cases hp;done)|(simp only[iB,wanted,oK,SK];split <;> simp_all)
theorem z1e {d:Option Nat}{f:Nat}{args:List Opd}{r:List AOp}:iB C gl (⟨d,none,.call f args⟩::r) e h x L=C f (args.map (Opd.ev gl e)) h (SK C gl r d e x L):=(rfl)
theorem zau {d:Option Nat}{g:Option (Nat × Bool)}{op:AO}{r:List AOp}(hw:wanted g e=some true):iB C gl (⟨d,g,op⟩::r) e h x L=iB C gl (⟨d,none,op⟩::r) e h x L:=by
 rw[iB,iB];have h2:wanted none e=some true:=(rfl)
 simp only[hw,h2]
theorem z1g {d:Option Nat}{g:Option (Nat × Bool)}{op:AO}{r:List AOp}(hw:wanted g e=some false):iB C gl (⟨d,g,op⟩::r) e h x L=iB C gl r (put d .skp e) h x L:=by
 rw[iB];simp only[hw]
theorem zat {d:Option Nat}{g:Option (Nat × Bool)}{op:AO}{r:List AOp}(hw:wanted g e=none):iB C gl (⟨d,g,op⟩::r) e h x L=False:=by
 rw[iB];simp only[hw]
theorem z1h {d:Option Nat}{t:Nat}{b:Bool}{op:AO}{r:List AOp}:iB C gl (⟨d,some (t,b),op⟩::r) e h x L=FE (bA e t) b (iB C gl (⟨d,none,op⟩::r) e h x L) (iB C gl r (put d .skp e) h x L):=by
 have key:∀v,bA e t=v→iB C gl (⟨d,some (t,b),op⟩::r) e h x L=FE v b (iB C gl (⟨d,none,op⟩::r) e h x L) (iB C gl r (put d .skp e) h x L):=by
  intro v hv;unfold FE;split
  ·rename_i c
   split
   ·rename_i hcb;exact zau (by simp [wanted,hv,hcb])
   ·rename_i hcb;exact z1g (by simp [wanted,hv,hcb])
  ·exact z1g (by simp [wanted,hv])
  ·rename_i h1 h2
   refine zat ?_;simp only[wanted,hv]
 exact key _ rfl
theorem z4f {t:Bool}{A B:Prop}:mA (.p (.bool t)) A B=if t=true then A else B:=by cases t <;> simp [mA]
theorem z4h {A B:Prop}:mA (.p (.bool true)) A B=A:=(rfl)
theorem z4g {A B:Prop}:mA (.p (.bool false)) A B=B:=(rfl)
theorem zqA {t:Bool}{A B:Prop}:FE (.p (.bool t)) true A B=if t=true then A else B:=by cases t <;> simp [FE]
theorem zq9 {t:Bool}{A B:Prop}:FE (.p (.bool t)) false A B=if t=true then B else A:=by cases t <;> simp [FE]
theorem zgi {v v':AV}{A B:Prop}(hv:v=v'):mA v A B=mA v' A B:=by rw[hv]
theorem z3i {X:Ctx}{f:Nat}{F:AFun}{a:List AV}{h:aA}{P:lA}(hf:X.fn f=some F)(hd:F.isDet=false):cA X f a h P=EC (cA X) X.gl F a h P:=by
 rw[propext z0Z];unfold nC;rw[hf];simp only[YD,hd]
theorem zdi {X:Ctx}{f:Nat}{F:AFun}{a:List AV}{h:aA}{P:lA}(hf:X.fn f=some F)(hd:F.isDet=true):cA X f a h P = ∃v h' x,P v h' x∧EC (cA X) X.gl F a h fun v1 h1 x1=>v1=v∧h1=h'∧x1=x:=by
 rw[propext z0Z];unfold nC;rw[hf];simp only[YD,hd]
theorem jL {A B:AV→aA→Esc→Prop}(h:∀ v h' x,A v h' x=B v h' x):(∃v h' x,A v h' x) = ∃v h' x,B v h' x:=by
 simp only[h]
theorem z3o {F:AFun}{a asv:List AV}{h h1:aA}{P:lA}(hr:F.byref=false)(hp:sA h a=some (asv,h1))(hl:asv.length=F.nparams) :
 EC C gl F a h P=AW C gl F.body ⟨enter asv,h1,[]⟩ (finK F h.length P):=by
 unfold EC;rw[hr];simp only[Bool.false_eq_true,if_false,hp,hl,true_and];congr 1
theorem zdq {F:AFun}{asv:List AV}{h:aA}{P:lA}(hr:F.byref=true)(hl:asv.length=F.nparams) :
 EC C gl F asv h P=AW C gl F.body ⟨enter asv,h,[]⟩ (finK F h.length P):=by
 unfold EC;rw[hr];simp only[if_true,hl,true_and];congr 1
def doK (C:Hd)(gl:Nat→Option PV)(o:AOp)(e:List (Nat × AV))(h:aA)(R:AV→aA→Esc→Prop):Prop:=∃v h' y,ADo C gl o e h v h' y∧R v h' y
def YA (C:Hd)(f:Nat)(a:List AV)(h:aA)(R:AV→aA→Esc→Prop):Prop:=∃v h' y,C f a h (fun v1 h1 x1=>v1=v∧h1=h'∧x1=y)∧R v h' y
def kS (C:Hd)(gl:Nat→Option PV)(o:DOp)(r:List DOp)(dn:lE)(hs:List aA)(e:List (Nat × AV))(h:aA)(x:Esc)(L:List (Nat × AV)→aA→Esc→Prop)(v:AV)(h':aA)(y:Esc):Prop:=
 (o.eff=false→h'=h∧y=[])∧(∀k∈o.early,∃g,hs[k]?=some g∧ADo C gl o.op (SA (some o.rd) e) g v g []) ∧
  (∀j∈o.again,∃q,dn[j]?=some q∧ADo C gl q.1 q.2.1 h' q.2.2 h' [])∧jD C gl r (dn++[(o.op,SA (some o.rd) e,v)]) (hs++[h]) (put o.op.dst v e) h' (y++x) L
theorem z1a {o:DOp}{r:List DOp}{dn:lE}{hs:List aA}:jD C gl (o::r) dn hs e h x L=doK C gl o.op (SA (some o.rd) e) h (kS C gl o r dn hs e h x L):=(rfl)
variable {R:AV→aA→Esc→Prop}
theorem ex3 {v0:AV}{h0:aA}{y0:Esc}:(∃v h y,(v=v0∧h=h0∧y=y0)∧R v h y)=R v0 h0 y0:=
 propext ⟨fun⟨_,_,_,⟨h1,h2,h3⟩,r⟩=>by subst h1;subst h2;subst h3;exact r,fun r=>⟨_,_,_,⟨rfl,rfl,rfl⟩,r⟩⟩
theorem ex3' {v0:AV}{h0:aA}{y0:Esc}:(∃v h y,(v0=v∧h0=h∧y0=y)∧R v h y)=R v0 h0 y0:=
 propext ⟨fun⟨_,_,_,⟨h1,h2,h3⟩,r⟩=>by subst h1;subst h2;subst h3;exact r,fun r=>⟨_,_,_,⟨rfl,rfl,rfl⟩,r⟩⟩
theorem zgu {d:Option Nat}{op:AO}(hp:op.plain=true):doK C gl ⟨d,none,op⟩ e h R=oK (aop op (Opd.ev gl e) h) R:=by
 have key:∀o:Option (AV×aA×Esc),(∃v h' y,o=some (v,h',y)∧R v h' y)=oK o R:=by
  intro o;cases o with
  | none=>simp [oK]
  | some z=>obtain⟨v,h',y⟩:=z;simp only[Option.some.injEq,Prod.mk.injEq,ex3'];rfl
 rw[←key];unfold doK ADo;cases op <;> first|(cases hp;done)|rfl
theorem z5Y {d:Option Nat}{f:Nat}{args:List Opd}:doK C gl ⟨d,none,.call f args⟩ e h R=YA C f (args.map (Opd.ev gl e)) h R:=(rfl)
theorem z6a {d:Option Nat}{t:Nat}{b:Bool}{op:AO}:doK C gl ⟨d,some (t,b),op⟩ e h R=FE (bA e t) b (doK C gl ⟨d,none,op⟩ e h R) (R .skp h []):=by
 have h2:wanted none e=some true:=(rfl)
 have key:∀v,bA e t=v→doK C gl ⟨d,some (t,b),op⟩ e h R=FE v b (doK C gl ⟨d,none,op⟩ e h R) (R .skp h []):=by
  intro v hv;unfold FE;split
  ·rename_i c
   split
   ·rename_i hcb
    have hw:wanted (some (t,b)) e=some true:=by simp [wanted,hv,hcb]
    unfold doK ADo;simp only[hw,h2]
   ·rename_i hcb
    have hw:wanted (some (t,b)) e=some false:=by simp [wanted,hv,hcb]
    unfold doK ADo;simp only[hw,ex3]
  ·have hw:wanted (some (t,b)) e=some false:=by simp [wanted,hv]
   unfold doK ADo;simp only[hw,ex3]
  ·rename_i h3 h4
   have hw:wanted (some (t,b)) e=none:=by
    simp only[wanted,hv]
   unfold doK ADo;simp only[hw];simp
 exact key _ rfl
theorem zaj {X:Ctx}{f:Nat}{a a':List AV}{h h':aA}{K:lA}(ha:a=a')(hh:h=h'):cA X f a h K=cA X f a' h' K:=by rw[ha,hh]
theorem zgy {o:DOp}{r:List DOp}{dn:lE}{hs:List aA}{v:AV}{h':aA}{y:Esc}:kS C gl o r dn hs e h x L v h' y=((o.eff=false→h'=h∧y=[])∧(∀k∈o.early,∃g,hs[k]?=some g∧ADo C gl o.op (SA (some o.rd) e) g v g []) ∧
 (∀j∈o.again,∃q,dn[j]?=some q∧ADo C gl q.1 q.2.1 h' q.2.2 h' [])∧jD C gl r (dn++[(o.op,SA (some o.rd) e,v)]) (hs++[h]) (put o.op.dst v e) h' (y++x) L):=(rfl)
end Go.Am
end
section
/- The abstract machine,part 25: from a call that ends well here tov the model's call on a whole world. -/
set_option linter.unusedSimpArgs false
set_option linter.unusedVariables false
namespace Go.Am
variable {P:Program}
theorem zls (W:World):HeapRel [] [] W:=⟨rfl,fun id o m h=>by simp at h,fun i j b n n' h=>by simp at h,fun i b n h=>by simp at h⟩
theorem z7J {W:World}{b:Nat}{o:Go.Obj}(hb:W.heap[b]?=some o):(imm [] [] W).b b=some o:=MI.2 ⟨fun⟨id,n,h⟩=>by simp at h,hb⟩
theorem z7K {W:World}{b o:Nat}{v:Value}(hb:W.cell? ⟨b,o,none⟩=some v):(imm [] [] W).c b o=some v:=ED.2 ⟨fun⟨id,n,h,_⟩=>by simp at h,hb⟩
theorem zdD {W W':World}{h:aA}{μ:Mu}(E:(imm [] [] W).le (imm h μ W')):RowKit.Below W.heap.size W W':=by
 have hz:zed W'=zed W:=Option.some.inj E.z
 have hb:∀b,b<W.heap.size→W'.heap[b]?=W.heap[b]?:=fun b hb=>by
  have h1:=Array.getElem?_eq_getElem hb
  rw[h1];exact(MI.1 (E.b b _ (z7J h1))).2
 refine⟨(congrArg World.os hz:(zed W').os=(zed W).os),(congrArg World.tape hz:(zed W').tape=(zed W).tape),(congrArg World.output hz:(zed W').output=(zed W).output),?_,hb⟩;rcases Nat.eq_zero_or_pos W.heap.size with h0|h0
 ·omega
 ·have h1:=hb (W.heap.size-1) (by omega)
  rw[Array.getElem?_eq_getElem (show W.heap.size-1<W.heap.size by omega)]at h1
  have:=(Array.getElem?_eq_some_iff.1 h1).1;omega
theorem zfJ {X:Ctx}(HX:Fits P X){f:Nat}{F:AFun}(hF:X.fn f=some F)(args:Array Value)(w:World):(callFunc f args).run P w = .ok (.enter f args) w:=by
 have hck:=HX.fn f F hF
 unfold nX at hck;split at hck
 ·rename_i fn hfn
  split at hck
  ·rename_i c hb
   simp only[Bool.and_eq_true,bne_iff_ne,ne_eq]at hck;exact oS hfn hb hck.2 _ w
  ·cases hck
 ·cases hck
theorem z3O {X:Ctx}(HX:Fits P X){f:Nat}{F:AFun}(hF:X.fn f=some F){asv:List AV}{K:lA}(H:cA X f asv [] K){W:World}{vs:List Value}(hG:GD X.gl (imm [] [] W))(hl:asv.length=vs.length)
 (hr:∀(j:Nat) (y:AV) (v:Value),asv[j]?=some y→vs[j]?=some v→RAV (imm [] [] W) [] [] y v) :
 Calls P f vs.toArray W fun
  | .returned r,W'=>(∃v h x μ,K v h x∧RAV (imm h μ W') h μ v r)∧RowKit.Below W.heap.size W W'
  | _,_=>False:=by
 rcases z3N HX H [] W vs (zls W) hG hl hr with⟨_,q⟩|⟨r,w',_,_,_,_,q,_⟩
 case inr=>rw[zfJ HX hF]at q;cases q
 refine q.mono fun e W' he=>?_
 cases e with
 | returned r=>
  obtain⟨v,h',x,μ',k1,k2,k3,k4,k5⟩:=he;exact⟨⟨v,h',x,μ',k1,k2⟩,zdD k4.le⟩
 | panicked _=>exact he
 | outgrown=>exact he
def qU (zs:List Int):AV:=.p (.sl none (zs.map fun n=>.int .i64 n))
theorem zfN (W:World):RAV (imm [] [] W) [] [] (qU []) (.slice none 0 0):=.p _ _ (.nils _ _ _)
theorem zfM {W:World}{a:Addr}{len cap:Nat}{zs:List Int}(hs:a.spot=none)(hl:len≤cap)(hz:len≤zs.length)(hc:∀ i,i<zs.length→W.cell? (a.add i)=some (.int .i64 (zs.getD i 0))) :
 RAV (imm [] [] W) [] [] (qU (zs.take len)) (.slice (some a) len cap):=by
 obtain⟨b,o,s⟩:=a;simp only at hs;subst hs;refine .p _ _ ?_;have hlen:((zs.take len).map fun n=>PV.int .i64 n).length=len:=by simp [hz]
 have hfl:((zs.take len).map fun n=>PV.int .i64 n).flatMap PV.cells=(zs.take len).map fun n=>PV.int .i64 n:=by
  generalize zs.take len=l;induction l with
  | nil=>rfl
  | cons n r ih=>simp only[List.map_cons,List.flatMap_cons,ih];rfl
 by_cases h0:len=0
 ·subst h0
  simp;exact .nils _ _ _
 ·have key:=RPV.sl (M:=imm [] [] W) none ((zs.take len).map fun n=>PV.int .i64 n) b o cap (fun j=>.int .i64 (zs.getD j 0)) (fun hh=>by rw[hh]at hlen;simp at hlen;omega) (by rw[hlen];exact hl)
   (fun x hx=>by obtain⟨n,_,rfl⟩:=List.mem_map.1 hx;rfl)
   (fun j y hy=>by
    rw[hfl]at hy;have hj:j<len:=by have:=GA hy;rw[hlen]at this;exact this
    have:=hc j (by omega)
    rw[MC]at this;exact z7K this)
   (fun j y hy=>by
    rw[hfl]at hy;have hj:j<len:=by have:=GA hy;rw[hlen]at this;exact this
    have hjz:j<zs.length:=by omega
    simp [List.getElem?_take,hj,hjz]at hy;subst hy;have:zs.getD j 0=zs[j]:=by simp [List.getD,hjz]
    rw[this];exact .int _ _)
  rwa [hlen]at key
end Go.Am
end
section
/- The abstract machine,part 26: FB calls are computed. -/
set_option linter.unusedSimpArgs false
set_option linter.unusedVariables false
namespace Go.Am
mutual
def PV.same:PV→PV→Bool
 | .int k a,.int k' b=>decide (k=k')&&decide (a=b)
 | .bool a,.bool b=>decide (a=b)
 | .str a,.str b=>decide (a=b)
 | .sl s xs,.sl t ys=>decide (s=t)&&PV.sames xs ys
 | .agg xs,.agg ys=>PV.sames xs ys
 | .nilp,.nilp=>true
 | _,_=>false
def PV.sames:List PV→List PV→Bool
 | [],[]=>true
 | a::asv,b::bs=>PV.same a b&&PV.sames asv bs
 | _,_=>false
end
mutual
theorem PV.same_eq:∀ (a b:PV),PV.same a b=true→a=b
 | .int k a,b,h=>by
  cases b <;> simp [PV.same]at h
  obtain⟨h1,h2⟩:=h;subst h1;subst h2;rfl
 | .bool a,b,h=>by cases b <;> simp [PV.same]at h;subst h;rfl
 | .str a,b,h=>by cases b <;> simp [PV.same]at h;subst h;rfl
 | .sl s xs,b,h=>by
  cases b <;> simp [PV.same]at h
  obtain⟨h1,h2⟩:=h;subst h1;rw[PV.sames_eq _ _ h2]
 | .agg xs,b,h=>by
  cases b <;> simp [PV.same]at h
  rw[PV.sames_eq _ _ h]
 | .nilp,b,h=>by cases b <;> simp [PV.same]at h;rfl
theorem PV.sames_eq:∀ (a b:List PV),PV.sames a b=true→a=b
 | [],b,h=>by cases b <;> simp [PV.sames]at h;rfl
 | x::xs,b,h=>by
  cases b <;> simp [PV.sames]at h
  rw[PV.same_eq _ _ h.1,PV.sames_eq _ _ h.2]
end
mutual
def AV.same:AV→AV→Bool
 | .p a,.p b=>PV.same a b
 | .own a b c d,.own a' b' c' d'=>decide (a=a')&&decide (b=b')&&decide (c=c')&&decide (d=d')
 | .sl0 a,.sl0 b=>decide (a=b)
 | .ref a b,.ref a' b'=>decide (a=a')&&decide (b=b')
 | .rref a b c d,.rref a' b' c' d'=>decide (a=a')&&decide (b=b')&&decide (c=c')&&decide (d=d')
 | .vp a,.vp b=>PV.same a b
 | .nilp,.nilp=>true
 | .nilm,.nilm=>true
 | .nilf,.nilf=>true
 | .nili,.nili=>true
 | .ifc,.ifc=>true
 | .mp a,.mp b=>decide (a=b)
 | .it a,.it b=>decide (a=b)
 | .fn a b,.fn a' b'=>decide (a=a')&&AV.sames b b'
 | .agg a,.agg b=>AV.sames a b
 | .tup a,.tup b=>AV.sames a b
 | .anyb,.anyb=>true
 | .skp,.skp=>true
 | .und,.und=>true
 | .anyp,.anyp=>true
 | .bt a b c d,.bt a' b' c' d'=>decide (a=a')&&decide (b=b')&&decide (c=c')&&decide (d=d')
 | _,_=>false
def AV.sames:List AV→List AV→Bool
 | [],[]=>true
 | a::asv,b::bs=>AV.same a b&&AV.sames asv bs
 | _,_=>false
end
mutual
theorem AV.same_eq:∀ (a b:AV),AV.same a b=true→a=b
 | .p a,b,h=>by cases b <;> simp [AV.same]at h;rw[PV.same_eq _ _ h]
 | .own _ _ _ _,b,h=>by cases b <;> simp [AV.same]at h;simp [h]
 | .sl0 _,b,h=>by cases b <;> simp [AV.same]at h;simp [h]
 | .ref _ _,b,h=>by cases b <;> simp [AV.same]at h;simp [h]
 | .rref _ _ _ _,b,h=>by cases b <;> simp [AV.same]at h;simp [h]
 | .vp a,b,h=>by cases b <;> simp [AV.same]at h;rw[PV.same_eq _ _ h]
 | .nilp,b,h=>by cases b <;> simp [AV.same]at h;rfl
 | .nilm,b,h=>by cases b <;> simp [AV.same]at h;rfl
 | .nilf,b,h=>by cases b <;> simp [AV.same]at h;rfl
 | .nili,b,h=>by cases b <;> simp [AV.same]at h;rfl
 | .ifc,b,h=>by cases b <;> simp [AV.same]at h;rfl
 | .mp _,b,h=>by cases b <;> simp [AV.same]at h;simp [h]
 | .it _,b,h=>by cases b <;> simp [AV.same]at h;simp [h]
 | .fn _ cs,b,h=>by cases b <;> simp [AV.same]at h;rw[h.1,AV.sames_eq _ _ h.2]
 | .agg cs,b,h=>by cases b <;> simp [AV.same]at h;rw[AV.sames_eq _ _ h]
 | .tup cs,b,h=>by cases b <;> simp [AV.same]at h;rw[AV.sames_eq _ _ h]
 | .anyb,b,h=>by cases b <;> simp [AV.same]at h;rfl
 | .skp,b,h=>by cases b <;> simp [AV.same]at h;rfl
 | .und,b,h=>by cases b <;> simp [AV.same]at h;rfl
 | .anyp,b,h=>by cases b <;> simp [AV.same]at h;rfl
 | .bt _ _ _ _,b,h=>by cases b <;> simp [AV.same]at h;simp [h]
theorem AV.sames_eq:∀ (a b:List AV),AV.sames a b=true→a=b
 | [],b,h=>by cases b <;> simp [AV.sames]at h;rfl
 | x::xs,b,h=>by
  cases b <;> simp [AV.sames]at h
  rw[AV.same_eq _ _ h.1,AV.sames_eq _ _ h.2]
end
abbrev EvC:=Nat→List AV→aA→Option (AV×aA×Esc)
def gL (C:EvC)(gl:Nat→Option PV)(o:AOp)(e:List (Nat × AV))(h:aA):Option (AV×aA×Esc):=match wanted o.guard e with
 | some true=>match o.op with
  | .call f args=>C f (args.map (Opd.ev gl e)) h
  | .callv f args=>match Opd.ev gl e f with
   | .fn g caps=>C g (args.map (Opd.ev gl e)++caps) h
   | _=>none
  | .mnext _ _=>none
  | op=>aop op (Opd.ev gl e) h
 | some false=>some (.skp,h,[])
 | none=>none
def z65 (gl:Nat→Option PV)(o:AOp)(e:List (Nat × AV))(h:aA):Option (AV×aA):=match o.op with
 | .mnext sh xs=>match wanted o.guard e with
  | some true=>match fO h sh (xs.map (Opd.ev gl e)) with
   | some [y]=>some y
   | _=>none
  | _=>none
 | _=>none
def iL (C:EvC)(gl:Nat→Option PV):List AOp→List (Nat×AV)→aA→Esc→Option (List (Nat×AV)×aA×Esc)
 | [],e,h,x=>some (e,h,x)
 | o::r,e,h,x=>match gL C gl o e h with
  | some (v,h',x')=>iL C gl r (put o.dst v e) h' (x'++x)
  | none=>match z65 gl o e h with
   | some (v,h')=>iL C gl r (put o.dst v e) h' x
   | none=>none
def AO.still:AO→Bool
 | .mv _ | .pick _ _ _ | .build _ _ | .load _ _ | .nilchk _ | .bin _ _ _ | .eqa _ _ _ _ | .isnil _ _ _ | .mkif _ | .un _ _ | .mkfn _ _ | .slice _ _ _ _ _ | .slstr _ _ _ | .faddr _ _ _ | .field _ _ _ | .iaddr _ _ _
 | .iaddra _ _ _ _ | .idxa _ _ _ _ | .idxs _ _ | .look _ _ _ _ _ | .ext _ _ | .len _ | .lens _ | .lenm _ | .mx _ | .mn _=>true
 | _=>false
def AO.still2:AO→Bool
 | .conv (.i _) _=>true
 | o=>o.still
def ME.same (a b:ME):Bool:=PV.same a.key b.key&&AV.same a.val b.val&&decide (a.born=b.born)
def MEs.same:List ME→List ME→Bool
 | [],[]=>true
 | a::asv,b::bs=>ME.same a b&&MEs.same asv bs
 | _,_=>false
def Obj.same:Obj→Obj→Bool
 | .box a,.box b=>AV.sames a b
 | .row a b c,.row a' b' c'=>decide (a=a')&&PV.sames b b'&&decide (c=c')
 | .amap a b,.amap a' b'=>MEs.same a a'&&decide (b=b')
 | .iter a b c d,.iter a' b' c' d'=>decide (a=a')&&decide (b=b')&&decide (c=c')&&decide (d=d')
 | _,_=>false
def aA.same:List Obj→List Obj→Bool
 | [],[]=>true
 | a::asv,b::bs=>Obj.same a b&&aA.same asv bs
 | _,_=>false
theorem ME.same_eq {a b:ME}(h:ME.same a b=true):a=b:=by
 cases a;cases b
 simp only[ME.same,Bool.and_eq_true,decide_eq_true_eq]at h;obtain⟨⟨h1,h2⟩,h3⟩:=h;rw[PV.same_eq _ _ h1,AV.same_eq _ _ h2,h3]
theorem MEs.same_eq:∀ {a b:List ME},MEs.same a b=true→a=b
 | [],[],_=>rfl
 | [],_::_,h=>by simp [MEs.same]at h
 | _::_,[],h=>by simp [MEs.same]at h
 | a::asv,b::bs,h=>by
  simp only[MEs.same,Bool.and_eq_true]at h;rw[ME.same_eq h.1,MEs.same_eq h.2]
theorem Obj.same_eq {a b:Obj}(h:Obj.same a b=true):a=b:=by
 cases a <;> cases b <;> simp only[Obj.same,Bool.and_eq_true,decide_eq_true_eq]at h <;> first
  | (cases h;done)
  | (rw[AV.sames_eq _ _ h])
  | (obtain⟨⟨h1,h2⟩,h3⟩:=h;rw[h1,PV.sames_eq _ _ h2,h3])
  | (obtain⟨h1,h2⟩:=h;rw[MEs.same_eq h1,h2])
  | (obtain⟨⟨⟨h1,h2⟩,h3⟩,h4⟩:=h;rw[h1,h2,h3,h4])
theorem aA.same_eq:∀ {a b:List Obj},aA.same a b=true→a=b
 | [],[],_=>rfl
 | [],_::_,h=>by simp [aA.same]at h
 | _::_,[],h=>by simp [aA.same]at h
 | a::asv,b::bs,h=>by
  simp only[aA.same,Bool.and_eq_true]at h;rw[Obj.same_eq h.1,aA.same_eq h.2]
def tS (C:EvC)(gl:Nat→Option PV)(o:AOp)(e:List (Nat × AV))(g:aA)(v:AV):Bool:=match gL C gl o e g with
 | some (v',g',y)=>AV.same v' v&&y.isEmpty&&(o.op.still2||aA.same g' g)
 | none=>false
def zO (C:EvC)(gl:Nat→Option PV):List DOp→lE→List aA→List (Nat×AV)→aA→Esc→Option (List (Nat×AV)×aA×Esc)
 | [],_,_,e,h,x=>some (e,h,x)
 | o::r,dn,hs,e,h,x=>match gL C gl o.op (SA (some o.rd) e) h with
  | some (v,h',y)=>
   if(o.eff||o.op.op.still2||y.isEmpty&&aA.same h' h)&&(o.early.all fun k=>match hs[k]? with|some g=>tS C gl o.op (SA (some o.rd) e) g v|none=>false)
    && (o.again.all fun j=>match dn[j]? with|some q=>tS C gl q.1 q.2.1 h' q.2.2|none=>false) then
    zO C gl r (dn++[(o.op,SA (some o.rd) e,v)]) (hs++[h]) (put o.op.dst v e) h' (y++x)
   else none
  | none=>none
def rS (T:St→Option (Ex × St)):Nat→St→Option (Ex×St)
 | 0,_=>none
 | n+1,s=>match T s with
  | some (.normal,s')=>rS T n s'
  | r=>r
def ZB (C:EvC)(gl:Nat→Option PV)(n:Nat):ACode→St→Option (Ex×St)
 | .skip,s=>some (.normal,s)
 | .reg ops keep,s=>match iL C gl ops s.env s.h s.esc with
  | some (e,h,x)=>some (.normal,⟨SA keep e,h,x⟩)
  | none=>none
 | .draw ds keep,s=>match zO C gl ds [] [] s.env s.h s.esc with
  | some (e,h,x)=>some (.normal,⟨SA keep e,h,x⟩)
  | none=>none
 | .seq a b,s=>match ZB C gl n a s with
  | some (.normal,s')=>ZB C gl n b s'
  | r=>r
 | .cond c a b,s=>match Opd.ev gl s.env c with
  | .p (.bool t)=>match t with
   | true=>ZB C gl n a s
   | false=>ZB C gl n b s
  | _=>none
 | .det b,s=>ZB C gl n b s
 | .condu c a b,s=>match Opd.ev gl s.env c with
  | .p (.bool t)=>match t with
   | true=>ZB C gl n a s
   | false=>ZB C gl n b s
  | _=>none
 | .block id b,s=>match ZB C gl n b s with
  | some (.exit i,s')=>if i=id then some (.normal,s') else some (.exit i,s')
  | r=>r
 | .loop b,s=>rS (ZB C gl n b) n s
 | .scope b,s=>match ZB C gl n b ⟨s.env,s.h,[]⟩ with
  | some (e,s')=>some (e,gE s.h.length s.esc s')
  | none=>none
 | .pr l b,s=>ZB C gl n b ⟨SA (some l) s.env,s.h,s.esc⟩
 | .exit id,s=>some (.exit id,s)
 | .ret,s=>some (.ret,s)
 | .bad,_=>none
def gZ (F:AFun)(b:Nat)(s:St):Option (AV×aA×Esc):=match IE s F.results with
 | some vs=>match F.keep with
  | true=>
   let n:=close s.esc.length s.esc (max b (dB vs).top)
   if FB s.esc n then some (dB vs,s.h.take n,s.esc.filter fun y=>decide (y.1<n)) else some (dB vs,s.h,s.esc)
  | false=>match MA b s.h (dB vs) with
   | some v0=>
    let n:=close s.esc.length s.esc (max b v0.top)
    if FB s.esc n then match MA n s.h (dB vs) with
     | some v=>if v.top≤n then some (v,s.h.take n,s.esc.filter fun y=>decide (y.1<n)) else none
     | none=>none
    else some (dB vs,s.h,s.esc)
   | none=>none
 | none=>none
def eZ (C:EvC)(gl:Nat→Option PV)(n:Nat)(F:AFun)(args:List AV)(h:aA):Option (AV×aA×Esc):=
 match (if F.byref then some (args,h) else sA h args) with
 | some (asv,h1)=>if asv.length=F.nparams then match ZB C gl n F.body ⟨enter asv,h1,[]⟩ with
  | some (.exit _,_)=>none
  | some (_,s)=>gZ F h.length s
  | none=>none
  else none
 | none=>none
def jJ (C':EvC)(C:Hd):Prop:=∀f a h v h' x (K:lA),C' f a h=some (v,h',x)→K v h' x→C f a h K
variable {C':EvC} {C:Hd} {gl:Nat→Option PV}
theorem z6z (hC:jJ C' C){o:AOp}{e:List (Nat × AV)}{h h':aA}{v:AV}{x:Esc}(H:gL C' gl o e h=some (v,h',x)):ADo C gl o e h v h' x:=by
 unfold gL at H;unfold ADo;split at H
 ·rename_i hw
  simp only[hw];obtain⟨dst,guard,op⟩:=o;cases op;case call f args=>exact hC _ _ _ _ _ _ _ H ⟨rfl,rfl,rfl⟩
  case callv f args=>
   dsimp only at H ⊢;split at H
   ·rename_i hf
    simp only[hf];exact hC _ _ _ _ _ _ _ H ⟨rfl,rfl,rfl⟩
   ·cases H
  case mnext sh xs=>cases H
  all_goals exact H
 ·rename_i hw
  simp only[hw];injection H with H
  injection H with h1 H
  injection H with h2 h3
  exact⟨h1.symm,h2.symm,h3.symm⟩
 ·cases H
theorem hZ (hC:jJ C' C):∀(ops:List AOp) e h x e' h' x' (K:List (Nat×AV)→aA→Esc→Prop),iL C' gl ops e h x=some (e',h',x')→K e' h' x'→iB C gl ops e h x K
 | [],e,h,x,e',h',x',K,H,hK=>by
  simp only[iL,Option.some.injEq,Prod.mk.injEq]at H;obtain⟨rfl,rfl,rfl⟩:=H;exact hK
 | o::r,e,h,x,e',h',x',K,H,hK=>by
  unfold iL at H;split at H
  ·rename_i v h1 x1 hd
   have ih:=hZ hC r _ _ _ _ _ _ K H hK
   unfold gL at hd;unfold iB;split at hd
   ·rename_i hw
    simp only[hw];obtain⟨dst,guard,op⟩:=o;cases op;case call f args=>exact hC _ _ _ _ _ _ _ hd ih
    case callv f args=>
     dsimp only at hd ⊢;split at hd
     ·rename_i hf
      simp only[hf];exact hC _ _ _ _ _ _ _ hd ih
     ·cases hd
    case mnext sh xs=>cases hd
    all_goals
     dsimp only at hd ⊢;rw[hd];exact ih
   ·rename_i hw
    simp only[hw];injection hd with hd
    injection hd with h1 hd
    injection hd with h2 h3
    subst h1;subst h2;subst h3
    exact ih
   ·cases hd
  ·split at H
   ·rename_i v h1 hd
    have ih:=hZ hC r _ _ _ _ _ _ K H hK
    unfold z65 at hd;unfold iB;split at hd
    ·rename_i sh xs hop
     split at hd
     ·rename_i hw
      simp only[hw,hop];split at hd
      ·rename_i y hm
       injection hd with hd
       subst hd;simp only[hm];refine⟨by simp,fun z hz=>?_⟩
       rw[List.mem_singleton]at hz;subst hz;exact ih
      ·cases hd
     ·cases hd
    ·cases hd
   ·cases H
theorem zdy {o:AO}(hs:o.still=true){ev:Opd→AV}{h h':aA}{v:AV}{x:Esc}(H:aop o ev h=some (v,h',x)):h'=h∧x=[]:=by
 cases o <;> first|(cases hs;done)|skip
 all_goals
  unfold aop at H;dsimp only at H;repeat' split at H
  all_goals first
   | (cases H;done)
   | (simp only[Option.some.injEq,Prod.mk.injEq]at H;obtain⟨_,rfl,rfl⟩:=H;exact⟨rfl,rfl⟩)
   | (simp only[Option.map_eq_some_iff,Prod.mk.injEq]at H;obtain⟨_,_,_,rfl,rfl⟩:=H;exact⟨rfl,rfl⟩)
   | (have H2:=nilc (g:=[]) H;rename_i k neg p;cases hb:UI k (ev p) <;> rw[hb]at H <;> simp only[cond_true,cond_false,Option.map_eq_some_iff,Option.some.injEq,Prod.mk.injEq]at H <;> first|(obtain⟨_,rfl,rfl⟩:=H;exact⟨rfl,rfl⟩)|(obtain⟨_,_,_,rfl,rfl⟩:=H;exact⟨rfl,rfl⟩))
theorem zdz {o:AO}(hs:o.still2=true){ev:Opd→AV}{h h':aA}{v:AV}{x:Esc}(H:aop o ev h=some (v,h',x)):h'=h∧x=[]:=by
 unfold AO.still2 at hs;split at hs
 ·simp only[aop,oG]at H
  split at H
  ·simp at H;exact⟨H.2.1.symm,H.2.2⟩
  ·simp at H
 ·exact zdy hs H
theorem WU {o:AOp}(hs:o.op.still2=true){e:List (Nat × AV)}{h h':aA}{v:AV}{x:Esc}(H:ADo C gl o e h v h' x):h'=h∧x=[]:=by
 unfold ADo at H;split at H
 ·obtain⟨dst,guard,op⟩:=o
  cases op <;> first|(cases hs;done)|exact zdz hs H
 ·exact H.2
 ·exact H.elim
theorem zpX {o:AO}(h:o.still=true):o.still2=true:=by
 cases o <;> first|exact h|(cases h;done)
theorem zap {o:AOp}(hs:o.op.still=true){e:List (Nat × AV)}{h h':aA}{v:AV}{x:Esc}(H:ADo C gl o e h v h' x):h'=h∧x=[]:=WU (zpX hs) H
theorem z66 (hC:jJ C' C){o:AOp}{e:List (Nat × AV)}{g:aA}{v:AV}(H:tS C' gl o e g v=true):ADo C gl o e g v g []:=by
 unfold tS at H;split at H
 ·rename_i v' g' y hd
  simp only[Bool.and_eq_true,Bool.or_eq_true,List.isEmpty_iff]at H;obtain⟨⟨h1,h2⟩,h3⟩:=H;have h1:=AV.same_eq _ _ h1
  have:=z6z (C:=C) hC hd;rcases h3 with hs|hs
  ·obtain⟨e1,e2⟩:=WU hs this
   subst e1;subst e2;subst h1
   exact this
  ·have e1:=aA.same_eq hs
   subst e1;subst h2;subst h1
   exact this
 ·cases H
theorem z60 (hC:jJ C' C):∀(ds:List DOp) dn hs e h x e' h' x' (K:List (Nat×AV)→aA→Esc→Prop),zO C' gl ds dn hs e h x=some (e',h',x')→K e' h' x'→jD C gl ds dn hs e h x K
 | [],dn,hs,e,h,x,e',h',x',K,H,hK=>by
  simp only[zO,Option.some.injEq,Prod.mk.injEq]at H;obtain⟨rfl,rfl,rfl⟩:=H;exact hK
 | o::r,dn,hs,e,h,x,e',h',x',K,H,hK=>by
  unfold zO at H;split at H
  ·rename_i v h1 y hd
   split at H
   ·rename_i hc
    simp only[Bool.and_eq_true,Bool.or_eq_true,List.all_eq_true]at hc;obtain⟨⟨c1,c2⟩,c3⟩:=hc;have hdo:=z6z (C:=C) hC hd
    refine⟨v,h1,y,hdo,fun he=>?_,fun k hk=>?_,fun j hj=>?_,z60 hC r _ _ _ _ _ _ _ _ K H hK⟩
    ·rcases c1 with(c1|c1)|⟨c1,c4⟩
     ·rw[c1]at he;cases he
     ·exact WU c1 hdo
     ·rw[List.isEmpty_iff]at c1
      exact⟨aA.same_eq c4,c1⟩
    ·have:=c2 k hk
     split at this
     ·rename_i g hg
      exact⟨g,hg,z66 hC this⟩
     ·cases this
    ·have:=c3 j hj
     split at this
     ·rename_i q hq
      exact⟨q,hq,z66 hC this⟩
     ·cases this
   ·cases H
  ·cases H
theorem z62 {T':St→Option (Ex × St)}{T:St→(Ex→St→Prop)→Prop}(hT:∀ s e s' K,T' s=some (e,s')→K e s'→T s K):∀n s e s' K,rS T' n s=some (e,s')→K e s'→ALoop T K s
 | 0,s,e,s',K,H,hK=>by cases H
 | n+1,s,e,s',K,H,hK=>by
  unfold rS at H;split at H
  ·rename_i s1 h1
   refine .mk s (fun e2 s2=>e2 = .normal∧s2=s1) (hT _ _ _ _ h1 ⟨rfl,rfl⟩) (fun s2 ⟨_,h2⟩=>?_) (fun i s2 ⟨h2,_⟩=>by cases h2) (fun s2 ⟨h2,_⟩=>by cases h2)
   subst h2;exact z62 hT n _ _ _ K H hK
  ·rename_i hne
   have hne':e ≠ .normal:=fun he=>by subst he;exact hne _ H
   refine .mk s (fun e2 s2=>e2=e∧s2=s') (hT _ _ _ _ H ⟨rfl,rfl⟩) (fun s2 ⟨h2,_⟩=>(hne' h2.symm).elim) (fun i s2 ⟨h2,h3⟩=>by subst h3;rw[h2];exact hK) (fun s2 ⟨h2,h3⟩=>by subst h3;rw[h2];exact hK)
theorem uE (hC:jJ C' C)(n:Nat):∀(c:ACode) s e s' (K:Ex→St→Prop),ZB C' gl n c s=some (e,s')→K e s'→AW C gl c s K
 | .skip,s,e,s',K,H,hK=>by
  simp only[ZB,Option.some.injEq,Prod.mk.injEq]at H;obtain⟨rfl,rfl⟩:=H;exact hK
 | .reg ops keep,s,e,s',K,H,hK=>by
  unfold ZB at H;split at H
  ·rename_i h1
   simp only[Option.some.injEq,Prod.mk.injEq]at H;obtain⟨rfl,rfl⟩:=H;exact hZ hC _ _ _ _ _ _ _ _ h1 hK
  ·cases H
 | .draw ds keep,s,e,s',K,H,hK=>by
  unfold ZB at H;split at H
  ·rename_i h1
   simp only[Option.some.injEq,Prod.mk.injEq]at H;obtain⟨rfl,rfl⟩:=H;exact z60 hC _ _ _ _ _ _ _ _ _ _ h1 hK
  ·cases H
 | .seq a b,s,e,s',K,H,hK=>by
  unfold ZB at H;unfold AW;split at H
  ·rename_i s1 h1
   exact uE hC n a s _ _ _ h1 (uE hC n b _ _ _ K H hK)
  ·rename_i hne
   have hne':e ≠ .normal:=fun he=>by subst he;exact hne _ H
   refine uE hC n a s _ _ _ H ?_;cases e with
   | normal=>exact(hne' rfl).elim
   | exit i=>exact hK
   | ret=>exact hK
 | .det b,s,e,s',K,H,hK=>by
  unfold ZB at H;exact uE hC n b s _ _ K H hK
 | .condu c a b,s,e,s',K,H,hK=>by
  unfold ZB at H;unfold AW;split at H
  ·rename_i t ht
   simp only[ht];split at H
   ·exact uE hC n a s _ _ _ H hK
   ·exact uE hC n b s _ _ _ H hK
  ·cases H
 | .cond c a b,s,e,s',K,H,hK=>by
  unfold ZB at H;unfold AW;split at H
  ·rename_i t ht
   simp only[ht];split at H
   ·exact uE hC n a s _ _ _ H hK
   ·exact uE hC n b s _ _ _ H hK
  ·cases H
 | .block id b,s,e,s',K,H,hK=>by
  unfold ZB at H;unfold AW;split at H
  ·rename_i i s1 h1
   refine uE hC n b s _ _ _ h1 ?_;dsimp only;split at H
   ·rw[if_pos ‹_›]
    simp only[Option.some.injEq,Prod.mk.injEq]at H;obtain⟨rfl,rfl⟩:=H;exact hK
   ·rw[if_neg ‹_›]
    simp only[Option.some.injEq,Prod.mk.injEq]at H;obtain⟨rfl,rfl⟩:=H;exact hK
  ·rename_i hne
   refine uE hC n b s _ _ _ H ?_;cases e with
   | normal=>exact hK
   | exit i=>exact(hne _ _ H).elim
   | ret=>exact hK
 | .loop b,s,e,s',K,H,hK=>by
  unfold ZB at H;unfold AW;exact z62 (fun s e s' K h k=>uE hC n b s e s' K h k) n s e s' K H hK
 | .scope b,s,e,s',K,H,hK=>by
  unfold ZB at H;unfold AW;split at H
  ·rename_i e1 s1 h1
   simp only[Option.some.injEq,Prod.mk.injEq]at H;obtain⟨rfl,rfl⟩:=H;exact uE hC n b _ _ _ _ h1 hK
  ·cases H
 | .pr l b,s,e,s',K,H,hK=>by
  unfold ZB at H;unfold AW;exact uE hC n b _ _ _ K H hK
 | .exit id,s,e,s',K,H,hK=>by
  simp only[ZB,Option.some.injEq,Prod.mk.injEq]at H;obtain⟨rfl,rfl⟩:=H;exact hK
 | .ret,s,e,s',K,H,hK=>by
  simp only[ZB,Option.some.injEq,Prod.mk.injEq]at H;obtain⟨rfl,rfl⟩:=H;exact hK
 | .bad,s,e,s',K,H,hK=>by simp only[ZB]at H;cases H
theorem z61 {F:AFun}{b:Nat}{s:St}{v:AV}{h:aA}{x:Esc}{K:lA}(H:gZ F b s=some (v,h,x))(hK:K v h x):fin F b s K:=by
 unfold gZ at H;unfold fin;split at H
 ·rename_i h1
  simp only[h1];split at H
  ·rename_i h2
   simp only[h2];dsimp only at H ⊢;split at H
   ·rw[if_pos ‹_›];simp only[Option.some.injEq,Prod.mk.injEq]at H;obtain⟨rfl,rfl,rfl⟩:=H;exact hK
   ·rw[if_neg ‹_›];simp only[Option.some.injEq,Prod.mk.injEq]at H;obtain⟨rfl,rfl,rfl⟩:=H;exact hK
  ·rename_i h2
   simp only[h2];split at H
   ·rename_i h3
    simp only[h3];dsimp only at H ⊢;split at H
    ·rw[if_pos ‹_›]
     split at H
     ·rename_i h4
      simp only[h4];split at H
      ·simp only[Option.some.injEq,Prod.mk.injEq]at H;obtain⟨rfl,rfl,rfl⟩:=H;exact⟨‹_›,hK⟩
      ·cases H
     ·cases H
    ·rw[if_neg ‹_›];simp only[Option.some.injEq,Prod.mk.injEq]at H;obtain⟨rfl,rfl,rfl⟩:=H;exact hK
   ·cases H
 ·cases H
theorem z6y (hC:jJ C' C){n:Nat}{F:AFun}{a:List AV}{h:aA}{v:AV}{h':aA}{x:Esc}{K:lA}(H:eZ C' gl n F a h=some (v,h',x))(hK:K v h' x):EC C gl F a h K:=by
 unfold eZ at H;unfold EC;split at H
 ·rename_i asv h1 hp
  simp only[hp];split at H
  ·rename_i hl
   refine⟨hl,?_⟩;cases he:ZB C' gl n F.body ⟨enter asv,h1,[]⟩ with
   | none=>rw[he]at H;cases H
   | some y=>
    obtain⟨e,s⟩:=y;rw[he]at H;refine uE hC n _ _ _ _ _ he ?_;cases e with
    | exit i=>cases H
    | normal=>exact z61 H hK
    | ret=>exact z61 H hK
  ·cases H
 ·cases H
def yO (X:Ctx)(o:Nat→List AV→Option AV)(n:Nat):Nat→EvC
 | 0,_,_,_=>none
 | d+1,f,a,h=>match o f a with
  | some v=>some (v,h,[])
  | none=>match X.fn f with
   | some F=>eZ (yO X o n d) X.gl n F a h
   | none=>match X.ex2 f a h with
    | some r=>some r
    | none=>match sA h a with
     | some (asv,h1)=>match unp asv with
      | some vs=>match X.ext f vs with
       | some r=>some (.p r,h1,[])
       | none=>none
      | none=>none
     | none=>none
theorem fZ (X:Ctx)(o:Nat→List AV→Option AV)(ho:∀ f a v,o f a=some v→∀ h (K:lA),K v h []→cA X f a h K)(n:Nat):∀d,jJ (yO X o n d) (cA X)
 | 0,f,a,h,v,h',x,K,H,hK=>by cases H
 | d+1,f,a,h,v,h',x,K,H,hK=>by
  unfold yO at H;split at H
  ·rename_i v1 hv
   simp only[Option.some.injEq,Prod.mk.injEq]at H;obtain⟨rfl,rfl,rfl⟩:=H;exact ho _ _ _ hv _ _ hK
  refine cA.fold ?_;unfold nC;split at H
  ·rename_i F hF
   simp only[hF];unfold YD;cases hd:F.isDet with
   | true=>exact⟨v,h',x,hK,z6y (fZ X o ho n d) H ⟨rfl,rfl,rfl⟩⟩
   | false=>exact z6y (fZ X o ho n d) H hK
  ·rename_i hF
   simp only[hF];split at H
   ·rename_i hx2
    simp only[hx2];simp only[Option.some.injEq]at H;subst H;exact hK
   ·rename_i hx2
    simp only[hx2];split at H
    ·rename_i hp
     simp only[hp];split at H
     ·rename_i hu
      simp only[hu];split at H
      ·rename_i hx
       simp only[hx];simp only[Option.some.injEq,Prod.mk.injEq]at H;obtain⟨rfl,rfl,rfl⟩:=H;exact hK
      ·cases H
     ·cases H
    ·cases H
theorem zal {X:Ctx}{f:Nat}{a:List AV}{h:aA}{v:AV}{h':aA}{x:Esc}{o:Nat→List AV→Option AV}(ho:∀ f a v,o f a=some v→∀ h (K:lA),K v h []→cA X f a h K)(n d:Nat)(H:yO X o n d f a h=some (v,h',x))(K:lA):cA X f a h K↔K v h' x:=
 cA.eq (fZ X o ho n d _ _ _ _ _ _ _ H ⟨rfl,rfl,rfl⟩) K
end Go.Am
end
section
/- The abstract machine,part 27: loops,and the rules of computing asv one set. -/
set_option linter.unusedSimpArgs false
set_option linter.unusedVariables false
namespace Go.Am
variable {C:Hd} {gl:Nat→Option PV} {e:List (Nat × AV)} {h:aA} {x:Esc} {K:Ex→St→Prop} {s:St}
def WO {σ:Type}(S:σ→St)(P:σ→Prop)(m:σ→Nat)(K:Ex→St→Prop)(s:σ)(e:Ex)(s':St):Prop:=match e with
 | .normal=>∃t,s'=S t∧P t∧m t<m s
 | .exit i=>K (.exit i) s'
 | .ret=>K .ret s'
theorem z8j {σ:Type}{S:σ→St}{P:σ→Prop}{m:σ→Nat}{K:Ex→St→Prop}{t:σ}{s':St}:WO S P m K t .normal s' = ∃u,s'=S u∧P u∧m u<m t:=(rfl)
theorem z8i {σ:Type}{S:σ→St}{P:σ→Prop}{m:σ→Nat}{K:Ex→St→Prop}{t:σ}{s':St}{i:Nat}:WO S P m K t (.exit i) s'=K (.exit i) s':=(rfl)
theorem z8k {σ:Type}{S:σ→St}{P:σ→Prop}{m:σ→Nat}{K:Ex→St→Prop}{t:σ}{s':St}:WO S P m K t .ret s'=K .ret s':=(rfl)
theorem z1d {T:St→(Ex→St→Prop)→Prop}{K:Ex→St→Prop}{s s':St}(h:T s=T s'):ALoop T K s=ALoop T K s':=by
 refine propext ⟨fun H=>?_,fun H=>?_⟩
 ·cases H with|mk _ R a b c d=>exact .mk _ R (h ▸ a) b c d
 ·cases H with|mk _ R a b c d=>exact .mk _ R (h.symm ▸ a) b c d
theorem zdu {l:List Nat}{e:List (Nat × AV)}{t:Nat}(ht:t∈l):bA (SA (some l) e) t=bA e t:=by
 simp only[SA];induction l with
 | nil=>cases ht
 | cons k r ih=>
  simp only[List.map_cons,bA];split
  ·rename_i hk;rw[hk]
  ·rename_i hk
   rcases List.mem_cons.1 ht with h1|h1
   ·exact absurd h1.symm hk
   ·exact ih h1
theorem z8G {l:List Nat}{e:List (Nat × AV)}:SA (some l) (SA (some l) e)=SA (some l) e:=by
 show l.map _=l.map _
 exact List.map_congr_left fun t ht=>by rw[zdu ht]
theorem z3y {α:Type}(h l:List α)(n:Nat):(h++l)[h.length+n]?=l[n]?:=by
 rw[List.getElem?_append_right (by omega)];congr 1;omega
theorem zd0 {α:Type}(h l:List α):(h++l)[h.length]?=l[0]?:=by
 rw[List.getElem?_append_right (by omega)];congr 1;omega
theorem z3z {α:Type}(h l:List α)(n:Nat)(o:α):(h++l).set (h.length+n) o=h++l.set n o:=by
 rw[List.set_append_right _ _ (by omega)];congr 2;omega
theorem zd2 {α:Type}(h l:List α)(o:α):(h++l).set h.length o=h++l.set 0 o:=by
 rw[List.set_append_right _ _ (by omega)];congr 2;omega
theorem z30 {α:Type}(h l:List α)(n:Nat):(h++l).take (h.length+n)=h++l.take n:=List.take_length_add_append ..
theorem z31 {α:Type}(h l:List α):(h++l).take h.length=h:=List.take_left ..
theorem CA (n:Int)(h1 : -9223372036854775808≤n)(h2:n≤9223372036854775807):IntKind.i64.wrap n=n:=by
 simp [IntKind.wrap,IntKind.bits,IntKind.signed];omega
def qA (rs:List ARes)(kp:Bool)(b:Nat)(P:lA)(e:Ex)(s:St):Prop:=match e with
 | .exit _=>False
 | _=>match IE s rs with
  | some vs=>match kp with
   | true=>
    let n:=close s.esc.length s.esc (max b (dB vs).top)
    if FB s.esc n then P (dB vs) (s.h.take n) (s.esc.filter fun y=>decide (y.1<n)) else P (dB vs) s.h s.esc
   | false=>match MA b s.h (dB vs) with
    | some v0=>
     let n:=close s.esc.length s.esc (max b v0.top)
     if FB s.esc n then match MA n s.h (dB vs) with
      | some v=>v.top≤n∧P v (s.h.take n) (s.esc.filter fun y=>decide (y.1<n))
      | none=>False
     else P (dB vs) s.h s.esc
    | none=>False
  | none=>False
theorem jZ {F:AFun}{b:Nat}{P:lA}:finK F b P=qA F.results F.keep b P:=by
 funext e s;cases e <;> rfl
def CC (kp:Bool)(b:Nat)(P:lA)(o:Option (List AV))(h:aA)(x:Esc):Prop:=match o with
 | some vs=>match kp with
  | true=>
   let n:=close x.length x (max b (dB vs).top)
   if FB x n then P (dB vs) (h.take n) (x.filter fun y=>decide (y.1<n)) else P (dB vs) h x
  | false=>match MA b h (dB vs) with
   | some v0=>
    let n:=close x.length x (max b v0.top)
    if FB x n then match MA n h (dB vs) with
     | some v=>v.top≤n∧P v (h.take n) (x.filter fun y=>decide (y.1<n))
     | none=>False
    else P (dB vs) h x
   | none=>False
 | none=>False
theorem z6Y {rs:List ARes}{kp:Bool}{b:Nat}{P:lA}{e:List (Nat × AV)}{h:aA}{x:Esc}:qA rs kp b P .normal ⟨e,h,x⟩=CC kp b P (IE ⟨e,h,x⟩ rs) h x:=(rfl)
theorem z6Z {rs:List ARes}{kp:Bool}{b:Nat}{P:lA}{e:List (Nat × AV)}{h:aA}{x:Esc}:qA rs kp b P .ret ⟨e,h,x⟩=CC kp b P (IE ⟨e,h,x⟩ rs) h x:=(rfl)
theorem zkU {rs:List ARes}{kp:Bool}{b:Nat}{P:lA}{ex ex':Ex}{s s':St}(he:ex=ex')(hs:s=s'):qA rs kp b P ex s=qA rs kp b P ex' s':=by rw[he,hs]
theorem vU {b:Nat}{P:lA}{vs:List AV}{h:aA}(ht:(dB vs).top≤b)(hr:∀ b,MA b h (dB vs)=some (dB vs)):CC false b P (some vs) h []=P (dB vs) (h.take b) []:=by
 simp only[CC,hr,close,List.length_nil,FB,List.all_nil,if_true,List.filter_nil,Nat.max_eq_left ht,ht,true_and]
theorem znM {b:Nat}{h:aA}{v:PV}:MA b h (.p v)=some (.p v):=(rfl)
theorem znP {b:Nat}{h:aA}:fD b h []=some []:=(rfl)
theorem znT {b:Nat}{P:lA}{v:PV}{h:aA}:CC false b P (some [.p v]) h []=P (.p v) (h.take b) []:=vU (Nat.zero_le _) (fun _=>rfl)
theorem znU {b:Nat}{P:lA}{v u:PV}{h:aA}:CC false b P (some [.p v,.p u]) h []=P (.tup [.p v,.p u]) (h.take b) []:=vU (by simp [dB,AV.top,AV.tops]) (fun _=>rfl)
theorem znV {b:Nat}{P:lA}{v u w:PV}{h:aA}:CC false b P (some [.p v,.p u,.p w]) h []=P (.tup [.p v,.p u,.p w]) (h.take b) []:=vU (by simp [dB,AV.top,AV.tops]) (fun _=>rfl)
theorem znS {b:Nat}{P:lA}{h:aA}:CC false b P (some []) h []=P (.tup []) (h.take b) []:=vU (by simp [dB,AV.top,AV.tops]) (fun _=>rfl)
theorem zqj {h:aA}:h.take h.length=h:=List.take_length
theorem zny {v:AV}:dB [v]=v:=(rfl)
theorem zpU {X:Ctx}{f:Nat}{F:AFun}{a asv:List AV}{h h1:aA}{P:lA}(hf:X.fn f=some F)(hr:F.byref=false)(hp:sA h a=some (asv,h1))(hl:asv.length=F.nparams)(hd:F.isDet=false) :
 cA X f a h P=AW (cA X) X.gl F.body ⟨enter asv,h1,[]⟩ (qA F.results F.keep h.length P):=by
 rw[z3i hf hd,z3o hr hp hl,jZ]
theorem zpS {X:Ctx}{f:Nat}{F:AFun}{asv:List AV}{h:aA}{P:lA}(hf:X.fn f=some F)(hr:F.byref=true)(hl:asv.length=F.nparams)(hd:F.isDet=false) :
 cA X f asv h P=AW (cA X) X.gl F.body ⟨enter asv,h,[]⟩ (qA F.results F.keep h.length P):=by
 rw[z3i hf hd,zdq hr hl,jZ]
theorem zpV {X:Ctx}{f:Nat}{F:AFun}{a asv:List AV}{h h1:aA}{P:lA}(hf:X.fn f=some F)(hr:F.byref=false)(hp:sA h a=some (asv,h1))(hl:asv.length=F.nparams)(hd:F.isDet=true) :
 cA X f a h P = ∃v h' x,P v h' x∧AW (cA X) X.gl F.body ⟨enter asv,h1,[]⟩ (qA F.results F.keep h.length fun v1 h1 x1=>v1=v∧h1=h'∧x1=x):=by
 rw[zdi hf hd];simp only[z3o hr hp hl,jZ]
theorem uA {X:Ctx}{f:Nat}{a:List AV}{h:aA}{v:AV}{h':aA}{x:Esc}{K:lA}(H:cA X f a h fun v1 h1 x1=>v1=v∧h1=h'∧x1=x):cA X f a h K=K v h' x:=propext (cA.eq H K)
theorem z8y {k:IntKind}{n:Nat}:uB (.p (.int k (n:Int)))=some n:=by simp [uB]
theorem znp {k:IntKind}{n:Nat}:uB (.p (.int k (no_index (OfNat.ofNat n:Int))))=some (OfNat.ofNat n:Nat):=z8y (n:=n)
theorem eT {k:IntKind}{n:Int}(h:0≤n):uB (.p (.int k n))=some n.toNat:=by simp [uB,h]
theorem GB {α β:Type}(f:α→β){l:List α}{k:Nat}(h:k<l.length):(l.map f)[k]?=some (f l[k]):=by simp [h]
attribute [go_sem] eqs PV.eq1 PV.kind ne_eq not_false_eq_true not_true_eq_false Bool.and_self Bool.or_self Bool.not_eq_true
attribute [go_sem] Nat.max_le Nat.add_le_add_iff_left Option.isSome_none Option.isSome_some false_and and_false List.length_range Nat.sub_zero Nat.le_add_right
attribute [go_sem] z8y znp Int.ofNat_lt Int.ofNat_le List.length_map
attribute [go_sem] z6Y z6Z znS znT znU znV zqj List.zipIdx_cons List.zipIdx_nil List.map_cons List.map_nil Nat.reduceAdd Nat.reduceEqDiff if_true if_false Option.map_some Option.map_none List.append_nil List.nil_append decide_eq_true_eq
def doS (C:Hd)(gl:Nat→Option PV)(q:AOp × List (Nat × AV) × AV)(h:aA):Prop:=ADo C gl q.1 q.2.1 h q.2.2 h []
def agK (C:Hd)(gl:Nat→Option PV)(h:aA)(dn:lE):List Nat→Prop
 | []=>True
 | j::r=>(match dn[j]? with|some q=>doS C gl q h|none=>False)∧agK C gl h dn r
def eaK (C:Hd)(gl:Nat→Option PV)(o:AOp)(e:List (Nat × AV))(v:AV)(hs:List aA):List Nat→Prop
 | []=>True
 | k::r=>(match hs[k]? with|some g=>doS C gl (o,e,v) g|none=>False)∧eaK C gl o e v hs r
theorem z3r {C:Hd}{gl:Nat→Option PV}{h:aA}{dn:lE}:∀{l:List Nat},agK C gl h dn l↔∀j∈l,∃q,dn[j]?=some q∧ADo C gl q.1 q.2.1 h q.2.2 h []
 | []=>by simp [agK]
 | j::r=>by
  simp only[agK,List.mem_cons,forall_eq_or_imp];rw[z3r (l:=r)];refine and_congr_left (fun _=>?_)
  cases hd:dn[j]? with
  | none=>simp
  | some q=>simp [doS]
theorem z6f {C:Hd}{gl:Nat→Option PV}{o:AOp}{e:List (Nat × AV)}{v:AV}{hs:List aA}:∀{l:List Nat},eaK C gl o e v hs l↔∀k∈l,∃g,hs[k]?=some g∧ADo C gl o e g v g []
 | []=>by simp [eaK]
 | j::r=>by
  simp only[eaK,List.mem_cons,forall_eq_or_imp];rw[z6f (l:=r)];refine and_congr_left (fun _=>?_)
  cases hd:hs[j]? with
  | none=>simp
  | some q=>simp [doS]
def effK (b:Bool)(h h':aA)(y:Esc):Prop:=match b with
 | true=>True
 | false=>h'=h∧y=[]
theorem z6d {C:Hd}{gl:Nat→Option PV}{e:List (Nat × AV)}{h:aA}{x:Esc}{L:List (Nat × AV)→aA→Esc→Prop}{op:AOp}{rd early again:List Nat}{eff:Bool}{r:List DOp}{dn:lE}{hs:List aA}{v:AV}{h':aA}{y:Esc} :
 kS C gl ⟨op,rd,eff,early,again⟩ r dn hs e h x L v h' y=(effK eff h h' y∧eaK C gl op (SA (some rd) e) v hs early∧agK C gl h' dn again∧jD C gl r (dn++[(op,SA (some rd) e,v)]) (hs++[h]) (put op.dst v e) h' (y++x) L):=by
 rw[zgy,←propext z6f,←propext z3r];cases eff <;> simp [effK]
theorem z6b {C:Hd}{gl:Nat→Option PV}{d:Option Nat}{g:Option (Nat × Bool)}{op:AO}{e:List (Nat × AV)}{v:AV}{h:aA}:doS C gl (⟨d,g,op⟩,e,v) h=doK C gl ⟨d,g,op⟩ e h (fun v1 h1 x1=>v1=v∧h1=h∧x1=[]):=by
 unfold doS doK;refine propext ⟨fun H=>⟨_,_,_,H,rfl,rfl,rfl⟩,fun⟨v1,h1,x1,H,a,b,c⟩=>by subst a;subst b;subst c;exact H⟩
theorem zgj {p:Prop}[Decidable p]{A B:Prop}:mA (.p (.bool (decide p))) A B=if p then A else B:=by rw[z4f];simp
def sJ (C:Hd)(v:AV)(asv:List AV)(h:aA)(L:lA):Prop:=match v with
 | .fn g caps=>C g (asv++caps) h L
 | _=>False
theorem z1f {C:Hd}{gl:Nat→Option PV}{e:List (Nat × AV)}{h:aA}{x:Esc}{L:List (Nat × AV)→aA→Esc→Prop}{d:Option Nat}{f:Opd}{args:List Opd}{r:List AOp} :
 iB C gl (⟨d,none,.callv f args⟩::r) e h x L=sJ C (Opd.ev gl e f) (args.map (Opd.ev gl e)) h (SK C gl r d e x L):=by
 have h2:wanted none e=some true:=(rfl)
 rw[iB];simp only[h2];unfold sJ;split <;> simp_all <;> rfl
def eH (C:Hd)(v:AV)(asv:List AV)(h:aA)(R:AV→aA→Esc→Prop):Prop:=match v with
 | .fn g caps=>YA C g (asv++caps) h R
 | _=>False
theorem z5Z {C:Hd}{gl:Nat→Option PV}{e:List (Nat × AV)}{h:aA}{R:AV→aA→Esc→Prop}{d:Option Nat}{f:Opd}{args:List Opd} :
 doK C gl ⟨d,none,.callv f args⟩ e h R=eH C (Opd.ev gl e f) (args.map (Opd.ev gl e)) h R:=by
 have h2:wanted none e=some true:=(rfl)
 unfold doK ADo;simp only[h2];unfold eH YA;split <;> simp_all
theorem zfL {C:Hd}{g:Nat}{caps asv:List AV}{h:aA}{L:lA}:sJ C (.fn g caps) asv h L=C g (asv++caps) h L:=(rfl)
theorem zfK {C:Hd}{g:Nat}{caps asv:List AV}{h:aA}{R:AV→aA→Esc→Prop}:eH C (.fn g caps) asv h R=YA C g (asv++caps) h R:=(rfl)
attribute [go_sem] z1f z5Z zfL zfK
theorem zgp {k:IntKind}{n:Int}:VA none 0 (.int k n)=some (.int k n):=(rfl)
theorem zgs {s:List UInt8}:VA none 0 (.str s)=some (.str s):=(rfl)
theorem zgr {sh:Sh}{xs:List PV}:VA none 0 (.sl sh xs)=some (.sl sh xs):=(rfl)
theorem zgo {off:Nat}{cs:List PV}:VA none off (.agg cs)=(cs[off]?).bind fun x=>if x.sc then some x else none:=(rfl)
theorem zgn {n off:Nat}{cs:List PV}:VA (some n) off (.agg cs)=if off+n≤cs.length then some (.agg ((cs.drop off).take n)) else none:=(rfl)
theorem zgq {v:PV}(h:v.sc=true):VA none 0 v=some v:=by cases v <;> first|rfl|cases h
attribute [go_sem] zgp zgs zgr zgo zgn
theorem zkB {id:Nat}{v:PV}:YB id (.p v)=[]:=(rfl)
attribute [go_sem] List.take_succ_cons List.take_zero List.take_nil List.drop_succ_cons List.drop_zero List.drop_nil List.length_cons List.length_nil Nat.reduceLeDiff Nat.reduceLT Int.reduceLT Int.reduceLE Int.reduceAdd Int.reduceSub Int.reduceMul Int.reduceNeg Int.reduceEq Nat.reduceSub Nat.reduceMul Nat.le_refl List.append_assoc
theorem zqv {b:Nat}{x0:Esc}{e:List (Nat × AV)}{h:aA}:gE b x0 ⟨e,h,[]⟩=⟨JF b e,h.take b,x0⟩:=(rfl)
theorem zfQ {n:Nat}:JF n []=[]:=(rfl)
theorem zfP {n k:Nat}{v:AV}{r:List (Nat × AV)}:JF n ((k,v)::r)=(k,if v.top≤n then v else .und)::JF n r:=(rfl)
theorem top_p {v:PV}:AV.top (.p v)=0:=(rfl)
theorem z0M {id g o l:Nat}:AV.top (.own id g o l)=id+1:=by simp [AV.top]
theorem zqp {id o:Nat}:AV.top (.ref id o)=id+1:=by simp [AV.top]
theorem zqo {id:Nat}:AV.top (.mp id)=id+1:=by simp [AV.top]
theorem zqn {id:Nat}:AV.top (.it id)=id+1:=by simp [AV.top]
theorem zqm {f:Nat}{cs:List AV}:AV.top (.fn f cs)=AV.tops cs:=by simp [AV.top]
theorem zqt:AV.tops []=0:=(rfl)
theorem zqq {v:AV}{r:List AV}:AV.tops (v::r)=max v.top (AV.tops r):=by simp [AV.tops]
theorem znW {b:Nat}{P:lA}{vs:List AV}{h:aA}:CC false b P (some vs) h []=match MA b h (dB vs) with
 | some v0=>match MA (max b v0.top) h (dB vs) with
  | some v=>v.top≤max b v0.top∧P v (h.take (max b v0.top)) []
  | none=>False
 | none=>False:=by
 simp only[CC,close,List.length_nil,FB,List.all_nil,if_true,List.filter_nil]
theorem znL {b:Nat}{h:aA}{id g off len:Nat}:MA b h (.own id g off len)=if b≤id then(rd h (.own id g off len)).map fun y=>.p (.sl y.1 y.2) else some (.own id g off len):=by simp only[MA]
theorem znN {b:Nat}{h:aA}{cs:List AV}:MA b h (.tup cs)=(fD b h cs).map .tup:=by simp only[MA]
theorem znK {b f:Nat}{h:aA}{cs:List AV}:MA b h (.fn f cs)=some (.fn f cs):=by simp only[MA]
theorem znO {b:Nat}{h:aA}{v:AV}{r:List AV}:fD b h (v::r)=(match MA b h v with|some x=>(fD b h r).map (x :: ·)|none=>none):=by rw[fD];cases MA b h v <;> rfl
theorem znz {v u:AV}{r:List AV}:dB (v::u::r) = .tup (v::u::r):=(rfl)
theorem z9E {h l:aA}{id:Nat}{o:Obj}(hid:id<h.length):(h++l).set id o=h.set id o++l:=List.set_append_left _ _ hid
theorem z7A {h l:aA}{id:Nat}(hid:id<h.length):(h++l)[id]?=h[id]?:=List.getElem?_append_left hid
theorem z99 {h l:aA}{i n:Nat}{o:Obj}:(h.set i o++l)[h.length+n]?=l[n]?:=by
 have:=z3y (h.set i o) l n;rwa [List.length_set]at this
theorem zpn {h l:aA}{i:Nat}{o:Obj}:(h.set i o++l)[h.length]?=l[0]?:=z99 (n:=0)
theorem z9A {h l:aA}{i n:Nat}{o q:Obj}:(h.set i o++l).set (h.length+n) q=h.set i o++l.set n q:=by
 have:=z3z (h.set i o) l n q;rwa [List.length_set]at this
theorem zpo {h l:aA}{i:Nat}{o q:Obj}:(h.set i o++l).set h.length q=h.set i o++l.set 0 q:=z9A (n:=0)
theorem zpp {h l:aA}{i n:Nat}{o:Obj}:(h.set i o++l).take (h.length+n)=h.set i o++l.take n:=by
 have:=z30 (h.set i o) l n;rwa [List.length_set]at this
theorem zpq {h l:aA}{i:Nat}{o:Obj}:(h.set i o++l).take h.length=h.set i o:=by
 have:=z31 (h.set i o) l;rwa [List.length_set]at this
theorem pF {α:Type}{l:List α}{n:Nat}(h:l.length=n):win l 0 n=l:=by subst h;simp [win]
theorem zah {α:Type}(l:List α):win l 0 l.length=l:=by simp [win]
attribute [go_sem] zqv zfQ zfP top_p z0M zqp zqo zqn zqm zqt zqq Nat.max_zero Nat.zero_max Nat.zero_le znM znL znN znK znP znO znz z3y zd0 z3z zd2 z30 z31 z99 zpn z9A zpo zpp zpq List.length_append zah Nat.add_le_add_iff_right Nat.zero_add Nat.add_zero
attribute [go_sem] wH PV.shp List.reduceReplicate cond_true cond_false Bool.not_true Bool.not_false Bool.false_eq_true Bool.true_and Bool.and_true Bool.false_and Bool.and_false Bool.true_or Bool.or_true Bool.false_or Bool.or_false beq_self_eq_true List.all_cons List.all_nil
attribute [go_sem low] znW
theorem zqk {h:aA}{id:Nat}{o:Obj}:(h.set id o).take h.length=h.set id o:=List.take_of_length_le (by simp)
attribute [go_sem] zqk Int.natCast_zero Int.natCast_one Int.cast_ofNat_Int
attribute [go_sem] aun oG bO cO List.foldlM_cons List.foldlM_nil Option.bind_some Option.pure_def Option.bind_eq_bind List.cons_append List.nil_append Int.zero_sub List.length_singleton
attribute [go_sem] kA zkB
attribute [go_sem] z1a z5Y z6a YA ex3' z6d z6b List.not_mem_nil List.mem_cons List.mem_singleton forall_eq_or_imp forall_eq false_implies true_implies implies_true forall_const and_true true_and List.cons_append and_self reduceCtorEq List.getElem?_cons_zero List.getElem?_cons_succ Option.some.injEq exists_eq_left' List.set_cons_zero List.set_cons_succ List.set_set List.length_set
attribute [congr] zaj
attribute [congr] zkU
attribute [go_sem] z9B z1h z1e z4h z4g zgj decide_true decide_false z8j z8i z8k aop Opd.ev bA put SA gC wD qJ IE ares zny enter rd rds pur zN sA mkA unp cut AV.cells PV.cells PV.sc AV.sc splice pint pbool vH
attribute [go_sem low] z4f zqA zq9
attribute [congr] zgi
end Go.Am
end
section
/- The abstract machine,part 28: where no map is ranged PE,a call that ends well ends in one way. -/
set_option linter.unusedSimpArgs false
set_option linter.unusedVariables false
namespace Go.Am
def AO.noNext:AO→Bool
 | .mnext _ _=>false
 | _=>true
def ACode.noNext:ACode→Bool
 | .reg ops _=>ops.all fun o=>o.op.noNext
 | .seq a b=>a.noNext&&b.noNext
 | .cond _ a b=>a.noNext&&b.noNext
 | .condu _ _ _=>false
 | .det _=>false
 | .block _ b=>b.noNext
 | .loop b=>b.noNext
 | .scope b=>b.noNext
 | .pr _ b=>b.noNext
 | _=>true
def Dt (C D:Hd):Prop:=∀f a h K,C f a h K→∃v h' x,K v h' x∧D f a h fun v1 h1 x1=>v1=v∧h1=h'∧x1=x
variable {C D:Hd} {gl:Nat→Option PV}
theorem QN (hD:D.Mono)(hC:Dt C D):∀(ops:List AOp) e h x K,(ops.all fun o=>o.op.noNext)=true→iB C gl ops e h x K→∃e' h' x',K e' h' x'∧iB D gl ops e h x fun e1 h1 x1=>e1=e'∧h1=h'∧x1=x'
 | [],e,h,x,K,_,H=>⟨e,h,x,H,rfl,rfl,rfl⟩
 | o::r,e,h,x,K,hn,H=>by
  obtain⟨dst,guard,op⟩:=o;simp only[List.all_cons,Bool.and_eq_true]at hn;obtain⟨hn1,hn2⟩:=hn;unfold iB at H;dsimp only at H;split at H
  ·rename_i hw
   cases op;case call f args=>
    obtain⟨v,h',x',H',G'⟩:=hC _ _ _ _ H;obtain⟨e2,h2,x2,k2,g2⟩:=QN hD hC r _ _ _ K hn2 H';refine⟨e2,h2,x2,k2,?_⟩;unfold iB;simp only[hw]
    exact hD _ _ _ _ _ (fun v1 h1 x1 ⟨a1,a2,a3⟩=>by subst a1;subst a2;subst a3;exact g2) G'
   case callv f args=>
    dsimp only at H;split at H
    ·rename_i hf
     obtain⟨v,h',x',H',G'⟩:=hC _ _ _ _ H;obtain⟨e2,h2,x2,k2,g2⟩:=QN hD hC r _ _ _ K hn2 H';refine⟨e2,h2,x2,k2,?_⟩;unfold iB;simp only[hw,hf]
     exact hD _ _ _ _ _ (fun v1 h1 x1 ⟨a1,a2,a3⟩=>by subst a1;subst a2;subst a3;exact g2) G'
    ·exact H.elim
   case mnext sh xs=>simp [AO.noNext]at hn1
   all_goals
    dsimp only at H;split at H
    ·rename_i ha
     obtain⟨e2,h2,x2,k2,g2⟩:=QN hD hC r _ _ _ K hn2 H;refine⟨e2,h2,x2,k2,?_⟩;unfold iB;simp only[hw,ha]
     exact g2
    ·exact H.elim
  ·rename_i hw
   obtain⟨e2,h2,x2,k2,g2⟩:=QN hD hC r _ _ _ K hn2 H;refine⟨e2,h2,x2,k2,?_⟩;unfold iB;simp only[hw]
   exact g2
  ·exact H.elim
theorem VU (hD:D.Mono)(hC:Dt C D){o:AOp}{e:List (Nat × AV)}{h h':aA}{v:AV}{x:Esc}(H:ADo C gl o e h v h' x):ADo D gl o e h v h' x:=by
 have key:∀f a h,C f a h (fun v1 h1 x1=>v1=v∧h1=h'∧x1=x)→D f a h (fun v1 h1 x1=>v1=v∧h1=h'∧x1=x):=fun f a h hc=>by
  obtain⟨v2,h2,x2,⟨e1,e2,e3⟩,hd⟩:=hC _ _ _ _ hc;subst e1;subst e2;subst e3
  exact hd
 unfold ADo at H ⊢;split at H
 ·split at H
  ·exact key _ _ _ H
  ·split at H
   ·exact key _ _ _ H
   ·exact H.elim
  ·exact H.elim
  ·exact H
 ·exact H
 ·exact H.elim
theorem z1b (hD:D.Mono)(hC:Dt C D):∀(ds:List DOp) dn hs e h x K,jD C gl ds dn hs e h x K→∃e' h' x',K e' h' x'∧jD D gl ds dn hs e h x fun e1 h1 x1=>e1=e'∧h1=h'∧x1=x'
 | [],dn,hs,e,h,x,K,H=>⟨e,h,x,H,rfl,rfl,rfl⟩
 | o::r,dn,hs,e,h,x,K,H=>by
  obtain⟨v,h',y,h1,h2,h3,h4,h5⟩:=H;obtain⟨e2,q2,x2,k2,g2⟩:=z1b hD hC r _ _ _ _ _ K h5;exact⟨e2,q2,x2,k2,v,h',y,VU hD hC h1,h2,fun k hk=>by obtain⟨g,a1,a2⟩:=h3 k hk;exact⟨g,a1,VU hD hC a2⟩,
   fun j hj=>by obtain⟨q,a1,a2⟩:=h4 j hj;exact⟨q,a1,VU hD hC a2⟩,g2⟩
theorem zaq {T U:St→(Ex→St→Prop)→Prop}(hT:∀ s K,T s K→∃ e s',K e s'∧U s fun e1 s1=>e1=e∧s1=s'){K:Ex→St→Prop}{s:St}(H:ALoop T K s):∃e s',K e s'∧ALoop U (fun e1 s1=>e1=e∧s1=s') s:=by
 induction H with
 | mk s R h hn he hr ih=>
  obtain⟨e,s',hR,hU⟩:=hT _ _ h;cases e with
  | normal=>
   obtain⟨e2,s2,k2,g2⟩:=ih s' hR;exact⟨e2,s2,k2,.mk _ _ hU (fun s1 ⟨_,h1⟩=>by subst h1;exact g2) (fun i s1 ⟨h1,_⟩=>by cases h1) (fun s1 ⟨h1,_⟩=>by cases h1)⟩
  | exit i=>exact⟨_,_,he i s' hR,.mk _ _ hU (fun s1 ⟨h1,_⟩=>by cases h1) (fun j s1 h1=>h1) (fun s1 ⟨h1,_⟩=>by cases h1)⟩
  | ret=>exact⟨_,_,hr s' hR,.mk _ _ hU (fun s1 ⟨h1,_⟩=>by cases h1) (fun j s1 ⟨h1,_⟩=>by cases h1) (fun s1 h1=>h1)⟩
theorem RG (hD:D.Mono)(hC:Dt C D):∀(c:ACode),c.noNext=true→∀s K,AW C gl c s K→∃e s',K e s'∧AW D gl c s fun e1 s1=>e1=e∧s1=s'
 | .skip,_,s,K,H=>⟨_,_,H,rfl,rfl⟩
 | .reg ops keep,hn,s,K,H=>by
  obtain⟨e,h,x,h1,h2⟩:=QN hD hC ops _ _ _ _ hn H;refine⟨_,_,h1,?_⟩;show iB D gl ops s.env s.h s.esc fun e1 h1 x1=>_
  exact hJ (C:=D) (C':=D) (fun f a h K K' hK h=>hD _ _ _ _ _ hK h) ops _ _ _ _ _ (fun e1 h1 x1 ⟨a1,a2,a3⟩=>by subst a1;subst a2;subst a3;exact⟨rfl,rfl⟩) h2
 | .draw ds keep,_,s,K,H=>by
  obtain⟨e,h,x,h1,h2⟩:=z1b hD hC ds _ _ _ _ _ _ H;refine⟨_,_,h1,?_⟩;show jD D gl ds [] [] s.env s.h s.esc fun e1 h1 x1=>_
  exact XU (C:=D) (C':=D) (fun f a h K K' hK h=>hD _ _ _ _ _ hK h) ds _ _ _ _ _ _ _ (fun e1 h1 x1 ⟨a1,a2,a3⟩=>by subst a1;subst a2;subst a3;exact⟨rfl,rfl⟩) h2
 | .seq a b,hn,s,K,H=>by
  simp only[ACode.noNext,Bool.and_eq_true]at hn;obtain⟨e,s',h1,h2⟩:=RG hD hC a hn.1 _ _ H;have mono:=fun(K K':Ex→St→Prop) (hK:∀e s,K e s→K' e s)=>XC (C:=D) (C':=D) (gl:=gl) (fun f a h K K' hK h=>hD _ _ _ _ _ hK h) a s K K' hK
  cases e with
  | normal=>
   obtain⟨e2,s2,k2,g2⟩:=RG hD hC b hn.2 _ _ h1;refine⟨e2,s2,k2,mono _ _ (fun e1 s1 ⟨a1,a2⟩=>?_) h2⟩
   subst a1;subst a2;exact g2
  | exit i=>exact⟨_,_,h1,mono _ _ (fun e1 s1 ⟨a1,a2⟩=>by subst a1;subst a2;exact⟨rfl,rfl⟩) h2⟩
  | ret=>exact⟨_,_,h1,mono _ _ (fun e1 s1 ⟨a1,a2⟩=>by subst a1;subst a2;exact⟨rfl,rfl⟩) h2⟩
 | .condu c a b,hn,s,K,H=>by cases hn
 | .det b,hn,s,K,H=>by cases hn
 | .cond c a b,hn,s,K,H=>by
  simp only[ACode.noNext,Bool.and_eq_true]at hn;unfold AW at H;split at H
  ·rename_i t ht
   split at H
   ·obtain⟨e,s',h1,h2⟩:=RG hD hC a hn.1 _ _ H
    refine⟨e,s',h1,?_⟩;unfold AW;simp only[ht];exact h2
   ·obtain⟨e,s',h1,h2⟩:=RG hD hC b hn.2 _ _ H
    refine⟨e,s',h1,?_⟩;unfold AW;simp only[ht];exact h2
  ·exact H.elim
 | .block id b,hn,s,K,H=>by
  obtain⟨e,s',h1,h2⟩:=RG hD hC b hn _ _ H;have mono:=fun(K K':Ex→St→Prop) (hK:∀e s,K e s→K' e s)=>XC (C:=D) (C':=D) (gl:=gl) (fun f a h K K' hK h=>hD _ _ _ _ _ hK h) b s K K' hK
  cases e with
  | normal=>exact⟨_,_,h1,mono _ _ (fun e1 s1 ⟨a1,a2⟩=>by subst a1;subst a2;exact⟨rfl,rfl⟩) h2⟩
  | exit i=>
   dsimp only at h1;split at h1
   ·rename_i hi
    exact⟨_,_,h1,mono _ _ (fun e1 s1 ⟨a1,a2⟩=>by subst a1;subst a2;dsimp only;rw[if_pos hi];exact⟨rfl,rfl⟩) h2⟩
   ·rename_i hi
    exact⟨_,_,h1,mono _ _ (fun e1 s1 ⟨a1,a2⟩=>by subst a1;subst a2;dsimp only;rw[if_neg hi];exact⟨rfl,rfl⟩) h2⟩
  | ret=>exact⟨_,_,h1,mono _ _ (fun e1 s1 ⟨a1,a2⟩=>by subst a1;subst a2;exact⟨rfl,rfl⟩) h2⟩
 | .loop b,hn,s,K,H=>zaq (fun s K h=>RG hD hC b hn s K h) H
 | .scope b,hn,s,K,H=>by
  obtain⟨e,s',h1,h2⟩:=RG hD hC b hn _ _ H;exact⟨_,_,h1,XC (C:=D) (C':=D) (gl:=gl) (fun f a h K K' hK h=>hD _ _ _ _ _ hK h) b _ _ _ (fun e1 s1 ⟨a1,a2⟩=>by subst a1;subst a2;exact⟨rfl,rfl⟩) h2⟩
 | .pr l b,hn,s,K,H=>RG hD hC b hn _ K H
 | .exit id,_,s,K,H=>⟨_,_,H,rfl,rfl⟩
 | .ret,_,s,K,H=>⟨_,_,H,rfl,rfl⟩
 | .bad,_,s,K,H=>H.elim
theorem z7a {F:AFun}{b:Nat}{s:St}{K:lA}(H:fin F b s K):∃v h x,K v h x∧fin F b s fun v1 h1 x1=>v1=v∧h1=h∧x1=x:=by
 unfold fin at H;cases h1:IE s F.results with
 | none=>rw[h1]at H;exact H.elim
 | some vs=>
  rw[h1]at H;dsimp only at H;cases h2:F.keep with
  | true=>
   rw[h2]at H;dsimp only at H;by_cases h3:FB s.esc (close (List.length s.esc) s.esc (max b (dB vs).top))=true
   ·rw[if_pos h3]at H
    exact⟨_,_,_,H,by unfold fin;rw[h1];dsimp only;rw[h2];dsimp only;rw[if_pos h3];exact⟨rfl,rfl,rfl⟩⟩
   ·rw[if_neg h3]at H
    exact⟨_,_,_,H,by unfold fin;rw[h1];dsimp only;rw[h2];dsimp only;rw[if_neg h3];exact⟨rfl,rfl,rfl⟩⟩
  | false=>
   rw[h2]at H;dsimp only at H;cases h4:MA b s.h (dB vs) with
   | none=>rw[h4]at H;exact H.elim
   | some v0=>
    rw[h4]at H;dsimp only at H;by_cases h3:FB s.esc (close (List.length s.esc) s.esc (max b v0.top))=true
    ·rw[if_pos h3]at H
     cases h5:MA (close (List.length s.esc) s.esc (max b v0.top)) s.h (dB vs) with
     | none=>rw[h5]at H;exact H.elim
     | some v=>
      rw[h5]at H;exact⟨_,_,_,H.2,by unfold fin;rw[h1];dsimp only;rw[h2];dsimp only;rw[h4];dsimp only;rw[if_pos h3,h5];exact⟨H.1,rfl,rfl,rfl⟩⟩
    ·rw[if_neg h3]at H
     exact⟨_,_,_,H,by unfold fin;rw[h1];dsimp only;rw[h2];dsimp only;rw[h4];dsimp only;rw[if_neg h3];exact⟨rfl,rfl,rfl⟩⟩
def Ctx.NoNext (X:Ctx):Prop:=∀f F,X.fn f=some F→(F.isDet||F.body.noNext)=true
theorem zdp (hD:D.Mono)(hC:Dt C D){F:AFun}{a:List AV}{h:aA}{K:lA}(hb:F.body.noNext=true)(H:EC C gl F a h K):∃v h' x,K v h' x∧EC D gl F a h fun v1 h1 x1=>v1=v∧h1=h'∧x1=x:=by
 unfold EC at H ⊢;cases hp:(if F.byref then some (a,h) else sA h a) with
 | none=>rw[hp]at H;exact H.elim
 | some q=>
  obtain⟨asv,h1⟩:=q;rw[hp]at H;obtain⟨hl,H⟩:=H;obtain⟨e,s',k1,g1⟩:=RG hD hC _ hb _ _ H;have mono:=fun(K K':Ex→St→Prop) (hK:∀e s,K e s→K' e s)=>XC (C:=D) (C':=D) (gl:=gl) (fun f a h K K' hK h=>hD _ _ _ _ _ hK h) F.body ⟨enter asv,h1,[]⟩ K K' hK
  cases e with
  | exit i=>exact k1.elim
  | normal=>
   obtain⟨v,h',x,k2,g2⟩:=z7a k1;exact⟨v,h',x,k2,hl,mono _ _ (fun e1 s1 ⟨a1,a2⟩=>by subst a1;subst a2;exact g2) g1⟩
  | ret=>
   obtain⟨v,h',x,k2,g2⟩:=z7a k1;exact⟨v,h',x,k2,hl,mono _ _ (fun e1 s1 ⟨a1,a2⟩=>by subst a1;subst a2;exact g2) g1⟩
theorem zak {X:Ctx}(hX:X.NoNext):Dt (cA X) (cA X):=by
 intro f a h K H;refine H (fun f a h K=>∃v h' x,K v h' x∧cA X f a h fun v1 h1 x1=>v1=v∧h1=h'∧x1=x) ?_ ?_
 ·intro f a h K K' hK ⟨v,h',x,k,g⟩
  exact⟨v,h',x,hK _ _ _ k,g⟩
 ·intro f a h K H
  have hC:Dt (fun f a h K=>∃v h' x,K v h' x∧cA X f a h fun v1 h1 x1=>v1=v∧h1=h'∧x1=x) (cA X):=fun f a h K H=>H
  have hD:=cA.mono X
  unfold nC at H;split at H
  ·rename_i F hF
   unfold YD at H;cases hd:F.isDet with
   | true=>
    rw[hd]at H;obtain⟨v,h',x,k,H⟩:=H;refine⟨v,h',x,k,cA.fold ?_⟩;unfold nC;simp only[hF,YD,hd];exact⟨v,h',x,⟨rfl,rfl,rfl⟩,NQ (fun f a h K K' hK ⟨v2,h2,x2,k2,g2⟩=>hD _ _ _ _ _ (fun v1 h1 x1 hv=>by obtain⟨rfl,rfl,rfl⟩:=hv;exact hK _ _ _ k2) g2) (fun _ _ _ h=>h) H⟩
   | false=>
    rw[hd]at H;obtain⟨v,h',x,k1,g1⟩:=zdp hD hC (by have:=hX f F hF;rw[hd]at this;simpa using this) H
    refine⟨v,h',x,k1,cA.fold ?_⟩;unfold nC;simp only[hF,YD,hd]
    exact g1
  ·rename_i hF
   split at H
   ·rename_i hx2
    refine⟨_,_,_,H,cA.fold ?_⟩;unfold nC;simp only[hF,hx2]
    exact⟨trivial,trivial,trivial⟩
   ·rename_i hx2
    split at H
    ·rename_i hp
     split at H
     ·rename_i hu
      split at H
      ·rename_i hx
       refine⟨_,_,_,H,cA.fold ?_⟩;unfold nC;simp only[hF,hx2,hp,hu,hx]
       exact⟨trivial,trivial,trivial⟩
      ·exact H.elim
     ·exact H.elim
    ·exact H.elim
theorem cA.one {X:Ctx}(hX:X.NoNext){f:Nat}{a:List AV}{h:aA}{Q:lA}(H:cA X f a h Q):∃v h' x,Q v h' x∧∀K:lA,cA X f a h K=K v h' x:=by
 obtain⟨v,h',x,k,g⟩:=zak hX _ _ _ _ H;exact⟨v,h',x,k,fun K=>uA g⟩
end Go.Am
end
section
/- The abstract machine,part 29: its meaning once more,spelt so that a function's code can be printed asv a formula PE its values (shallow),equal tov the deep one by computing. -/
set_option linter.unusedSimpArgs false
set_option linter.unusedVariables false
namespace Go.Am
def pK (o:Option AV)(k:AV→Prop):Prop:=match o with
 | some v=>k v
 | none=>False
def wK (o:Option (AV × aA × Esc))(k:AV→aA→Esc→Prop):Prop:=match o with
 | some y=>k y.1 y.2.1 y.2.2
 | none=>False
def DA (c a b:AV):Option AV:=match c with
 | .p (.bool t)=>some (bif t then a else b)
 | _=>none
def vB (x:AV)(h:aA):Option (AV×aA×Esc):=match x.cells with
 | some cs=>some (.ref h.length 0,h++[.box cs],[])
 | none=>none
def FO:List (Nat × Nat × AV)→List AV→Option (List AV)
 | [],cs=>some cs
 | (off,n,x)::r,cs=>match x.cells with
  | some vs=>if vs.length=n∧off+n≤cs.length then FO r (splice cs off vs) else none
  | none=>none
def RB (z:List AV)(ps:List (Nat × Nat × AV)):Option AV:=(FO ps z).map mkA
def GO (sh:Sh):List (Nat×AV)→aA→List PV→Option (List PV×aA)
 | [],h,xs=>some (xs,h)
 | (i,x)::r,h,xs=>match pur h x with
  | some (v,h')=>if v.shp sh∧i<xs.length then GO sh r h' (xs.set i v) else none
  | none=>none
def RA (own:Bool)(sh:Sh)(n:Nat)(z:PV)(ps:List (Nat × AV))(h:aA):Option (AV×aA×Esc):=match GO sh ps h (List.replicate n z) with
 | some (xs,h')=>if !z.shp sh then none else some (bif own then(.own h'.length n 0 n,h'++[.row sh xs 0],[]) else(.p (.sl sh xs),h',[]))
 | none=>none
def eA (sh:Sh)(a:AV)(h:aA):Option AV:=match a with
 | .ref id off=>match h[id]? with
  | some (.box cs)=>cut sh off cs
  | _=>none
 | .rref id g i off=>match h[id]? with
  | some (.row _ xs _)=>if g=xs.length then((xs[i]?).bind (VA sh off)).map .p else none
  | _=>none
 | .vp v=>(VA sh 0 v).map .p
 | .bt k off id g=>ldA sh k off id g h
 | _=>none
def tA (sh:Sh)(a x:AV)(h:aA):Option (AV×aA×Esc):=match a with
 | .ref id off=>match h[id]?,x.cells with
  | some (.box cs),some vs=>if vs.length=kA sh∧off+vs.length≤cs.length then some (.und,h.set id (.box (splice cs off vs)),vG id cs x) else none
  | _,_=>none
 | .rref id g i off=>match pur h x with
  | some (v,h1)=>match h1[id]? with
   | some (.row rsh xs fz)=>if g=xs.length∧fz≤i∧v.cells.length=kA sh∧v.cells.all PV.sc then match xs[i]? with
    | some (.agg cs)=>if off+v.cells.length≤cs.length then some (.und,h1.set id (.row rsh (xs.set i (.agg (splice cs off v.cells))) fz),[]) else none
    | some _=>if off=0∧v.sc then some (.und,h1.set id (.row rsh (xs.set i v) fz),[]) else none
    | none=>none
    else none
   | _=>none
  | none=>none
 | .bt k off id g=>stA sh k off id g x h
 | _=>none
def rA (x:AV):Option AV:=match x with
 | .ref _ _ | .rref _ _ _ _ | .vp _ | .fn _ _=>some x
 | .bt k _ _ _=>nlA k x
 | _=>none
def gA (op:BinOp)(x y:AV):Option AV:=match x,y with
 | .p a,.p b=>(gC op a b).map .p
 | _,_=>none
def nB (ks:List Nat)(neg:Bool)(x y:AV):Option AV:=match x,y with
 | .p (.agg asv),.p (.agg bs)=>if asv.map PV.kind=ks∧bs.map PV.kind=ks∧ks≠[] then(eqs asv bs).map fun t=>pbool (bif neg then !t else t) else none
 | .p (.bool a),.p (.bool b)=>if ks=[] then some (pbool (bif neg then !decide (a=b) else decide (a=b))) else none
 | _,_=>none
def AM (k:Nat)(neg:Bool)(x:AV):Option AV:=bif UI k x then some .anyb else(jP k x).map fun r=>pbool (bif neg then !r else r)
def z85 (x:AV):Option AV:=if HH x then some .ifc else none
def oUn (op:UnOp)(x:AV):Option AV:=match x with
 | .p a=>(aun op a).map .p
 | _=>none
def lP (c:Cv)(x:AV)(h:aA):Option (AV×aA×Esc):=(oG h c x).map fun y=>(y.1,y.2,[])
def DH (k:IntKind)(x:AV):Option AV:=match x with
 | .p (.int _ n)=>some (.p (.int k (k.wrap n)))
 | _=>none
def IZ (sh:Sh)(z:PV)(len cap:AV)(h:aA):Option (AV×aA×Esc):=match uB len,uB cap with
 | some n,some m=>if n≤m∧m≤cB∧z.shp sh then some (.own h.length n 0 n,h++[.row sh (List.replicate n z) 0],[]) else none
 | _,_=>none
def KD (d:Nat):Option AV→Option Nat
 | none=>some d
 | some x=>uB x
def jT (x:AV)(lo hi:Option AV):Option AV:=match x with
 | .p (.str s)=>match KD 0 lo,KD s.length hi with
  | some l,some r=>if l≤r∧r≤s.length then some (.p (.str (win s l (r-l)))) else none
  | _,_=>none
 | _=>none
def eD (sh:Sh)(x:AV)(lo hi mx:Option AV)(h:aA):Option AV:=match x with
 | .p (.sl sh' xs)=>match KD 0 lo,KD xs.length hi,KD xs.length mx with
  | some l,some r,some m=>if sh'=sh∧l≤r∧r≤m∧m≤xs.length then some (if mx.isSome∧m=l then .sl0 sh else .p (.sl sh (win xs l (r-l)))) else none
  | _,_,_=>none
 | .sl0 sh'=>match KD 0 lo,KD 0 hi,KD 0 mx with
  | some l,some r,some m=>if l=0∧r=0∧m=0 then some (.sl0 sh') else none
  | _,_,_=>none
 | .own id g off len=>match h[id]? with
  | some (.row rsh xs _)=>match KD 0 lo,KD len hi,KD len mx with
   | some l,some r,some m=>if rsh=sh∧g=xs.length∧off+len≤xs.length∧l≤r∧r≤m∧m≤len then some (if mx.isSome∧m=l then .sl0 sh else .own id g (off+l) (r-l)) else none
   | _,_,_=>none
  | _=>none
 | _=>none
def jA (off:Nat)(sh:Sh)(x:AV):Option AV:=match x with
 | .ref id o=>some (.ref id (o+off))
 | .rref id g i o=>some (.rref id g i (o+off))
 | .vp v=>(VA sh off v).map .vp
 | .bt k o id g=>faA k off o id g
 | _=>none
def mK (off:Nat)(sh:Sh)(x:AV):Option AV:=match x with
 | .p v=>match v with
  | .agg _=>(VA sh off v).map .p
  | _=>none
 | .agg cs=>cut sh off cs
 | _=>none
def wA (sh:Sh)(x i:AV)(h:aA):Option AV:=match x,uB i with
 | .p (.sl sh' xs),some k=>if sh'=sh then(xs[k]?).map .vp else none
 | .own id g off len,some k=>match h[id]? with
  | some (.row rsh xs _)=>if rsh=sh∧g=xs.length∧off+len≤xs.length∧k<len then some (.rref id g (off+k) 0) else none
  | _=>none
 | .bt kk _ id g,some k=>iaA sh kk id g k h
 | _,_=>none
def FZ (n:Nat)(sh:Sh)(x i:AV):Option AV:=match x,uB i with
 | .ref id o,some k=>if k<n then some (.ref id (o+k*kA sh)) else none
 | .rref id g j o,some k=>if k<n then some (.rref id g j (o+k*kA sh)) else none
 | .vp v,some k=>if k<n then(VA sh (k*kA sh) v).map .vp else none
 | _,_=>none
def iT (n:Nat)(sh:Sh)(x i:AV):Option AV:=match x,uB i with
 | .p (.agg cs),some k=>if k<n then(VA sh (k*kA sh) (.agg cs)).map .p else none
 | _,_=>none
def GH (x i:AV):Option AV:=match x,uB i with
 | .p (.str s),some k=>(s[k]?).map fun b=>.p (.int .u8 b.toNat)
 | _,_=>none
def jB (x:AV)(i:Nat):Option AV:=match x with
 | .tup vs=>vs[i]?
 | _=>none
def OA (x:AV):Option AV:=match x with
 | .p (.sl _ xs)=>some (pint xs.length)
 | .sl0 _=>some (pint 0)
 | .own _ _ _ len=>some (pint len)
 | .bt k _ _ g=>lnA k g
 | _=>none
def nK (x:AV):Option AV:=match x with
 | .p (.str s)=>some (pint s.length)
 | _=>none
def dD (sh:Sh)(s x:AV)(h:aA):Option (AV×aA×Esc):=match rds h x with
 | some (sh',ys)=>if sh'=sh then match s with
  | .sl0 _=>if ys.length≤cB then some (.own h.length ys.length 0 ys.length,h++[.row sh ys 0],[]) else none
  | .own id g off len=>match h[id]? with
   | some (.row rsh xs fz)=>if rsh=sh∧g=xs.length∧off=0∧len=xs.length∧len+ys.length≤cB∧fz≤xs.length then some (.own id (g+ys.length) off (len+ys.length),h.set id (.row sh (xs++ys) fz),[])
    else if rsh=sh∧g=xs.length∧off+len+ys.length≤xs.length∧fz≤off+len∧1≤ys.length∧len+ys.length≤cB∧sh=none∧xs.all PV.intP=true∧ys.all PV.intP=true then
     some (.p (.sl sh (win xs off len++ys)),h.set id (.row sh (splice xs (off+len) (List.replicate ys.length .unk)) (off+len+ys.length)),[])
    else none
   | _=>none
  | _=>none
  else none
 | none=>none
def z82 (sh:Sh)(d s:AV)(h:aA):Option (AV×aA×Esc):=match d,rds h s with
 | .own id g off len,some (sh',ys)=>match h[id]? with
  | some (.row rsh xs fz)=>if rsh=sh∧sh'=sh∧g=xs.length∧off+len≤xs.length∧fz≤off then
   some (pint (min ys.length len),h.set id (.row sh (splice xs off (ys.take (min ys.length len))) fz),[])
   else none
  | _=>none
 | _,_=>none
def oClr (sh:Sh)(z:PV)(x:AV)(h:aA):Option (AV×aA×Esc):=match x with
 | .sl0 _=>some (.tup [],h,[])
 | .own id g off len=>match h[id]? with
  | some (.row rsh xs fz)=>if rsh=sh∧g=xs.length∧off+len≤xs.length∧fz≤off then
   some (.tup [],h.set id (.row sh (splice xs off (List.replicate len z)) fz),[])
   else none
  | _=>none
 | _=>none
def oMx (xs:List AV):Option AV:=match xs with
 | .p a::r=>((unp r).bind fun l=>l.foldlM bO a).map .p
 | _=>none
def oMn (xs:List AV):Option AV:=match xs with
 | .p a::r=>((unp r).bind fun l=>l.foldlM cO a).map .p
 | _=>none
def QA (kk:Sh × List Nat)(ok:Bool)(z x k:AV)(h:aA):Option AV:=match pC kk k with
 | some key=>match (match x with | .nilm=>some []|m=>(IB h m).map fun y=>y.2.1) with
  | some es=>match mC key es with
   | some r=>
    let v:=((r.bind (es[·]?)).map ME.val)
    some (bif ok then .tup [v.getD z,pbool v.isSome] else v.getD z)
   | none=>none
  | none=>none
 | none=>none
def oB (kk:Sh × List Nat)(m k x:AV)(h:aA):Option (AV×aA×Esc):=match pC kk k,IB h m,HH x with
 | some key,some (id,es,c),true=>match mC key es with
  | some (some i)=>some (.und,h.set id (.amap (es.modify i fun e=>{ e with val:=x }) c),YB id x)
  | some none=>some (.und,h.set id (.amap (es++[⟨key,x,c⟩]) (c+1)),YB id x)
  | none=>none
 | _,_,_=>none
def z84 (kk:Sh × List Nat)(z m k:AV)(h:aA):Option (AV×aA×Esc):=match pC kk k,IB h m with
 | some key,some (id,es,c)=>match mC key es with
  | some (some i)=>(es[i]?).map fun e=>(.tup [e.val,pint e.born],h,[])
  | some none=>some (.tup [z,pint c],h.set id (.amap (es++[⟨key,z,c⟩]) (c+1)),[])
  | none=>none
 | _,_=>none
def z83 (m s x:AV)(h:aA):Option (AV×aA×Esc):=match IB h m,uB s,HH x with
 | some (id,es,c),some b,true=>match es.findIdx? (fun e=>e.born==b) with
  | some i=>some (.und,h.set id (.amap (es.modify i fun e=>{ e with val:=x }) c),YB id x)
  | none=>none
 | _,_,_=>none
def TB (kk:Sh × List Nat)(m k:AV)(h:aA):Option (AV×aA×Esc):=match pC kk k,IB h m with
 | some key,some (id,es,c)=>match mC key es with
  | some (some i)=>some (.und,h.set id (.amap (es.eraseIdx i) c),[])
  | some none=>some (.und,h,[])
  | none=>none
 | _,_=>none
def GZ (x:AV)(h:aA):Option AV:=match x with
 | .nilm=>some (pint 0)
 | .mp id=>(IB h (.mp id)).map fun y=>pint y.2.1.length
 | _=>none
def JC (x:AV)(h:aA):Option (AV×aA×Esc):=match IB h x with
 | some (id,_,c)=>some (.it h.length,h++[.iter (some id) c [] c],[])
 | none=>match x with
  | .nilm=>some (.it h.length,h++[.iter none 0 [] 0],[])
  | _=>none
def IC (i:AV)(h:aA):Option (AV×aA×Esc):=match i with
 | .it id=>match h[id]? with
  | some (.iter (some m) _ seen last)=>match IB h (.mp m),seen.getLast? with
   | some (_,es,c),some b=>if c=last then(es.find? (fun e=>e.born==b)).map fun e=>(.tup [.p e.key,e.val],h,[]) else none
   | _,_=>none
  | _=>none
 | _=>none
def alK (z:List AV)(h:aA)(k:AV→aA→Esc→Prop):Prop:=k (.ref h.length 0) (h++[.box z]) []
def nwK (sh:Sh)(h:aA)(k:AV→aA→Esc→Prop):Prop:=k (.own h.length 0 0 0) (h++[.row sh [] 0]) []
def mmK (h:aA)(k:AV→aA→Esc→Prop):Prop:=k (.mp h.length) (h++[.amap [] 0]) []
def ev3 (ev:Opd→AV):List (Nat×Nat×Opd)→List (Nat×Nat×AV)
 | []=>[]
 | (a,b,x)::r=>(a,b,ev x)::ev3 ev r
def ev2 (ev:Opd→AV):List (Nat×Opd)→List (Nat×AV)
 | []=>[]
 | (a,x)::r=>(a,ev x)::ev2 ev r
def evO (ev:Opd→AV):Option Opd→Option AV
 | none=>none
 | some x=>some (ev x)
def ev1 (ev:Opd→AV):List Opd→List AV
 | []=>[]
 | x::r=>ev x::ev1 ev r
def opN (o:AO)(ev:Opd→AV)(h:aA)(k:AV→aA→Esc→Prop):Prop:=match o with
 | .mv x=>k (ev x) h []
 | .pick c a b=>pK (DA (ev c) (ev a) (ev b)) fun v=>k v h []
 | .alloc z=>alK z h k
 | .box x=>wK (vB (ev x) h) k
 | .build z ps=>pK (RB z (ev3 ev ps)) fun v=>k v h []
 | .bsl own sh n z ps=>wK (RA own sh n z (ev2 ev ps) h) k
 | .load sh a=>pK (eA sh (ev a) h) fun v=>k v h []
 | .store sh a x=>wK (tA sh (ev a) (ev x) h) k
 | .nilchk x=>pK (rA (ev x)) fun v=>k v h []
 | .bin op x y=>pK (gA op (ev x) (ev y)) fun v=>k v h []
 | .eqa ks neg x y=>pK (nB ks neg (ev x) (ev y)) fun v=>k v h []
 | .isnil n neg x=>pK (AM n neg (ev x)) fun v=>k v h []
 | .mkif x=>pK (z85 (ev x)) fun v=>k v h []
 | .un op x=>pK (oUn op (ev x)) fun v=>k v h []
 | .conv (.i c) x=>pK (DH c (ev x)) fun v=>k v h []
 | .mkfn f caps=>k (.fn f (ev1 ev caps)) h []
 | .slice sh x lo hi mx=>pK (eD sh (ev x) (evO ev lo) (evO ev hi) (evO ev mx) h) fun v=>k v h []
 | .slstr x lo hi=>pK (jT (ev x) (evO ev lo) (evO ev hi)) fun v=>k v h []
 | .mksl sh z len cap=>wK (IZ sh z (ev len) (ev cap) h) k
 | .faddr off sh x=>pK (jA off sh (ev x)) fun v=>k v h []
 | .field off sh x=>pK (mK off sh (ev x)) fun v=>k v h []
 | .iaddr sh x i=>pK (wA sh (ev x) (ev i) h) fun v=>k v h []
 | .iaddra n sh x i=>pK (FZ n sh (ev x) (ev i)) fun v=>k v h []
 | .idxa n sh x i=>pK (iT n sh (ev x) (ev i)) fun v=>k v h []
 | .idxs x i=>pK (GH (ev x) (ev i)) fun v=>k v h []
 | .ext x i=>pK (jB (ev x) i) fun v=>k v h []
 | .len x=>pK (OA (ev x)) fun v=>k v h []
 | .lens x=>pK (nK (ev x)) fun v=>k v h []
 | .app sh s x=>wK (dD sh (ev s) (ev x) h) k
 | .copy sh d s=>wK (z82 sh (ev d) (ev s) h) k
 | .uns m t xs=>wK (kG m t (ev1 ev xs) h) k
 | .clr sh z x=>wK (oClr sh z (ev x) h) k
 | .mx xs=>pK (oMx (ev1 ev xs)) fun v=>k v h []
 | .mn xs=>pK (oMn (ev1 ev xs)) fun v=>k v h []
 | .new0 sh=>nwK sh h k
 | .conv .s2b x=>wK (lP .s2b (ev x) h) k
 | .conv .b2s x=>wK (lP .b2s (ev x) h) k
 | .conv .r2s x=>wK (lP .r2s (ev x) h) k
 | .conv .same x=>wK (lP .same (ev x) h) k
 | .mkmap=>mmK h k
 | .look kk ok z x key=>pK (QA kk ok z (ev x) (ev key) h) fun v=>k v h []
 | .mupd kk m key x=>wK (oB kk (ev m) (ev key) (ev x) h) k
 | .ment kk z m key=>wK (z84 kk z (ev m) (ev key) h) k
 | .estore m s x=>wK (z83 (ev m) (ev s) (ev x) h) k
 | .mdel kk m key=>wK (TB kk (ev m) (ev key) h) k
 | .lenm x=>pK (GZ (ev x) h) fun v=>k v h []
 | .mrange x=>wK (JC (ev x) h) k
 | .mentry i=>wK (IC (ev i) h) k
 | .call _ _ | .callv _ _ | .mnext _ _=>False
theorem zac {o:Option (AV × aA × Esc)}{k:AV→aA→Esc→Prop}:oK o k=wK o k:=rfl
theorem LG {o:Option AV}{h:aA}{k:AV→aA→Esc→Prop}:wK (o.map fun v=>(v,h,[])) k=pK o fun v=>k v h []:=by cases o <;> rfl
theorem z6U (ev:Opd→AV):∀(ps:List (Nat×Nat×Opd)) (z:List AV),vH ev ps z=FO (ev3 ev ps) z
 | [],z=>rfl
 | (off,n,x)::r,z=>by
  simp only[vH,ev3,FO];cases (ev x).cells with
  | none=>rfl
  | some vs=>simp only[z6U ev r]
theorem z6V (ev:Opd→AV)(sh:Sh):∀(ps:List (Nat×Opd)) (h:aA) (z:List PV),wH ev sh ps h z=GO sh (ev2 ev ps) h z
 | [],h,z=>rfl
 | (i,x)::r,h,z=>by
  simp only[wH,ev2,GO];cases pur h (ev x) with
  | none=>rfl
  | some y=>simp only[z6V ev sh r]
theorem z3E (ev:Opd→AV)(d:Nat)(o:Option Opd):bnd ev d o=KD d (evO ev o):=by cases o <;> rfl
theorem zkI (ev:Opd→AV)(o:Option Opd):(evO ev o).isSome=o.isSome:=by cases o <;> rfl
theorem qH (ev:Opd→AV)(l:List Opd):l.map ev=ev1 ev l:=by
 induction l with
 | nil=>rfl
 | cons x r ih=>simp only[List.map_cons,ev1,ih]
theorem zd8 (sh:Sh)(ev:Opd→AV)(h:aA)(x:AV)(lo hi mx:Option Opd):asl sh ev h x lo hi mx=eD sh x (evO ev lo) (evO ev hi) (evO ev mx) h:=by
 unfold asl eD;simp only[z3E,zkI];rfl
theorem PN {p:Prop}[Decidable p]{a:AV}{h:aA}{k:AV→aA→Esc→Prop}:wK (if p then some (a,h,[]) else none) k=pK (if p then some a else none) fun v=>k v h []:=by split <;> rfl
theorem lG {α:Type}{o:Option α}{f:α→AV}{h:aA}{k:AV→aA→Esc→Prop}:wK (o.map fun v=>(f v,h,[])) k=pK (o.map f) fun v=>k v h []:=by cases o <;> rfl
theorem dQ {α:Type}{p:Prop}[Decidable p]{o:Option α}{f:α→AV}{h:aA}{k:AV→aA→Esc→Prop}:wK (if p then o.map (fun v=>(f v,h,[])) else none) k=pK (if p then o.map f else none) fun v=>k v h []:=by
 split
 ·exact lG
 ·rfl
theorem z88 {o:AO}(hp:o.plain=true){ev:Opd→AV}{h:aA}{k:AV→aA→Esc→Prop}:oK (aop o ev h) k=opN o ev h k:=by
 rw[zac];cases o <;> first|(cases hp;done)|skip
 case mv=>rfl
 case pick c a b=>
  simp only[aop,opN,DA];generalize ev c=v;cases v <;> try rfl
  rename_i p;cases p <;> rfl
 case alloc=>rfl
 case box=>rfl
 case build z ps=>simp only[aop,opN];rw[←LG,RB,z6U,Option.map_map];rfl
 case bsl=>simp only[aop,opN,RA,z6V];rfl
 case load sh a=>
  simp only[aop,opN,eA];generalize ev a=v;cases v with
  | ref id off=>dsimp only;cases h[id]? with
   | none=>rfl
   | some o=>cases o <;> first|rfl|exact LG
  | rref id g i off=>dsimp only;cases h[id]? with
   | none=>rfl
   | some o=>cases o <;> first|rfl|exact dQ
  | vp v=>exact lG
  | p v=>cases v <;> rfl
  | bt _ _ _ _=>exact LG
  | _=>rfl
 case store=>simp only[aop,opN];rfl
 case nilchk x=>
  simp only[aop,opN,rA];generalize ev x=v;cases v <;> try rfl
  exact LG
 case bin op x y=>
  simp only[aop,opN,gA];generalize ev x=v;generalize ev y=u;cases v <;> try rfl
  cases u <;> try rfl
  exact lG
 case eqa ks neg x y=>
  simp only[aop,opN,nB];generalize ev x=v;generalize ev y=u;cases v <;> try rfl
  rename_i p;cases p <;> try rfl
  all_goals (cases u <;> try rfl)
  all_goals (rename_i q;cases q <;> try rfl)
  ·exact PN
  ·exact dQ
 case isnil k neg p=>
  simp only[aop,opN,AM];cases UI k (ev p) with
  | true=>rfl
  | false=>exact lG
 case mkif=>exact PN
 case un op x=>
  simp only[aop,opN,oUn];generalize ev x=v;cases v <;> try rfl
  exact lG
 case conv c x=>
  cases c;case i k'=>
   simp only[aop,opN,DH,oG];generalize ev x=v;cases v <;> try rfl
   rename_i p;cases p <;> rfl
  all_goals rfl
 case mkfn f caps=>simp only[aop,opN,qH];rfl
 case slice=>simp only[aop,opN,zd8];exact LG
 case slstr x lo hi=>
  simp only[aop,opN,jT,z3E];generalize ev x=v;cases v <;> try rfl
  rename_i p;cases p <;> try rfl
  rename_i s;dsimp only;generalize KD 0 _=o1;generalize KD s.length _=o2;cases o1 <;> try rfl
  cases o2 <;> try rfl
  exact PN
 case mksl=>simp only[aop,opN];rfl
 case faddr off sh x=>
  simp only[aop,opN,jA];generalize ev x=v;cases v <;> try rfl
  ·exact lG
  ·exact LG
 case field off sh x=>
  simp only[aop,opN,mK];generalize ev x=v;cases v <;> try rfl
  ·rename_i p;cases p <;> try rfl
   exact lG
  ·exact LG
 case iaddr sh x i=>
  simp only[aop,opN,wA];generalize ev x=v;generalize uB (ev i)=n;cases v <;> try rfl
  ·rename_i p;cases p <;> try rfl
   cases n <;> try rfl
   exact dQ
  ·cases n <;> try rfl
   rename_i id g off len k;dsimp only;cases h[id]? with
   | none=>rfl
   | some o=>cases o <;> first|rfl|exact PN
  ·cases n <;> try rfl
   exact LG
 case iaddra m sh x i=>
  simp only[aop,opN,FZ];generalize ev x=v;generalize uB (ev i)=n;cases v <;> try rfl
  all_goals (cases n <;> try rfl)
  ·exact PN
  ·exact PN
  ·exact dQ
 case idxa m sh x i=>
  simp only[aop,opN,iT];generalize ev x=v;generalize uB (ev i)=n;cases v <;> try rfl
  rename_i p;cases p <;> try rfl
  cases n <;> try rfl
  exact dQ
 case idxs x i=>
  simp only[aop,opN,GH];generalize ev x=v;generalize uB (ev i)=n;cases v <;> try rfl
  rename_i p;cases p <;> try rfl
  cases n <;> try rfl
  exact lG
 case ext x i=>
  simp only[aop,opN,jB];generalize ev x=v;cases v <;> try rfl
  exact LG
 case len x=>
  simp only[aop,opN,OA];generalize ev x=v;cases v <;> try rfl
  ·rename_i p;cases p <;> rfl
  ·exact LG
 case lens x=>
  simp only[aop,opN,nK];generalize ev x=v;cases v <;> try rfl
  rename_i p;cases p <;> rfl
 case app=>simp only[aop,opN];rfl
 case copy=>simp only[aop,opN];rfl
 case uns=>simp only[aop,opN,qH,zac]
 case clr=>simp only[aop,opN];rfl
 case mx xs=>
  simp only[aop,opN,qH,oMx];generalize ev1 ev xs=l;cases l <;> try rfl
  rename_i v r;cases v <;> try rfl
  exact lG
 case mn xs=>
  simp only[aop,opN,qH,oMn];generalize ev1 ev xs=l;cases l <;> try rfl
  rename_i v r;cases v <;> try rfl
  exact lG
 case new0=>rfl
 case look kk ok z x key=>
  simp only[aop,opN,QA];cases pC kk (ev key) <;> try rfl
  rename_i kk;generalize ev x=v;cases v <;> try rfl
  rename_i id;dsimp only;cases IB h (.mp id) <;> try rfl
  rename_i y;dsimp only[Option.map_some];cases mC kk y.2.1 <;> rfl
 case lenm x=>
  simp only[aop,opN,GZ];generalize ev x=v;cases v <;> try rfl
  exact lG
 all_goals rfl
end Go.Am
end
section
/- The abstract machine,part 30: the meaning of code in the new spelling,and that it is the old one. -/
set_option linter.unusedSimpArgs false
set_option linter.unusedVariables false
namespace Go.Am
def gV (v:AV)(b:Bool)(h:aA)(A:(AV→aA→Esc→Prop)→Prop)(k:AV→aA→Esc→Prop):Prop:=FE v b (A k) (k .skp h [])
def gP (v:AV)(b:Bool)(o:Option AV)(h:aA)(k:AV→aA→Esc→Prop):Prop:=gV v b h (fun k=>pK o fun u=>k u h []) k
def gM (v:AV)(b:Bool)(u:AV)(h:aA)(k:AV→aA→Esc→Prop):Prop:=gV v b h (fun k=>k u h []) k
def upB (b:Bool):Bool:=(fun(_:AV→Bool→Option AV→aA→(AV→aA→Esc→Prop)→Prop)=>b) gP
def gK (g:Option (Nat × Bool))(e:List (Nat × AV))(h:aA)(A:(AV→aA→Esc→Prop)→Prop)(k:AV→aA→Esc→Prop):Prop:=match g with
 | none=>A k
 | some (t,b)=>gV (bA e t) b h A k
def opC (C:Hd)(o:AO)(ev:Opd→AV)(h:aA)(k:AV→aA→Esc→Prop):Prop:=match o with
 | .call f args=>C f (ev1 ev args) h k
 | .callv f args=>sJ C (ev f) (ev1 ev args) h k
 | .mnext sh xs=>match fO h sh (ev1 ev xs) with
  | some l=>l≠[]∧∀y∈l,k y.1 y.2 []
  | none=>False
 | o=>opN o ev h k
def VN (C:Hd)(gl:Nat→Option PV):List AOp→List (Nat×AV)→aA→Esc→(List (Nat×AV)→aA→Esc→Prop)→Prop
 | [],e,h,x,L=>L e h x
 | o::r,e,h,x,L=>gK o.guard e h (opC C o.op (Opd.ev gl e) h) fun v h' x'=>VN C gl r (put o.dst v e) h' (x'++x) L
variable {C:Hd} {gl:Nat→Option PV}
theorem z86 {o:AO}{d:Option Nat}{r:List AOp}{e:List (Nat × AV)}{h:aA}{x:Esc}{L:List (Nat × AV)→aA→Esc→Prop} :
 iB C gl (⟨d,none,o⟩::r) e h x L=opC C o (Opd.ev gl e) h (SK C gl r d e x L):=by
 cases hp:o.plain with
 | true=>
  rw[zas hp,z88 hp];cases o <;> first|rfl|cases hp
 | false=>
  cases o <;> first|(cases hp;done)|skip
  all_goals first
   | (rw[z1e,qH];rfl)
   | (rw[z1f,qH];rfl)
   | (unfold iB opC;simp only[wanted,qH];rfl)
theorem z1t:∀ (ops:List AOp)(e:List (Nat × AV))(h:aA)(x:Esc)(L:List (Nat × AV)→aA→Esc→Prop),iB C gl ops e h x L=VN C gl ops e h x L
 | [],e,h,x,L=>rfl
 | ⟨d,g,o⟩::r,e,h,x,L=>by
  have ih:(fun(v:AV) (h':aA) (x':Esc)=>VN C gl r (put d v e) h' (x'++x) L)=SK C gl r d e x L:=by
   funext v h' x';rw[←z1t r];rfl
  show _=gK g e h (opC C o (Opd.ev gl e) h) fun v h' x'=>VN C gl r (put d v e) h' (x'++x) L
  rw[ih];cases g with
  | none=>exact z86
  | some tb=>
   obtain⟨t,b⟩:=tb;rw[z1h,z86];rfl
def opE (C:Hd)(o:AO)(ev:Opd→AV)(h:aA)(k:AV→aA→Esc→Prop):Prop:=match o with
 | .call f args=>YA C f (ev1 ev args) h k
 | .callv f args=>eH C (ev f) (ev1 ev args) h k
 | .mnext _ _=>False
 | o=>opN o ev h k
def effN (still eff:Bool)(h h':aA)(y:Esc)(Q:Prop):Prop:=match upB eff with
 | true=>Q
 | false=>match still with
  | true=>Q
  | false=>(h'=h∧y=[])∧Q
def z0D (C:Hd)(gl:Nat→Option PV)(q:AOp × List (Nat × AV) × AV)(g:aA):Prop:=
 gK q.1.guard q.2.1 g (opE C q.1.op (Opd.ev gl q.2.1) g) fun v1 h1 x1=>v1=q.2.2∧h1=g∧x1=[]
def mI (C:Hd)(gl:Nat→Option PV)(h:aA)(dn:lE)(Q:Prop):List Nat→Prop
 | []=>Q
 | j::r=>(match dn[j]? with|some q=>z0D C gl q h|none=>False)∧mI C gl h dn Q r
def wI (C:Hd)(gl:Nat→Option PV)(o:AOp)(e:List (Nat × AV))(v:AV)(hs:List aA)(Q:Prop):List Nat→Prop
 | []=>Q
 | k::r=>(match hs[k]? with|some g=>z0D C gl (o,e,v) g|none=>False)∧wI C gl o e v hs Q r
def FK (C:Hd)(gl:Nat→Option PV):List DOp→lE→List aA→List (Nat×AV)→aA→Esc→(List (Nat×AV)→aA→Esc→Prop)→Prop
 | [],_,_,e,h,x,L=>L e h x
 | o::r,dn,hs,e,h,x,L=>gK o.op.guard (SA (some o.rd) e) h (opE C o.op.op (Opd.ev gl (SA (some o.rd) e)) h) fun v h' y=>
  effN o.op.op.still o.eff h h' y (wI C gl o.op (SA (some o.rd) e) v hs (mI C gl h' dn (FK C gl r (dn++[(o.op,SA (some o.rd) e,v)]) (hs++[h]) (put o.op.dst v e) h' (y++x) L) o.again) o.early)
theorem z87 {o:AO}{d:Option Nat}{e:List (Nat × AV)}{h:aA}{R:AV→aA→Esc→Prop}:doK C gl ⟨d,none,o⟩ e h R=opE C o (Opd.ev gl e) h R:=by
 cases hp:o.plain with
 | true=>
  rw[zgu hp,z88 hp];cases o <;> first|rfl|cases hp
 | false=>
  cases o <;> first|(cases hp;done)|skip
  all_goals first
   | (rw[z5Y,qH];rfl)
   | (rw[z5Z,qH];rfl)
   | (unfold doK ADo opE;simp [wanted])
theorem z7n {o:AOp}{e:List (Nat × AV)}{h:aA}{R:AV→aA→Esc→Prop}:doK C gl o e h R=gK o.guard e h (opE C o.op (Opd.ev gl e) h) R:=by
 obtain⟨d,g,op⟩:=o;cases g with
 | none=>exact z87
 | some tb=>
  obtain⟨t,b⟩:=tb;rw[z6a,z87];rfl
theorem z97 {q:AOp × List (Nat × AV) × AV}{g:aA}:doS C gl q g=z0D C gl q g:=by
 obtain⟨⟨d,gd,op⟩,e,v⟩:=q;rw[z6b,z7n];rfl
theorem z3s {h:aA}{dn:lE}{Q:Prop}:∀{l:List Nat},mI C gl h dn Q l=(agK C gl h dn l∧Q)
 | []=>by simp [mI,agK]
 | j::r=>by
  unfold mI agK;rw[z3s (l:=r)];cases dn[j]? with
  | none=>simp
  | some q=>simp only[z97,and_assoc]
theorem z6g {o:AOp}{e:List (Nat × AV)}{v:AV}{hs:List aA}{Q:Prop}:∀{l:List Nat},wI C gl o e v hs Q l=(eaK C gl o e v hs l∧Q)
 | []=>by simp [wI,eaK]
 | j::r=>by
  unfold wI eaK;rw[z6g (l:=r)];cases hs[j]? with
  | none=>simp
  | some q=>simp only[z97,and_assoc]
theorem zgv {o:AOp}(hs:o.op.still=true){e:List (Nat × AV)}{h:aA}{R:AV→aA→Esc→Prop}:doK C gl o e h (fun v h' y=>(h'=h∧y=[])∧R v h' y)=doK C gl o e h R:=by
 unfold doK;refine propext ⟨fun⟨v,h',y,H,_,r⟩=>⟨v,h',y,H,r⟩,fun⟨v,h',y,H,r⟩=>⟨v,h',y,H,zap hs H,r⟩⟩
theorem z1s:∀ (ds:List DOp)(dn:lE)(hs:List aA)(e:List (Nat × AV))(h:aA)(x:Esc)(L:List (Nat × AV)→aA→Esc→Prop),jD C gl ds dn hs e h x L=FK C gl ds dn hs e h x L
 | [],dn,hs,e,h,x,L=>rfl
 | ⟨o,rd,eff,early,again⟩::r,dn,hs,e,h,x,L=>by
  rw[z1a];show _=gK o.guard (SA (some rd) e) h (opE C o.op (Opd.ev gl (SA (some rd) e)) h) fun v h' y=>
   effN o.op.still eff h h' y (wI C gl o (SA (some rd) e) v hs (mI C gl h' dn (FK C gl r (dn++[(o,SA (some rd) e,v)]) (hs++[h]) (put o.dst v e) h' (y++x) L) again) early)
  rw[←z7n];have e1:kS C gl ⟨o,rd,eff,early,again⟩ r dn hs e h x L=fun v h' y=>(effK eff h h' y∧wI C gl o (SA (some rd) e) v hs (mI C gl h' dn (FK C gl r (dn++[(o,SA (some rd) e,v)]) (hs++[h]) (put o.dst v e) h' (y++x) L) again) early):=by
   funext v h' y
   rw[z6d,z6g,z3s,←z1s r]
  rw[e1];cases eff with
  | true=>
   congr 1;funext v h' y
   simp [effK,effN,upB]
  | false=>
   cases hs':o.op.still with
   | true=>
    have:=zgv (C:=C) (gl:=gl) (o:=o) hs' (e:=SA (some rd) e) (h:=h) (R:=fun v h' y=>wI C gl o (SA (some rd) e) v hs (mI C gl h' dn (FK C gl r (dn++[(o,SA (some rd) e,v)]) (hs++[h]) (put o.dst v e) h' (y++x) L) again) early)
    exact this
   | false=>rfl
def NW (C:Hd)(gl:Nat→Option PV):ACode→St→(Ex→St→Prop)→Prop
 | .skip,s,K=>K .normal s
 | .reg ops keep,s,K=>VN C gl ops s.env s.h s.esc fun e h x=>K .normal ⟨SA keep e,h,x⟩
 | .draw ds keep,s,K=>FK C gl ds [] [] s.env s.h s.esc fun e h x=>K .normal ⟨SA keep e,h,x⟩
 | .seq a b,s,K=>NW C gl a s fun e s'=>match e with
  | .normal=>NW C gl b s' K
  | .exit i=>K (.exit i) s'
  | .ret=>K .ret s'
 | .cond c a b,s,K=>mA (Opd.ev gl s.env c) (NW C gl a s K) (NW C gl b s K)
 | .condu c a b,s,K=>bR (Opd.ev gl s.env c) (NW C gl a s K) (NW C gl b s K)
 | .det b,s,K=>NW C gl b s K
 | .block id b,s,K=>NW C gl b s fun e s'=>match e with
  | .normal=>K .normal s'
  | .exit i=>bif Nat.beq i id then K .normal s' else K (.exit i) s'
  | .ret=>K .ret s'
 | .loop b,s,K=>ALoop (NW C gl b) K s
 | .scope b,s,K=>NW C gl b ⟨s.env,s.h,[]⟩ fun e s'=>K e (gE s.h.length s.esc s')
 | .pr l b,s,K=>NW C gl b ⟨SA (some l) s.env,s.h,s.esc⟩ K
 | .exit id,s,K=>K (.exit id) s
 | .ret,s,K=>K .ret s
 | .bad,_,_=>False
theorem oE:∀ (c:ACode)(s:St)(K:Ex→St→Prop),AW C gl c s K=NW C gl c s K
 | .skip,s,K=>rfl
 | .reg ops keep,s,K=>z1t _ _ _ _ _
 | .draw ds keep,s,K=>z1s _ _ _ _ _ _ _
 | .seq a b,s,K=>by
  unfold AW NW;rw[oE a];congr 1;funext e s'
  cases e with
  | normal=>exact oE b s' K
  | _=>rfl
 | .cond c a b,s,K=>by
  unfold AW NW mA;rw[←oE a,←oE b];rfl
 | .condu c a b,s,K=>by
  unfold AW NW bR;rw[←oE a,←oE b];rfl
 | .det b,s,K=>oE b s K
 | .block id b,s,K=>by
  unfold AW NW;rw[oE b];congr 1;funext e s'
  cases e with
  | exit i=>
   dsimp only;by_cases hi:i=id
   ·subst hi;simp
   ·rw[if_neg hi]
    have:Nat.beq i id=false:=by cases h:Nat.beq i id with|false=>rfl|true=>exact absurd (Nat.eq_of_beq_eq_true h) hi
    rw[this];rfl
  | _=>rfl
 | .loop b,s,K=>by
  show ALoop (AW C gl b) K s=ALoop (NW C gl b) K s
  rw[show AW C gl b=NW C gl b from funext fun s=>funext fun K=>oE b s K]
 | .scope b,s,K=>oE b _ _
 | .pr l b,s,K=>oE b _ _
 | .exit id,s,K=>rfl
 | .ret,s,K=>rfl
 | .bad,s,K=>rfl
end Go.Am
end
section
/- The abstract machine,part 31: words in which a function's code is printed,and the rules of computing PE them. -/
set_option linter.unusedSimpArgs false
set_option linter.unusedVariables false
namespace Go.Am
variable {C:Hd} {gl:Nat→Option PV} {e:List (Nat × AV)} {h:aA} {x:Esc} {K:Ex→St→Prop} {s:St}
abbrev AI (n:Int):AV:=.p (.int .i64 n)
abbrev AB (b:Bool):AV:=.p (.bool b)
def NA (C:Hd)(gl:Nat→Option PV)(b:ACode)(K:Ex→St→Prop)(e:Ex)(s:St):Prop:=match e with
 | .normal=>NW C gl b s K
 | .exit i=>K (.exit i) s
 | .ret=>K .ret s
def yA (id:Nat)(K:Ex→St→Prop)(e:Ex)(s:St):Prop:=match e with
 | .normal=>K .normal s
 | .exit i=>bif Nat.beq i id then K .normal s else K (.exit i) s
 | .ret=>K .ret s
def nxK (i:AV)(h:aA)(k:AV→aA→Esc→Prop):Prop:=match eP h i with
 | some l=>l≠[]∧∀y∈l,k y.1 y.2 []
 | none=>False
theorem z9C {b:ACode}:NA C gl b K .normal s=NW C gl b s K:=(rfl)
theorem z9D {b:ACode}:NA C gl b K .ret s=K .ret s:=(rfl)
theorem z3B {i:Nat}:yA i K .normal s=K .normal s:=(rfl)
theorem z3D {i:Nat}:yA i K (.exit i) s=K .normal s:=by simp [yA]
theorem z3C {i:Nat}:yA i K .ret s=K .ret s:=(rfl)
theorem zci {b:ACode}:NW C gl (.scope b) ⟨e,h,x⟩ K=NW C gl b ⟨e,h,[]⟩ (z0F h.length x K):=(rfl)
theorem zch {c:ACode}{s s':St}(hs:s=s'):NW C gl c s K=NW C gl c s' K:=by rw[hs]
def PA (C:Hd)(gl:Nat→Option PV)(b:ACode)(K:Ex→St→Prop)(e:List (Nat × AV))(h:aA)(x:Esc):Prop:=ALoop (NW C gl b) K ⟨e,h,x⟩
theorem wB {l:List Nat}{b:ACode}:NW C gl (.loop (.pr l b)) ⟨e,h,x⟩ K=PA C gl (.pr l b) K (SA (some l) e) h x:=by
 show ALoop _ _ _=ALoop _ _ _
 exact z1d (funext fun R=>by show NW C gl b _ R=NW C gl b _ R;dsimp only;rw[z8G])
theorem ZC {l:List Nat}{b:ACode}:NW C gl (.loop (.scope (.pr l b))) ⟨e,h,x⟩ K=PA C gl (.scope (.pr l b)) K (SA (some l) e) h x:=by
 show ALoop _ _ _=ALoop _ _ _
 exact z1d (funext fun R=>by show NW C gl b _ _=NW C gl b _ _;dsimp only;rw[z8G])
theorem zcg {b:ACode}{e e':List (Nat × AV)}{h h':aA}{x x':Esc}(h1:e=e')(h2:h=h')(h3:x=x'):PA C gl b K e h x=PA C gl b K e' h' x':=by rw[h1,h2,h3]
theorem UA {σ:Type}{b:ACode}(S:σ→St)(P:σ→Prop)(m:σ→Nat)(t0:σ)(hs:(⟨e,h,x⟩:St)=S t0)(h0:P t0)(hr:∀ t,P t→NW C gl b (S t) (WO S P m K t)):PA C gl b K e h x:=by
 show ALoop (NW C gl b) K _
 rw[hs];have key:∀n t,m t<n→P t→ALoop (NW C gl b) K (S t):=by
  intro n;induction n with
  | zero=>intro t h;omega
  | succ n ih=>
   intro t hm hp;refine .mk _ _ (hr t hp) (fun s' h'=>?_) (fun i s' h'=>h') (fun s' h'=>h')
   obtain⟨u,rfl,hu,hlt⟩:=h';exact ih u (by omega) hu
 exact key _ t0 (Nat.lt_succ_self _) h0
theorem zA {X:Ctx}{f:Nat}{F:AFun}{a asv:List AV}{h h1:aA}{P:lA}(hf:X.fn f=some F)(hr:F.byref=false)(hp:sA h a=some (asv,h1))(hl:asv.length=F.nparams)(hd:F.isDet=false:=by rfl) :
 cA X f a h P=NW (cA X) X.gl F.body ⟨enter asv,h1,[]⟩ (qA F.results F.keep h.length P):=by
 rw[zpU hf hr hp hl hd,oE]
theorem MK {X:Ctx}{f:Nat}{F:AFun}{a asv:List AV}{h h1:aA}{P:lA}(hf:X.fn f=some F)(hr:F.byref=false)(hp:sA h a=some (asv,h1))(hl:asv.length=F.nparams)(hd:F.isDet=true:=by rfl) :
 cA X f a h P = ∃v h' x,P v h' x∧NW (cA X) X.gl F.body ⟨enter asv,h1,[]⟩ (qA F.results F.keep h.length fun v1 h1 x1=>v1=v∧h1=h'∧x1=x):=by
 rw[zpV hf hr hp hl hd];simp only[oE]
theorem NC {X:Ctx}{f:Nat}{F:AFun}{asv:List AV}{h:aA}{P:lA}(hf:X.fn f=some F)(hr:F.byref=true)(hl:asv.length=F.nparams)(hd:F.isDet=false:=by rfl) :
 cA X f asv h P=NW (cA X) X.gl F.body ⟨enter asv,h,[]⟩ (qA F.results F.keep h.length P):=by
 rw[zpS hf hr hl hd,oE]
theorem z8E {v:AV}{k:AV→Prop}:pK (some v) k=k v:=(rfl)
theorem z8D {k:AV→Prop}:pK none k=False:=(rfl)
theorem zad {v:AV}{h:aA}{x:Esc}{k:AV→aA→Esc→Prop}:wK (some (v,h,x)) k=k v h x:=(rfl)
theorem zab {k:AV→aA→Esc→Prop}:wK none k=False:=(rfl)
theorem zn6 {p:Prop}[Decidable p]{a b:Option AV}{k:AV→Prop}:pK (if p then a else b) k=if p then pK a k else pK b k:=by split <;> rfl
theorem zq6 {p:Prop}[Decidable p]{a b:Option (AV × aA × Esc)}{k:AV→aA→Esc→Prop}:wK (if p then a else b) k=if p then wK a k else wK b k:=by split <;> rfl
theorem zn5 {o o':Option AV}{k:AV→Prop}(h:o=o'):pK o k=pK o' k:=by rw[h]
theorem zq5 {o o':Option (AV × aA × Esc)}{k:AV→aA→Esc→Prop}(h:o=o'):wK o k=wK o' k:=by rw[h]
theorem zlh {v v':AV}{b:Bool}{h:aA}{A:(AV→aA→Esc→Prop)→Prop}{k:AV→aA→Esc→Prop}(h1:v=v'):gV v b h A k=gV v' b h A k:=by rw[h1]
theorem zlf {v v':AV}{b:Bool}{o:Option AV}{h:aA}{k:AV→aA→Esc→Prop}(h1:v=v'):gP v b o h k=gP v' b o h k:=by rw[h1]
theorem zld {v v':AV}{b:Bool}{u:AV}{h:aA}{k:AV→aA→Esc→Prop}(h1:v=v'):gM v b u h k=gM v' b u h k:=by rw[h1]
section
variable {A:(AV→aA→Esc→Prop)→Prop} {o:Option AV} {u:AV} {k:AV→aA→Esc→Prop} {t b:Bool}
theorem z72:gV (.p (.bool true)) true h A k=A k:=(rfl)
theorem z7y:gV (.p (.bool false)) false h A k=A k:=(rfl)
theorem z71:gV (.p (.bool true)) false h A k=k .skp h []:=(rfl)
theorem z7z:gV (.p (.bool false)) true h A k=k .skp h []:=(rfl)
theorem z70:gV .skp b h A k=k .skp h []:=(rfl)
theorem zlg:gV (.p (.bool t)) b h A k=FE (.p (.bool t)) b (A k) (k .skp h []):=(rfl)
theorem z7x:gP (.p (.bool true)) true o h k=pK o fun v=>k v h []:=(rfl)
theorem z7t:gP (.p (.bool false)) false o h k=pK o fun v=>k v h []:=(rfl)
theorem z7w:gP (.p (.bool true)) false o h k=k .skp h []:=(rfl)
theorem z7u:gP (.p (.bool false)) true o h k=k .skp h []:=(rfl)
theorem z7v:gP .skp b o h k=k .skp h []:=(rfl)
theorem zle:gP (.p (.bool t)) b o h k=FE (.p (.bool t)) b (pK o fun v=>k v h []) (k .skp h []):=(rfl)
theorem z7s:gM (.p (.bool true)) true u h k=k u h []:=(rfl)
theorem z7o:gM (.p (.bool false)) false u h k=k u h []:=(rfl)
theorem z7r:gM (.p (.bool true)) false u h k=k .skp h []:=(rfl)
theorem z7p:gM (.p (.bool false)) true u h k=k .skp h []:=(rfl)
theorem z7q:gM .skp b u h k=k .skp h []:=(rfl)
theorem zlc:gM (.p (.bool t)) b u h k=FE (.p (.bool t)) b (k u h []) (k .skp h []):=(rfl)
end
section
variable {k k':IntKind} {a b:Int} {sa sb:List UInt8}
theorem zdE:gA .add (.p (.int k a)) (.p (.int k b))=some (.p (.int k (k.wrap (a+b)))):=by simp [gA,gC,wD]
theorem zdP:gA .sub (.p (.int k a)) (.p (.int k b))=some (.p (.int k (k.wrap (a-b)))):=by simp [gA,gC,wD]
theorem zdK:gA .mul (.p (.int k a)) (.p (.int k b))=some (.p (.int k (k.wrap (a*b)))):=by simp [gA,gC,wD]
theorem zdN:gA .quo (.p (.int k a)) (.p (.int k b))=if b=0 then none else some (.p (.int k (k.wrap (a.tdiv b)))):=by simp [gA,gC,wD] <;> split <;> rfl
theorem zdO:gA .rem (.p (.int k a)) (.p (.int k b))=if b=0 then none else some (.p (.int k (a.tmod b))):=by simp [gA,gC,wD] <;> split <;> rfl
theorem zdF:gA .eql (.p (.int k a)) (.p (.int k b))=some (.p (.bool (decide (a=b)))):=by simp [gA,gC,wD]
theorem zdL:gA .neq (.p (.int k a)) (.p (.int k b))=some (.p (.bool (!decide (a=b)))):=by simp [gA,gC,wD]
theorem zdJ:gA .lss (.p (.int k a)) (.p (.int k b))=some (.p (.bool (decide (a<b)))):=by simp [gA,gC,wD]
theorem zdI:gA .leq (.p (.int k a)) (.p (.int k b))=some (.p (.bool (decide (a≤b)))):=by simp [gA,gC,wD]
theorem zdH:gA .gtr (.p (.int k a)) (.p (.int k b))=some (.p (.bool (decide (b<a)))):=by simp [gA,gC,wD]
theorem zdG:gA .geq (.p (.int k a)) (.p (.int k b))=some (.p (.bool (decide (b≤a)))):=by simp [gA,gC,wD]
theorem zqd:gA .eql (.p (.str sa)) (.p (.str sb))=some (.p (.bool (decide (sa=sb)))):=by simp [gA,gC,qJ]
theorem zqg:gA .neq (.p (.str sa)) (.p (.str sb))=some (.p (.bool (!decide (sa=sb)))):=by simp [gA,gC,qJ]
theorem zqf:gA .lss (.p (.str sa)) (.p (.str sb))=some (.p (.bool (Op.bytesLess sa sb))):=by simp [gA,gC,qJ]
theorem zq1 {t:Bool}:oUn .not (.p (.bool t))=some (.p (.bool !t)):=(rfl)
theorem convI {k':IntKind}:DH k (.p (.int k' a))=some (.p (.int k (k.wrap a))):=(rfl)
theorem znw {i j:Nat}:rA (.ref i j)=some (.ref i j):=(rfl)
theorem zn9 {t:Bool}{u v:AV}:DA (.p (.bool t)) u v=some (bif t then u else v):=(rfl)
theorem zmL {sh:Sh}{xs:List PV}:OA (.p (.sl sh xs))=some (.p (.int .i64 xs.length)):=(rfl)
theorem zmK {i g o l:Nat}:OA (.own i g o l)=some (.p (.int .i64 l)):=(rfl)
theorem zmO:nK (.p (.str sa))=some (.p (.int .i64 sa.length)):=(rfl)
theorem ext_t {vs:List AV}{i:Nat}:jB (.tup vs) i=vs[i]?:=(rfl)
theorem zkM {off i j:Nat}{sh:Sh}:jA off sh (.ref i j)=some (.ref i (j+off)):=(rfl)
theorem zkN {off i j m n:Nat}{sh:Sh}:jA off sh (.rref i j m n)=some (.rref i j m (n+off)):=(rfl)
theorem zkO {off:Nat}{sh:Sh}{v:PV}:jA off sh (.vp v)=(VA sh off v).map .vp:=(rfl)
theorem zkT {off:Nat}{sh:Sh}{cs:List PV}:mK off sh (.p (.agg cs))=(VA sh off (.agg cs)).map .p:=(rfl)
def ldB (sh:Sh)(off:Nat):Option Obj→Option AV
 | some (.box cs)=>cut sh off cs
 | _=>none
def ldR (sh:Sh)(g i off:Nat):Option Obj→Option AV
 | some (.row _ xs _)=>if g=xs.length then((xs[i]?).bind (VA sh off)).map .p else none
 | _=>none
theorem zmW {sh:Sh}{i j:Nat}:eA sh (.ref i j) h=ldB sh j h[i]?:=by unfold eA ldB;rfl
theorem z8f {sh:Sh}{i g m n:Nat}:eA sh (.rref i g m n) h=ldR sh g m n h[i]?:=by unfold eA ldR;rfl
theorem z8g {sh:Sh}{v:PV}:eA sh (.vp v) h=(VA sh 0 v).map .p:=(rfl)
theorem zmH {sh:Sh}{off:Nat}{cs:List AV}:ldB sh off (some (.box cs))=cut sh off cs:=(rfl)
theorem z8b {sh sh':Sh}{g i off fz:Nat}{xs:List PV}:ldR sh g i off (some (.row sh' xs fz))=if g=xs.length then((xs[i]?).bind (VA sh off)).map .p else none:=(rfl)
def stB (sh:Sh)(id off:Nat)(v:AV)(h:aA):Option Obj→Option (List AV)→Option (AV×aA×Esc)
 | some (.box cs),some vs=>if vs.length=kA sh∧off+vs.length≤cs.length then some (.und,h.set id (.box (splice cs off vs)),vG id cs v) else none
 | _,_=>none
theorem zqb {sh:Sh}{i j:Nat}{v:AV}:tA sh (.ref i j) v h=stB sh i j v h h[i]? v.cells:=by unfold tA stB;rfl
theorem zpG {sh:Sh}{id off:Nat}{v:AV}{cs vs:List AV}:stB sh id off v h (some (.box cs)) (some vs)=if vs.length=kA sh∧off+vs.length≤cs.length then some (.und,h.set id (.box (splice cs off vs)),vG id cs v) else none:=(rfl)
theorem zkD {id:Nat}{cs:List AV}{v:PV}:vG id cs (.p v)=[]:=by
 unfold vG;cases OI cs&&decide (AV.top (.p v)≤AV.tops cs) <;> rfl
theorem zkC {id:Nat}{cs:List AV}{v:AV}(h:OI cs=false):vG id cs v=YB id v:=by
 unfold vG;rw[h];rfl
theorem zlE {a:AV}{v:PV}:OI [a,.p v]=false:=(rfl)
theorem zlC {a:AV}:OI [a]=false:=(rfl)
theorem zlD {a b c:AV}{l:List AV}:OI (a::b::c::l)=false:=by unfold OI;split <;> first|rfl|(rename_i h;simp at h)
def stE (sh:Sh)(id i off fz:Nat)(rsh:Sh)(xs:List PV)(v:PV)(h1:aA):Option PV→Option (AV×aA×Esc)
 | some (.agg cs)=>if off+v.cells.length≤cs.length then some (.und,h1.set id (.row rsh (xs.set i (.agg (splice cs off v.cells))) fz),[]) else none
 | some _=>if off=0∧v.sc then some (.und,h1.set id (.row rsh (xs.set i v) fz),[]) else none
 | none=>none
def stO (sh:Sh)(id g i off:Nat)(v:PV)(h1:aA):Option Obj→Option (AV×aA×Esc)
 | some (.row rsh xs fz)=>if g=xs.length∧fz≤i∧v.cells.length=kA sh∧v.cells.all PV.sc then stE sh id i off fz rsh xs v h1 xs[i]? else none
 | _=>none
def stR (sh:Sh)(id g i off:Nat):Option (PV×aA)→Option (AV×aA×Esc)
 | some y=>stO sh id g i off y.1 y.2 y.2[id]?
 | none=>none
theorem zqc {sh:Sh}{id g i off:Nat}{x:AV}:tA sh (.rref id g i off) x h=stR sh id g i off (pur h x):=by
 unfold tA stR;cases pur h x with
 | none=>rfl
 | some y=>
  obtain⟨v,h1⟩:=y;dsimp only;unfold stO;cases h1[id]? with
  | none=>rfl
  | some o=>cases o <;> rfl
theorem zpL {sh:Sh}{id g i off:Nat}{v:PV}{h1:aA}:stR sh id g i off (some (v,h1))=stO sh id g i off v h1 h1[id]?:=(rfl)
theorem zpJ {sh rsh:Sh}{id g i off fz:Nat}{v:PV}{h1:aA}{xs:List PV}:stO sh id g i off v h1 (some (.row rsh xs fz))=if g=xs.length∧fz≤i∧v.cells.length=kA sh∧v.cells.all PV.sc then stE sh id i off fz rsh xs v h1 xs[i]? else none:=(rfl)
theorem zpH {sh rsh:Sh}{id i off fz:Nat}{v:PV}{h1:aA}{xs cs:List PV}:stE sh id i off fz rsh xs v h1 (some (.agg cs))=if off+v.cells.length≤cs.length then some (.und,h1.set id (.row rsh (xs.set i (.agg (splice cs off v.cells))) fz),[]) else none:=(rfl)
theorem zpI {sh rsh:Sh}{id i off fz:Nat}{v:PV}{h1:aA}{xs:List PV}{t:Bool}:stE sh id i off fz rsh xs v h1 (some (.bool t))=if off=0∧v.sc then some (.und,h1.set id (.row rsh (xs.set i v) fz),[]) else none:=(rfl)
def iaS (xs:List PV):Option Nat→Option AV
 | some k=>(xs[k]?).map .vp
 | none=>none
theorem zly {sh:Sh}{xs:List PV}{i:AV}:wA sh (.p (.sl sh xs)) i h=iaS xs (uB i):=by
 unfold wA iaS;cases uB i <;> simp
theorem zlv {xs:List PV}{n:Nat}:iaS xs (some n)=(xs[n]?).map .vp:=(rfl)
def iaO (sh:Sh)(id g off len:Nat):Option Obj→Option Nat→Option AV
 | some (.row rsh xs _),some k=>if rsh=sh∧g=xs.length∧off+len≤xs.length∧k<len then some (.rref id g (off+k) 0) else none
 | _,_=>none
theorem zlx {sh:Sh}{id g off len:Nat}{i:AV}:wA sh (.own id g off len) i h=iaO sh id g off len h[id]? (uB i):=by
 unfold wA iaO;cases uB i with
 | none=>dsimp only;cases h[id]? with
  | none=>rfl
  | some o=>cases o <;> rfl
 | some k=>dsimp only;cases h[id]? with
  | none=>rfl
  | some o=>cases o <;> rfl
theorem zlu {sh rsh:Sh}{id g off len k fz:Nat}{xs:List PV}:iaO sh id g off len (some (.row rsh xs fz)) (some k)=if rsh=sh∧g=xs.length∧off+len≤xs.length∧k<len then some (.rref id g (off+k) 0) else none:=(rfl)
theorem zl5 {i:AV}:GH (.p (.str sa)) i=(uB i).bind fun n=>(sa[n]?).map fun b=>.p (.int .u8 b.toNat):=by
 unfold GH;cases uB i <;> rfl
end
theorem z3t {z:List AV}{k:AV→aA→Esc→Prop}:alK z h k=k (.ref h.length 0) (h++[.box z]) []:=(rfl)
theorem z81 {sh:Sh}{k:AV→aA→Esc→Prop}:nwK sh h k=k (.own h.length 0 0 0) (h++[.row sh [] 0]) []:=(rfl)
theorem z8u {k:AV→aA→Esc→Prop}:mmK h k=k (.mp h.length) (h++[.amap [] 0]) []:=(rfl)
theorem zod {h:aA}:DB [] h=([],h):=(rfl)
theorem zof {h:aA}{s:Sh}{r:List AV}:DB (.sl0 s::r) h=(.own h.length 0 0 0::(DB r (h++[.row s [] 0])).1,(DB r (h++[.row s [] 0])).2):=(rfl)
theorem zoe {h:aA}{v:PV}{r:List AV}:DB (.p v::r) h=(.p v::(DB r h).1,(DB r h).2):=(rfl)
theorem zoc {h:aA}{i:Nat}{r:List AV}:DB (.mp i::r) h=(.mp i::(DB r h).1,(DB r h).2):=(rfl)
attribute [go_sem] zod zof zoe zoc
attribute [go_sem] z9C z9D z3B z3D z3C zci z8E z8D zad zab zn6 zq6 z72 z7y z71 z7z z70 z7x z7t z7w z7u z7v z7s z7o z7r z7p z7q zdE zdP zdK zdN zdO zdF zdL zdJ zdI zdH zdG zqd zqg zqf zq1 convI znw zn9 zmL zmK zmO ext_t zkM zkN zkO zkT zmW z8f z8g zmH z8b zqb zpG zqc zpL zpJ zpH zpI zkD zkC zlE zlC zlD zly zlv zlx zlu zl5 z3t z81 z8u kG z96 upcB neqB lenB n64 z5W strB appB rds rd vB RB FO RA GO nB AM UI jP z85 HH lP IZ KD jT eD FZ iT dD z82 oClr oMx oMn QA oB z84 z83 TB GZ JC IC
attribute [go_sem ↓] z8E z8D zad zab z72 z7y z71 z7z z70 z7x z7t z7w z7u z7v z7s z7o z7r z7p z7q z4h z4g z9C z9D z3B z3D z3C z3t z81 z8u z8j z8i z8k z9B z6Y z6Z
attribute [go_sem low] zlg zle zlc
attribute [congr] zch zcg zn5 zq5 zlh zlf zld
end Go.Am
end
section
/- The abstract machine,part X: the library's functions that have no Go text: comparing strings,finding a byte. -/
set_option linter.unusedSimpArgs false
set_option linter.unusedVariables false
namespace Go.Am
variable {P:Program}
structure ExtRow (P:Program) (f:Nat) (e:Array Value→Sem Value):Prop where
 row:∃fn,P.funcs[f]?=some fn∧fn.name ≠ "runtime.NumGoroutine" ∧ fn.body=none∧Extern.findNext fn=none∧Extern.find fn=some e
theorem ExtRow.run {f:Nat}{e:Array Value→Sem Value}(R:ExtRow P f e){us:Array Value}{w w':World}{x:Value}(he:(e us).run P w = .ok x w'):(callFunc f us).run P w = .ok (.value x) w':=by
 obtain⟨fn,h1,h2,h3,h4,h5⟩:=R.row;unfold callFunc;simp [h1,h2,h3,h4,h5,he]
theorem zs1 {f:Nat}{e:Array Value→Sem Value}(h:(match P.funcs[f]? with | some fn=>fn.name != "runtime.NumGoroutine" && fn.body.isNone&&(Extern.findNext fn).isNone | none=>false)=true)(h2:(P.funcs[f]?).bind Extern.find=some e):ExtRow P f e:=by
 cases hf:P.funcs[f]? with
 | none=>rw[hf]at h;cases h
 | some fn=>
  rw[hf]at h h2;simp only[Bool.and_eq_true,bne_iff_ne,ne_eq,Option.isNone_iff_eq_none]at h;exact⟨⟨fn,hf,h.1.1,h.1.2,h.2,h2⟩⟩
def bG (s:List UInt8)(c:UInt8):Int:=if s.findIdx (· == c)<s.length then(s.findIdx (· == c):Int) else -1
def EA:List UInt8→List UInt8→Int
 | [],[]=>0
 | [],_::_=>-1
 | _::_,[]=>1
 | a::asv,b::bs=>if a<b then -1 else if b<a then 1 else EA asv bs
theorem z39 (s:List UInt8)(i:Nat):(⟨s.toArray⟩:ByteArray)[i]! = s.getD i 0:=by
 by_cases h:i<s.length
 ·rw[getElem!_pos (⟨s.toArray⟩:ByteArray) i h]
  show s.toArray[i]=_
  simp [h]
 ·rw[getElem!_neg (⟨s.toArray⟩:ByteArray) i h]
  simp [Nat.not_lt.1 h];rfl
theorem zkV (s:List UInt8)(c:UInt8):(match (List.range (⟨s.toArray⟩:ByteArray).size).find? fun i=>(⟨s.toArray⟩:ByteArray)[i]! == c with
 | some i=>(i:Int)
 | none=>-1)=bG s c:=by
 have hsz:(⟨s.toArray⟩:ByteArray).size=s.length:=rfl
 have hget:∀i,i<s.length→(⟨s.toArray⟩:ByteArray)[i]! = s.getD i 0:=by
  intro i hi;exact z39 s i
 unfold bG;rw[hsz];by_cases h:s.findIdx (· == c)<s.length
 ·rw[if_pos h]
  have hf:(List.range s.length).find? (fun i=>(⟨s.toArray⟩:ByteArray)[i]! == c)=some (s.findIdx (· == c)):=by
   rw[List.find?_eq_some_iff_getElem];refine⟨?_,s.findIdx (· == c),by simpa using h,by simp,fun j hj=>?_⟩
   ·rw[hget _ h]
    have:=List.findIdx_getElem (w:=h);simpa [h] using this
   ·simp only[List.getElem_range]
    have hj':j<s.length:=by omega
    rw[hget _ hj'];have:=List.not_of_lt_findIdx hj;simpa [hj'] using this
  rw[hf]
 ·rw[if_neg h]
  have hf:(List.range s.length).find? (fun i=>(⟨s.toArray⟩:ByteArray)[i]! == c)=none:=by
   rw[List.find?_eq_none];intro i hi;rw[List.mem_range]at hi;rw[hget _ hi];intro hc;exact h (List.findIdx_lt_length_of_exists ⟨s[i],List.getElem_mem hi,by simpa [hi] using hc⟩)
  rw[hf]
theorem zfW:∀ (a b:List UInt8),Extern.BytealgCompare.cmp ⟨a.toArray⟩ ⟨b.toArray⟩=EA a b:=by
 have key:∀(a b:List UInt8),(match (List.range (min a.length b.length)).find? fun i=>a.getD i 0 != b.getD i 0 with
  | some i=>if a.getD i 0<b.getD i 0 then(-1:Int) else 1
  | none=>if a.length<b.length then -1 else if a.length>b.length then 1 else 0)=EA a b:=by
  intro a;induction a with
  | nil=>intro b;cases b <;> simp [EA]
  | cons x a ih=>
   intro b;cases b with
   | nil=>simp [EA]
   | cons y b=>
    have hm:min (x::a).length (y::b).length=min a.length b.length+1:=by simp only[List.length_cons];omega
    rw[hm,List.range_succ_eq_map,List.find?_cons];simp only[List.getD_cons_zero];by_cases hxy:x=y
    ·subst hxy
     have hlt:¬x<x:=UInt8.lt_irrefl x
     simp only[bne_self_eq_false,List.find?_map,EA,hlt,if_false];rw[←ih b];have hc:((fun i=>(x::a).getD i 0 != (x::b).getD i 0) ∘ Nat.succ)=fun i=>a.getD i 0 != b.getD i 0:=by
      funext i;simp
     rw[hc];cases (List.range (min a.length b.length)).find? fun i=>a.getD i 0 != b.getD i 0 with
     | none=>simp
     | some i=>simp
    ·have:(x != y)=true:=by simpa using hxy
     rw[this];simp only[EA,List.getD_cons_zero];by_cases h1:x<y
     ·simp [h1]
     ·have h2:y<x:=by
       rcases UInt8.lt_or_lt_of_ne (a:=x) (b:=y) hxy with h|h
       ·exact absurd h h1
       ·exact h
      simp [h1,h2]
 intro a b;rw[←key a b];unfold Extern.BytealgCompare.cmp;have sa:(⟨a.toArray⟩:ByteArray).size=a.length:=rfl
 have sb:(⟨b.toArray⟩:ByteArray).size=b.length:=rfl
 simp only[sa,sb,z39];generalize List.find? _ _=q;cases q <;> rfl
def GJ (fi fc:Nat)(f:Nat)(vs:List PV):Option PV:=
 bif Nat.beq f fi then(match vs with
  | [.str s,.int .u8 c]=>some (.int .i64 (bG s (UInt8.ofNat c.toNat)))
  | _=>none)
 else bif Nat.beq f fc then(match vs with
  | [.str a,.str b]=>some (.int .i64 (EA a b))
  | _=>none)
 else none
theorem extF_ok {fi fc:Nat}(h1:ExtRow P fi Extern.BytealgIndexByte.indexByte)(h2:ExtRow P fc Extern.BytealgCompare.compare){f:Nat}{vs:List PV}{r:PV}(h:GJ fi fc f vs=some r):z1j P f vs r:=by
 intro M w us hM hl hr;unfold GJ at h;cases e1:Nat.beq f fi with
 | true=>
  rw[e1]at h;have e:=Nat.eq_of_beq_eq_true e1
  subst e;simp only[cond_true]at h;split at h
  ·rename_i s c
   injection h with h
   subst h;match us,hl with
   | [u,v],_=>
    have q1:=hr 0 _ u rfl rfl
    have q2:=hr 1 _ v rfl rfl
    cases q1;cases q2
    refine⟨.int .i64 (bG s (UInt8.ofNat c.toNat)),w,h1.run ?_,WExt.refl w,.int _ _⟩;rw[←zkV];show(match (List.range (⟨s.toArray⟩:ByteArray).size).find? fun i=>(⟨s.toArray⟩:ByteArray)[i]! == UInt8.ofNat c.toNat with|some i=>(pure (goInt i):Sem Value)|none=>pure (goInt (-1))).run P w=_
    generalize List.find? _ _=q;cases q <;> rfl
  ·cases h
 | false=>
  rw[e1]at h;simp only[cond_false]at h;cases e2:Nat.beq f fc with
  | true=>
   rw[e2]at h;have e:=Nat.eq_of_beq_eq_true e2
   subst e;simp only[cond_true]at h;split at h
   ·rename_i a b
    injection h with h
    subst h;match us,hl with
    | [u,v],_=>
     have q1:=hr 0 _ u rfl rfl
     have q2:=hr 1 _ v rfl rfl
     cases q1;cases q2
     refine⟨.int .i64 (EA a b),w,h2.run ?_,WExt.refl w,.int _ _⟩;rw[←zfW];rfl
   ·cases h
  | false=>rw[e2]at h;cases h
theorem z67 {X:Ctx}{f:Nat}{asv:List AV}{vs:List PV}{h h1:aA}{r:PV}{K:lA}(hf:X.fn f=none)(h2:X.ex2 f asv h=none)(hp:sA h asv=some (vs.map .p,h1))(hu:unp (vs.map AV.p)=some vs)(hx:X.ext f vs=some r):cA X f asv h K=K (.p r) h1 []:=by
 refine propext (cA.eq (cA.fold ?_) K);unfold nC;simp only[hf,h2,hp,hu,hx];exact⟨trivial,trivial,trivial⟩
structure GrowRow (P:Program) (f:Nat) (sh:Sh):Prop where
 enter:∀us w,(callFunc f us).run P w = .ok (.enter f us) w
 room:∀a w,Calls P f #[.slice a 0 0,.int .i64 0] w fun e w'=>e = .returned (.slice a 0 0)∧w'=w
 grow:∀a (n:Nat) w,0<n→n≤1048576→Calls P f #[.slice a 0 0,.int .i64 n] w fun e w'=>∃G cs E,e = .returned (.slice (some ⟨w.heap.size,0,none⟩) 0 G)∧cs.size=G*kA sh∧w'=w.drew.alloc (.cells cs E)
def KI:List (Nat × Sh)→Nat→List AV→aA→Option (AV×aA×Esc)
 | [],_,_,_=>none
 | (g,sh)::r,f,asv,h=>bif Nat.beq f g then(match asv with
  | [.sl0 _,.p (.int .i64 n)]=>bif decide (0≤n)&&decide (n≤1048576) then some (.own h.length 0 0 0,h++[.row sh [] 0],[]) else none
  | _=>none) else KI r f asv h
theorem z7F {gl:Nat→Option PV}:∀(gs:List (Nat×Sh)),(∀g sh,(g,sh)∈gs→GrowRow P g sh)→∀{f:Nat} {asv:List AV} {h:aA} {v:AV} {h':aA} {x:Esc},KI gs f asv h=some (v,h',x) →
 uC P gl f asv h fun v1 h1 x1=>v1=v∧h1=h'∧x1=x
 | [],_,f,asv,h,v,h',x,H=>by cases H
 | (g,sh)::r,hg,f,asv,h,v,h',x,H=>by
  unfold KI at H;cases e1:Nat.beq f g with
  | false=>
   rw[e1]at H;exact z7F r (fun g sh hm=>hg g sh (by simp [hm])) H
  | true=>
   rw[e1]at H;have e:=Nat.eq_of_beq_eq_true e1
   subst e;have R:=hg f sh (by simp)
   simp only[cond_true]at H;split at H
   ·rename_i sh' n
    cases hb:(decide (0≤n)&&decide (n≤1048576)) with
    | false=>rw[hb]at H;cases H
    | true=>
     rw[hb]at H;simp only[cond_true,Option.some.injEq,Prod.mk.injEq]at H;obtain⟨rfl,rfl,rfl⟩:=H;simp only[Bool.and_eq_true,decide_eq_true_eq]at hb;intro μ w vs Hh Hg hl hr;match vs,hl with
     | [u1,u2],_=>
      have q1:=hr 0 _ u1 rfl rfl
      have q2:=(hr 1 _ u2 rfl rfl).p_inv
      cases q1;cases q2
      obtain⟨m,hm⟩:=Int.eq_ofNat_of_zero_le hb.1;subst hm;refine .inl ⟨R.enter _,?_⟩;rcases Nat.eq_zero_or_pos m with h0|h0
      ·subst h0
       refine(R.room _ w).mono fun e w' he=>?_
       obtain⟨rfl,rfl⟩:=he;obtain⟨n1,n2⟩:=fT Hh sh;refine⟨_,_,_,_,⟨rfl,rfl,rfl⟩,?_,n1,n2,xA.push (by simp [Obj.top])⟩
       exact .own h.length 0 0 0 _ 0 sh [] 0 none (Nat.le_refl _) (by simp) (by rw[←Hh.len];simp) (by simp) (by simp) (fun _=>rfl)
      ·refine(R.grow _ m w h0 (by omega)).mono fun e w' he=>?_
       obtain⟨G,cs,E,rfl,hcs,rfl⟩:=he;have hw:WExt w (w.drew.alloc (.cells cs E)):=(WExt.drew w _).trans (WExt.push _ _)
       obtain⟨n1,n2⟩:=lK (sh:=sh) (xs:=[]) Hh hw (b:=w.heap.size) (n:=cs.size) (Nat.le_refl _) (by show w.heap.size<(w.heap.push _).size;simp) (c:=cs) (rB.push (w:=w.drew) cs E) (by simp) (by simp) (by simp)
       refine⟨_,_,_,_,⟨rfl,rfl,rfl⟩,?_,n1,n2,xA.push (by simp [Obj.top])⟩
       refine .own h.length 0 0 0 _ G sh [] 0 (some (w.heap.size,cs.size)) (Nat.zero_le _) (by simp) (by rw[←Hh.len];simp) (by simp) (by simp) (fun _=>?_)
       exact .inr ⟨by simp,by simp [hcs]⟩
   ·cases H
end Go.Am
end
