/- Texts of the proof, laid together: Am20, AmD, AmE, AmF, AmG, AmH, Am21, Am22, Am23, Am24, Am25. -/
import Derived.Orders
import Derived.Below
import Derived.ChangeSlices
import Derived.Carry
import Derived.Test.YtdnbmbfonpkpfaaGreatDoorlawBO2
set_option linter.all false
section
/- The abstract machine,part 20: regions in their own order. -/
set_option linter.unusedSimpArgs false
set_option linter.unusedVariables false
set_option maxHeartbeats 1000000
namespace Go.Am
variable {h h':Heap} {μ μ':Mu} {w w':World} {P:Program} {M M':Mem}
def GInv (gl:Nat→Option PV) (M:Mem):Prop:=∀ n v,gl n=some v→RAV M [] [] (.vp v) (.pointer (some ⟨n,0,none⟩))∧∃ cs t x,M.b n=some (.cells cs t x)∧cs.size=v.cells.length
theorem RAV.vp_any {v:PV} {x:Value} {h':Heap} {μ':Mu} (H:RAV M h μ (.vp v) x):RAV M h' μ' (.vp v) x:=by
 cases H with | vp _ b o f hm hr=>exact .vp v b o f hm hr
theorem GInv.mono {gl:Nat→Option PV} (hM:M.le M') (H:GInv gl M):GInv gl M':=fun n v hv=>by
 obtain⟨h1,cs,t,x,h2,h3⟩:=H n v hv
 refine⟨?_,cs,t,x,hM.b _ _ h2,h3⟩
 cases h1 with | vp _ _ _ f hm hr=>exact .vp v n 0 f (fun j y hy=>hM.c _ _ _ (hm j y hy)) (fun j y hy=>(hr j y hy).mono hM)
structure Rel (gl:Nat→Option PV) (nt:Nat) (M0:Mem) (h0:Heap) (μ0:Mu) (e:List (Nat × AV)) (h:Heap) (x:Esc) (a:Act) (w:World) (μ:Mu):Prop where
 heap:HeapRel h μ w
 env:∀ t,RAV (imm h μ w) h μ (aget e t) (a.tmps.getD t undef)
 glob:GInv gl (imm h μ w)
 evo:Evo M0 h0 μ0 (imm h μ w) h μ
 esc:z0i h0 h x
 size:nt≤a.tmps.size
 defers:a.defers=[]
variable {gl:Nat→Option PV} {nt:Nat} {M0:Mem} {h0:Heap} {μ0:Mu} {e:List (Nat × AV)} {x:Esc} {a:Act}
theorem Rel.opds (H:Rel gl nt M0 h0 μ0 e h x a w μ):z2g (imm h μ w) h μ (Opd.ev gl e) a.eval:=by
 intro p q hpq
 unfold z0p at hpq
 split at hpq
 ·simp only[beq_iff_eq] at hpq
  subst hpq
  exact H.env _
 ·exact z0Q hpq
 ·simp only[beq_iff_eq] at hpq
  subst hpq
  exact .fn _ [] [] rfl (fun j y v h1 h2=>by simp at h1)
 ·simp only[beq_iff_eq] at hpq
  subst hpq
  simp only[Opd.ev]
  split
  ·rename_i v hv;exact (H.glob _ v hv).1.vp_any
  ·exact .und _
 ·cases hpq
theorem z4H {d:Option Nat} {v:AV} {t:Nat}:aget (put d v e) t=if d=some t then v else aget e t:=by
 cases d with
 | none=>simp [put]
 | some d=>simp [put,aget]
theorem zuE {d:Option Nat} {u:Value} {t:Nat} (hd:∀ i,d=some i→i<a.tmps.size):(a.put d u).tmps.getD t undef=if d=some t then u else a.tmps.getD t undef:=by
 cases d with
 | none=>simp [Act.put]
 | some d=>
  have:=hd d rfl
  by_cases h:d=t
  ·subst h;simp [Act.put,this]
  ·simp [Act.put,h,Array.getElem?_setIfInBounds]
theorem zuF {d:Option Nat} {u:Value}:(a.put d u).tmps.size=a.tmps.size:=by
 cases d <;> simp [Act.put]
theorem zj8 {d:Option Nat} {u:Value}:(a.put d u).defers=a.defers:=by
 cases d <;> rfl
theorem Rel.step (H:Rel gl nt M0 h0 μ0 e h x a w μ) {d:Option Nat} (hd:∀ i,d=some i→i<nt) {v:AV} {u:Value} {h':Heap} {x':Esc} {w':World} {μ':Mu} (H':HeapRel h' μ' w') (E:Evo (imm h μ w) h μ (imm h' μ' w') h' μ') (I:z0i h h' x')
 (hv:RAV (imm h' μ' w') h' μ' v u):Rel gl nt M0 h0 μ0 (put d v e) h' (x'++x) (a.put d u) w' μ':=by
 have hd':∀ i,d=some i→i<a.tmps.size:=fun i hi=>Nat.lt_of_lt_of_le (hd i hi) H.size
 refine⟨H',fun t=>?_,H.glob.mono E.le,H.evo.trans E,z0i.trans H.esc I,by rw[zuF];exact H.size,by rw[zj8];exact H.defers⟩
 rw[z4H,zuE hd']
 split
 ·exact hv
 ·exact (H.env t).evo E
theorem Rel.skip (H:Rel gl nt M0 h0 μ0 e h x a w μ) {d:Option Nat} (hd:∀ i,d=some i→i<nt):Rel gl nt M0 h0 μ0 (put d .skp e) h x (a.put d undef) w μ:=by
 have:=H.step hd H.heap (Evo.refl _ _ _) (z0i.refl h []) (.skp)
 simpa using this
def z1y (P:Program) (gl:Nat→Option PV):Hd:=fun f asv h K=>
 ∀ (μ:Mu) (w:World) (vs:List Value),HeapRel h μ w→GInv gl (imm h μ w)→asv.length=vs.length→(∀ (j:Nat) (y:AV) (v:Value),asv[j]?=some y→vs[j]?=some v→RAV (imm h μ w) h μ y v) →
  ((∀ w,(callFunc f vs.toArray).run P w = .ok (.enter f vs.toArray) w) ∧
  Calls P f vs.toArray w fun
   | .returned r,w'=>∃ v h' x μ',K v h' x∧RAV (imm h' μ' w') h' μ' v r∧HeapRel h' μ' w'∧Evo (imm h μ w) h μ (imm h' μ' w') h' μ'∧z0i h h' x
   | _,_=>False) ∨
  ∃ r w' v h' x μ',(callFunc f vs.toArray).run P w = .ok (.value r) w'∧K v h' x∧RAV (imm h' μ' w') h' μ' v r∧HeapRel h' μ' w'∧Evo (imm h μ w) h μ (imm h' μ' w') h' μ'∧z0i h h' x
theorem z1y.mono (P:Program) (gl:Nat→Option PV):(z1y P gl).Mono:=by
 intro f asv h K K' hK H μ w vs h1 h2 h3 h4
 rcases H μ w vs h1 h2 h3 h4 with ⟨q1,q2⟩ | ⟨r,w',v,h',x,μ',q1,k,rest⟩
 case inr=>exact .inr ⟨r,w',v,h',x,μ',q1,hK _ _ _ k,rest⟩
 refine .inl ⟨q1,q2.mono fun e w' he=>?_⟩
 cases e with
 | returned r=>obtain⟨v,h',x,μ',k,rest⟩:=he;exact⟨v,h',x,μ',hK _ _ _ k,rest⟩
 | panicked _=>exact he
 | outgrown=>exact he
def zbH (ops:Array Oper) (nt:Nat):Option (Nat × Bool)→Option (Nat × Bool)→Bool
 | none,none=>true
 | some (t,b),some (j,b')=>b==b'&&decide (t<nt)&&(match ops[j]? with | some o=>o.dst==some t | none=>false)
 | _,_=>false
def z7n (P:Program) (nt:Nat) (ops:Array Oper) (o:AOp) (p:Oper):Bool:=
 o.dst==p.dst&&(match o.dst with | some d=>decide (d<nt) | none=>true)&&zbH ops nt o.guard p.guard&&match o.op with
  | .call f args=>match z7m p.op with
   | some (g,ys)=>z0p (.f f) g&&z0J args ys
   | none=>false
  | .callv f args=>match z7m p.op with
   | some (g,ys)=>z0p f g&&z0J args ys
   | none=>false
  | .mnext none xs=>match p.op with
   | .next y isS=>!isS&&z0J xs [y]
   | _=>false
  | .mnext (some sh) xs=>match z3T .append p.op with
   | some ([x',y'],[t,u])=>z2K P sh t u&&z0J xs [x',y']
   | _=>false
  | op=>zt1 P op p.op
def z58 (P:Program) (nt:Nat) (ops:Array Oper):List AOp→Nat→Bool
 | [],i=>i==ops.size
 | o::r,i=>match ops[i]? with
  | some p=>z7n P nt ops o p&&z58 P nt ops r (i+1)
  | none=>false
theorem z6O (H:Rel gl nt M0 h0 μ0 e h x a w μ) {ops:Array Oper} {g:Option (Nat × Bool)} {p:Oper} (hc:zbH ops nt g p.guard=true) {b:Bool} (hw:wanted g e=some b):Region.wanted p (yielded ops a.tmps)=b:=by
 unfold Region.wanted
 unfold zbH at hc
 split at hc
 ·rename_i hg
  rw[hg]
  simp only[wanted,Option.some.injEq] at hw
  exact hw
 ·rename_i t b1 j b2 hg
  rw[hg]
  simp only[Bool.and_eq_true,beq_iff_eq,decide_eq_true_eq] at hc
  obtain⟨⟨rfl,ht⟩,hj⟩:=hc
  split at hj
  ·rename_i o ho
   simp only[beq_iff_eq] at hj
   have hsz:t<a.tmps.size:=Nat.lt_of_lt_of_le ht H.size
   have hR:=H.env t
   have hget:a.tmps[t]?=some (a.tmps.getD t undef):=by simp [Array.getElem?_eq_getElem hsz,Array.getD,hsz]
   simp only[yielded,ho,Option.bind_some,hj,hget]
   unfold wanted at hw
   dsimp only at hw
   split at hw
   ·rename_i c hv
    rw[hv] at hR
    rw[hR.p_bool]
    have hw':=Option.some.inj hw
    rw[← hw']
    cases c <;> cases b1 <;> rfl
   ·rename_i hv
    rw[hv] at hR
    generalize a.tmps.getD t undef=z at hR
    injection hw with hw
    subst hw
    cases hR
    cases b1 <;> rfl
   ·cases hw
  ·cases hj
 ·cases hc
theorem z12 {C:Hd} (hC:∀ f a h K,C f a h K→z1y P gl f a h K) {ops:Array Oper} {Q:Exit→Act→World→Prop} :
 ∀ (aops:List AOp) (i:Nat) {e:List (Nat × AV)} {h:Heap} {x:Esc} {K:List (Nat × AV)→Heap→Esc→Prop} {a:Act} {w:World} {μ:Mu},z58 P nt ops aops i=true→AReg C gl aops e h x K→Rel gl nt M0 h0 μ0 e h x a w μ →
  (∀ e h x a w μ,K e h x→Rel gl nt M0 h0 μ0 e h x a w μ→Q .normal a w)→wpOps P ops Q (List.range' i (ops.size-i)) a w
 | [],i,e,h,x,K,a,w,μ,hc,H,R,hK=>by
  simp only[z58,beq_iff_eq] at hc
  subst hc
  simp only[Nat.sub_self,List.range'_zero,wpOps]
  exact hK _ _ _ _ _ _ H R
 | o::r,i,e,h,x,K,a,w,μ,hc,H,R,hK=>by
  simp only[z58] at hc
  split at hc
  ·rename_i p hp
   have hi:i<ops.size:=by
    rcases Nat.lt_or_ge i ops.size with q | q
    ·exact q
    ·rw[Array.getElem?_eq_none q] at hp;cases hp
   simp only[Bool.and_eq_true] at hc
   obtain⟨c1,c2⟩:=hc
   have hr:List.range' i (ops.size-i)=i::List.range' (i+1) (ops.size-(i+1)):=by
    rw[show ops.size-i=(ops.size-(i+1))+1 by omega,List.range'_succ]
   rw[hr]
   simp only[wpOps,hp]
   obtain⟨dst,guard,op⟩:=o
   unfold z7n at c1
   simp only[Bool.and_eq_true,beq_iff_eq] at c1
   obtain⟨⟨⟨d1,d2⟩,d3⟩,d4⟩:=c1
   have hd:∀ j,dst=some j→j<nt:=fun j hj=>by subst hj;simpa using d2
   subst d1
   unfold AReg at H
   dsimp only at H
   split at H
   ·rename_i hw
    rw[if_pos (z6O R d3 hw)]
    left
    have call:∀ (f:Nat) (asv:List AV) (g:Operand) (ys:List Operand) (caps:List AV) (cvs:List Value),z7m p.op=some (g,ys)→a.eval g = .func (.func f) #[] cvs.toArray→caps.length=cvs.length →
     (∀ (j:Nat) (y:AV) (v:Value),caps[j]?=some y→cvs[j]?=some v→RAV (imm h μ w) h μ y v)→asv.length=ys.length →
     (∀ (j:Nat) (y:AV) (v:Value),asv[j]?=some y→(ys.map a.eval)[j]?=some v→RAV (imm h μ w) h μ y v) →
     C f (asv++caps) h (fun v h' x'=>AReg C gl r (put p.dst v e) h' (x'++x) K)→p.wp P a w (wpOps P ops Q (List.range' (i+1) (ops.size-(i+1)))) Q:=by
     intro f asv g ys caps cvs hcall hg hcl hcr hal har HC
     have hco:=hC _ _ _ _ HC μ w (ys.map a.eval++cvs) R.heap R.glob (by simp [hal,hcl]) (fun j y v hy hv=>by
      rcases Nat.lt_or_ge j asv.length with q | q
      ·rw[List.getElem?_append_left q] at hy
       rw[List.getElem?_append_left (by simpa [← hal] using q)] at hv
       exact har j y v hy hv
      ·rw[List.getElem?_append_right q] at hy
       rw[List.getElem?_append_right (by simpa [← hal] using q)] at hv
       exact hcr _ y v hy (by simpa [← hal] using hv))
     unfold Oper.wp
     have harr:(ys.map a.eval++cvs).toArray=(ys.map a.eval).toArray++cvs.toArray:=by simp
     rcases hco with ⟨q1,q2⟩ | ⟨u,w',v,h',x',μ',q1,k1,k2,k3,k4,k5⟩
     case inr=>
      rw[z6H hcall hg,← harr,q1,Oper.upon_value]
      exact z12 hC r (i+1) c2 k1 (R.step hd k3 k4 k5 k2) hK
     rw[z6H hcall hg,← harr,q1 w]
     rw[Oper.upon_enter]
     refine q2.mono fun en w' he=>?_
     cases en with
     | returned u=>
      obtain⟨v,h',x',μ',k1,k2,k3,k4,k5⟩:=he
      exact z12 hC r (i+1) c2 k1 (R.step hd k3 k4 k5 k2) hK
     | panicked _=>exact he.elim
     | outgrown=>exact he.elim
    cases op
    case call f args=>
     dsimp only at H d4
     split at d4
     ·rename_i g ys hcall
      simp only[Bool.and_eq_true] at d4
      have hg:=R.opds _ _ d4.1
      have hgv:a.eval g = .func (.func f) #[] #[]:=by
       simp only[Opd.ev] at hg
       generalize a.eval g=z at hg
       cases hg with
       | fn _ _ vs hl hr=>
        have:vs=[]:=List.length_eq_zero_iff.1 (by simpa using hl.symm)
        subst this;rfl
      exact call f _ g ys [] [] hcall hgv rfl (fun j y v h1 h2=>by simp at h1) (by simp [z25 d4.2]) (z2A R.opds d4.2) (by simpa using H)
     ·cases d4
    case callv f args=>
     dsimp only at H d4
     split at d4
     ·rename_i g ys hcall
      simp only[Bool.and_eq_true] at d4
      split at H
      ·rename_i fn caps hf
       have hg:=R.opds _ _ d4.1
       rw[hf] at hg
       generalize hz:a.eval g=z at hg
       cases hg with
       | fn _ _ vs hl hr=>exact call fn _ g ys caps vs hcall hz hl hr (by simp [z25 d4.2]) (z2A R.opds d4.2) H
      ·exact H.elim
     ·cases d4
    case mnext osh xs=>
     cases osh with
     | some sh=>
      dsimp only at H d4
      split at d4
      ·rename_i x' y' t u hb
       simp only[Bool.and_eq_true] at d4
       obtain⟨d5,d6⟩:=d4
       obtain⟨q1,q2,rfl,d7,d8⟩:=zu9 d6
       split at H
       ·rename_i l hl
        obtain⟨z,hz,hok⟩:=zx7 (ty:=p.type) d5 R.heap (R.opds _ _ d7) (R.opds _ _ d8) hl
        obtain⟨cs,hr⟩:=z0A (P:=P) (w:=w) hb (ρ:=a.eval)
        obtain⟨nx,w',μ',r1,r2,r3,r4,r5⟩:=OpOk.congr hr hok
        unfold Oper.wp
        rw[r1]
        rcases r2 with ⟨u,rfl,hu⟩ | ⟨rfl,hv⟩
        ·rw[Oper.upon_value]
         exact z12 hC r (i+1) c2 (H.2 z hz) (R.step hd r3 r4 r5 hu) hK
        ·rw[Oper.upon_skip]
         exact z12 hC r (i+1) c2 (H.2 z hz) (R.step hd r3 r4 r5 (by rw[hv];exact .und undef)) hK
       ·exact H.elim
      ·cases d4
     | none=>
     dsimp only at H d4
     split at d4
     ·rename_i y isS hop
      simp only[Bool.and_eq_true,Bool.not_eq_true'] at d4
      obtain⟨rfl,d5⟩:=d4
      obtain⟨q1,rfl,d6⟩:=zu8 d5
      split at H
      ·rename_i l hl
       obtain⟨z,hz,nx,w',μ',r1,r2,r3,r4,r5⟩:=zu4 (ty:=p.type) R.heap (R.opds _ _ d6) hl
       unfold Oper.wp
       have e1:execOp a.eval p=(do pure (.value (← Instr.next (a.eval y) false p.type)):Sem Next):=by unfold execOp;rw[hop]
       rw[e1,r1]
       rcases r2 with ⟨u,rfl,hu⟩ | ⟨rfl,hv⟩
       ·rw[Oper.upon_value]
        exact z12 hC r (i+1) c2 (H.2 z hz) (R.step hd r3 r4 r5 hu) hK
       ·rw[Oper.upon_skip]
        exact z12 hC r (i+1) c2 (H.2 z hz) (R.step hd r3 r4 r5 (by rw[hv];exact .und undef)) hK
      ·exact H.elim
     ·cases d4
    all_goals
     dsimp only at H d4
     split at H
     ·rename_i v h' x' ha
      obtain⟨nx,w',μ',r1,r2,r3,r4,r5⟩:=zij (o:=p) d4 (fun _=>rfl) (fun _=>rfl) R.heap R.opds ha
      unfold Oper.wp
      rw[r1]
      rcases r2 with ⟨u,rfl,hu⟩ | ⟨rfl,rfl⟩
      ·rw[Oper.upon_value]
       exact z12 hC r (i+1) c2 H (R.step hd r3 r4 r5 hu) hK
      ·rw[Oper.upon_skip]
       exact z12 hC r (i+1) c2 H (R.step hd r3 r4 r5 (.und _)) hK
     ·exact H.elim
   ·rename_i hw
    rw[if_neg (by rw[z6O R d3 hw];simp)]
    exact z12 hC r (i+1) c2 H (R.skip hd) hK
   ·exact H.elim
  ·cases hc
end Go.Am
end
section
/- The abstract machine,part D: regions whose order is left open. -/
set_option linter.unusedSimpArgs false
set_option linter.unusedVariables false
set_option maxHeartbeats 1000000
namespace Go.Am
variable {h h':Heap} {μ μ':Mu} {w w':World} {P:Program} {M M':Mem}
variable {gl:Nat→Option PV} {nt:Nat} {M0:Mem} {h0:Heap} {μ0:Mu} {e:List (Nat × AV)} {x:Esc} {a:Act}
theorem zh2 {C:Hd} (hC:∀ f a h K,C f a h K→z1y P gl f a h K) {ops:Array Oper} {Q:Exit→Act→World→Prop} {o:AOp} {p:Oper} {i:Nat} (hp:ops[i]?=some p) (hc:z7n P nt ops o p=true)
 {g g':Heap} {v:AV} {y:Esc} (R:Rel gl nt M0 h0 μ0 e g x a w μ) (H:ADo C gl o e g v g' y) {K:Act→World→Prop}
 (hK:∀ a' w' μ' u,a'=a.put p.dst u→HeapRel g' μ' w'→Evo (imm g μ w) g μ (imm g' μ' w') g' μ'→z0i g g' y→RAV (imm g' μ' w') g' μ' v u→K a' w'):wpOp P ops Q i K a w:=by
 unfold wpOp
 rw[hp]
 dsimp only
 obtain⟨dst,guard,op⟩:=o
 unfold z7n at hc
 simp only[Bool.and_eq_true,beq_iff_eq] at hc
 obtain⟨⟨⟨d1,d2⟩,d3⟩,d4⟩:=hc
 subst d1
 unfold ADo at H
 dsimp only at H
 split at H
 ·rename_i hw
  rw[if_pos (z6O R d3 hw)]
  left
  have call:∀ (f:Nat) (asv:List AV) (gg:Operand) (ys:List Operand) (caps:List AV) (cvs:List Value),z7m p.op=some (gg,ys)→a.eval gg = .func (.func f) #[] cvs.toArray→caps.length=cvs.length →
   (∀ (j:Nat) (y:AV) (v:Value),caps[j]?=some y→cvs[j]?=some v→RAV (imm g μ w) g μ y v)→asv.length=ys.length →
   (∀ (j:Nat) (y:AV) (v:Value),asv[j]?=some y→(ys.map a.eval)[j]?=some v→RAV (imm g μ w) g μ y v) →
   C f (asv++caps) g (fun v1 h1 x1=>v1=v∧h1=g'∧x1=y)→p.wp P a w K Q:=by
   intro f asv gg ys caps cvs hcall hg hcl hcr hal har HC
   have hco:=hC _ _ _ _ HC μ w (ys.map a.eval++cvs) R.heap R.glob (by simp [hal,hcl]) (fun j y v hy hv=>by
    rcases Nat.lt_or_ge j asv.length with q | q
    ·rw[List.getElem?_append_left q] at hy
     rw[List.getElem?_append_left (by simpa [← hal] using q)] at hv
     exact har j y v hy hv
    ·rw[List.getElem?_append_right q] at hy
     rw[List.getElem?_append_right (by simpa [← hal] using q)] at hv
     exact hcr _ y v hy (by simpa [← hal] using hv))
   unfold Oper.wp
   have harr:(ys.map a.eval++cvs).toArray=(ys.map a.eval).toArray++cvs.toArray:=by simp
   rcases hco with ⟨q1,q2⟩ | ⟨u,w',v1,h1,x1,μ',q1,⟨rfl,rfl,rfl⟩,k2,k3,k4,k5⟩
   case inr=>
    rw[z6H hcall hg,← harr,q1,Oper.upon_value]
    exact hK _ _ μ' u rfl k3 k4 k5 k2
   rw[z6H hcall hg,← harr,q1 w]
   rw[Oper.upon_enter]
   refine q2.mono fun en w' he=>?_
   cases en with
   | returned u=>
    obtain⟨v1,h1,x1,μ',⟨rfl,rfl,rfl⟩,k2,k3,k4,k5⟩:=he
    exact hK _ _ μ' u rfl k3 k4 k5 k2
   | panicked _=>exact he.elim
   | outgrown=>exact he.elim
  cases op
  case call f args=>
   dsimp only at H d4
   split at d4
   ·rename_i gg ys hcall
    simp only[Bool.and_eq_true] at d4
    have hg:=R.opds _ _ d4.1
    have hgv:a.eval gg = .func (.func f) #[] #[]:=by
     simp only[Opd.ev] at hg
     generalize a.eval gg=z at hg
     cases hg with
     | fn _ _ vs hl hr=>
      have:vs=[]:=List.length_eq_zero_iff.1 (by simpa using hl.symm)
      subst this;rfl
    exact call f _ gg ys [] [] hcall hgv rfl (fun j y v h1 h2=>by simp at h1) (by simp [z25 d4.2]) (z2A R.opds d4.2) (by simpa using H)
   ·cases d4
  case callv f args=>
   dsimp only at H d4
   split at d4
   ·rename_i gg ys hcall
    simp only[Bool.and_eq_true] at d4
    split at H
    ·rename_i fn caps hf
     have hg:=R.opds _ _ d4.1
     rw[hf] at hg
     generalize hz:a.eval gg=z at hg
     cases hg with
     | fn _ _ vs hl hr=>exact call fn _ gg ys caps vs hcall hz hl hr (by simp [z25 d4.2]) (z2A R.opds d4.2) H
    ·exact H.elim
   ·cases d4
  case mnext sh xs=>exact H.elim
  all_goals
   dsimp only at H d4
   obtain⟨nx,w',μ',r1,r2,r3,r4,r5⟩:=zij (o:=p) d4 (fun _=>rfl) (fun _=>rfl) R.heap R.opds H
   unfold Oper.wp
   rw[r1]
   rcases r2 with ⟨u,rfl,hu⟩ | ⟨rfl,hv⟩
   ·rw[Oper.upon_value]
    exact hK _ _ μ' u rfl r3 r4 r5 hu
   ·rw[Oper.upon_skip]
    exact hK _ _ μ' undef rfl r3 r4 r5 (hv ▸ .und _)
 ·rename_i hw
  obtain⟨rfl,rfl,rfl⟩:=H
  rw[if_neg (by rw[z6O R d3 hw];simp)]
  exact hK _ _ μ undef rfl R.heap (Evo.refl _ _ _) (z0i.refl _ _) .skp
 ·exact H.elim
def AO.hfree:AO→Bool
 | .mv _ | .pick _ _ _ | .build _ _ | .nilchk _ | .bin _ _ _ | .eqa _ _ _ _ | .isnil _ _ _ | .mkif _ | .un _ _ | .mkfn _ _ | .slstr _ _ _ | .faddr _ _ _ | .field _ _ _ | .iaddra _ _ _ _ | .idxa _ _ _ _ | .idxs _ _ | .ext _ _ | .len _ | .lens _ | .mx _ | .mn _=>true
 | _=>false
theorem mapc {α:Type} {F:α→AV} {X:Option α} {h h1 g:Heap} {v:AV} {y:Esc} (H:Option.map (fun v=>(F v,h,([]:Esc))) X=some (v,h1,y)):Option.map (fun v=>(F v,g,([]:Esc))) X=some (v,g,[]):=by
 cases X with
 | none=>cases H
 | some z=>simp at H ⊢;exact H.1
theorem nilc {α:Type} {b:Bool} {F:α→AV} {X:Option α} {h h1 g:Heap} {u v:AV} {y:Esc} (H:(bif b then some (u,h,([]:Esc)) else Option.map (fun v=>(F v,h,([]:Esc))) X)=some (v,h1,y)):(bif b then some (u,g,([]:Esc)) else Option.map (fun v=>(F v,g,([]:Esc))) X)=some (v,g,[]):=by
 cases b with
 | true=>simp at H ⊢;exact H.1
 | false=>exact mapc H
theorem zun {op:AO} (hf:op.hfree=true) {ev:Opd→AV} {v:AV} {h1:Heap} {y:Esc} (H:aop op ev h=some (v,h1,y)) (g:Heap):aop op ev g=some (v,g,[]):=by
 cases op <;> first
  | (cases hf;done)
  | (simp only[aop] at H ⊢;simp_all;done)
  | (simp only[aop] at H ⊢;exact mapc H)
  | (simp only[aop] at H ⊢;exact nilc H)
  | (simp only[aop] at H ⊢;split at H <;> first | (simp_all;done) | exact mapc H | (split at H <;> first | (simp_all;done) | exact mapc H | (rw[if_pos ‹_›];exact mapc H) | (split at H <;> first | (simp_all;done) | exact mapc H | (rw[if_pos ‹_›];exact mapc H))))
structure Tr (C:Hd) (gl:Nat→Option PV) (ds:List DOp) (m:Nat) (dn:Done) (hs:List Heap) (E:Nat→List (Nat × AV)) (H:Nat→Heap) (V:Nat→AV) (X Y:Nat→Esc) (i:Nat) (o:DOp):Prop where
 run:ADo C gl o.op (z01 (some o.rd) (E (m+i))) (H (m+i)) (V (m+i)) (H (m+i+1)) (Y (m+i))
 env:E (m+i+1)=put o.op.dst (V (m+i)) (E (m+i))
 esc:X (m+i+1)=Y (m+i)++X (m+i)
 still:o.eff=false→H (m+i+1)=H (m+i)∧Y (m+i)=[]
 early:∀ k∈o.early,∃ g,(k<m∧hs[k]?=some g∨m≤k∧k<m+i∧g=H k)∧ADo C gl o.op (z01 (some o.rd) (E (m+i))) g (V (m+i)) g []
 again:∀ j∈o.again,(∃ q,j<m∧dn[j]?=some q∧ADo C gl q.1 q.2.1 (H (m+i+1)) q.2.2 (H (m+i+1)) []) ∨
  (m≤j∧∃ q,ds[j-m]?=some q∧ADo C gl q.op (z01 (some q.rd) (E j)) (H (m+i+1)) (V j) (H (m+i+1)) [])
end Go.Am
end
section
/- The abstract machine,part E: regions whose order is left open: from one order tov all. -/
set_option linter.unusedSimpArgs false
set_option linter.unusedVariables false
set_option maxHeartbeats 1000000
namespace Go.Am
variable {h h':Heap} {μ μ':Mu} {w w':World} {P:Program} {M M':Mem}
variable {gl:Nat→Option PV} {nt:Nat} {M0:Mem} {h0:Heap} {μ0:Mu} {e:List (Nat × AV)} {x:Esc} {a:Act}
theorem trace {C:Hd}:∀ (ds:List DOp) (m:Nat) (dn:Done) (hs:List Heap) (e:List (Nat × AV)) (h:Heap) (x:Esc) (K:List (Nat × AV)→Heap→Esc→Prop),z1Z C gl ds dn hs e h x K→dn.length=m→hs.length=m →
 ∃ E H V X Y,E m=e∧H m=h∧X m=x∧(∀ i o,ds[i]?=some o→Tr C gl ds m dn hs E H V X Y i o)∧K (E (m+ds.length)) (H (m+ds.length)) (X (m+ds.length))
 | [],m,dn,hs,e,h,x,K,HD,h1,h2=>⟨fun _=>e,fun _=>h,fun _=>.und,fun _=>x,fun _=>[],rfl,rfl,rfl,fun i o ho=>by simp at ho,HD⟩
 | o::r,m,dn,hs,e,h,x,K,HD,h1,h2=>by
  obtain⟨v,h',y,d1,d2,d3,d4,d5⟩:=HD
  obtain⟨E,H,V,X,Y,e1,e2,e3,e4,e5⟩:=trace r (m+1) _ _ _ _ _ K d5 (by simp [h1]) (by simp [h2])
  refine⟨fun i=>if i=m then e else E i,fun i=>if i=m then h else H i,fun i=>if i=m then v else V i,fun i=>if i=m then x else X i,fun i=>if i=m then y else Y i,by simp,by simp,by simp,?_,?_⟩
  ·intro i o' ho'
   cases i with
   | zero=>
    simp only[List.getElem?_cons_zero,Option.some.injEq] at ho'
    subst ho'
    refine⟨?_,?_,?_,fun hf=>?_,fun k hk=>?_,fun j hj=>?_⟩
    ·simp only[Nat.add_zero,if_true,Nat.succ_ne_self,if_false,e2];exact d1
    ·simp only[Nat.add_zero,if_true,Nat.succ_ne_self,if_false,e1]
    ·simp only[Nat.add_zero,if_true,Nat.succ_ne_self,if_false,e3]
    ·simp only[Nat.add_zero,if_true,Nat.succ_ne_self,if_false,e2];exact d2 hf
    ·obtain⟨g,q1,q2⟩:=d3 k hk
     refine⟨g,.inl ⟨by rw[← h2];exact z0f q1,q1⟩,?_⟩
     simp only[Nat.add_zero,if_true]
     exact q2
    ·obtain⟨q,q1,q2⟩:=d4 j hj
     refine .inl ⟨q,by rw[← h1];exact z0f q1,q1,?_⟩
     simp only[Nat.add_zero,Nat.succ_ne_self,if_false,e2]
     exact q2
   | succ i=>
    simp only[List.getElem?_cons_succ] at ho'
    have T:=e4 i o' ho'
    have hm2:m+(i+1)=m+1+i:=by omega
    have hm3:¬ (m+1+i=m):=by omega
    have hm4:¬ (m+1+i+1=m):=by omega
    refine⟨?_,?_,?_,fun hf=>?_,fun k hk=>?_,fun j hj=>?_⟩
    ·simp only[hm2,hm3,hm4,if_false];exact T.run
    ·simp only[hm2,hm3,hm4,if_false];exact T.env
    ·simp only[hm2,hm3,hm4,if_false];exact T.esc
    ·simp only[hm2,hm3,hm4,if_false];exact T.still hf
    ·obtain⟨g,q1,q2⟩:=T.early k hk
     refine⟨g,?_,by simp only[hm2,hm3,if_false];exact q2⟩
     rcases q1 with ⟨q1,q3⟩ | ⟨q1,q3,q4⟩
     ·rcases Nat.lt_or_ge k m with q5 | q5
      ·left
       rw[List.getElem?_append_left (by omega)] at q3
       exact⟨q5,q3⟩
      ·have:k=m:=by omega
       subst this
       right
       rw[List.getElem?_append_right (by omega),h2,Nat.sub_self] at q3
       simp at q3
       exact⟨Nat.le_refl _,by omega,by simp [q3]⟩
     ·right
      exact⟨by omega,by omega,by rw[if_neg (by omega)];exact q4⟩
    ·rcases T.again j hj with ⟨q,q1,q2,q3⟩ | ⟨q1,q,q2,q3⟩
     ·rcases Nat.lt_or_ge j m with q5 | q5
      ·left
       rw[List.getElem?_append_left (by omega)] at q2
       exact⟨q,q5,q2,by simp only[hm2,hm4,if_false];exact q3⟩
      ·have:j=m:=by omega
       subst this
       right
       rw[List.getElem?_append_right (by omega),h1,Nat.sub_self] at q2
       simp at q2
       subst q2
       exact⟨Nat.le_refl _,o,by simp,by simp only[hm2,hm4,if_false,if_true];exact q3⟩
     ·right
      refine⟨by omega,q,?_,?_⟩
      ·rw[show j-m=(j-(m+1))+1 by omega]
       simpa using q2
      ·simp only[hm2,hm4,if_false]
       rw[if_neg (by omega),if_neg (by omega)]
       exact q3
  ·dsimp only
   rw[if_neg (by simp),if_neg (by simp),if_neg (by simp)]
   rw[show m+(o::r).length=m+1+r.length by simp;omega]
   exact e5
def lk (dst:Nat→Option Nat) (V:Nat→AV) (e:List (Nat × AV)) (sel:Nat→Bool):Nat→Nat→AV
 | 0,t=>aget e t
 | m+1,t=>if sel m=true∧dst m=some t then V m else lk dst V e sel m t
theorem z7M {dst:Nat→Option Nat} {V:Nat→AV} {e:List (Nat × AV)} {s s':Nat→Bool} {t:Nat}:∀ (n:Nat),(∀ j,j<n→dst j=some t→s j=s' j)→lk dst V e s n t=lk dst V e s' n t
 | 0,_=>rfl
 | n+1,h=>by
  simp only[lk]
  rw[z7M n (fun j hj=>h j (by omega))]
  by_cases hd:dst n=some t
  ·rw[h n (by omega) hd]
  ·simp [hd]
theorem zca {dst:Nat→Option Nat} {V:Nat→AV} {e:List (Nat × AV)} {s:Nat→Bool} {t:Nat} {i:Nat}:∀ (n:Nat),i≤n→(∀ j,i≤j→j<n→dst j=some t→s j=false)→lk dst V e s n t=lk dst V e s i t
 | 0,hi,_=>by
  have:i=0:=by omega
  subst this;rfl
 | n+1,hi,h=>by
  rcases Nat.lt_or_ge n i with q | q
  ·have:i=n+1:=by omega
   subst this;rfl
  ·simp only[lk]
   rw[if_neg,zca n q (fun j h1 h2=>h j h1 (by omega))]
   rintro⟨h1,h2⟩
   rw[h n q (by omega) h2] at h1
   cases h1
end Go.Am
end
section
/- The abstract machine,part F: regions whose order is left open: sound. -/
set_option linter.unusedSimpArgs false
set_option linter.unusedVariables false
set_option maxHeartbeats 1000000
namespace Go.Am
variable {h h':Heap} {μ μ':Mu} {w w':World} {P:Program} {M M':Mem}
variable {gl:Nat→Option PV} {nt:Nat} {M0:Mem} {h0:Heap} {μ0:Mu} {e:List (Nat × AV)} {x:Esc} {a:Act} {ops:Array Oper}
def z16 (o:Oper):List Nat:=(o.after.toList.filter (Region.binds .any)).map (·.on)
inductive Bef (ops:Array Oper):Nat→Nat→Prop
 | one {k i:Nat} {o:Oper} (ho:ops[i]?=some o) (hk:k∈z16 o):Bef ops k i
 | more {k m i:Nat} {o:Oper} (h:Bef ops k m) (ho:ops[i]?=some o) (hm:m∈z16 o):Bef ops k i
def z7G:List (List Nat)→List (List Nat)→List (List Nat)
 | [],t=>t
 | es::r,t=>z7G r (t++[(es++es.flatMap fun m=>t.getD m []).eraseDups])
theorem z84:∀ (os:List Oper) (m:Nat) (t:List (List Nat)),ops.toList.drop m=os→t.length=m→(∀ i l,t[i]?=some l→∀ k∈l,Bef ops k i) →
 ∀ i l,(z7G (os.map z16) t)[i]?=some l→∀ k∈l,Bef ops k i
 | [],m,t,_,_,ht=>ht
 | o::r,m,t,ho,hm,ht=>by
  have hom:ops[m]?=some o:=by
   have:(ops.toList.drop m)[0]?=some o:=by rw[ho];rfl
   rw[List.getElem?_drop] at this
   simpa using this
  have hr:ops.toList.drop (m+1)=r:=by
   rw[← List.drop_drop,ho]
   rfl
  simp only[List.map_cons,z7G]
  refine z84 r (m+1) _ hr (by simp [hm]) (fun i l hi k hk=>?_)
  rcases z1P hi with hi | ⟨hi,hl⟩
  ·exact ht i l hi k hk
  ·rw[hi,hm]
   rw[hl] at hk
   rw[List.mem_eraseDups] at hk
   rcases List.mem_append.1 hk with hk | hk
   ·exact .one hom hk
   ·obtain⟨q,q1,q2⟩:=List.mem_flatMap.1 hk
    cases hq:t[q]? with
    | none=>simp [List.getD,hq] at q2
    | some l'=>
     simp [List.getD,hq] at q2
     exact .more (ht q l' hq k q2) hom q1
def zeO (tab:List (List Nat)) (i j:Nat) (p q:DOp):Bool:=
 (tab.getD j []).contains i ||
  (!(p.eff&&q.eff)&&(match p.op.dst with | some t=>q.op.dst != some t && !q.rd.contains t | none=>true)&&(match q.op.dst with | some t=>!p.rd.contains t | none=>true) &&
   (!(q.eff && !p.eff)||p.op.op.hfree||q.again.contains i)&&(!(p.eff && !q.eff)||q.op.op.hfree||q.early.contains i))
def zuN (tab:List (List Nat)) (j:Nat) (q:DOp):List DOp→Nat→Bool
 | [],_=>true
 | p::r,i=>decide (j≤i)||(zeO tab i j p q&&zuN tab j q r (i+1))
def zis (tab:List (List Nat)) (all:List DOp):List DOp→Nat→Bool
 | [],_=>true
 | q::r,j=>zuN tab j q all 0&&zis tab all r (j+1)
def zbM:List Oper→Nat→Bool
 | [],_=>true
 | o::r,i=>(z16 o).all (fun k=>decide (k<i))&&zbM r (i+1)
def z8w (P:Program) (nt:Nat) (ops:Array Oper) (ds:List DOp):Bool:=
 z58 P nt ops (ds.map (·.op)) 0&&zbM ops.toList 0&&zis (z7G (ops.toList.map z16) []) ds ds 0
theorem zbp {tab:List (List Nat)} {j:Nat} {q:DOp}:∀ {l:List DOp} {i:Nat},zuN tab j q l i=true→∀ k p,l[k]?=some p→i+k<j→zeO tab (i+k) j p q=true
 | [],i,_,k,p,h,_=>by simp at h
 | p0::r,i,h,k,p,hk,hlt=>by
  simp only[zuN,Bool.or_eq_true,decide_eq_true_eq,Bool.and_eq_true] at h
  rcases h with h | ⟨h1,h2⟩
  ·omega
  ·cases k with
   | zero=>simp at hk;subst hk;exact h1
   | succ k=>
    have:=zbp h2 k p (by simpa using hk) (by omega)
    rwa [show i+1+k=i+(k+1) by omega] at this
theorem z9S {tab:List (List Nat)} {all:List DOp}:∀ {l:List DOp} {j:Nat},zis tab all l j=true→∀ k q,l[k]?=some q→∀ i p,all[i]?=some p→i<j+k→zeO tab i (j+k) p q=true
 | [],j,_,k,q,h,_,_,_,_=>by simp at h
 | q0::r,j,h,k,q,hk,i,p,hp,hlt=>by
  simp only[zis,Bool.and_eq_true] at h
  cases k with
  | zero=>
   simp at hk
   subst hk
   have:=zbp h.1 i p hp (by simpa using hlt)
   simpa using this
  | succ k=>
   have:=z9S h.2 k q (by simpa using hk) i p hp (by omega)
   rwa [show j+1+k=j+(k+1) by omega] at this
theorem z7t:∀ {l:List Oper} {i:Nat},zbM l i=true→∀ j o,l[j]?=some o→∀ k∈z16 o,k<i+j
 | [],_,_,j,o,h,_,_=>by simp at h
 | o0::r,i,h,j,o,hj,k,hk=>by
  simp only[zbM,Bool.and_eq_true,List.all_eq_true,decide_eq_true_eq] at h
  cases j with
  | zero=>simp at hj;subst hj;simpa using h.1 k hk
  | succ j=>have:=z7t h.2 j o (by simpa using hj) k hk;omega
theorem z8z:∀ {l:List AOp} {i:Nat},z58 P nt ops l i=true→i+l.length=ops.size∧∀ j o,l[j]?=some o→∃ p,ops[i+j]?=some p∧z7n P nt ops o p=true
 | [],i,h=>by simp [z58] at h;exact⟨by simpa using h,fun j o hj=>by simp at hj⟩
 | o0::r,i,h=>by
  simp only[z58] at h
  split at h
  ·rename_i p hp
   simp only[Bool.and_eq_true] at h
   obtain⟨h1,h2⟩:=z8z h.2
   refine⟨by simp;omega,fun j o hj=>?_⟩
   cases j with
   | zero=>simp at hj;subst hj;exact⟨p,hp,h.1⟩
   | succ j=>
    obtain⟨p',q1,q2⟩:=h2 j o (by simpa using hj)
    exact⟨p',by rw[← q1];congr 1;omega,q2⟩
  ·cases h
theorem zja {o:AOp} {p:Oper} (h:z7n P nt ops o p=true):o.dst=p.dst∧∀ j,o.dst=some j→j<nt:=by
 unfold z7n at h
 simp only[Bool.and_eq_true,beq_iff_eq] at h
 obtain⟨⟨⟨d1,d2⟩,d3⟩,d4⟩:=h
 exact⟨d1,fun j hj=>by rw[hj] at d2;simpa using d2⟩
theorem zf5 (l:List Nat) (e:List (Nat × AV)) (t:Nat):aget (z01 (some l) e) t=if t∈l then aget e t else .und:=by
 simp only[z01]
 induction l with
 | nil=>simp [aget]
 | cons k r ih=>
  simp only[List.map_cons,aget]
  by_cases hk:k=t
  ·subst hk;simp
  ·rw[if_neg hk,ih]
   have:¬ t=k:=fun h=>hk h.symm
   simp [this]
def Down (ops:Array Oper) (sel:Nat→Bool):Prop:=∀ i o,ops[i]?=some o→sel i=true→∀ k∈z16 o,sel k=true
theorem Bef.down {sel:Nat→Bool} (hD:Down ops sel) {k i:Nat} (hb:Bef ops k i):sel i=true→sel k=true:=by
 induction hb with
 | one ho hk=>exact fun hi=>hD _ _ ho hi _ hk
 | more _ ho hm ih=>exact fun hi=>ih (hD _ _ ho hi _ hm)
theorem Bef.ready {sel:Nat→Bool} (hD:Down ops sel) {k i:Nat} (hb:Bef ops k i) (hr:∀ o,ops[i]?=some o→∀ k∈z16 o,sel k=true):sel k=true:=by
 cases hb with
 | one ho hk=>exact hr _ ho _ hk
 | more hb ho hm=>exact hb.down hD (hr _ ho _ hm)
end Go.Am
end
section
/- The abstract machine,part G: regions whose order is left open: whatever the order. -/
set_option linter.unusedSimpArgs false
set_option linter.unusedVariables false
set_option maxHeartbeats 1000000
namespace Go.Am
variable {h h':Heap} {μ μ':Mu} {w w':World} {P:Program} {M M':Mem}
variable {gl:Nat→Option PV} {nt:Nat} {M0:Mem} {h0:Heap} {μ0:Mu} {e:List (Nat × AV)} {x:Esc} {a:Act} {ops:Array Oper}
theorem zrT {tab:List (List Nat)} (ht:∀ i l,tab[i]?=some l→∀ k∈l,Bef ops k i) {i j:Nat} {p q:DOp} (h:zeO tab i j p q=true) :
 Bef ops i j∨(¬ (p.eff=true∧q.eff=true)∧(∀ t,p.op.dst=some t→q.op.dst≠some t∧t∉q.rd)∧(∀ t,q.op.dst=some t→t∉p.rd) ∧
  (q.eff=true→p.eff=false→p.op.op.hfree=true∨i∈q.again)∧(p.eff=true→q.eff=false→q.op.op.hfree=true∨i∈q.early)):=by
 unfold zeO at h
 rw[Bool.or_eq_true] at h
 rcases h with h | h
 ·left
  cases hq:tab[j]? with
  | none=>simp [List.getD,hq] at h
  | some l=>simp [List.getD,hq] at h;exact ht j l hq i h
 ·right
  simp only[Bool.and_eq_true,Bool.not_eq_true',Bool.or_eq_true] at h
  obtain⟨⟨⟨⟨h1,h2⟩,h3⟩,h4⟩,h5⟩:=h
  refine⟨fun hab=>by (rw[hab.1,hab.2] at h1;cases h1),fun t ht=>?_,fun t ht=>?_,fun ha hb=>?_,fun ha hb=>?_⟩
  ·rw[ht] at h2
   simpa using h2
  ·rw[ht] at h3
   simpa using h3
  ·rw[ha,hb] at h4
   simpa using h4
  ·rw[ha,hb] at h5
   simpa using h5
theorem zwi {C:Hd} {ds:List DOp} {E:Nat→List (Nat × AV)} {H:Nat→Heap} {V:Nat→AV} {X Y:Nat→Esc} (T:∀ i o,ds[i]?=some o→Tr C gl ds 0 [] [] E H V X Y i o) (e0:E 0=e) (t:Nat) :
 ∀ i,i≤ds.length→aget (E i) t=lk (fun i=>(ds[i]?).bind (·.op.dst)) V e (fun _=>true) i t
 | 0,_=>by simp [lk,e0]
 | i+1,hi=>by
  have ho:=List.getElem?_eq_getElem (show i<ds.length by omega)
  have hT:=(T i _ ho).env
  simp only[Nat.zero_add] at hT
  rw[hT,z4H,zwi T e0 t i (by omega)]
  simp only[lk,ho,Option.bind_some,true_and]
theorem zfo {C:Hd} {ds:List DOp} {E:Nat→List (Nat × AV)} {H:Nat→Heap} {V:Nat→AV} {X Y:Nat→Esc} (T:∀ i o,ds[i]?=some o→Tr C gl ds 0 [] [] E H V X Y i o) {c:Nat} :
 ∀ d,c+d≤ds.length→(∀ k o,c≤k→k<c+d→ds[k]?=some o→o.eff=false)→H (c+d)=H c∧X (c+d)=X c
 | 0,_,_=>⟨rfl,rfl⟩
 | d+1,hd,hn=>by
  have ho:=List.getElem?_eq_getElem (show c+d<ds.length by omega)
  have hT:=T _ _ ho
  have hs:=hT.still (hn _ _ (by omega) (by omega) ho)
  obtain⟨h1,h2⟩:=zfo T d (by omega) (fun k o h1 h2 h3=>hn k o h1 (by omega) h3)
  simp only[Nat.zero_add] at hs
  have he:=hT.esc
  simp only[Nat.zero_add] at he
  rw[hs.2] at he
  exact⟨by rw[← Nat.add_assoc,hs.1,h1],by rw[← Nat.add_assoc,he,List.nil_append,h2]⟩
theorem zjY {C:Hd} {o:AOp} (hf:o.op.hfree=true) {v:AV} {y:Esc} (H:ADo C gl o e h v h' y) (g:Heap):ADo C gl o e g v g []:=by
 obtain⟨dst,guard,op⟩:=o
 unfold ADo at H ⊢
 dsimp only at H hf ⊢
 split at H
 ·cases op
  case call f args=>cases hf
  case callv f args=>cases hf
  case mnext sh xs=>cases hf
  all_goals exact zun hf H g
 ·exact⟨H.1,rfl,rfl⟩
 ·exact H.elim
theorem zy5 {p:Nat→Prop} {c i:Nat} (h:∃ k,c≤k∧k<i∧p k):∃ k,c≤k∧k<i∧p k∧∀ k',c≤k'→k'<k→¬ p k':=by
 obtain⟨k,h1,h2,h3⟩:=h
 induction k using Nat.strongRecOn with
 | _ k ih=>
  by_cases hq:∃ k',c≤k'∧k'<k∧p k'
  ·obtain⟨k',q1,q2,q3⟩:=hq
   exact ih k' q2 q1 (by omega) q3
  ·exact⟨k,h1,h2,h3,fun k' q1 q2 q3=>hq ⟨k',q1,q2,q3⟩⟩
theorem z6Y {C:Hd} (hC:∀ f a h K,C f a h K→z1y P gl f a h K) {ds:List DOp} {K:List (Nat × AV)→Heap→Esc→Prop} {Q:Exit→Act→World→Prop} (hc:z8w P nt ops ds=true)
 (HD:z1Z C gl ds [] [] e h x K) (R:Rel gl nt M0 h0 μ0 e h x a w μ) (hK:∀ e h x a w μ,K e h x→Rel gl nt M0 h0 μ0 e h x a w μ→Q .normal a w) :
 wpAny P .any ops Q ops.size (Array.replicate ops.size false) a w:=by
 unfold z8w at hc
 simp only[Bool.and_eq_true] at hc
 obtain⟨⟨c1,c2⟩,c3⟩:=hc
 obtain⟨c4,c5⟩:=z8z c1
 have hn:ds.length=ops.size:=by simpa using c4
 have htab:=z84 (ops:=ops) ops.toList 0 [] (by simp) rfl (fun i l hi=>by simp at hi)
 have hpair:∀ (i j:Nat) (p q:DOp),ds[i]?=some p→ds[j]?=some q→i<j→Bef ops i j∨(¬ (p.eff=true∧q.eff=true)∧(∀ t,p.op.dst=some t→q.op.dst≠some t∧t∉q.rd)∧(∀ t,q.op.dst=some t→t∉p.rd) ∧
  (q.eff=true→p.eff=false→p.op.op.hfree=true∨i∈q.again)∧(p.eff=true→q.eff=false→q.op.op.hfree=true∨i∈q.early)):=fun i j p q hp hq hlt=>by
  have:=z9S c3 j q hq i p hp (by omega)
  rw[Nat.zero_add] at this
  exact zrT htab this
 have hop:∀ (i:Nat) (o:DOp),ds[i]?=some o→∃ p,ops[i]?=some p∧z7n P nt ops o.op p=true:=fun i o ho=>by
  obtain⟨p,q1,q2⟩:=c5 i o.op (by simp [ho])
  rw[Nat.zero_add] at q1
  exact⟨p,q1,q2⟩
 obtain⟨E,H,V,X,Y,e1,e2,e3,T,e5⟩:=trace ds 0 [] [] e h x K HD rfl rfl
 simp only[Nat.zero_add] at e5
 have hE:=fun t i hi=>zwi (e:=e) T e1 t i hi
 let dst:Nat→Option Nat:=fun i=>(ds[i]?).bind (·.op.dst)
 have hdst:∀ (i:Nat) (o:DOp),ds[i]?=some o→dst i=o.op.dst:=fun i o ho=>by show (ds[i]?).bind _=_;rw[ho];rfl
 have hdst':∀ (i t:Nat),dst i=some t→∃ o,ds[i]?=some o∧o.op.dst=some t:=fun i t ht=>by
  cases ho:ds[i]? with
  | none=>exact absurd ht (by show (ds[i]?).bind _≠_;rw[ho];simp)
  | some o=>exact⟨o,rfl,by rw[← hdst i o ho];exact ht⟩
 have hstill:∀ c i,c≤i→i≤ds.length→(∀ (k:Nat) (o:DOp),c≤k→k<i→ds[k]?=some o→o.eff=false)→H i=H c∧X i=X c:=fun c i hci hi hk=>by
  have:=zfo T (c:=c) (i-c) (by omega) (fun k o h1 h2 h3=>hk k o h1 (by omega) h3)
  rwa [show c+(i-c)=i by omega] at this
 have done:∀ (listed:Array Bool) (c:Nat) (en:List (Nat × AV)) (a:Act) (w:World) (μ:Mu),(∀ i,i<ops.size→listed.getD i false=true)→(∀ (k:Nat) (o:DOp),ds[k]?=some o→o.eff=true→(listed.getD k false=true↔k<c))→c≤ds.length →
  (∀ t,aget en t=lk dst V e (fun i=>listed.getD i false) ds.length t)→Rel gl nt M0 h0 μ0 en (H c) (X c) a w μ→Q .normal a w:=by
  intro listed c en a w μ hall hce hcl hen R
  have hHn:=hstill c ds.length hcl (Nat.le_refl _) (fun k o h1 h2 h3=>by
   cases hb:o.eff with
   | false=>rfl
   | true=>have:=(hce k o h3 hb).1 (hall k (by omega));omega)
  refine hK _ _ _ a w μ e5 ?_
  rw[hHn.1,hHn.2]
  refine⟨R.heap,fun t=>?_,R.glob,R.evo,R.esc,R.size,R.defers⟩
  rw[hE t _ (Nat.le_refl _)]
  have:=hen t
  rw[z7M (s':=fun _=>true) ds.length (fun j hj _=>hall j (by omega))] at this
  rw[← this]
  exact R.env t
 have key:∀ (fuel:Nat) (listed:Array Bool) (U:List Nat) (c:Nat) (en:List (Nat × AV)) (a:Act) (w:World) (μ:Mu),listed.size=ops.size→(∀ i,i<ops.size→listed.getD i false=false→i∈U)→U.length≤fuel →
  Down ops (fun i=>listed.getD i false)→(∀ (k:Nat) (o:DOp),ds[k]?=some o→o.eff=true→(listed.getD k false=true↔k<c))→(c=0∨∃ (k:Nat) (o:DOp),c=k+1∧ds[k]?=some o∧o.eff=true)→c≤ds.length →
  (∀ t,aget en t=lk dst V e (fun i=>listed.getD i false) ds.length t)→Rel gl nt M0 h0 μ0 en (H c) (X c) a w μ→wpAny P .any ops Q fuel listed a w:=by
  intro fuel
  induction fuel with
  | zero=>
   intro listed U c en a w μ hsz hU hUl hD hce hc0 hcl hen R
   have hall:∀ i,i<ops.size→listed.getD i false=true:=fun i hi=>by
    cases hb:listed.getD i false with
    | true=>rfl
    | false=>
     have:=hU i hi hb
     have hnil:U=[]:=List.length_eq_zero_iff.1 (by omega)
     rw[hnil] at this;cases this
   refine⟨?_,done listed c en a w μ hall hce hcl hen R⟩
   rw[List.eq_nil_iff_forall_not_mem]
   intro i hi
   rw[mem_ready] at hi
   obtain⟨q1,o,q2,_⟩:=hi
   have hi:i<ops.size:=(Array.getElem?_eq_some_iff.1 q2).1
   have:=hall i hi
   simp [Array.getD,hsz,hi] at q1 this
   rw[q1] at this;cases this
  | succ fuel ih=>
   intro listed U c en a w μ hsz hU hUl hD hce hc0 hcl hen R
   refine⟨fun hr=>?_,fun i hi=>?_⟩
   ·have hall:∀ i,i<ops.size→listed.getD i false=true:=by
     intro i
     induction i using Nat.strongRecOn with
     | _ i ihi=>
      intro hi
      cases hb:listed.getD i false with
      | true=>rfl
      | false=>
       have hm:i∈Region.ready .any ops listed:=by
        rw[mem_ready]
        refine⟨by simp [Array.getD,hsz,hi] at hb ⊢;exact hb,ops[i],Array.getElem?_eq_getElem hi,fun ed hed hbd=>?_⟩
        have hk:ed.on∈z16 ops[i]:=List.mem_map.2 ⟨ed,List.mem_filter.2 ⟨by simpa using hed,hbd⟩,rfl⟩
        have hlt:=z7t c2 i ops[i] (by simp [hi]) ed.on hk
        exact ihi ed.on (by omega) (by omega)
       rw[hr] at hm
       cases hm
    exact done listed c en a w μ hall hce hcl hen R
   ·rw[mem_ready] at hi
    obtain⟨q1,p,hp,q3⟩:=hi
    have hin:i<ops.size:=(Array.getElem?_eq_some_iff.1 hp).1
    have hnl:listed.getD i false=false:=by
     simp [Array.getD,hsz,hin] at q1 ⊢
     exact q1
    have hready:∀ o,ops[i]?=some o→∀ k∈z16 o,listed.getD k false=true:=by
     intro o ho k hk
     rw[hp] at ho
     injection ho with ho
     subst ho
     obtain⟨ed,q4,rfl⟩:=List.mem_map.1 hk
     obtain⟨q5,q6⟩:=List.mem_filter.1 q4
     exact q3 ed (by simpa using q5) q6
    have ho:=List.getElem?_eq_getElem (show i<ds.length by omega)
    generalize ds[i]'(by omega)=o at ho
    obtain⟨p',hp',hck⟩:=hop i o ho
    rw[hp] at hp'
    injection hp' with hp'
    subst hp'
    obtain⟨hd1,hd2⟩:=zja hck
    have hT:=T i o ho
    have hrun:=hT.run
    simp only[Nat.zero_add] at hrun
    have before:∀ (k:Nat) (q:DOp),ds[k]?=some q→k<i→Bef ops k i→listed.getD k false=true:=fun k q _ _ hb=>hb.ready hD hready
    have behind:∀ (k:Nat),Bef ops i k→listed.getD k false=false:=fun k hb=>by
     cases hs:listed.getD k false with
     | false=>rfl
     | true=>have:=hb.down hD hs;rw[hnl] at this;cases this
    have Renv:Rel gl nt M0 h0 μ0 (z01 (some o.rd) (E i)) (H c) (X c) a w μ:=by
     refine⟨R.heap,fun t=>?_,R.glob,R.evo,R.esc,R.size,R.defers⟩
     rw[zf5]
     split
     ·rename_i htr
      have h1:=hen t
      rw[zca (i:=i) ds.length (by omega) (fun j hij hj hdj=>by
       obtain⟨q,hq,hqd⟩:=hdst' j t hdj
       rcases Nat.eq_or_lt_of_le hij with hh | hh
       ·subst hh;exact hnl
       ·rcases hpair i j o q ho hq hh with hb | ⟨_,_,k3,_⟩
        ·exact behind j hb
        ·exact absurd htr (k3 t hqd)),z7M (s':=fun _=>true) i (fun j hj hdj=>by
       obtain⟨q,hq,hqd⟩:=hdst' j t hdj
       rcases hpair j i q o hq ho hj with hb | ⟨_,k2,_⟩
       ·exact before j q hq hj hb
       ·exact absurd htr (k2 t hqd).2),← hE t i (by omega)] at h1
      rw[← h1]
      exact R.env t
     ·exact .und _
    have next:∀ (c':Nat) (a':Act) (w':World) (μ':Mu) (u:Value),a'=a.put p.dst u→(∀ (k:Nat) (q:DOp),ds[k]?=some q→q.eff=true→((listed.setIfInBounds i true).getD k false=true↔k<c'))→(c'=0∨∃ (k:Nat) (o:DOp),c'=k+1∧ds[k]?=some o∧o.eff=true)→c'≤ds.length →
     (∀ e',(∀ t,aget e' t=if o.op.dst=some t then V i else aget en t)→Rel gl nt M0 h0 μ0 e' (H c') (X c') a' w' μ')→wpAny P .any ops Q fuel (listed.setIfInBounds i true) a' w':=by
     intro c' a' w' μ' u ha k1 k2 k3 k4
     refine ih (listed.setIfInBounds i true) (U.erase i) c' (put o.op.dst (V i) en) a' w' μ' (by simp [hsz]) (fun j hj hb=>?_) ?_ ?_ k1 k2 k3 (fun t=>?_) (k4 _ (fun t=>z4H))
     ·by_cases hji:i=j
      ·subst hji
       simp [Array.getD,hsz,hin] at hb
      ·rw[getD_set_ne false hji] at hb
       exact (List.mem_erase_of_ne (fun h=>hji h.symm)).2 (hU j hj hb)
     ·have:=List.length_erase_of_mem (hU i hin hnl)
      omega
     ·intro j q hq hs k hk
      by_cases hji:i=j
      ·subst hji
       exact getD_set_true (hready q hq k hk)
      ·have hs':listed.getD j false=true:=by
        have:=hs
        simp only[getD_set_ne false hji] at this
        exact this
       exact getD_set_true (hD j q hq hs' k hk)
     ·rw[z4H]
      by_cases hdt:o.op.dst=some t
      ·rw[if_pos hdt]
       rw[zca (i:=i+1) ds.length (by omega) (fun j hij hj hdj=>by
        obtain⟨q,hq,hqd⟩:=hdst' j t hdj
        show (listed.setIfInBounds i true).getD j false=false
        rw[getD_set_ne false (show i≠j by omega)]
        rcases hpair i j o q ho hq (by omega) with hb | ⟨_,k2,_⟩
        ·exact behind j hb
        ·exact absurd hqd (k2 t hdt).1)]
       simp only[lk]
       rw[if_pos ⟨by simp [Array.getD,hsz,hin],by rw[hdst i o ho];exact hdt⟩]
      ·rw[if_neg hdt,hen t]
       refine z7M _ (fun j hj hdj=>?_)
       have hji:i≠j:=by
        intro hji
        subst hji
        rw[hdst i o ho] at hdj
        exact hdt hdj
       exact (getD_set_ne false hji).symm
    cases heff:o.eff with
    | true=>
     have hci:c≤i:=by
      rcases hc0 with hc0 | ⟨k,q,hck2,hq,hqe⟩
      ·omega
      ·rcases Nat.lt_trichotomy k i with hh | hh | hh
       ·omega
       ·subst hh
        have:=(hce k q hq hqe).2 (by omega)
        rw[hnl] at this;cases this
       ·rcases hpair i k o q ho hq hh with hb | ⟨k1,_⟩
        ·have:=behind k hb
         have h2:=(hce k q hq hqe).2 (by omega)
         rw[this] at h2;cases h2
        ·exact absurd ⟨heff,hqe⟩ k1
     have hbe:∀ (k:Nat) (q:DOp),k<i→ds[k]?=some q→q.eff=true→k<c:=fun k q hk hq hqe=>by
      rcases hpair k i q o hq ho hk with hb | ⟨k1,_⟩
      ·exact (hce k q hq hqe).1 (before k q hq hk hb)
      ·exact absurd ⟨hqe,heff⟩ k1
     have hHi:=hstill c i hci (by omega) (fun k q h1 h2 h3=>by
      cases hb:q.eff with
      | false=>rfl
      | true=>have:=hbe k q h2 h3 hb;omega)
     rw[hHi.1] at hrun
     refine zh2 hC hp hck Renv hrun (fun a' w' μ' u ha hH hEv hI hV=>?_)
     refine next (i+1) a' w' μ' u ha (fun k q hq hqe=>?_) (.inr ⟨i,o,rfl,ho,heff⟩) (by omega) (fun e' he'=>?_)
     ·by_cases hki:i=k
      ·subst hki
       simp [Array.getD,hsz,hin]
      ·rw[getD_set_ne false hki,hce k q hq hqe]
       constructor
       ·intro _;omega
       ·intro _;exact hbe k q (by omega) hq hqe
     ·have hst:=R.step (d:=p.dst) (fun j hj=>hd2 j (by rw[hd1];exact hj)) hH hEv hI hV
      have hX:X (i+1)=Y i++X c:=by have:=hT.esc;simp only[Nat.zero_add] at this;rw[this,hHi.2]
      rw[hX,ha]
      refine⟨hst.heap,fun t=>?_,hst.glob,hst.evo,hst.esc,hst.size,hst.defers⟩
      have:=hst.env t
      rw[z4H,← hd1] at this
      rw[he' t]
      rw[hd1] at this ⊢
      exact this
    | false=>
     have hs:=hT.still heff
     simp only[Nat.zero_add] at hs
     rw[hs.1,hs.2] at hrun
     have hdo:ADo C gl o.op (z01 (some o.rd) (E i)) (H c) (V i) (H c) []:=by
      by_cases hf:o.op.op.hfree=true
      ·exact zjY hf hrun _
      ·rcases Nat.lt_or_ge i c with hic | hci
       ·rcases hc0 with hc0 | ⟨k,q,hck2,hq,hqe⟩
        ·omega
        ·have hik:i<k:=by
          rcases Nat.eq_or_lt_of_le (show i≤k by omega) with hh | hh
          ·subst hh
           rw[ho] at hq
           injection hq with hq
           subst hq
           rw[heff] at hqe;cases hqe
          ·exact hh
         rcases hpair i k o q ho hq hik with hb | ⟨_,_,_,k4,_⟩
         ·have:=behind k hb
          have h2:=(hce k q hq hqe).2 (by omega)
          rw[this] at h2;cases h2
         ·rcases k4 hqe heff with k4 | k4
          ·exact absurd k4 hf
          ·rcases (T k q hq).again i k4 with ⟨_,h1,_⟩ | ⟨_,q',h1,h2⟩
           ·omega
           ·simp only[Nat.sub_zero] at h1
            rw[ho] at h1
            injection h1 with h1
            subst h1
            simp only[Nat.zero_add] at h2
            rw[hck2]
            exact h2
       ·by_cases hk:∃ k,c≤k∧k<i∧∃ q,ds[k]?=some q∧q.eff=true
        ·obtain⟨k,hck2,hki,⟨q,hq,hqe⟩,hmin⟩:=zy5 hk
         have hHk:=hstill c k hck2 (by omega) (fun k' q' h1 h2 h3=>by
          cases hb:q'.eff with
          | false=>rfl
          | true=>exact absurd ⟨q',h3,hb⟩ (hmin k' h1 h2))
         rcases hpair k i q o hq ho hki with hb | ⟨_,_,_,_,k5⟩
         ·have:=(hce k q hq hqe).1 (before k q hq hki hb)
          omega
         ·rcases k5 hqe heff with k5 | k5
          ·exact absurd k5 hf
          ·obtain⟨g,h1,h2⟩:=hT.early k k5
           simp only[Nat.zero_add] at h1 h2
           rcases h1 with ⟨h1,_⟩ | ⟨_,_,h1⟩
           ·omega
           ·rw[h1,hHk.1] at h2
            exact h2
        ·have hHi:=hstill c i hci (by omega) (fun k q h1 h2 h3=>by
          cases hb:q.eff with
          | false=>rfl
          | true=>exact absurd ⟨k,h1,h2,q,h3,hb⟩ hk)
         rw[hHi.1] at hrun
         exact hrun
     refine zh2 hC hp hck Renv hdo (fun a' w' μ' u ha hH hEv hI hV=>?_)
     refine next c a' w' μ' u ha (fun k q hq hqe=>?_) hc0 hcl (fun e' he'=>?_)
     ·have hki:i≠k:=by
       intro hki
       subst hki
       rw[ho] at hq
       injection hq with hq
       subst hq
       rw[heff] at hqe;cases hqe
      rw[getD_set_ne false hki]
      exact hce k q hq hqe
     ·have hst:=R.step (d:=p.dst) (fun j hj=>hd2 j (by rw[hd1];exact hj)) hH hEv hI hV
      rw[List.nil_append] at hst
      rw[ha]
      refine⟨hst.heap,fun t=>?_,hst.glob,hst.evo,hst.esc,hst.size,hst.defers⟩
      have:=hst.env t
      rw[z4H,← hd1] at this
      rw[he' t]
      rw[hd1] at this ⊢
      exact this
 refine key ops.size _ (List.range ops.size) 0 e a w μ (by simp) (fun i hi _=>List.mem_range.2 hi) (by simp) ?_ ?_ (.inl rfl) (Nat.zero_le _) ?_ ?_
 ·intro i o ho hs
  have hi:i<ops.size:=(Array.getElem?_eq_some_iff.1 ho).1
  simp [Array.getD,hi] at hs
 ·intro k o ho _
  have hi:k<ops.size:=by rw[← hn];exact z0f ho
  simp [Array.getD,hi]
 ·intro t
  have:lk dst V e (fun i=>(Array.replicate ops.size false).getD i false) ds.length t=lk dst V e (fun i=>(Array.replicate ops.size false).getD i false) 0 t:=
   zca ds.length (Nat.zero_le _) (fun j _ hj _=>by simp [Array.getD])
  rw[this]
  rfl
 ·rw[e2,e3];exact R
end Go.Am
end
section
/- The abstract machine,part H: two operations whose order is left open and that disturb each other: both ways. -/
set_option linter.all false
namespace Go.Am
variable {P:Program} {gl:Nat→Option PV} {nt:Nat} {M0:Mem} {h0:Heap} {μ0:Mu} {h:Heap} {μ:Mu} {e:List (Nat × AV)} {x0:Esc} {ops:Array Oper} {Q:Exit→Act→World→Prop} {ix:List Nat} {x y:Nat}
def zie:List Nat→Bool
 | []=>true
 | a::r=>!r.contains a&&zie r
theorem zeL:∀ {l:List Nat},zie l=true→l.Nodup
 | [],_=>List.nodup_nil
 | a::r,h=>by
  simp only[zie,Bool.and_eq_true,Bool.not_eq_true'] at h
  refine List.nodup_cons.2 ⟨fun hm=>?_,zeL h.2⟩
  have:=h.1
  simp [hm] at this
def zim (ops:Array Oper) (ix:List Nat) (x y i:Nat):Oper:=
 let o:=(ops[i]?).getD default
 ⟨o.dst,o.op,o.type,o.pos,((z16 o++bif Nat.beq i y then [x] else []).map fun k=>⟨ix.findIdx (Nat.beq k),.data⟩).toArray,o.guard⟩
def z1F (ops:Array Oper) (ix:List Nat) (x y:Nat):Array Oper:=(ix.map (zim ops ix x y)).toArray
structure PermOk (ops:Array Oper) (ix:List Nat) (x y:Nat):Prop where
 len:ix.length=ops.size
 lt:∀ i∈ix,i<ops.size
 all:∀ i,i<ops.size→i∈ix
 nd:ix.Nodup
 gd:∀ (i:Nat) (o:Oper),ops[i]?=some o→o.guard=none
 ed:∀ (i:Nat) (o:Oper),ops[i]?=some o→∀ k∈z16 o,k<ops.size
 xl:x<ops.size
def za0 (P:Program) (nt:Nat) (ops:Array Oper) (x y:Nat) (ix:List Nat) (ds:List DOp):Bool:=
 ix.length==ops.size&&ix.all (fun i=>decide (i<ops.size))&&(List.range ops.size).all (fun i=>ix.contains i)&&zie ix&&ops.toList.all (fun o=>o.guard.isNone&&(z16 o).all fun k=>decide (k<ops.size))&&decide (x<ops.size) &&
  z8w P nt (z1F ops ix x y) ds
theorem zde {ds:List DOp} (h:za0 P nt ops x y ix ds=true):PermOk ops ix x y∧z8w P nt (z1F ops ix x y) ds=true:=by
 unfold za0 at h
 simp only[Bool.and_eq_true,beq_iff_eq,List.all_eq_true,decide_eq_true_eq,Option.isNone_iff_eq_none] at h
 obtain⟨⟨⟨⟨⟨⟨h1,h2⟩,h3⟩,h4⟩,h5⟩,h6⟩,h7⟩:=h
 refine⟨⟨h1,h2,fun i hi=>?_,zeL h4,fun i o ho=>(h5 o ?_).1,fun i o ho=>(h5 o ?_).2,h6⟩,h7⟩
 ·have:=h3 i (List.mem_range.2 hi)
  simpa using this
 ·exact Array.mem_toList_iff.2 (Array.mem_of_getElem? ho)
 ·exact Array.mem_toList_iff.2 (Array.mem_of_getElem? ho)
theorem PermOk.inv (H:PermOk ops ix x y) {i:Nat} (hi:i<ops.size):ix.findIdx (Nat.beq i)<ops.size∧ix[ix.findIdx (Nat.beq i)]?=some i:=by
 have hm:=H.all i hi
 have hl:ix.findIdx (Nat.beq i)<ix.length:=List.findIdx_lt_length.2 ⟨i,hm,Nat.beq_refl i⟩
 refine⟨by rw[← H.len];exact hl,?_⟩
 rw[List.getElem?_eq_getElem hl]
 have:=List.findIdx_getElem (w:=hl)
 exact congrArg some (Nat.eq_of_beq_eq_true this).symm
theorem zce (H:PermOk ops ix x y) {k i:Nat} (hk:ix[k]?=some i):∃ o,ops[i]?=some o∧(z1F ops ix x y)[k]?=some (zim ops ix x y i)∧zim ops ix x y i=⟨o.dst,o.op,o.type,o.pos,((z16 o++bif Nat.beq i y then [x] else []).map fun k=>⟨ix.findIdx (Nat.beq k),.data⟩).toArray,o.guard⟩:=by
 have hi:=H.lt i (List.mem_of_getElem? hk)
 refine⟨ops[i],Array.getElem?_eq_getElem hi,?_,?_⟩
 ·unfold z1F
  simp [hk]
 ·unfold zim
  simp [Array.getElem?_eq_getElem hi]
def zkt (x y:Nat) (l:List Nat):Prop:=∀ l1 l2,l=l1++y::l2→x∈l1
theorem zrU (H:PermOk ops ix x y) {k i:Nat} (hk:ix[k]?=some i) {K K':Act→World→Prop} {a:Act} {w:World} (hK:∀ a w,K a w→K' a w) (h:wpOp P (z1F ops ix x y) Q k K a w):wpOp P ops Q i K' a w:=by
 obtain⟨o,h1,h2,h3⟩:=zce H hk
 have hg:=H.gd i o h1
 unfold wpOp at h ⊢
 rw[h2] at h
 rw[h1]
 rw[h3] at h
 dsimp only at h ⊢
 have e1:∀ yl,Region.wanted o yl=true:=fun yl=>by unfold Region.wanted;rw[hg]
 rw[if_pos (e1 _)]
 rw[if_pos (by unfold Region.wanted;dsimp only;rw[hg])] at h
 rcases h with h | h
 ·exact .inl (Oper.wp_mono hK h)
 ·exact .inr h
theorem zin (H:PermOk ops ix x y):∀ (fuel t:Nat) (listed listed':Array Bool) (a:Act) (w:World),listed.size=ops.size→listed'.size=ops.size→(∀ k i,ix[k]?=some i→listed'.getD k false=listed.getD i false) →
 (listed.getD x false=true∨zkt x y (Region.linearise.go .any ops fuel t listed []))→wpAny P .any (z1F ops ix x y) Q fuel listed' a w→wpOps P ops Q (Region.linearise.go .any ops fuel t listed []) a w:=by
 intro fuel
 have hps:(z1F ops ix x y).size=ops.size:=by unfold z1F;simp [H.len]
 have dflt:∀ (l:Array Bool),l.size=ops.size→∀ i,i<ops.size→l.getD i true=l.getD i false:=fun l hl i hi=>by simp [Array.getD,hl,hi]
 induction fuel with
 | zero=>intro t listed listed' a w _ _ _ _ h;simpa [Region.linearise.go,wpOps] using h.2
 | succ fuel ih=>
  intro t listed listed' a w hs hs' hL hB h
  obtain⟨h₀,h₁⟩:=h
  have hgo:Region.linearise.go .any ops (fuel+1) t listed []=match (Region.ready .any ops listed)[t%(Region.ready .any ops listed).length]? with
   | some i=>i::Region.linearise.go .any ops fuel (t / (Region.ready .any ops listed).length) (listed.setIfInBounds i true) []
   | none=>[]:=by
   simp only[Region.linearise.go]
   change (match (Region.ready .any ops listed)[t%(Region.ready .any ops listed).length]? with
    | some i=>Region.linearise.go .any ops fuel (t / (Region.ready .any ops listed).length) (listed.setIfInBounds i true) [i]
    | none=>[].reverse)=_
   split
   ·rw[linearise_go_acc,List.reverse_singleton,List.singleton_append]
   ·rfl
  rw[hgo] at hB ⊢
  cases hi:(Region.ready .any ops listed)[t%(Region.ready .any ops listed).length]? with
  | none=>
   have hnil:Region.ready .any ops listed=[]:=by
    cases hr:Region.ready .any ops listed with
    | nil=>rfl
    | cons z zs=>
     rw[hr] at hi
     have hlt:t%(z::zs).length<(z::zs).length:=Nat.mod_lt _ (by simp)
     simp at hi
     simp at hlt
     omega
   have hnil':Region.ready .any (z1F ops ix x y) listed'=[]:=by
    rw[List.eq_nil_iff_forall_not_mem]
    intro k hk
    rw[mem_ready] at hk
    obtain⟨q1,o',q2,q3⟩:=hk
    have hkl:k<ops.size:=by rw[← hps];exact (Array.getElem?_eq_some_iff.1 q2).1
    obtain⟨i,hki⟩:∃ i,ix[k]?=some i:=⟨_,List.getElem?_eq_getElem (by rw[H.len];exact hkl)⟩
    obtain⟨o,p1,p2,p3⟩:=zce H hki
    rw[p2] at q2
    injection q2 with q2
    have hil:=H.lt i (List.mem_of_getElem? hki)
    have hm:i∈Region.ready .any ops listed:=by
     rw[mem_ready]
     refine⟨?_,o,p1,fun ed hed hbd=>?_⟩
     ·rw[dflt _ hs i hil,← hL k i hki,← dflt _ hs' k hkl];exact q1
     ·have hke:ed.on∈z16 o:=List.mem_map.2 ⟨ed,List.mem_filter.2 ⟨by simpa using hed,hbd⟩,rfl⟩
      have hel:=H.ed i o p1 ed.on hke
      obtain⟨r1,r2⟩:=H.inv hel
      have:=q3 ⟨ix.findIdx (Nat.beq ed.on),.data⟩ (by rw[← q2,p3];simp;exact .inl ⟨_,hke,rfl⟩) rfl
      rw[hL _ _ r2] at this
      exact this
    rw[hnil] at hm
    cases hm
   simpa [wpOps] using h₀ hnil'
  | some i=>
   dsimp only
   have hir:=List.mem_of_getElem? hi
   have hmr:=hir
   rw[mem_ready] at hmr
   obtain⟨q1,o,q2,q3⟩:=hmr
   have hil:i<ops.size:=(Array.getElem?_eq_some_iff.1 q2).1
   obtain⟨k1,k2⟩:=H.inv hil
   rw[hi] at hB
   dsimp only at hB
   generalize hk:ix.findIdx (Nat.beq i)=k at *
   obtain⟨o1,p1,p2,p3⟩:=zce H k2
   rw[q2] at p1
   injection p1 with p1
   subst p1
   have hxl:i=y→listed.getD x false=true:=fun hy=>by
    rcases hB with hB | hB
    ·exact hB
    ·have:=hB [] _ (by rw[hy];rfl)
     cases this
   have hkr:k∈Region.ready .any (z1F ops ix x y) listed':=by
    rw[mem_ready]
    refine⟨?_,_,p2,fun ed hed hbd=>?_⟩
    ·rw[dflt _ hs' k k1,hL k i k2,← dflt _ hs i hil];exact q1
    ·rw[p3] at hed
     simp only[List.mem_toArray,List.mem_map,List.mem_append] at hed
     obtain⟨j,hj,rfl⟩:=hed
     rcases hj with hj | hj
     ·have hel:=H.ed i o q2 j hj
      obtain⟨r1,r2⟩:=H.inv hel
      dsimp only
      rw[hL _ _ r2]
      obtain⟨ed,he1,he2⟩:=List.mem_map.1 hj
      obtain⟨he3,he4⟩:=List.mem_filter.1 he1
      subst he2
      exact q3 ed (by simpa using he3) he4
     ·cases hy:Nat.beq i y with
      | false=>rw[hy] at hj;cases hj
      | true=>
       rw[hy] at hj
       simp only[cond_true,List.mem_singleton] at hj
       subst hj
       obtain⟨r1,r2⟩:=H.inv H.xl
       dsimp only
       rw[hL _ _ r2]
       exact hxl (Nat.eq_of_beq_eq_true hy)
   rw[wpOps_cons]
   refine zrU H k2 (fun a w hw=>ih _ _ _ a w (by simp [hs]) (by simp [hs']) (fun k' i' hk'=>?_) ?_ hw) (h₁ k hkr)
   ·by_cases hkk:k=k'
    ·subst hkk
     rw[k2] at hk'
     injection hk' with hk'
     subst hk'
     simp [Array.getD,hs,hs',hil,k1]
    ·have hii:i≠i':=fun hii=>by
      subst hii
      have a1:=List.getElem?_eq_some_iff.1 k2
      have a2:=List.getElem?_eq_some_iff.1 hk'
      obtain⟨b1,b2⟩:=a1
      obtain⟨c1,c2⟩:=a2
      exact hkk ((List.getElem_inj H.nd).1 (b2.trans c2.symm))
     rw[getD_set_ne false hkk,getD_set_ne false hii]
     exact hL k' i' hk'
   ·rcases hB with hB | hB
    ·exact .inl (getD_set_true hB)
    ·by_cases hxi:i=x
     ·subst hxi
      left
      simp [Array.getD,hs,hil]
     ·right
      intro l1 l2 hl
      have:=hB (i::l1) l2 (by rw[hl];rfl)
      rcases List.mem_cons.1 this with q | q
      ·exact absurd q.symm hxi
      ·exact q
theorem zmh (x y:Nat) (hxy:x≠y) (l:List Nat):zkt x y l∨zkt y x l:=by
 induction l with
 | nil=>left;intro l1 l2 h;simp at h
 | cons z l ih=>
  by_cases hx:z=x
  ·subst hx
   left
   intro l1 l2 h
   cases l1 with
   | nil=>simp at h;exact absurd h.1 hxy
   | cons q r=>simp at h;simp [h.1]
  ·by_cases hy:z=y
   ·subst hy
    right
    intro l1 l2 h
    cases l1 with
    | nil=>simp at h;exact absurd h.1.symm hxy
    | cons q r=>simp at h;simp [h.1]
   ·rcases ih with ih | ih
    ·left
     intro l1 l2 h
     cases l1 with
     | nil=>simp at h;exact absurd h.1 hy
     | cons q r=>simp at h;exact List.mem_cons_of_mem _ (ih r l2 h.2)
    ·right
     intro l1 l2 h
     cases l1 with
     | nil=>simp at h;exact absurd h.1 hx
     | cons q r=>simp at h;exact List.mem_cons_of_mem _ (ih r l2 h.2)
theorem zsM (hm:P.follows .mixedOrders=true) {C:Hd} (hC:∀ f a h K,C f a h K→z1y P gl f a h K) {ixA ixB:List Nat} {dsA dsB:List DOp} {K:List (Nat × AV)→Heap→Esc→Prop} {K2:List (Nat × AV)→Heap→Esc→Prop} {a:Act} {w:World} {id:Nat} (hxy:x≠y)
 (hA:za0 P nt ops x y ixA dsA=true) (hB:za0 P nt ops y x ixB dsB=true)
 (HA:z1Z C gl dsA [] [] e h x0 K) (HB:z1Z C gl dsB [] [] e h x0 K2) (R:Rel gl nt M0 h0 μ0 e h x0 a { w with drawn:=w.drawn+1 } μ)
 (hK:∀ e h x a w μ,K e h x→Rel gl nt M0 h0 μ0 e h x a w μ→Q .normal a w) (hK2:∀ e h x a w μ,K2 e h x→Rel gl nt M0 h0 μ0 e h x a w μ→Q .normal a w):(Code.region id ops true).wp P Q a w:=by
 obtain⟨pA,cA⟩:=zde hA
 obtain⟨pB,cB⟩:=zde hB
 refine wp_region_draw fun t=>?_
 simp only[Region.schedule,hm,Bool.true_or,if_true]
 have rep:∀ (ix:List Nat),PermOk ops ix x y∨PermOk ops ix y x→∀ k i,ix[k]?=some i→(Array.replicate ops.size false).getD k false=(Array.replicate ops.size false).getD i false:=fun ix _ k i _=>by simp [Array.getD]
 have szA:(z1F ops ixA x y).size=ops.size:=by unfold z1F;simp [pA.len]
 have szB:(z1F ops ixB y x).size=ops.size:=by unfold z1F;simp [pB.len]
 rcases zmh x y hxy (Region.linearise .any ops t) with hb | hb
 ·have:=z6Y hC (Q:=Q) cA HA R hK
  rw[szA] at this
  exact zin pA ops.size t _ _ _ _ (by simp) (by simp) (rep ixA (.inl pA)) (.inr hb) this
 ·have:=z6Y hC (Q:=Q) cB HB R hK2
  rw[szB] at this
  exact zin pB ops.size t _ _ _ _ (by simp) (by simp) (rep ixB (.inr pB)) (.inr hb) this
def peel:ACode→List Nat × ACode
 | .block i b=>(i::(peel b).1,(peel b).2)
 | c=>([],c)
theorem zfX {C:Hd}:∀ (c:ACode) (s:St) (K:Ex→St→Prop),AW C gl c s K→∀ ds keep,(peel c).2 = .draw ds keep→z1Z C gl ds [] [] s.env s.h s.esc fun e h x=>K .normal ⟨z01 keep e,h,x⟩
 | .block i b,s,K,H,ds,keep,hp=>by
  unfold AW at H
  exact zfX b s _ H ds keep hp
 | .draw ds' keep',s,K,H,ds,keep,hp=>by
  simp only[peel] at hp
  injection hp with h1 h2
  subst h1;subst h2
  unfold AW at H
  exact H
 | .skip,_,_,_,_,_,hp=>by cases hp
 | .reg _ _,_,_,_,_,_,hp=>by cases hp
 | .seq _ _,_,_,_,_,_,hp=>by cases hp
 | .cond _ _ _,_,_,_,_,_,hp=>by cases hp
 | .condu _ _ _,_,_,_,_,_,hp=>by cases hp
 | .det _,_,_,_,_,_,hp=>by cases hp
 | .loop _,_,_,_,_,_,hp=>by cases hp
 | .scope _,_,_,_,_,_,hp=>by cases hp
 | .pr _ _,_,_,_,_,_,hp=>by cases hp
 | .exit _,_,_,_,_,_,hp=>by cases hp
 | .ret,_,_,_,_,_,hp=>by cases hp
 | .bad,_,_,_,_,_,hp=>by cases hp
def zwg (P:Program) (nt:Nat) (ops:Array Oper) (t:Opd) (a b:ACode):Bool:=match t with
 | .c .anyb=>match peel a,peel b with
  | (x::y::ixA,.draw dsA _),(y'::x'::ixB,.draw dsB _)=>Nat.beq x x'&&Nat.beq y y' && !Nat.beq x y&&za0 P nt ops x y ixA dsA&&za0 P nt ops y x ixB dsB
  | _,_=>false
 | _=>false
end Go.Am
end
section
/- The abstract machine,part 21: code. -/
set_option linter.unusedSimpArgs false
set_option linter.unusedVariables false
set_option maxHeartbeats 1000000
namespace Go.Am
variable {h h':Heap} {μ μ':Mu} {w w':World} {P:Program} {M M':Mem}
variable {gl:Nat→Option PV} {nt:Nat} {M0:Mem} {h0:Heap} {μ0:Mu} {e:List (Nat × AV)} {x:Esc} {a:Act}
theorem zyU (H:HeapRel h μ w) {id:Nat} {o:Obj} (ho:h[id]?=some o):o.top≤h.length:=by
 obtain⟨m,hm,hO⟩:=z4l H ho
 cases o with
 | box cs=>
  obtain⟨b,c,rfl,hb,hc⟩:=hO
  exact zwd H hc
 | row sh xs fz=>simp [Obj.top]
 | amap es c=>
  obtain⟨b,n,ces,rfl,h1,h2,_,h3⟩:=hO
  refine z49 (fun j y hy=>?_)
  simp only[List.getElem?_map,Option.map_eq_some_iff] at hy
  obtain⟨en,he,rfl⟩:=hy
  have hj:j<ces.size:=by rw[h2];exact z0f he
  exact (h3 j en ces[j] he (Array.getElem?_eq_getElem hj)).2.2.1.top_le
 | iter mm s seen l=>
  obtain⟨b,n,rfl,h1⟩:=hO
  cases mm with
  | none=>simp [Obj.top]
  | some i=>
   obtain⟨bm,nm,es,c,h2,h3,h4⟩:=h1
   simp only[Obj.top]
   exact z0f h3
 | arow sh cs=>
  obtain⟨h1,h2⟩:=hO
  cases m with
  | none=>subst h2;simp [Obj.top,AV.tops]
  | some m=>
   obtain⟨b,n⟩:=m
   obtain⟨c,c1,c2,c3⟩:=h2
   refine z49 (fun j y hy=>?_)
   obtain⟨v,_,q⟩:=c3 j y hy
   exact q.top_le
theorem zcu (H:HeapRel h μ w) (id:Nat):zad h id≤h.length:=by
 unfold zad
 split
 ·exact zyU H ‹_›
 ·omega
theorem zxW (y:Esc) (n:Nat):n≤bump y n:=by
 unfold bump
 induction y generalizing n with
 | nil=>simp
 | cons p r ih=>
  simp only[List.foldl_cons]
  split
  ·exact Nat.le_trans (by omega) (ih _)
  ·exact ih _
theorem z7H:∀ (k:Nat) (y:Esc) (n:Nat),n≤close k y n
 | 0,y,n=>Nat.le_refl _
 | k+1,y,n=>Nat.le_trans (zxW y n) (z7H k y _)
theorem Evo.take {M'':Mem} (E:Evo M h μ M' h' μ') {n:Nat} (hn:h.length≤n) (L:M'.le M''):Evo M h μ M'' (h'.take n) (μ'.take n):=by
 refine⟨⟨fun b o v hv=>L.c _ _ _ (E.le.c _ _ _ hv),fun b o hv=>L.b _ _ (E.le.b _ _ hv),L.z.trans E.le.z,fun b t h=>L.s _ _ (E.le.s _ _ h)⟩,by have:=E.len;simp;omega,fun id o m h1 h2=>?_⟩
 obtain⟨o',m',h3,h4,h5⟩:=E.obj id o m h1 h2
 have hi:id<n:=Nat.lt_of_lt_of_le (z0f h1) hn
 exact⟨o',m',by rw[List.getElem?_take,if_pos hi];exact h3,by rw[List.getElem?_take,if_pos hi];exact h4,h5⟩
theorem zgi {hs:Heap} {μs:Mu} {Ms:Mem} {es:Esc} (Hs:∀ id,zad hs id≤hs.length) (H:HeapRel h μ w) (E:Evo Ms hs μs (imm h μ w) h μ) (I:z0i hs h es) {n:Nat} (hn:hs.length≤n) (hc:z0I es n=true) :
 HeapRel (h.take n) (μ.take n) w∧(imm h μ w).le (imm (h.take n) (μ.take n) w)∧Evo Ms hs μs (imm (h.take n) (μ.take n) w) (h.take n) (μ.take n)∧z0i hs (h.take n) (es.filter fun y=>decide (y.1<n)):=by
 have ht:∀ id o,h[id]?=some o→id<n→o.top≤n:=by
  intro id o ho hi
  have h1:=I id o ho
  have h2:=Hs id
  have h3:=zbP hc hi
  omega
 obtain⟨H1,L⟩:=H.take n ht
 refine⟨H1,L,E.take hn L,fun id o ho=>?_⟩
 rw[List.getElem?_take] at ho
 split at ho
 ·rename_i hi
  rw[zbQ hi]
  exact I id o ho
 ·cases ho
theorem ziU (n:Nat) (e:List (Nat × AV)) (t:Nat):aget (z83 n e) t=if (aget e t).top≤n then aget e t else .und:=by
 induction e with
 | nil=>simp [z83,aget,AV.top]
 | cons y r ih=>
  simp only[z83,List.map_cons,aget] at ih ⊢
  split
  ·rfl
  ·exact ih
theorem z4G (keep:Option (List Nat)) (e:List (Nat × AV)) (t:Nat):aget (z01 keep e) t=aget e t∨aget (z01 keep e) t = .und:=by
 cases keep with
 | none=>exact .inl rfl
 | some l=>
  simp only[z01]
  induction l with
  | nil=>exact .inr rfl
  | cons k r ih=>
   simp only[List.map_cons,aget]
   split
   ·rename_i hk;subst hk;exact .inl rfl
   ·exact ih
theorem zvq {x0:Esc} {s:St} {hs:Heap} {μs:Mu} {ws:World} {e0:List (Nat × AV)} {a0:Act} (R:Rel gl nt M0 h0 μ0 e0 hs x0 a0 ws μs) (R':Rel gl nt (imm hs μs ws) hs μs s.env s.h s.esc a w μ) :
 ∃ μ',Rel gl nt M0 h0 μ0 (z5t hs.length x0 s).env (z5t hs.length x0 s).h (z5t hs.length x0 s).esc a w μ':=by
 unfold z5t
 dsimp only
 split
 ·rename_i hc
  have hn:=z7H s.esc.length s.esc hs.length
  generalize close s.esc.length s.esc hs.length=n at hc hn
  obtain⟨q1,q2,q3,q4⟩:=zgi (fun id=>zcu R.heap id) R'.heap R'.evo R'.esc hn hc
  refine⟨μ.take n,q1,fun t=>?_,R'.glob.mono q2,R.evo.trans q3,z0i.trans R.esc q4,R'.size,R'.defers⟩
  dsimp only
  rw[ziU]
  split
  ·exact (R'.env t).take q2 ‹_›
  ·exact .und _
 ·exact⟨μ,R'.heap,R'.env,R'.glob,R.evo.trans R'.evo,z0i.trans R.esc R'.esc,R'.size,R'.defers⟩
theorem Rel.drew (R:Rel gl nt M0 h0 μ0 e h x a w μ) (n:Nat):Rel gl nt M0 h0 μ0 e h x a { w with drawn:=n } μ:=by
 obtain⟨h1,h2⟩:=R.heap.ext (WExt.drew w n)
 exact⟨h1,fun t=>(R.env t).evo h2,R.glob.mono h2.le,R.evo.trans h2,R.esc,R.size,R.defers⟩
def z0B (P:Program) (nt:Nat):ACode→Code→Bool
 | .skip,c=>match c with
  | .skip=>true
  | _=>false
 | .reg aops _,c=>match c with
  | .region _ ops false=>z58 P nt ops aops 0
  | _=>false
 | .draw ds _,c=>match c with
  | .region _ ops true=>z8w P nt ops ds
  | _=>false
 | .seq a b,c=>match c with
  | .seq a' b'=>z0B P nt a a'&&z0B P nt b b'
  | _=>false
 | .cond t a b,c=>match c with
  | .cond t' a' b'=>z0p t t'&&z0B P nt a a'&&z0B P nt b b'
  | _=>false
 | .det b,c=>z0B P nt b c
 | .condu t a b,c=>match c with
  | .cond t' a' b'=>z0p t t'&&z0B P nt a a'&&z0B P nt b b'
  | .region _ ops true=>zwg P nt ops t a b
  | _=>false
 | .block i b,c=>match c with
  | .block i' b'=>i==i'&&z0B P nt b b'
  | _=>false
 | .loop b,c=>match c with
  | .loop b'=>z0B P nt b b'
  | _=>false
 | .scope b,c=>z0B P nt b c
 | .pr _ b,c=>z0B P nt b c
 | .exit i,c=>match c with
  | .exit i'=>i==i'
  | _=>false
 | .ret,c=>match c with
  | .ret=>true
  | _=>false
 | .bad,_=>true
def Ex.toExit:Ex→Exit
 | .normal=>.normal
 | .exit i=>.exit i
 | .ret=>.ret
theorem ztp {M:Mem} {h:Heap} {μ:Mu} {x:Value} (R:RAV M h μ .anyb x):∃ b,x = .bool b:=by
 cases R with | anyb b=>exact⟨b,rfl⟩
theorem z0D (hm:P.follows .mixedOrders=true) {C:Hd} (hC:∀ f a h K,C f a h K→z1y P gl f a h K):∀ (c:ACode) {k:Code},z0B P nt c k=true→∀ {s:St} {K:Ex→St→Prop} {M0:Mem} {h0:Heap} {μ0:Mu} {a:Act} {w:World} {μ:Mu} {Q:Exit→Act→World→Prop},
 AW C gl c s K→Rel gl nt M0 h0 μ0 s.env s.h s.esc a w μ→(∀ ex s' a' w' μ',K ex s'→Rel gl nt M0 h0 μ0 s'.env s'.h s'.esc a' w' μ'→Q ex.toExit a' w')→k.wp P Q a w
 | .skip,k,hc,s,K,M0,h0,μ0,a,w,μ,Q,H,R,hQ=>by
  simp only[z0B] at hc
  split at hc
  ·exact wp_skip (hQ .normal _ _ _ _ H R)
  ·cases hc
 | .reg aops keep,k,hc,s,K,M0,h0,μ0,a,w,μ,Q,H,R,hQ=>by
  simp only[z0B] at hc
  split at hc
  ·rename_i id ops
   refine wp_region ?_
   have:=z12 hC aops 0 (Q:=Q) hc H R (fun e h x a w μ hk R'=>hQ .normal ⟨z01 keep e,h,x⟩ a w μ hk ⟨R'.heap,fun t=>?_,R'.glob,R'.evo,R'.esc,R'.size,R'.defers⟩)
   ·rwa [Nat.sub_zero,← List.range_eq_range'] at this
   ·rcases z4G keep e t with q | q
    ·rw[q];exact R'.env t
    ·rw[q];exact .und _
  ·cases hc
 | .draw ds keep,k,hc,s,K,M0,h0,μ0,a,w,μ,Q,H,R,hQ=>by
  simp only[z0B] at hc
  split at hc
  ·rename_i id ops
   refine wp_region_any hm ?_
   exact z6Y hC (Q:=Q) hc H (R.drew _) (fun e h x a w μ hk R'=>hQ .normal ⟨z01 keep e,h,x⟩ a w μ hk ⟨R'.heap,fun t=>(by
    rcases z4G keep e t with q | q
    ·rw[q];exact R'.env t
    ·rw[q];exact .und _),R'.glob,R'.evo,R'.esc,R'.size,R'.defers⟩)
  ·cases hc
 | .seq c1 c2,k,hc,s,K,M0,h0,μ0,a,w,μ,Q,H,R,hQ=>by
  simp only[z0B] at hc
  split at hc
  ·simp only[Bool.and_eq_true] at hc
   refine wp_seq (z0D hm hC c1 hc.1 H R (fun ex s' a' w' μ' hk R'=>?_))
   cases ex with
   | normal=>exact z0D hm hC c2 hc.2 hk R' hQ
   | exit i=>exact hQ (.exit i) _ _ _ _ hk R'
   | ret=>exact hQ .ret _ _ _ _ hk R'
  ·cases hc
 | .det c,k,hc,s,K,M0,h0,μ0,a,w,μ,Q,H,R,hQ=>by
  simp only[z0B] at hc
  exact z0D hm hC c hc H R hQ
 | .condu t c1 c2,k,hc,s,K,M0,h0,μ0,a,w,μ,Q,H,R,hQ=>by
  simp only[z0B] at hc
  split at hc
  ·simp only[Bool.and_eq_true] at hc
   unfold AW at H
   split at H
   ·rename_i b hb
    have ht:=R.opds _ _ hc.1.1
    rw[hb] at ht
    refine wp_cond ht.p_bool ?_
    cases b with
    | true=>exact z0D hm hC c1 hc.1.2 H R hQ
    | false=>exact z0D hm hC c2 hc.2 H R hQ
   ·rename_i hb
    have ht:=R.opds _ _ hc.1.1
    rw[hb] at ht
    obtain⟨g1,g2⟩:=H
    obtain⟨b,hb'⟩:=ztp ht
    refine wp_cond hb' ?_
    cases b with
    | true=>exact z0D hm hC c1 hc.1.2 g1 R hQ
    | false=>exact z0D hm hC c2 hc.2 g2 R hQ
   ·exact H.elim
  ·rename_i id ops
   unfold zwg at hc
   split at hc
   ·split at hc
    ·rename_i x y ixA dsA kA y' x' ixB dsB kB pa pb
     simp only[Bool.and_eq_true,Bool.not_eq_true'] at hc
     obtain⟨⟨⟨⟨e1,e2⟩,e3⟩,e4⟩,e5⟩:=hc
     have e1:=Nat.eq_of_beq_eq_true e1
     have e2:=Nat.eq_of_beq_eq_true e2
     subst e1;subst e2
     have hxy:x≠y:=fun hh=>by rw[hh,Nat.beq_refl] at e3;cases e3
     unfold AW at H
     simp only[Opd.ev] at H
     have HA:=zfX c1 s K H.1 dsA kA (by rw[pa])
     have HB:=zfX c2 s K H.2 dsB kB (by rw[pb])
     have fin:∀ (keep:Option (List Nat)) (e:List (Nat × AV)) (h:Heap) (x:Esc) (a:Act) (w:World) (μ:Mu),K .normal ⟨z01 keep e,h,x⟩→Rel gl nt M0 h0 μ0 e h x a w μ→Q .normal a w:=fun keep e h x a w μ hk R'=>hQ .normal ⟨z01 keep e,h,x⟩ a w μ hk ⟨R'.heap,fun t=>(by
      rcases z4G keep e t with q | q
      ·rw[q];exact R'.env t
      ·rw[q];exact .und _),R'.glob,R'.evo,R'.esc,R'.size,R'.defers⟩
     exact zsM hm hC (Q:=Q) hxy e4 e5 HA HB (R.drew _) (fin kA) (fin kB)
    ·cases hc
   ·cases hc
  ·cases hc
 | .cond t c1 c2,k,hc,s,K,M0,h0,μ0,a,w,μ,Q,H,R,hQ=>by
  simp only[z0B] at hc
  split at hc
  ·simp only[Bool.and_eq_true] at hc
   unfold AW at H
   split at H
   ·rename_i b hb
    have ht:=R.opds _ _ hc.1.1
    rw[hb] at ht
    refine wp_cond ht.p_bool ?_
    cases b with
    | true=>exact z0D hm hC c1 hc.1.2 H R hQ
    | false=>exact z0D hm hC c2 hc.2 H R hQ
   ·exact H.elim
  ·cases hc
 | .block i c,k,hc,s,K,M0,h0,μ0,a,w,μ,Q,H,R,hQ=>by
  simp only[z0B] at hc
  split at hc
  ·simp only[Bool.and_eq_true,beq_iff_eq] at hc
   obtain⟨rfl,hc⟩:=hc
   refine wp_block (z0D hm hC c hc H R (fun ex s' a' w' μ' hk R'=>?_))
   cases ex with
   | normal=>exact hQ .normal _ _ _ _ hk R'
   | exit j=>
    simp only[Ex.toExit,Exit.inBlock]
    dsimp only at hk
    split
    ·rename_i hj;rw[if_pos hj] at hk;exact hQ .normal _ _ _ _ hk R'
    ·rename_i hj;rw[if_neg hj] at hk;exact hQ (.exit j) _ _ _ _ hk R'
   | ret=>exact hQ .ret _ _ _ _ hk R'
  ·cases hc
 | .loop c,k,hc,s,K,M0,h0,μ0,a,w,μ,Q,H,R,hQ=>by
  simp only[z0B] at hc
  split at hc
  ·rename_i b'
   intro b k cs
   have key:∀ (s:St),ALoop (AW C gl c) K s→∀ (a:Act) (w:World) (μ:Mu),Rel gl nt M0 h0 μ0 s.env s.h s.esc a w μ →
    ∃ e a' w',Q e a' w'∧Arrives P (lone (b.at a (.code b' :: .inLoop b'::k)) cs w) b k cs e a' w':=by
    intro s H
    induction H with
    | mk s T hT hn he hr ih=>
     intro a w μ R
     obtain⟨e,a1,w1,hq,harr⟩:=z0D hm hC c hc (Q:=fun e a' w'=>match e with
      | .normal=>∃ s' μ',T .normal s'∧Rel gl nt M0 h0 μ0 s'.env s'.h s'.esc a' w' μ'
      | e=>Q e a' w') hT R (fun ex s' a' w' μ' hk R'=>by
       cases ex with
       | normal=>exact⟨s',μ',hk,R'⟩
       | exit i=>exact hQ (.exit i) _ _ _ _ (he _ _ hk) R'
       | ret=>exact hQ .ret _ _ _ _ (hr _ hk) R') b (.inLoop b'::k) cs
     cases e with
     | normal=>
      obtain⟨s',μ',hk,R'⟩:=hq
      obtain⟨e2,a2,w2,hq2,harr2⟩:=ih s' hk a1 w1 μ' R'
      exact⟨e2,a2,w2,hq2,.of_steps (Steps.trans harr (.one step_inLoop)) harr2⟩
     | exit id=>exact⟨_,a1,w1,hq,.pass (x:=.inLoop b') rfl (fun _ _=>.inl (by simp)) harr⟩
     | goto l=>exact⟨_,a1,w1,hq,.pass (x:=.inLoop b') rfl (fun _ _=>.inl (by simp)) harr⟩
     | ret=>exact⟨_,a1,w1,hq,.pass (x:=.inLoop b') rfl (fun _ _=>.inl (by simp)) harr⟩
     | panic ch=>exact⟨_,a1,w1,hq,.pass (x:=.inLoop b') rfl (fun _ _=>.inl (by simp)) harr⟩
     | outgrown=>exact⟨_,a1,w1,hq,.pass (x:=.inLoop b') rfl (fun _ _=>.inl (by simp)) harr⟩
   obtain⟨e,a',w',hq,harr⟩:=key s H a w μ R
   exact⟨e,a',w',hq,.of_steps (.one step_loop) harr⟩
  ·cases hc
 | .scope c,k,hc,s,K,M0,h0,μ0,a,w,μ,Q,H,R,hQ=>by
  simp only[z0B] at hc
  refine z0D hm hC c hc (M0:=imm s.h μ w) (h0:=s.h) (μ0:=μ) H ⟨R.heap,R.env,R.glob,Evo.refl _ _ _,z0i.refl _ _,R.size,R.defers⟩ (fun ex s' a' w' μ' hk R'=>?_)
  obtain⟨μ'',R''⟩:=zvq R R'
  exact hQ ex _ _ _ _ hk R''
 | .pr l c,k,hc,s,K,M0,h0,μ0,a,w,μ,Q,H,R,hQ=>by
  simp only[z0B] at hc
  refine z0D hm hC c hc H ⟨R.heap,fun t=>?_,R.glob,R.evo,R.esc,R.size,R.defers⟩ hQ
  dsimp only
  rcases z4G (some l) s.env t with q | q
  ·rw[q];exact R.env t
  ·rw[q];exact .und _
 | .exit i,k,hc,s,K,M0,h0,μ0,a,w,μ,Q,H,R,hQ=>by
  simp only[z0B] at hc
  split at hc
  ·simp only[beq_iff_eq] at hc
   subst hc
   exact wp_exit (hQ (.exit i) _ _ _ _ H R)
  ·cases hc
 | .ret,k,hc,s,K,M0,h0,μ0,a,w,μ,Q,H,R,hQ=>by
  simp only[z0B] at hc
  split at hc
  ·exact wp_ret (hQ .ret _ _ _ _ H R)
  ·cases hc
 | .bad,k,hc,s,K,M0,h0,μ0,a,w,μ,Q,H,R,hQ=>H.elim
end Go.Am
end
section
/- The abstract machine,part 22: results,calls;a call that ends well here ends well in the model. -/
set_option linter.unusedSimpArgs false
set_option linter.unusedVariables false
set_option maxHeartbeats 1000000
namespace Go.Am
variable {h h':Heap} {μ μ':Mu} {w w':World} {P:Program} {M M':Mem}
variable {gl:Nat→Option PV} {nt:Nat} {M0:Mem} {h0:Heap} {μ0:Mu} {e:List (Nat × AV)} {x:Esc} {a:Act}
def z2L (P:Program):List ARes→List ResultVar→Bool
 | [],[]=>true
 | .t n::r,.tmp m::s=>n==m&&z2L P r s
 | .cell n sh::r,.cell m t::s=>n==m&&shOf P t==some sh&&z2L P r s
 | _,_=>false
def resM (tmps:Array Value):ResultVar→Sem Value
 | .tmp t=>pure (tmps.getD t undef)
 | .cell a t=>do loadVar t (← asAddr (tmps.getD a undef))
theorem zsd {s:St} (H:HeapRel s.h μ w) (he:∀ t,RAV (imm s.h μ w) s.h μ (aget s.env t) (a.tmps.getD t undef)):∀ {rs:List ARes} {qs:List ResultVar} {vs:List AV},z2L P rs qs=true→z1J s rs=some vs →
 ∃ us,(qs.mapM (resM a.tmps)).run P w = .ok us w∧vs.length=us.length∧∀ (j:Nat) (y:AV) (v:Value),vs[j]?=some y→us[j]?=some v→RAV (imm s.h μ w) s.h μ y v
 | [],[],vs,_,hv=>by
  simp [z1J] at hv
  subst hv
  exact⟨[],by simp,rfl,fun j y v h1 h2=>by simp at h1⟩
 | [],_::_,_,hc,_=>by simp [z2L] at hc
 | .t n::r,[],_,hc,_=>by simp [z2L] at hc
 | .cell n sh::r,[],_,hc,_=>by simp [z2L] at hc
 | .t n::r,.cell _ _::q,_,hc,_=>by simp [z2L] at hc
 | .cell n sh::r,.tmp _::q,_,hc,_=>by simp [z2L] at hc
 | .t n::r,.tmp m::q,vs,hc,hv=>by
  simp only[z2L,Bool.and_eq_true,beq_iff_eq] at hc
  obtain⟨rfl,hc⟩:=hc
  simp only[z1J,ares] at hv
  simp only[Option.map_eq_some_iff] at hv
  obtain⟨l,hl,rfl⟩:=hv
  obtain⟨us,h1,h2,h3⟩:=zsd H he hc hl
  refine⟨a.tmps.getD n undef::us,by simp [resM,h1],by simp [h2],fun j y v hy hv=>?_⟩
  cases j with
  | zero=>simp at hy hv;subst hy;subst hv;simpa using he n
  | succ j=>exact h3 j y v (by simpa using hy) (by simpa using hv)
 | .cell n sh::r,.cell m t::q,vs,hc,hv=>by
  simp only[z2L,Bool.and_eq_true,beq_iff_eq] at hc
  obtain⟨⟨rfl,hs⟩,hc⟩:=hc
  simp only[z1J] at hv
  split at hv
  ·rename_i u hu
   simp only[Option.map_eq_some_iff] at hv
   obtain⟨l,hl,rfl⟩:=hv
   obtain⟨us,h1,h2,h3⟩:=zsd H he hc hl
   simp only[ares] at hu
   split at hu
   ·rename_i id off hr
    split at hu
    ·rename_i cs ho
     have hR:=he n
     rw[hr] at hR
     generalize hz:a.tmps.getD n undef=z at hR
     cases hR with | ref _ _ b k cs' ho' hm=>
     obtain⟨b',c,hm',hb,hcell⟩:=H.obj _ _ _ ho hm
     injection hm' with hm'
     injection hm' with e1 e2
     subst e1
     obtain⟨c1,c2⟩:=z5C (M:=imm s.h μ w) (h:=s.h) (μ:=μ) (f:=fun j=>(c[j]?).getD undef) hu (fun j x hx=>by obtain⟨_,v,q1,q2⟩:=hcell j x hx;simpa [q1] using q2)
     have hload:(loadVar t ⟨b,off,none⟩).run P w = .ok (z47 sh fun j=>(c[off+j]?).getD undef) w:=by
      refine z9U hs (fun j hj=>?_)
      rw[z0u hb]
      have hlt:off+j<c.size:=by rw[hb.1];have:=c1;omega
      simp [hlt]
     refine⟨(z47 sh fun j=>(c[off+j]?).getD undef)::us,?_,by simp [h2],fun j y v hy hv=>?_⟩
     ·simp only[List.mapM_cons,Sem.run_bind,resM,hz,asAddr]
      simp [hload,h1]
     ·cases j with
      | zero=>simp at hy hv;subst hy;subst hv;exact c2
      | succ j=>exact h3 j y v (by simpa using hy) (by simpa using hv)
    ·cases hu
   ·cases hu
  ·cases hv
theorem zjB {fn:Func} {s:St} (H:HeapRel s.h μ w) (he:∀ t,RAV (imm s.h μ w) s.h μ (aget s.env t) (a.tmps.getD t undef)) {rs:List ARes} {vs:List AV} (hc:z2L P rs fn.results.toList=true) (hv:z1J s rs=some vs) :
 ∃ u,(results fn a.tmps).run P w = .ok u w∧RAV (imm s.h μ w) s.h μ (z0C vs) u:=by
 obtain⟨us,h1,h2,h3⟩:=zsd H he hc hv
 have hm:(fn.results.mapM (resM a.tmps)).run P w = .ok us.toArray w:=by
  rw[Array.mapM_eq_mapM_toList]
  simp [h1]
 refine⟨if hz:us.toArray.size=1 then us.toArray[0] else .tuple us.toArray,?_,?_⟩
 ·unfold results
  rw[Sem.run_bind]
  show (Sem.run P (fn.results.mapM (resM a.tmps)) w).andThen _=_
  rw[hm]
  rfl
 ·match vs,us,h2,h3 with
  | [v],[u],_,h3=>exact h3 0 v u rfl rfl
  | [],[],_,h3=>exact .tup [] [] rfl (fun j y v h1 h2=>by simp at h1)
  | a::b::r,c::d::q,h2,h3=>exact .tup _ (c::d::q) h2 h3
theorem zil (H:HeapRel h μ w) {n:Nat} (L:(imm h μ w).le (imm (h.take n) (μ.take n) w)) {id g off len:Nat} {x:Value} {sh:Sh} {xs:List PV} (R:RAV (imm h μ w) h μ (.own id g off len) x) (hr:rd h (.own id g off len)=some (sh,xs))
 (hn:n≤id):RPV (imm (h.take n) (μ.take n) w) (.sl sh xs) x:=by
 obtain⟨ys,fz,ho,hc1,hc2,hr⟩:=zrY hr
 obtain⟨_,g2,a,cap,rfl,g3,g4⟩:=z1Q H R ho hc1
 have hlen:xs.length=len:=by rw[hr];exact z4S hc2
 by_cases hne:xs=[]
 ·have hl0:len=0:=by rw[← hlen,hne];rfl
  rw[hne,hl0]
  exact .nils _ _ _
 ·have hpos:0<xs.length:=List.length_pos_iff.2 hne
  obtain⟨b,m,c,hm,ha,hB,hn1,hn2,hcells⟩:=g4 (by omega)
  have he:∀ x∈xs,x.cells.length=z0a sh:=fun x hx=>z0x (g2 x (z4D (hr ▸ hx)))
  have hcell:∀ (j:Nat) (y:PV),(xs.flatMap PV.cells)[j]?=some y→∃ v,c[off*z0a sh+j]?=some v∧RPV (imm h μ w) y v:=by
   intro j y hy
   obtain⟨x,h5,h6,h8,h7⟩:=z1u he hy
   rw[hr] at h5
   have h9:=zcx h5
   have h10:=hcells _ _ x y h9.2 h6
   rw[show (off+j / z0a sh)*z0a sh+j%z0a sh=off*z0a sh+j by rw[Nat.add_mul];omega] at h10
   exact h10
  subst ha
  have key:RPV (imm (h.take n) (μ.take n) w) (.sl sh xs) (.slice (some ⟨b,off*z0a sh,none⟩) xs.length cap):=by
   refine .sl sh xs b (off*z0a sh) cap (fun j=>(c[off*z0a sh+j]?).getD undef) hne (by omega) (fun x hx=>g2 x (z4D (hr ▸ hx))) (fun j y hy=>?_) (fun j y hy=>?_)
   ·obtain⟨v,h5,h6⟩:=hcell j y hy
    refine z0Y.2 ⟨?_,by rw[z0u hB,h5];simp [h5]⟩
    rintro⟨i,n',h8,h9⟩
    rw[List.getElem?_take] at h8
    split at h8
    ·have:=H.distinct i id b n' m h8 hm
     omega
    ·cases h8
   ·obtain⟨v,h5,h6⟩:=hcell j y hy
    have:(c[off*z0a sh+j]?).getD undef=v:=by simp [h5]
    simp only[this]
    exact h6.mono L
  rwa [hlen] at key
theorem zrX (H:HeapRel h μ w) {n:Nat} (L:(imm h μ w).le (imm (h.take n) (μ.take n) w)):∀ (cs:List AV) {vs:List PV},(∀ x∈cs,x.sc=true)→rd0s n h cs=some vs →
 vs.length=cs.length∧(∀ x∈vs,x.sc=true)∧∀ (j:Nat) (y:AV) (z:PV) (v:Value),cs[j]?=some y→vs[j]?=some z→RAV (imm h μ w) h μ y v→RPV (imm (h.take n) (μ.take n) w) z v
 | [],vs,_,e=>by
  simp [rd0s] at e
  subst e
  exact⟨rfl,by simp,fun j y z v hy=>by simp at hy⟩
 | a::r,vs,hs,e=>by
  simp only[rd0s] at e
  split at e
  case h_2=>cases e
  rename_i x hx
  simp only[Option.map_eq_some_iff] at e
  obtain⟨xs,h1,rfl⟩:=e
  obtain⟨q1,q2,q3⟩:=zrX H L r (fun x hx=>hs x (by simp [hx])) h1
  have hsa:=hs a (by simp)
  have key:x.sc=true∧∀ v,RAV (imm h μ w) h μ a v→RPV (imm (h.take n) (μ.take n) w) x v:=by
   unfold rd0 at hx
   split at hx
   ·injection hx with hx;subst hx;exact⟨hsa,fun v R=>R.p_inv.mono L⟩
   ·injection hx with hx;subst hx;exact⟨rfl,fun v R=>by obtain⟨a,rfl⟩:=z7f R;exact .nils _ _ _⟩
   ·injection hx with hx;subst hx;exact⟨rfl,fun v R=>by cases R;exact .nilp⟩
   ·split at hx
    ·rename_i hn
     simp only[Option.map_eq_some_iff] at hx
     obtain⟨⟨sh,ys⟩,h1,rfl⟩:=hx
     exact⟨rfl,fun v R=>zil H L R h1 hn⟩
    ·cases hx
   ·cases hx
  refine⟨by simp [q1],fun y hy=>?_,fun j y z v hy hz R=>?_⟩
  ·rcases List.mem_cons.1 hy with rfl | hy
   ·exact key.1
   ·exact q2 y hy
  ·cases j with
   | zero=>simp at hy hz;subst hy;subst hz;exact key.2 v R
   | succ j=>exact q3 j y z v (by simpa using hy) (by simpa using hz) R
theorem zme (H:HeapRel h μ w) {n:Nat} (L:(imm h μ w).le (imm (h.take n) (μ.take n) w)) {t id g:Nat} {x:Value} {u:AV} (R:RAV (imm h μ w) h μ (.bt 3 t id g) x) (hr:rdA n h id g=some u)
 (hn:n≤id):RAV (imm (h.take n) (μ.take n) w) (h.take n) (μ.take n) u x:=by
 unfold rdA at hr
 split at hr
 case h_2=>cases hr
 rename_i sh cs ho
 split at hr
 case isFalse=>cases hr
 rename_i hg
 simp only[Option.map_eq_some_iff] at hr
 obtain⟨vs,h1,rfl⟩:=hr
 cases R with | bt3 _ _ _ a cap o m hl ho' hm hv=>
 rw[ho] at ho'
 injection ho' with ho'
 obtain⟨hv1,hv2⟩:=hv sh cs ho'.symm
 have hO:=hv2 hg
 obtain⟨k1,k2⟩:=H.obj id _ m ho hm
 obtain⟨q1,q2,q3⟩:=zrX H L cs k1 h1
 obtain⟨s1,s2,s3⟩:=z82 (sh:=sh) (g:=g) (vs:=vs) (by rw[q1,hg]) q2
 by_cases hz:g=0
 ·subst hz
  have hxs:z1C sh 0 vs=[]:=List.length_eq_zero_iff.1 s1
  rw[hxs]
  exact .p _ _ (.nils _ _ _)
 ·have hm2:∃ b k c,m=some (b,k)∧a=some ⟨b,0,none⟩∧z0H w b k c∧∀ (j:Nat) (x:AV),cs[j]?=some x→∃ v,c[j]?=some v∧RAV (imm h μ w) h μ x v:=by
   cases m with
   | none=>simp [z50] at hO;omega
   | some m=>
    obtain⟨b,k⟩:=m
    obtain⟨c,c1,c2,c3⟩:=k2
    rcases hO with q | q
    ·omega
    ·exact⟨b,k,c,rfl,by rw[q.1,Nat.zero_mul],c1,c3⟩
  obtain⟨b,k,c,rfl,rfl,hB,hcells⟩:=hm2
  have he:∀ x∈z1C sh g vs,x.cells.length=z0a sh:=fun x hx=>z0x (s2 x hx)
  have hcell:∀ (j:Nat) (y:PV),((z1C sh g vs).flatMap PV.cells)[j]?=some y→∃ v,c[j]?=some v∧RPV (imm (h.take n) (μ.take n) w) y v:=by
   intro j y hy
   obtain⟨x,h5,h6,h8,h7⟩:=z1u he hy
   have h9:=s3 _ _ x y h5 h6
   have hj:j / z0a sh*z0a sh+j%z0a sh=j:=Nat.div_add_mod' j (z0a sh)
   rw[hj] at h9
   have hlt:j<cs.length:=by have:=z0f h9;omega
   obtain⟨v,v1,v2⟩:=hcells j cs[j] (List.getElem?_eq_getElem hlt)
   exact⟨v,v1,q3 j cs[j] y v (List.getElem?_eq_getElem hlt) h9 v2⟩
  have key:RPV (imm (h.take n) (μ.take n) w) (.sl sh (z1C sh g vs)) (.slice (some ⟨b,0,none⟩) (z1C sh g vs).length cap):=by
   refine .sl sh _ b 0 cap (fun j=>(c[j]?).getD undef) (fun e=>hz (by rw[← s1,e];rfl)) (by rw[s1];exact hl) s2 (fun j y hy=>?_) (fun j y hy=>?_)
   ·obtain⟨v,h5,h6⟩:=hcell j y hy
    refine z0Y.2 ⟨?_,by rw[z0u hB,Nat.zero_add,h5];simp [h5]⟩
    rintro⟨i,n',h8,h9⟩
    rw[List.getElem?_take] at h8
    split at h8
    ·have:=H.distinct i id b n' k h8 hm
     omega
    ·cases h8
   ·obtain⟨v,h5,h6⟩:=hcell j y hy
    have:(c[j]?).getD undef=v:=by simp [h5]
    simp only[this]
    exact h6
  rw[s1] at key
  exact .p _ _ key
mutual
theorem zsb (H:HeapRel h μ w) {n:Nat} (L:(imm h μ w).le (imm (h.take n) (μ.take n) w)):∀ (v:AV) {u:AV} {x:Value},RAV (imm h μ w) h μ v x→reif n h v=some u→u.top≤n→RAV (imm (h.take n) (μ.take n) w) (h.take n) (μ.take n) u x
 | .own id g off len,u,x,R,hr,ht=>by
  simp only[reif] at hr
  split at hr
  ·rename_i hn
   simp only[Option.map_eq_some_iff] at hr
   obtain⟨⟨sh,xs⟩,h1,rfl⟩:=hr
   exact .p _ _ (zil H L R h1 hn)
  ·injection hr with hr;subst hr;exact R.take L ht
 | .sl0 sh,u,x,R,hr,ht=>by
  simp only[reif] at hr
  injection hr with hr
  subst hr
  obtain⟨a,rfl⟩:=z7f R
  exact .p _ _ (.nils _ _ _)
 | .agg cs,u,x,R,hr,ht=>by
  simp only[reif,Option.map_eq_some_iff] at hr
  obtain⟨us,h1,rfl⟩:=hr
  cases R with | agg _ xs hl hrr=>
  have htop:AV.tops us≤n:=by
   unfold mkA at ht
   split at ht
   ·rename_i ps hp
    have:=z4R hp
    subst this
    rw[zb4];omega
   ·simpa [AV.top] using ht
  obtain⟨q1,q2⟩:=zch H L cs hl hrr h1 htop
  exact z94 q1 q2
 | .tup cs,u,x,R,hr,ht=>by
  simp only[reif,Option.map_eq_some_iff] at hr
  obtain⟨us,h1,rfl⟩:=hr
  cases R with | tup _ xs hl hrr=>
  obtain⟨q1,q2⟩:=zch H L cs hl hrr h1 (by simpa [AV.top] using ht)
  exact .tup us xs q1 q2
 | .p v,u,x,R,hr,ht=>by simp only[reif] at hr;injection hr with hr;subst hr;exact R.take L ht
 | .ref _ _,u,x,R,hr,ht=>by simp only[reif] at hr;injection hr with hr;subst hr;exact R.take L ht
 | .rref _ _ _ _,u,x,R,hr,ht=>by simp only[reif] at hr;injection hr with hr;subst hr;exact R.take L ht
 | .vp _,u,x,R,hr,ht=>by simp only[reif] at hr;injection hr with hr;subst hr;exact R.take L ht
 | .nilp,u,x,R,hr,ht=>by simp only[reif] at hr;injection hr with hr;subst hr;exact R.take L ht
 | .nilm,u,x,R,hr,ht=>by simp only[reif] at hr;injection hr with hr;subst hr;exact R.take L ht
 | .nilf,u,x,R,hr,ht=>by simp only[reif] at hr;injection hr with hr;subst hr;exact R.take L ht
 | .nili,u,x,R,hr,ht=>by simp only[reif] at hr;injection hr with hr;subst hr;exact R.take L ht
 | .ifc,u,x,R,hr,ht=>by simp only[reif] at hr;injection hr with hr;subst hr;exact R.take L ht
 | .mp _,u,x,R,hr,ht=>by simp only[reif] at hr;injection hr with hr;subst hr;exact R.take L ht
 | .it _,u,x,R,hr,ht=>by simp only[reif] at hr;injection hr with hr;subst hr;exact R.take L ht
 | .fn _ _,u,x,R,hr,ht=>by simp only[reif] at hr;injection hr with hr;subst hr;exact R.take L ht
 | .anyb,u,x,R,hr,ht=>by simp only[reif] at hr;injection hr with hr;subst hr;exact R.take L ht
 | .skp,u,x,R,hr,ht=>by simp only[reif] at hr;injection hr with hr;subst hr;exact R.take L ht
 | .und,u,x,R,hr,ht=>by simp only[reif] at hr;injection hr with hr;subst hr;exact R.take L ht
 | .anyp,u,x,R,hr,ht=>by simp only[reif] at hr;injection hr with hr;subst hr;exact R.take L ht
 | .bt k t id g,u,x,R,hr,ht=>by
  simp only[reif] at hr
  cases hk:(Nat.beq k 3&&decide (n≤id)) with
  | false=>rw[hk] at hr;injection hr with hr;subst hr;exact R.take L ht
  | true=>
   rw[hk] at hr
   simp only[Bool.and_eq_true,decide_eq_true_eq] at hk
   have hk1:=Nat.eq_of_beq_eq_true hk.1
   subst hk1
   exact zme H L R hr hk.2
theorem zch (H:HeapRel h μ w) {n:Nat} (L:(imm h μ w).le (imm (h.take n) (μ.take n) w)):∀ (cs:List AV) {us:List AV} {xs:List Value},cs.length=xs.length →
 (∀ (j:Nat) (y:AV) (v:Value),cs[j]?=some y→xs[j]?=some v→RAV (imm h μ w) h μ y v)→z4X n h cs=some us→AV.tops us≤n →
 us.length=xs.length∧∀ (j:Nat) (y:AV) (v:Value),us[j]?=some y→xs[j]?=some v→RAV (imm (h.take n) (μ.take n) w) (h.take n) (μ.take n) y v
 | [],us,xs,hl,hr,e,ht=>by
  simp only[z4X] at e
  injection e with e
  subst e
  exact⟨hl,fun j y v h1 _=>by simp at h1⟩
 | c::r,us,xs,hl,hr,e,ht=>by
  cases xs with
  | nil=>simp at hl
  | cons x xs=>
   simp only[z4X] at e
   split at e
   ·rename_i u hu
    simp only[Option.map_eq_some_iff] at e
    obtain⟨l,h1,rfl⟩:=e
    simp only[AV.tops] at ht
    have k1:=zsb H L c (hr 0 c x rfl rfl) hu (by omega)
    obtain⟨k2,k3⟩:=zch H L r (xs:=xs) (by simpa using hl) (fun j y v h1 h2=>hr (j+1) y v (by simpa using h1) (by simpa using h2)) h1 (by omega)
    refine⟨by simp [k2],fun j y v hy hv=>?_⟩
    cases j with
    | zero=>simp at hy hv;subst hy;subst hv;exact k1
    | succ j=>exact k3 j y v (by simpa using hy) (by simpa using hv)
   ·cases e
end
theorem z7O:∀ (asv:List AV) {h:Heap} {vs:List Value} {asv':List AV} {h1:Heap},HeapRel h μ w→asv.length=vs.length →
 (∀ (j:Nat) (y:AV) (v:Value),asv[j]?=some y→vs[j]?=some v→RAV (imm h μ w) h μ y v)→z0t h asv=some (asv',h1) →
 z8n h μ w h1∧asv'.length=vs.length∧∀ (j:Nat) (y:AV) (v:Value),asv'[j]?=some y→vs[j]?=some v→RAV (imm h1 μ w) h1 μ y v
 | [],h,vs,asv',h1,H,hl,hr,e=>by
  simp only[z0t,Option.some.injEq,Prod.mk.injEq] at e
  obtain⟨rfl,rfl⟩:=e
  exact⟨⟨H,Evo.refl _ _ _,z0i.refl _ _⟩,hl,fun j y v hy=>by simp at hy⟩
 | a::r,h,vs,asv',h1,H,hl,hr,e=>by
  cases vs with
  | nil=>simp at hl
  | cons x vs=>
   have step:∀ {h2:Heap} {u:AV},z8n h μ w h2→RAV (imm h2 μ w) h2 μ u x→(z0t h2 r).map (fun y=>(u::y.1,y.2))=some (asv',h1) →
    z8n h μ w h1∧asv'.length=(x::vs).length∧∀ (j:Nat) (y:AV) (v:Value),asv'[j]?=some y→(x::vs)[j]?=some v→RAV (imm h1 μ w) h1 μ y v:=by
    intro h2 u ⟨a1,a2,a3⟩ hu e
    simp only[Option.map_eq_some_iff,Prod.mk.injEq] at e
    obtain⟨⟨l,h3⟩,hp,rfl,rfl⟩:=e
    obtain⟨⟨b1,b2,b3⟩,b4,b5⟩:=z7O r a1 (vs:=vs) (by simpa using hl) (fun j y v hy hv=>(hr (j+1) y v (by simpa using hy) (by simpa using hv)).evo a2) hp
    refine⟨⟨b1,a2.trans b2,by simpa using z0i.trans a3 b3⟩,by simp [b4],fun j y v hy hv=>?_⟩
    cases j with
    | zero=>simp at hy hv;subst hy;subst hv;exact hu.evo b2
    | succ j=>exact b5 j y v (by simpa using hy) (by simpa using hv)
   have h0:=hr 0 a x rfl rfl
   cases a
   case own id g off len=>
    simp only[z0t] at e
    split at e
    ·rename_i z hz
     obtain⟨sh,xs⟩:=z
     obtain⟨k1,k2,k3,k4⟩:=z95 H h0 hz
     exact step ⟨k1,k2,k3⟩ (.p _ _ k4) e
    ·cases e
   case agg cs=>
    simp only[z0t] at e
    split at e
    ·rename_i pv h2 hp
     obtain⟨k1,k2⟩:=z6F _ H h0 hp
     exact step k1 (.p _ _ k2) e
    ·cases e
   case sl0 sh=>
    simp only[z0t] at e
    obtain⟨b,rfl⟩:=z7f h0
    exact step ⟨H,Evo.refl _ _ _,z0i.refl _ _⟩ (.p _ _ (.nils _ _ _)) e
   all_goals
    simp only[z0t] at e
    exact step ⟨H,Evo.refl _ _ _,z0i.refl _ _⟩ h0 e
end Go.Am
end
section
/- The abstract machine,part 23: a call that ends well here ends well in the model. -/
set_option linter.unusedSimpArgs false
set_option linter.unusedVariables false
set_option maxHeartbeats 1000000
namespace Go.Am
variable {h h':Heap} {μ μ':Mu} {w w':World} {P:Program} {M M':Mem}
variable {gl:Nat→Option PV} {nt:Nat} {M0:Mem} {h0:Heap} {μ0:Mu} {e:List (Nat × AV)} {x:Esc} {a:Act}
theorem zxg {F:AFun} {fn:Func} {s:St} {K:Post} (R:Rel gl nt M0 h0 μ0 s.env s.h s.esc a w μ) (Hs:∀ id,zad h0 id≤h0.length) (hc:z2L P F.results fn.results.toList=true) (H:fin F h0.length s K) :
 ∃ u,(results fn a.tmps).run P w = .ok u w∧∃ v h' x μ',K v h' x∧RAV (imm h' μ' w) h' μ' v u∧HeapRel h' μ' w∧Evo M0 h0 μ0 (imm h' μ' w) h' μ'∧z0i h0 h' x:=by
 unfold fin at H
 split at H
 ·rename_i vs hvs
  obtain⟨u,hu,hR⟩:=zjB R.heap R.env hc hvs
  refine⟨u,hu,?_⟩
  split at H
  ·dsimp only at H
   split at H
   ·rename_i hcl
    have hn:=z7H s.esc.length s.esc (max h0.length (z0C vs).top)
    generalize close s.esc.length s.esc (max h0.length (z0C vs).top)=n at H hcl hn
    obtain⟨q1,q2,q3,q4⟩:=zgi Hs R.heap R.evo R.esc (by omega) hcl
    exact⟨_,_,_,μ.take n,H,hR.take q2 (by omega),q1,q3,q4⟩
   ·exact⟨_,_,_,μ,H,hR,R.heap,R.evo,R.esc⟩
  ·split at H
   ·rename_i v0 hv0
    dsimp only at H
    split at H
    ·rename_i hcl
     have hn:=z7H s.esc.length s.esc (max h0.length v0.top)
     generalize close s.esc.length s.esc (max h0.length v0.top)=n at H hcl hn
     split at H
     ·rename_i v hv
      obtain⟨q1,q2,q3,q4⟩:=zgi Hs R.heap R.evo R.esc (by omega) hcl
      exact⟨_,_,_,μ.take n,H.2,zsb R.heap q2 _ hR hv H.1,q1,q3,q4⟩
     ·exact H.elim
    ·exact⟨_,_,_,μ,H,hR,R.heap,R.evo,R.esc⟩
   ·exact H.elim
 ·exact H.elim
def zms (P:Program) (f:Nat) (F:AFun):Bool:=match P.funcs[f]? with
 | some fn=>match fn.body with
  | some c=>z0B P fn.ntmps F.body c&&z2L P F.results fn.results.toList&&fn.name != "runtime.NumGoroutine"
  | none=>false
 | none=>false
theorem zh5 {f:Nat} {fn:Func} {c:Code} (hf:P.funcs[f]?=some fn) (hb:fn.body=some c) (hn:fn.name ≠ "runtime.NumGoroutine") (args:Array Value) (w:World):(callFunc f args).run P w = .ok (.enter f args) w:=by
 unfold callFunc
 simp [hf,hb,hn]
theorem zoE {asv:List AV} {t:Nat}:aget (enter asv) t=(asv[t]?).getD .und:=by
 have key:∀ (l:List AV) (k t:Nat),aget ((l.zipIdx k).map fun y=>(y.2,y.1)) t=if t<k then .und else (l[t-k]?).getD .und:=by
  intro l
  induction l with
  | nil=>intro k t;simp [aget]
  | cons v r ih=>
   intro k t
   simp only[List.zipIdx_cons,List.map_cons,aget]
   by_cases hk:k=t
   ·subst hk;simp
   ·rw[if_neg hk,ih]
    by_cases h1:t<k
    ·rw[if_pos h1,if_pos (by omega)]
    ·rw[if_neg h1,if_neg (by omega),show t-k=(t-(k+1))+1 by omega]
     simp
 have:=key asv 0 t
 simpa [enter] using this
def ExtM (M:Mem) (w w':World):Mem:=⟨fun b o=>if b<w.heap.size then M.c b o else w'.cell? ⟨b,o,none⟩,fun _=>none,some (zed w'),fun _=>none⟩
def ExtOk (P:Program) (f:Nat) (vs:List PV) (r:PV):Prop:=∀ (M:Mem) (w:World) (us:List Value),(∀ b o v,M.c b o=some v→w.cell? ⟨b,o,none⟩=some v)→vs.length=us.length →
 (∀ (j:Nat) (y:PV) (v:Value),vs[j]?=some y→us[j]?=some v→RPV M y v) →
 ∃ x w',(callFunc f us.toArray).run P w = .ok (.value x) w'∧WExt w w'∧RPV (ExtM M w w') r x
structure Fits (P:Program) (X:Ctx):Prop where
 mixed:P.follows .mixedOrders=true
 fn:∀ f F,X.fn f=some F→zms P f F=true
 ext:∀ f vs r,X.fn f=none→X.ext f vs=some r→ExtOk P f vs r
 ex2:∀ f asv h v h' x,X.fn f=none→X.ex2 f asv h=some (v,h',x)→z1y P X.gl f asv h fun v1 h1 x1=>v1=v∧h1=h'∧x1=x
theorem zjP {X:Ctx} (HX:Fits P X) {f:Nat} {asv:List AV} {h:Heap} {K:Post} (H:Step X (z1y P X.gl) f asv h K):z1y P X.gl f asv h K:=by
 intro μ w vs Hh Hg hl hr
 unfold Step at H
 split at H
 ·rename_i F hF
  have H:=zjo (z1y.mono P X.gl) H
  have hck:=HX.fn f F hF
  unfold zms at hck
  split at hck
  ·rename_i fn hfn
   split at hck
   ·rename_i c hb
    simp only[Bool.and_eq_true,bne_iff_ne,ne_eq] at hck
    obtain⟨⟨c1,c2⟩,c3⟩:=hck
    refine .inl ⟨fun w=>zh5 hfn hb c3 _ w,calls_of_wp hfn hb ?_⟩
    unfold z2E at H
    have body:∀ {asv':List AV} {h1:Heap},z8n h μ w h1→asv'.length=vs.length→(∀ (j:Nat) (y:AV) (v:Value),asv'[j]?=some y→vs[j]?=some v→RAV (imm h1 μ w) h1 μ y v) →
     (asv'.length=F.nparams∧AW (z1y P X.gl) X.gl F.body ⟨enter asv',h1,[]⟩ fun e s=>match e with
      | .exit _=>False
      | _=>fin F h.length s K)→Code.wp P c (bodyPost P fn fun
       | .returned r,w'=>∃ v h' x μ',K v h' x∧RAV (imm h' μ' w') h' μ' v r∧HeapRel h' μ' w'∧Evo (imm h μ w) h μ (imm h' μ' w') h' μ'∧z0i h h' x
       | _,_=>False) { tmps:=vs.toArray++Array.replicate (fn.ntmps-vs.toArray.size) undef,defers:=[] } w:=by
     intro asv' h1 ⟨a1,a2,a3⟩ hl' hr' ⟨_,hA⟩
     refine z0D HX.mixed (nt:=fn.ntmps) (M0:=imm h μ w) (h0:=h) (μ0:=μ) (μ:=μ) (fun _ _ _ _ h=>h) F.body c1 hA ⟨a1,fun t=>?_,Hg.mono a2.le,a2,a3,?_,rfl⟩ (fun ex s' a' w' μ' hk R'=>?_)
     ·dsimp only
      rw[zoE]
      cases ht:asv'[t]? with
      | none=>exact .und _
      | some y=>
       have hlt:t<vs.length:=by rw[← hl'];exact z0f ht
       have:(vs.toArray++Array.replicate (fn.ntmps-vs.toArray.size) undef).getD t undef=vs[t]:=by
        simp [Array.getD,hlt]
        intro hh;omega
       rw[this]
       exact hr' t y _ ht (List.getElem?_eq_getElem hlt)
     ·simp;omega
     ·cases ex with
      | normal=>
       obtain⟨u,q1,q2⟩:=zxg R' (fun id=>zcu Hh id) c2 hk
       exact⟨R'.defers,u,q1,q2⟩
      | exit i=>exact hk.elim
      | ret=>
       obtain⟨u,q1,q2⟩:=zxg R' (fun id=>zcu Hh id) c2 hk
       exact⟨R'.defers,u,q1,q2⟩
    split at H
    ·rename_i asv' h1 hp
     split at hp
     ·injection hp with hp
      injection hp with e1 e2
      subst e1;subst e2
      exact body ⟨Hh,Evo.refl _ _ _,z0i.refl _ _⟩ hl hr H
     ·obtain⟨q1,q2,q3⟩:=z7O asv Hh hl hr hp
      exact body q1 q2 q3 H
    ·exact H.elim
   ·cases hck
  ·cases hck
 ·rename_i hF
  split at H
  ·rename_i hx2
   exact z1y.mono P X.gl _ _ _ _ _ (fun v1 h1' x1 hv=>by obtain⟨rfl,rfl,rfl⟩:=hv;exact H) (HX.ex2 f asv h _ _ _ hF hx2) μ w vs Hh Hg hl hr
  ·rename_i hx2
   split at H
   ·rename_i asv' h1 hp
    split at H
    ·rename_i ps hps
     split at H
     ·rename_i r hrr
      obtain⟨q1,q2,q3⟩:=z7O asv Hh hl hr hp
      have hm:=z4R hps
      subst hm
      obtain⟨u,w',k1,g1,g2⟩:=HX.ext f ps r hF hrr (imm h1 μ w) w vs (fun b o v hv=>(z0Y.1 hv).2) (by simpa using q2) (fun j y v hy hv=>(q3 j (.p y) v (by simp [hy]) hv).p_inv)
      obtain⟨n1,n2⟩:=q1.1.ext g1
      have L:(ExtM (imm h1 μ w) w w').le (imm h1 μ w'):=by
       refine⟨fun b o v hv=>?_,fun b o hv=>?_,rfl,fun _ _ h=>by cases h⟩
       ·dsimp only[ExtM] at hv
        split at hv
        ·exact n2.le.c _ _ _ hv
        ·rename_i hb
         exact z0Y.2 ⟨fun hO=>hb (z7N q1.1 hO),hv⟩
       ·dsimp only[ExtM] at hv
        cases hv
      exact .inr ⟨_,_,_,_,_,μ,k1,H,.p _ _ (g2.mono L),n1,q1.2.1.trans n2,q1.2.2⟩
     ·exact H.elim
    ·exact H.elim
   ·exact H.elim
theorem zaz {X:Ctx} (HX:Fits P X) {f:Nat} {asv:List AV} {h:Heap} {K:Post} (H:z0c X f asv h K):z1y P X.gl f asv h K:=
 H (z1y P X.gl) (z1y.mono P X.gl) (fun f a h K hs=>zjP HX hs)
end Go.Am
end
section
/- The abstract machine,part 24: rules by which its code is computed on what is only partly known. -/
set_option linter.unusedSimpArgs false
set_option linter.unusedVariables false
namespace Go.Am
def optK (o:Option (AV × Heap × Esc)) (f:AV→Heap→Esc→Prop):Prop:=match o with
 | some y=>f y.1 y.2.1 y.2.2
 | none=>False
def zm2 (v:AV) (A B:Prop):Prop:=match v with
 | .p (.bool t)=>match t with
  | true=>A
  | false=>B
 | .anyb=>A∧B
 | _=>False
def z0j (v:AV) (A B:Prop):Prop:=match v with
 | .p (.bool t)=>match t with
  | true=>A
  | false=>B
 | _=>False
def z2H (v:AV) (b:Bool) (A B:Prop):Prop:=match v with
 | .p (.bool c)=>match c==b with
  | true=>A
  | false=>B
 | .skp=>B
 | _=>False
def regK (keep:Option (List Nat)) (K:Ex→St→Prop) (e:List (Nat × AV)) (h:Heap) (x:Esc):Prop:=K .normal ⟨z01 keep e,h,x⟩
def seqK (C:Hd) (gl:Nat→Option PV) (b:ACode) (K:Ex→St→Prop) (e:Ex) (s:St):Prop:=match e with
 | .normal=>AW C gl b s K
 | .exit i=>K (.exit i) s
 | .ret=>K .ret s
def zaw (id:Nat) (K:Ex→St→Prop) (e:Ex) (s:St):Prop:=match e with
 | .normal=>K .normal s
 | .exit i=>if i=id then K .normal s else K (.exit i) s
 | .ret=>K .ret s
def finK (F:AFun) (b:Nat) (K:Post) (e:Ex) (s:St):Prop:=match e with
 | .exit _=>False
 | _=>fin F b s K
def zb1 (n:Nat) (x:Esc) (K:Ex→St→Prop) (e:Ex) (s:St):Prop:=K e (z5t n x s)
def AO.plain:AO→Bool
 | .call _ _ | .callv _ _ | .mnext _ _=>false
 | .mv _=>true
 | .pick _ _ _=>true
 | .alloc _=>true
 | .box _=>true
 | .build _ _=>true
 | .bsl _ _ _ _ _=>true
 | .load _ _=>true
 | .store _ _ _=>true
 | .nilchk _=>true
 | .bin _ _ _=>true
 | .eqa _ _ _ _=>true
 | .isnil _ _ _=>true
 | .mkif _=>true
 | .un _ _=>true
 | .conv _ _=>true
 | .mkfn _ _=>true
 | .mkmap=>true
 | .mksl _ _ _ _=>true
 | .slice _ _ _ _ _=>true
 | .slstr _ _ _=>true
 | .faddr _ _ _=>true
 | .field _ _ _=>true
 | .iaddr _ _ _=>true
 | .iaddra _ _ _ _=>true
 | .idxa _ _ _ _=>true
 | .idxs _ _=>true
 | .look _ _ _ _ _=>true
 | .mupd _ _ _ _=>true
 | .ment _ _ _ _=>true
 | .estore _ _ _=>true
 | .mdel _ _ _=>true
 | .ext _ _=>true
 | .len _=>true
 | .lens _=>true
 | .lenm _=>true
 | .app _ _ _=>true
 | .copy _ _ _=>true
 | .uns _ _ _=>true
 | .clr _ _ _=>true
 | .mx _=>true
 | .mn _=>true
 | .mrange _=>true
 | .mentry _=>true
 | .new0 _=>true
variable {C:Hd} {gl:Nat→Option PV} {e:List (Nat × AV)} {h:Heap} {x:Esc} {K:Ex→St→Prop} {L:List (Nat × AV)→Heap→Esc→Prop} {s:St}
theorem zx2:AW C gl .skip s K=K .normal s:=(rfl)
theorem AW_ret:AW C gl .ret s K=K .ret s:=(rfl)
theorem zx1 {i:Nat}:AW C gl (.exit i) s K=K (.exit i) s:=(rfl)
theorem AW_bad:AW C gl .bad s K=False:=(rfl)
theorem AW_reg {ops:List AOp} {keep:Option (List Nat)}:AW C gl (.reg ops keep) ⟨e,h,x⟩ K=AReg C gl ops e h x (regK keep K):=(rfl)
theorem AW_seq {a b:ACode}:AW C gl (.seq a b) s K=AW C gl a s (seqK C gl b K):=(rfl)
theorem zxz {c:Opd} {a b:ACode}:AW C gl (.cond c a b) ⟨e,h,x⟩ K=z0j (Opd.ev gl e c) (AW C gl a ⟨e,h,x⟩ K) (AW C gl b ⟨e,h,x⟩ K):=(rfl)
theorem zte {i:Nat} {b:ACode}:AW C gl (.block i b) s K=AW C gl b s (zaw i K):=(rfl)
theorem ztg {b:ACode}:AW C gl (.scope b) ⟨e,h,x⟩ K=AW C gl b ⟨e,h,[]⟩ (zb1 h.length x K):=(rfl)
theorem AW_pr {l:List Nat} {b:ACode}:AW C gl (.pr l b) ⟨e,h,x⟩ K=AW C gl b ⟨z01 (some l) e,h,x⟩ K:=(rfl)
theorem zzd {keep:Option (List Nat)}:regK keep K e h x=K .normal ⟨z01 keep e,h,x⟩:=(rfl)
theorem zgf {b:ACode}:seqK C gl b K .normal s=AW C gl b s K:=(rfl)
theorem zs7 {b:ACode} {i:Nat}:seqK C gl b K (.exit i) s=K (.exit i) s:=(rfl)
theorem zuW {b:ACode}:seqK C gl b K .ret s=K .ret s:=(rfl)
theorem zbE {i:Nat}:zaw i K .normal s=K .normal s:=(rfl)
theorem zf9 {i j:Nat}:zaw i K (.exit j) s=if j=i then K .normal s else K (.exit j) s:=(rfl)
theorem ziZ {i:Nat}:zaw i K .ret s=K .ret s:=(rfl)
theorem zfh {n:Nat} {y:Esc} {ex:Ex}:zb1 n y K ex s=K ex (z5t n y s):=(rfl)
def z0F (C:Hd) (gl:Nat→Option PV) (r:List AOp) (d:Option Nat) (e:List (Nat × AV)) (x:Esc) (L:List (Nat × AV)→Heap→Esc→Prop) (v:AV) (h':Heap) (x':Esc):Prop:=AReg C gl r (put d v e) h' (x'++x) L
theorem zt6 {r:List AOp} {d:Option Nat} {v:AV} {h':Heap} {x':Esc}:z0F C gl r d e x L v h' x'=AReg C gl r (put d v e) h' (x'++x) L:=(rfl)
theorem zfI {r:List AOp} {d:Option Nat} {v w:AV} {h' h'':Heap} {x' x'':Esc} (h1:v=w) (h2:h'=h'') (h3:x'=x''):z0F C gl r d e x L v h' x'=z0F C gl r d e x L w h'' x'':=by rw[h1,h2,h3]
theorem ztd:AReg C gl [] e h x L=L e h x:=(rfl)
theorem z0s {d:Option Nat} {op:AO} {r:List AOp} (hp:op.plain=true):AReg C gl (⟨d,none,op⟩::r) e h x L=optK (aop op (Opd.ev gl e) h) (z0F C gl r d e x L):=by
 cases op <;> first | (cases hp;done) | (simp only[AReg,wanted,optK,z0F];split <;> simp_all)
theorem zxw {d:Option Nat} {r:List AOp} {q0:Opd}:AReg C gl (⟨d,none,(.mv q0)⟩::r) e h x L=optK (aop (.mv q0) (Opd.ev gl e) h) (z0F C gl r d e x L):=z0s rfl
theorem zkr {d:Option Nat} {r:List AOp} {q0 q1 q2:Opd}:AReg C gl (⟨d,none,(.pick q0 q1 q2)⟩::r) e h x L=optK (aop (.pick q0 q1 q2) (Opd.ev gl e) h) (z0F C gl r d e x L):=z0s rfl
theorem ziF {d:Option Nat} {r:List AOp} {q0:List AV}:AReg C gl (⟨d,none,(.alloc q0)⟩::r) e h x L=optK (aop (.alloc q0) (Opd.ev gl e) h) (z0F C gl r d e x L):=z0s rfl
theorem zsY {d:Option Nat} {r:List AOp} {q0:Opd}:AReg C gl (⟨d,none,(.box q0)⟩::r) e h x L=optK (aop (.box q0) (Opd.ev gl e) h) (z0F C gl r d e x L):=z0s rfl
theorem ziG {d:Option Nat} {r:List AOp} {q0:List AV} {q1:List (Nat × Nat × Opd)}:AReg C gl (⟨d,none,(.build q0 q1)⟩::r) e h x L=optK (aop (.build q0 q1) (Opd.ev gl e) h) (z0F C gl r d e x L):=z0s rfl
theorem zsZ {d:Option Nat} {r:List AOp} {q0:Bool} {q1:Sh} {q2:Nat} {q3:PV} {q4:List (Nat × Opd)}:AReg C gl (⟨d,none,(.bsl q0 q1 q2 q3 q4)⟩::r) e h x L=optK (aop (.bsl q0 q1 q2 q3 q4) (Opd.ev gl e) h) (z0F C gl r d e x L):=z0s rfl
theorem zki {d:Option Nat} {r:List AOp} {q0:Sh} {q1:Opd}:AReg C gl (⟨d,none,(.load q0 q1)⟩::r) e h x L=optK (aop (.load q0 q1) (Opd.ev gl e) h) (z0F C gl r d e x L):=z0s rfl
theorem ziP {d:Option Nat} {r:List AOp} {q0:Sh} {q1 q2:Opd}:AReg C gl (⟨d,none,(.store q0 q1 q2)⟩::r) e h x L=optK (aop (.store q0 q1 q2) (Opd.ev gl e) h) (z0F C gl r d e x L):=z0s rfl
theorem zf1 {d:Option Nat} {r:List AOp} {q0:Opd}:AReg C gl (⟨d,none,(.nilchk q0)⟩::r) e h x L=optK (aop (.nilchk q0) (Opd.ev gl e) h) (z0F C gl r d e x L):=z0s rfl
theorem zsX {d:Option Nat} {r:List AOp} {q0:BinOp} {q1 q2:Opd}:AReg C gl (⟨d,none,(.bin q0 q1 q2)⟩::r) e h x L=optK (aop (.bin q0 q1 q2) (Opd.ev gl e) h) (z0F C gl r d e x L):=z0s rfl
theorem zta {d:Option Nat} {r:List AOp} {q0:List Nat} {q1:Bool} {q2 q3:Opd}:AReg C gl (⟨d,none,(.eqa q0 q1 q2 q3)⟩::r) e h x L=optK (aop (.eqa q0 q1 q2 q3) (Opd.ev gl e) h) (z0F C gl r d e x L):=z0s rfl
theorem ziL {d:Option Nat} {r:List AOp} {q0:Nat} {q1:Bool} {q2:Opd}:AReg C gl (⟨d,none,(.isnil q0 q1 q2)⟩::r) e h x L=optK (aop (.isnil q0 q1 q2) (Opd.ev gl e) h) (z0F C gl r d e x L):=z0s rfl
theorem zkn {d:Option Nat} {r:List AOp} {q0:Opd}:AReg C gl (⟨d,none,(.mkif q0)⟩::r) e h x L=optK (aop (.mkif q0) (Opd.ev gl e) h) (z0F C gl r d e x L):=z0s rfl
theorem zxy {d:Option Nat} {r:List AOp} {q0:UnOp} {q1:Opd}:AReg C gl (⟨d,none,(.un q0 q1)⟩::r) e h x L=optK (aop (.un q0 q1) (Opd.ev gl e) h) (z0F C gl r d e x L):=z0s rfl
theorem zkc {d:Option Nat} {r:List AOp} {q0:Cv} {q1:Opd}:AReg C gl (⟨d,none,(.conv q0 q1)⟩::r) e h x L=optK (aop (.conv q0 q1) (Opd.ev gl e) h) (z0F C gl r d e x L):=z0s rfl
theorem zkm {d:Option Nat} {r:List AOp} {q0:Nat} {q1:List Opd}:AReg C gl (⟨d,none,(.mkfn q0 q1)⟩::r) e h x L=optK (aop (.mkfn q0 q1) (Opd.ev gl e) h) (z0F C gl r d e x L):=z0s rfl
theorem ziM {d:Option Nat} {r:List AOp}  : AReg C gl (⟨d,none,.mkmap⟩::r) e h x L=optK (aop .mkmap (Opd.ev gl e) h) (z0F C gl r d e x L):=z0s rfl
theorem zko {d:Option Nat} {r:List AOp} {q0:Sh} {q1:PV} {q2 q3:Opd}:AReg C gl (⟨d,none,(.mksl q0 q1 q2 q3)⟩::r) e h x L=optK (aop (.mksl q0 q1 q2 q3) (Opd.ev gl e) h) (z0F C gl r d e x L):=z0s rfl
theorem ziN {d:Option Nat} {r:List AOp} {q0:Sh} {q1:Opd} {q2 q3 q4:Option Opd}:AReg C gl (⟨d,none,(.slice q0 q1 q2 q3 q4)⟩::r) e h x L=optK (aop (.slice q0 q1 q2 q3 q4) (Opd.ev gl e) h) (z0F C gl r d e x L):=z0s rfl
theorem ziO {d:Option Nat} {r:List AOp} {q0:Opd} {q1 q2:Option Opd}:AReg C gl (⟨d,none,(.slstr q0 q1 q2)⟩::r) e h x L=optK (aop (.slstr q0 q1 q2) (Opd.ev gl e) h) (z0F C gl r d e x L):=z0s rfl
theorem ziI {d:Option Nat} {r:List AOp} {q0:Nat} {q1:Sh} {q2:Opd}:AReg C gl (⟨d,none,(.faddr q0 q1 q2)⟩::r) e h x L=optK (aop (.faddr q0 q1 q2) (Opd.ev gl e) h) (z0F C gl r d e x L):=z0s rfl
theorem ziJ {d:Option Nat} {r:List AOp} {q0:Nat} {q1:Sh} {q2:Opd}:AReg C gl (⟨d,none,(.field q0 q1 q2)⟩::r) e h x L=optK (aop (.field q0 q1 q2) (Opd.ev gl e) h) (z0F C gl r d e x L):=z0s rfl
theorem ziK {d:Option Nat} {r:List AOp} {q0:Sh} {q1 q2:Opd}:AReg C gl (⟨d,none,(.iaddr q0 q1 q2)⟩::r) e h x L=optK (aop (.iaddr q0 q1 q2) (Opd.ev gl e) h) (z0F C gl r d e x L):=z0s rfl
theorem zfy {d:Option Nat} {r:List AOp} {q0:Nat} {q1:Sh} {q2 q3:Opd}:AReg C gl (⟨d,none,(.iaddra q0 q1 q2 q3)⟩::r) e h x L=optK (aop (.iaddra q0 q1 q2 q3) (Opd.ev gl e) h) (z0F C gl r d e x L):=z0s rfl
theorem zke {d:Option Nat} {r:List AOp} {q0:Nat} {q1:Sh} {q2 q3:Opd}:AReg C gl (⟨d,none,(.idxa q0 q1 q2 q3)⟩::r) e h x L=optK (aop (.idxa q0 q1 q2 q3) (Opd.ev gl e) h) (z0F C gl r d e x L):=z0s rfl
theorem zkf {d:Option Nat} {r:List AOp} {q0 q1:Opd}:AReg C gl (⟨d,none,(.idxs q0 q1)⟩::r) e h x L=optK (aop (.idxs q0 q1) (Opd.ev gl e) h) (z0F C gl r d e x L):=z0s rfl
theorem zkj {d:Option Nat} {r:List AOp} {kk:Sh × List Nat} {q0:Bool} {q1:AV} {q2 q3:Opd}:AReg C gl (⟨d,none,(.look kk q0 q1 q2 q3)⟩::r) e h x L=optK (aop (.look kk q0 q1 q2 q3) (Opd.ev gl e) h) (z0F C gl r d e x L):=z0s rfl
theorem zkp {d:Option Nat} {r:List AOp} {kk:Sh × List Nat} {q0 q1 q2:Opd}:AReg C gl (⟨d,none,(.mupd kk q0 q1 q2)⟩::r) e h x L=optK (aop (.mupd kk q0 q1 q2) (Opd.ev gl e) h) (z0F C gl r d e x L):=z0s rfl
theorem zkl {d:Option Nat} {r:List AOp} {kk:Sh × List Nat} {q0:AV} {q1 q2:Opd}:AReg C gl (⟨d,none,(.ment kk q0 q1 q2)⟩::r) e h x L=optK (aop (.ment kk q0 q1 q2) (Opd.ev gl e) h) (z0F C gl r d e x L):=z0s rfl
theorem zfx {d:Option Nat} {r:List AOp} {q0 q1 q2:Opd}:AReg C gl (⟨d,none,(.estore q0 q1 q2)⟩::r) e h x L=optK (aop (.estore q0 q1 q2) (Opd.ev gl e) h) (z0F C gl r d e x L):=z0s rfl
theorem zkk {d:Option Nat} {r:List AOp} {kk:Sh × List Nat} {q0 q1:Opd}:AReg C gl (⟨d,none,(.mdel kk q0 q1)⟩::r) e h x L=optK (aop (.mdel kk q0 q1) (Opd.ev gl e) h) (z0F C gl r d e x L):=z0s rfl
theorem ztb {d:Option Nat} {r:List AOp} {q0:Opd} {q1:Nat}:AReg C gl (⟨d,none,(.ext q0 q1)⟩::r) e h x L=optK (aop (.ext q0 q1) (Opd.ev gl e) h) (z0F C gl r d e x L):=z0s rfl
theorem ztc {d:Option Nat} {r:List AOp} {q0:Opd}:AReg C gl (⟨d,none,(.len q0)⟩::r) e h x L=optK (aop (.len q0) (Opd.ev gl e) h) (z0F C gl r d e x L):=z0s rfl
theorem zkh {d:Option Nat} {r:List AOp} {q0:Opd}:AReg C gl (⟨d,none,(.lens q0)⟩::r) e h x L=optK (aop (.lens q0) (Opd.ev gl e) h) (z0F C gl r d e x L):=z0s rfl
theorem zkg {d:Option Nat} {r:List AOp} {q0:Opd}:AReg C gl (⟨d,none,(.lenm q0)⟩::r) e h x L=optK (aop (.lenm q0) (Opd.ev gl e) h) (z0F C gl r d e x L):=z0s rfl
theorem zsW {d:Option Nat} {r:List AOp} {q0:Sh} {q1 q2:Opd}:AReg C gl (⟨d,none,(.app q0 q1 q2)⟩::r) e h x L=optK (aop (.app q0 q1 q2) (Opd.ev gl e) h) (z0F C gl r d e x L):=z0s rfl
theorem zkd {d:Option Nat} {r:List AOp} {q0:Sh} {q1 q2:Opd}:AReg C gl (⟨d,none,(.copy q0 q1 q2)⟩::r) e h x L=optK (aop (.copy q0 q1 q2) (Opd.ev gl e) h) (z0F C gl r d e x L):=z0s rfl
theorem zxx {d:Option Nat} {r:List AOp} {q0:List Opd}:AReg C gl (⟨d,none,(.mx q0)⟩::r) e h x L=optK (aop (.mx q0) (Opd.ev gl e) h) (z0F C gl r d e x L):=z0s rfl
theorem zxv {d:Option Nat} {r:List AOp} {q0:List Opd}:AReg C gl (⟨d,none,(.mn q0)⟩::r) e h x L=optK (aop (.mn q0) (Opd.ev gl e) h) (z0F C gl r d e x L):=z0s rfl
theorem zf0 {d:Option Nat} {r:List AOp} {q0:Opd}:AReg C gl (⟨d,none,(.mrange q0)⟩::r) e h x L=optK (aop (.mrange q0) (Opd.ev gl e) h) (z0F C gl r d e x L):=z0s rfl
theorem zfz {d:Option Nat} {r:List AOp} {q0:Opd}:AReg C gl (⟨d,none,(.mentry q0)⟩::r) e h x L=optK (aop (.mentry q0) (Opd.ev gl e) h) (z0F C gl r d e x L):=z0s rfl
theorem zkq {d:Option Nat} {r:List AOp} {q0:Sh}:AReg C gl (⟨d,none,(.new0 q0)⟩::r) e h x L=optK (aop (.new0 q0) (Opd.ev gl e) h) (z0F C gl r d e x L):=z0s rfl
theorem zc1 {d:Option Nat} {f:Nat} {args:List Opd} {r:List AOp}:AReg C gl (⟨d,none,.call f args⟩::r) e h x L=C f (args.map (Opd.ev gl e)) h (z0F C gl r d e x L):=(rfl)
theorem zks {d:Option Nat} {g:Option (Nat × Bool)} {op:AO} {r:List AOp} (hw:wanted g e=some true):AReg C gl (⟨d,g,op⟩::r) e h x L=AReg C gl (⟨d,none,op⟩::r) e h x L:=by
 rw[AReg,AReg]
 have h2:wanted none e=some true:=(rfl)
 simp only[hw,h2]
theorem zat {d:Option Nat} {g:Option (Nat × Bool)} {op:AO} {r:List AOp} (hw:wanted g e=some false):AReg C gl (⟨d,g,op⟩::r) e h x L=AReg C gl r (put d .skp e) h x L:=by
 rw[AReg]
 simp only[hw]
theorem ziQ {d:Option Nat} {g:Option (Nat × Bool)} {op:AO} {r:List AOp} (hw:wanted g e=none):AReg C gl (⟨d,g,op⟩::r) e h x L=False:=by
 rw[AReg]
 simp only[hw]
theorem zau {d:Option Nat} {t:Nat} {b:Bool} {op:AO} {r:List AOp}:AReg C gl (⟨d,some (t,b),op⟩::r) e h x L=z2H (aget e t) b (AReg C gl (⟨d,none,op⟩::r) e h x L) (AReg C gl r (put d .skp e) h x L):=by
 have key:∀ v,aget e t=v→AReg C gl (⟨d,some (t,b),op⟩::r) e h x L=z2H v b (AReg C gl (⟨d,none,op⟩::r) e h x L) (AReg C gl r (put d .skp e) h x L):=by
  intro v hv
  unfold z2H
  split
  ·rename_i c
   split
   ·rename_i hcb;exact zks (by simp [wanted,hv,hcb])
   ·rename_i hcb;exact zat (by simp [wanted,hv,hcb])
  ·exact zat (by simp [wanted,hv])
  ·rename_i h1 h2
   refine ziQ ?_
   simp only[wanted,hv]
 exact key _ rfl
theorem zqt {v:AV} {h:Heap} {x:Esc} {f:AV→Heap→Esc→Prop}:optK (some (v,h,x)) f=f v h x:=(rfl)
theorem zqs {f:AV→Heap→Esc→Prop}:optK none f=False:=(rfl)
theorem zuA {p:Prop} [Decidable p] {a b:Option (AV × Heap × Esc)} {f:AV→Heap→Esc→Prop}:optK (if p then a else b) f=if p then optK a f else optK b f:=by split <;> rfl
theorem zeN {α:Type} {p:Prop} [Decidable p] {a b:Option α} {g:α→AV × Heap × Esc} {f:AV→Heap→Esc→Prop}:optK (Option.map g (if p then a else b)) f=if p then optK (a.map g) f else optK (b.map g) f:=by split <;> rfl
theorem za3 {t:Bool} {A B:Prop}:z0j (.p (.bool t)) A B=if t=true then A else B:=by cases t <;> simp [z0j]
theorem za4 {A B:Prop}:z0j (.p (.bool true)) A B=A:=(rfl)
theorem z85 {A B:Prop}:z0j (.p (.bool false)) A B=B:=(rfl)
theorem zfu {b:Bool} {A B:Prop}:z2H .skp b A B=B:=(rfl)
theorem zjU {t:Bool} {A B:Prop}:z2H (.p (.bool t)) true A B=if t=true then A else B:=by cases t <;> simp [z2H]
theorem zgm {t:Bool} {A B:Prop}:z2H (.p (.bool t)) false A B=if t=true then B else A:=by cases t <;> simp [z2H]
theorem zfG {v v':AV} {A B:Prop} (hv:v=v'):z0j v A B=z0j v' A B:=by rw[hv]
theorem zgl {v v':AV} {b:Bool} {A B:Prop} (hv:v=v'):z2H v b A B=z2H v' b A B:=by rw[hv]
theorem zj5 {o o':Option (AV × Heap × Esc)} {f:AV→Heap→Esc→Prop} (ho:o=o'):optK o f=optK o' f:=by rw[ho]
theorem ziH {ops:List AOp} {e e':List (Nat × AV)} {h h':Heap} {x x':Esc} (he:e=e') (hh:h=h') (hx:x=x'):AReg C gl ops e h x L=AReg C gl ops e' h' x' L:=by rw[he,hh,hx]
theorem ztf {c:ACode} {s s':St} (hs:s=s'):AW C gl c s K=AW C gl c s' K:=by rw[hs]
theorem zj9 {keep:Option (List Nat)} {e e':List (Nat × AV)} {h h':Heap} {x x':Esc} (he:e=e') (hh:h=h') (hx:x=x'):regK keep K e h x=regK keep K e' h' x':=by rw[he,hh,hx]
theorem zjL {b:ACode} {ex ex':Ex} {s s':St} (he:ex=ex') (hs:s=s'):seqK C gl b K ex s=seqK C gl b K ex' s':=by rw[he,hs]
theorem zda {i:Nat} {ex ex':Ex} {s s':St} (he:ex=ex') (hs:s=s'):zaw i K ex s=zaw i K ex' s':=by rw[he,hs]
theorem zfg {n:Nat} {y:Esc} {ex ex':Ex} {s s':St} (he:ex=ex') (hs:s=s'):zb1 n y K ex s=zb1 n y K ex' s':=by rw[he,hs]
theorem zll {X:Ctx} {f:Nat} {F:AFun} {a:List AV} {h:Heap} {P:Post} (hf:X.fn f=some F) (hd:F.isDet=false):z0c X f a h P=z2E (z0c X) X.gl F a h P:=by
 rw[propext zcz]
 unfold Step
 rw[hf]
 simp only[z5m,hd]
theorem ztm {X:Ctx} {f:Nat} {F:AFun} {a:List AV} {h:Heap} {P:Post} (hf:X.fn f=some F) (hd:F.isDet=true):z0c X f a h P = ∃ v h' x,P v h' x∧z2E (z0c X) X.gl F a h fun v1 h1 x1=>v1=v∧h1=h'∧x1=x:=by
 rw[propext zcz]
 unfold Step
 rw[hf]
 simp only[z5m,hd]
theorem ze3 {A B:AV→Heap→Esc→Prop} (h:∀ v h' x,A v h' x=B v h' x):(∃ v h' x,A v h' x) = ∃ v h' x,B v h' x:=by
 simp only[h]
theorem zcU {F:AFun} {a asv:List AV} {h h1:Heap} {P:Post} (hr:F.byref=false) (hp:z0t h a=some (asv,h1)) (hl:asv.length=F.nparams) :
 z2E C gl F a h P=AW C gl F.body ⟨enter asv,h1,[]⟩ (finK F h.length P):=by
 unfold z2E
 rw[hr]
 simp only[Bool.false_eq_true,if_false,hp,hl,true_and]
 congr 1
theorem zlW {F:AFun} {asv:List AV} {h:Heap} {P:Post} (hr:F.byref=true) (hl:asv.length=F.nparams) :
 z2E C gl F asv h P=AW C gl F.body ⟨enter asv,h,[]⟩ (finK F h.length P):=by
 unfold z2E
 rw[hr]
 simp only[if_true,hl,true_and]
 congr 1
def doK (C:Hd) (gl:Nat→Option PV) (o:AOp) (e:List (Nat × AV)) (h:Heap) (R:AV→Heap→Esc→Prop):Prop:=∃ v h' y,ADo C gl o e h v h' y∧R v h' y
def z1h (C:Hd) (f:Nat) (a:List AV) (h:Heap) (R:AV→Heap→Esc→Prop):Prop:=∃ v h' y,C f a h (fun v1 h1 x1=>v1=v∧h1=h'∧x1=y)∧R v h' y
def ztT (C:Hd) (gl:Nat→Option PV) (o:DOp) (r:List DOp) (dn:Done) (hs:List Heap) (e:List (Nat × AV)) (h:Heap) (x:Esc) (L:List (Nat × AV)→Heap→Esc→Prop) (v:AV) (h':Heap) (y:Esc):Prop:=
 (o.eff=false→h'=h∧y=[])∧(∀ k∈o.early,∃ g,hs[k]?=some g∧ADo C gl o.op (z01 (some o.rd) e) g v g []) ∧
  (∀ j∈o.again,∃ q,dn[j]?=some q∧ADo C gl q.1 q.2.1 h' q.2.2 h' [])∧z1Z C gl r (dn++[(o.op,z01 (some o.rd) e,v)]) (hs++[h]) (put o.op.dst v e) h' (y++x) L
theorem zx0 {ds:List DOp} {keep:Option (List Nat)}:AW C gl (.draw ds keep) ⟨e,h,x⟩ K=z1Z C gl ds [] [] e h x (regK keep K):=(rfl)
theorem zka {dn:Done} {hs:List Heap}:z1Z C gl [] dn hs e h x L=L e h x:=(rfl)
theorem zar {o:DOp} {r:List DOp} {dn:Done} {hs:List Heap}:z1Z C gl (o::r) dn hs e h x L=doK C gl o.op (z01 (some o.rd) e) h (ztT C gl o r dn hs e h x L):=(rfl)
variable {R:AV→Heap→Esc→Prop}
theorem ex3 {v0:AV} {h0:Heap} {y0:Esc}:(∃ v h y,(v=v0∧h=h0∧y=y0)∧R v h y)=R v0 h0 y0:=
 propext ⟨fun ⟨_,_,_,⟨h1,h2,h3⟩,r⟩=>by subst h1;subst h2;subst h3;exact r,fun r=>⟨_,_,_,⟨rfl,rfl,rfl⟩,r⟩⟩
theorem ex3' {v0:AV} {h0:Heap} {y0:Esc}:(∃ v h y,(v0=v∧h0=h∧y0=y)∧R v h y)=R v0 h0 y0:=
 propext ⟨fun ⟨_,_,_,⟨h1,h2,h3⟩,r⟩=>by subst h1;subst h2;subst h3;exact r,fun r=>⟨_,_,_,⟨rfl,rfl,rfl⟩,r⟩⟩
theorem z00 {d:Option Nat} {op:AO} (hp:op.plain=true):doK C gl ⟨d,none,op⟩ e h R=optK (aop op (Opd.ev gl e) h) R:=by
 have key:∀ o:Option (AV × Heap × Esc),(∃ v h' y,o=some (v,h',y)∧R v h' y)=optK o R:=by
  intro o
  cases o with
  | none=>simp [optK]
  | some z=>obtain⟨v,h',y⟩:=z;simp only[Option.some.injEq,Prod.mk.injEq,ex3'];rfl
 rw[← key]
 unfold doK ADo
 cases op <;> first | (cases hp;done) | rfl
theorem zh1 {d:Option Nat} {f:Nat} {args:List Opd}:doK C gl ⟨d,none,.call f args⟩ e h R=z1h C f (args.map (Opd.ev gl e)) h R:=(rfl)
theorem zes {d:Option Nat} {t:Nat} {b:Bool} {op:AO}:doK C gl ⟨d,some (t,b),op⟩ e h R=z2H (aget e t) b (doK C gl ⟨d,none,op⟩ e h R) (R .skp h []):=by
 have h2:wanted none e=some true:=(rfl)
 have key:∀ v,aget e t=v→doK C gl ⟨d,some (t,b),op⟩ e h R=z2H v b (doK C gl ⟨d,none,op⟩ e h R) (R .skp h []):=by
  intro v hv
  unfold z2H
  split
  ·rename_i c
   split
   ·rename_i hcb
    have hw:wanted (some (t,b)) e=some true:=by simp [wanted,hv,hcb]
    unfold doK ADo
    simp only[hw,h2]
   ·rename_i hcb
    have hw:wanted (some (t,b)) e=some false:=by simp [wanted,hv,hcb]
    unfold doK ADo
    simp only[hw,ex3]
  ·have hw:wanted (some (t,b)) e=some false:=by simp [wanted,hv]
   unfold doK ADo
   simp only[hw,ex3]
  ·rename_i h3 h4
   have hw:wanted (some (t,b)) e=none:=by
    simp only[wanted,hv]
   unfold doK ADo
   simp only[hw]
   simp
 exact key _ rfl
theorem doK_mv {d:Option Nat} {q0:Opd}:doK C gl ⟨d,none,(.mv q0)⟩ e h R=optK (aop (.mv q0) (Opd.ev gl e) h) R:=z00 rfl
theorem ztS {d:Option Nat} {q0 q1 q2:Opd}:doK C gl ⟨d,none,(.pick q0 q1 q2)⟩ e h R=optK (aop (.pick q0 q1 q2) (Opd.ev gl e) h) R:=z00 rfl
theorem zna {d:Option Nat} {q0:List AV}:doK C gl ⟨d,none,(.alloc q0)⟩ e h R=optK (aop (.alloc q0) (Opd.ev gl e) h) R:=z00 rfl
theorem zyh {d:Option Nat} {q0:Opd}:doK C gl ⟨d,none,(.box q0)⟩ e h R=optK (aop (.box q0) (Opd.ev gl e) h) R:=z00 rfl
theorem znb {d:Option Nat} {q0:List AV} {q1:List (Nat × Nat × Opd)}:doK C gl ⟨d,none,(.build q0 q1)⟩ e h R=optK (aop (.build q0 q1) (Opd.ev gl e) h) R:=z00 rfl
theorem zyi {d:Option Nat} {q0:Bool} {q1:Sh} {q2:Nat} {q3:PV} {q4:List (Nat × Opd)}:doK C gl ⟨d,none,(.bsl q0 q1 q2 q3 q4)⟩ e h R=optK (aop (.bsl q0 q1 q2 q3 q4) (Opd.ev gl e) h) R:=z00 rfl
theorem ztJ {d:Option Nat} {q0:Sh} {q1:Opd}:doK C gl ⟨d,none,(.load q0 q1)⟩ e h R=optK (aop (.load q0 q1) (Opd.ev gl e) h) R:=z00 rfl
theorem znl {d:Option Nat} {q0:Sh} {q1 q2:Opd}:doK C gl ⟨d,none,(.store q0 q1 q2)⟩ e h R=optK (aop (.store q0 q1 q2) (Opd.ev gl e) h) R:=z00 rfl
theorem zji {d:Option Nat} {q0:Opd}:doK C gl ⟨d,none,(.nilchk q0)⟩ e h R=optK (aop (.nilchk q0) (Opd.ev gl e) h) R:=z00 rfl
theorem zyg {d:Option Nat} {q0:BinOp} {q1 q2:Opd}:doK C gl ⟨d,none,(.bin q0 q1 q2)⟩ e h R=optK (aop (.bin q0 q1 q2) (Opd.ev gl e) h) R:=z00 rfl
theorem zyj {d:Option Nat} {q0:List Nat} {q1:Bool} {q2 q3:Opd}:doK C gl ⟨d,none,(.eqa q0 q1 q2 q3)⟩ e h R=optK (aop (.eqa q0 q1 q2 q3) (Opd.ev gl e) h) R:=z00 rfl
theorem zng {d:Option Nat} {q0:Nat} {q1:Bool} {q2:Opd}:doK C gl ⟨d,none,(.isnil q0 q1 q2)⟩ e h R=optK (aop (.isnil q0 q1 q2) (Opd.ev gl e) h) R:=z00 rfl
theorem ztO {d:Option Nat} {q0:Opd}:doK C gl ⟨d,none,(.mkif q0)⟩ e h R=optK (aop (.mkif q0) (Opd.ev gl e) h) R:=z00 rfl
theorem doK_un {d:Option Nat} {q0:UnOp} {q1:Opd}:doK C gl ⟨d,none,(.un q0 q1)⟩ e h R=optK (aop (.un q0 q1) (Opd.ev gl e) h) R:=z00 rfl
theorem ztD {d:Option Nat} {q0:Cv} {q1:Opd}:doK C gl ⟨d,none,(.conv q0 q1)⟩ e h R=optK (aop (.conv q0 q1) (Opd.ev gl e) h) R:=z00 rfl
theorem ztN {d:Option Nat} {q0:Nat} {q1:List Opd}:doK C gl ⟨d,none,(.mkfn q0 q1)⟩ e h R=optK (aop (.mkfn q0 q1) (Opd.ev gl e) h) R:=z00 rfl
theorem znh {d:Option Nat}  : doK C gl ⟨d,none,.mkmap⟩ e h R=optK (aop .mkmap (Opd.ev gl e) h) R:=z00 rfl
theorem ztP {d:Option Nat} {q0:Sh} {q1:PV} {q2 q3:Opd}:doK C gl ⟨d,none,(.mksl q0 q1 q2 q3)⟩ e h R=optK (aop (.mksl q0 q1 q2 q3) (Opd.ev gl e) h) R:=z00 rfl
theorem zni {d:Option Nat} {q0:Sh} {q1:Opd} {q2 q3 q4:Option Opd}:doK C gl ⟨d,none,(.slice q0 q1 q2 q3 q4)⟩ e h R=optK (aop (.slice q0 q1 q2 q3 q4) (Opd.ev gl e) h) R:=z00 rfl
theorem znj {d:Option Nat} {q0:Opd} {q1 q2:Option Opd}:doK C gl ⟨d,none,(.slstr q0 q1 q2)⟩ e h R=optK (aop (.slstr q0 q1 q2) (Opd.ev gl e) h) R:=z00 rfl
theorem znd {d:Option Nat} {q0:Nat} {q1:Sh} {q2:Opd}:doK C gl ⟨d,none,(.faddr q0 q1 q2)⟩ e h R=optK (aop (.faddr q0 q1 q2) (Opd.ev gl e) h) R:=z00 rfl
theorem zne {d:Option Nat} {q0:Nat} {q1:Sh} {q2:Opd}:doK C gl ⟨d,none,(.field q0 q1 q2)⟩ e h R=optK (aop (.field q0 q1 q2) (Opd.ev gl e) h) R:=z00 rfl
theorem znf {d:Option Nat} {q0:Sh} {q1 q2:Opd}:doK C gl ⟨d,none,(.iaddr q0 q1 q2)⟩ e h R=optK (aop (.iaddr q0 q1 q2) (Opd.ev gl e) h) R:=z00 rfl
theorem zjf {d:Option Nat} {q0:Nat} {q1:Sh} {q2 q3:Opd}:doK C gl ⟨d,none,(.iaddra q0 q1 q2 q3)⟩ e h R=optK (aop (.iaddra q0 q1 q2 q3) (Opd.ev gl e) h) R:=z00 rfl
theorem ztF {d:Option Nat} {q0:Nat} {q1:Sh} {q2 q3:Opd}:doK C gl ⟨d,none,(.idxa q0 q1 q2 q3)⟩ e h R=optK (aop (.idxa q0 q1 q2 q3) (Opd.ev gl e) h) R:=z00 rfl
theorem ztG {d:Option Nat} {q0 q1:Opd}:doK C gl ⟨d,none,(.idxs q0 q1)⟩ e h R=optK (aop (.idxs q0 q1) (Opd.ev gl e) h) R:=z00 rfl
theorem ztK {d:Option Nat} {kk:Sh × List Nat} {q0:Bool} {q1:AV} {q2 q3:Opd}:doK C gl ⟨d,none,(.look kk q0 q1 q2 q3)⟩ e h R=optK (aop (.look kk q0 q1 q2 q3) (Opd.ev gl e) h) R:=z00 rfl
theorem ztQ {d:Option Nat} {kk:Sh × List Nat} {q0 q1 q2:Opd}:doK C gl ⟨d,none,(.mupd kk q0 q1 q2)⟩ e h R=optK (aop (.mupd kk q0 q1 q2) (Opd.ev gl e) h) R:=z00 rfl
theorem ztM {d:Option Nat} {kk:Sh × List Nat} {q0:AV} {q1 q2:Opd}:doK C gl ⟨d,none,(.ment kk q0 q1 q2)⟩ e h R=optK (aop (.ment kk q0 q1 q2) (Opd.ev gl e) h) R:=z00 rfl
theorem zje {d:Option Nat} {q0 q1 q2:Opd}:doK C gl ⟨d,none,(.estore q0 q1 q2)⟩ e h R=optK (aop (.estore q0 q1 q2) (Opd.ev gl e) h) R:=z00 rfl
theorem ztL {d:Option Nat} {kk:Sh × List Nat} {q0 q1:Opd}:doK C gl ⟨d,none,(.mdel kk q0 q1)⟩ e h R=optK (aop (.mdel kk q0 q1) (Opd.ev gl e) h) R:=z00 rfl
theorem zyk {d:Option Nat} {q0:Opd} {q1:Nat}:doK C gl ⟨d,none,(.ext q0 q1)⟩ e h R=optK (aop (.ext q0 q1) (Opd.ev gl e) h) R:=z00 rfl
theorem zyl {d:Option Nat} {q0:Opd}:doK C gl ⟨d,none,(.len q0)⟩ e h R=optK (aop (.len q0) (Opd.ev gl e) h) R:=z00 rfl
theorem ztI {d:Option Nat} {q0:Opd}:doK C gl ⟨d,none,(.lens q0)⟩ e h R=optK (aop (.lens q0) (Opd.ev gl e) h) R:=z00 rfl
theorem ztH {d:Option Nat} {q0:Opd}:doK C gl ⟨d,none,(.lenm q0)⟩ e h R=optK (aop (.lenm q0) (Opd.ev gl e) h) R:=z00 rfl
theorem zyf {d:Option Nat} {q0:Sh} {q1 q2:Opd}:doK C gl ⟨d,none,(.app q0 q1 q2)⟩ e h R=optK (aop (.app q0 q1 q2) (Opd.ev gl e) h) R:=z00 rfl
theorem ztE {d:Option Nat} {q0:Sh} {q1 q2:Opd}:doK C gl ⟨d,none,(.copy q0 q1 q2)⟩ e h R=optK (aop (.copy q0 q1 q2) (Opd.ev gl e) h) R:=z00 rfl
theorem doK_mx {d:Option Nat} {q0:List Opd}:doK C gl ⟨d,none,(.mx q0)⟩ e h R=optK (aop (.mx q0) (Opd.ev gl e) h) R:=z00 rfl
theorem doK_mn {d:Option Nat} {q0:List Opd}:doK C gl ⟨d,none,(.mn q0)⟩ e h R=optK (aop (.mn q0) (Opd.ev gl e) h) R:=z00 rfl
theorem zjh {d:Option Nat} {q0:Opd}:doK C gl ⟨d,none,(.mrange q0)⟩ e h R=optK (aop (.mrange q0) (Opd.ev gl e) h) R:=z00 rfl
theorem zjg {d:Option Nat} {q0:Opd}:doK C gl ⟨d,none,(.mentry q0)⟩ e h R=optK (aop (.mentry q0) (Opd.ev gl e) h) R:=z00 rfl
theorem ztR {d:Option Nat} {q0:Sh}:doK C gl ⟨d,none,(.new0 q0)⟩ e h R=optK (aop (.new0 q0) (Opd.ev gl e) h) R:=z00 rfl
theorem znc {o:AOp} {e e':List (Nat × AV)} {h h':Heap} (he:e=e') (hh:h=h'):doK C gl o e h R=doK C gl o e' h' R:=by rw[he,hh]
theorem zfB {f:Nat} {a a':List AV} {h h':Heap} (ha:a=a') (hh:h=h'):z1h C f a h R=z1h C f a' h' R:=by rw[ha,hh]
theorem zfv {X:Ctx} {f:Nat} {a a':List AV} {h h':Heap} {K:Post} (ha:a=a') (hh:h=h'):z0c X f a h K=z0c X f a' h' K:=by rw[ha,hh]
theorem zfw {ds:List DOp} {dn dn':Done} {hs hs':List Heap} {e e':List (Nat × AV)} {h h':Heap} {x x':Esc} (hd:dn=dn') (hh:hs=hs') (he:e=e') (hhh:h=h') (hx:x=x'):z1Z C gl ds dn hs e h x L=z1Z C gl ds dn' hs' e' h' x' L:=by rw[hd,hh,he,hhh,hx]
theorem ztU {o:DOp} {r:List DOp} {dn:Done} {hs:List Heap} {v:AV} {h':Heap} {y:Esc}:ztT C gl o r dn hs e h x L v h' y=((o.eff=false→h'=h∧y=[])∧(∀ k∈o.early,∃ g,hs[k]?=some g∧ADo C gl o.op (z01 (some o.rd) e) g v g []) ∧
 (∀ j∈o.again,∃ q,dn[j]?=some q∧ADo C gl q.1 q.2.1 h' q.2.2 h' [])∧z1Z C gl r (dn++[(o.op,z01 (some o.rd) e,v)]) (hs++[h]) (put o.op.dst v e) h' (y++x) L):=(rfl)
end Go.Am
end
section
/- The abstract machine,part 25: from a call that ends well here tov the model's call on a whole world. -/
set_option linter.unusedSimpArgs false
set_option linter.unusedVariables false
namespace Go.Am
variable {P:Program}
theorem zum (W:World):HeapRel [] [] W:=⟨rfl,fun id o m h=>by simp at h,fun i j b n n' h=>by simp at h,fun i b n h=>by simp at h⟩
theorem zhU {W:World} {b:Nat} {o:Go.Obj} (hb:W.heap[b]?=some o):(imm [] [] W).b b=some o:=z4e.2 ⟨fun ⟨id,n,h⟩=>by simp at h,hb⟩
theorem zeB {W:World} {b o:Nat} {v:Value} (hb:W.cell? ⟨b,o,none⟩=some v):(imm [] [] W).c b o=some v:=z0Y.2 ⟨fun ⟨id,n,h,_⟩=>by simp at h,hb⟩
theorem ztv {W W':World} {h:Heap} {μ:Mu} (E:(imm [] [] W).le (imm h μ W')):RowKit.Below W.heap.size W W':=by
 have hz:zed W'=zed W:=Option.some.inj E.z
 have hb:∀ b,b<W.heap.size→W'.heap[b]?=W.heap[b]?:=fun b hb=>by
  have h1:=Array.getElem?_eq_getElem hb
  rw[h1]
  exact (z4e.1 (E.b b _ (zhU h1))).2
 refine⟨(congrArg World.os hz:(zed W').os=(zed W).os),(congrArg World.tape hz:(zed W').tape=(zed W).tape),(congrArg World.output hz:(zed W').output=(zed W).output),?_,hb⟩
 rcases Nat.eq_zero_or_pos W.heap.size with h0 | h0
 ·omega
 ·have h1:=hb (W.heap.size-1) (by omega)
  rw[Array.getElem?_eq_getElem (show W.heap.size-1<W.heap.size by omega)] at h1
  have:=(Array.getElem?_eq_some_iff.1 h1).1
  omega
theorem zfC {X:Ctx} (HX:Fits P X) {f:Nat} {F:AFun} (hF:X.fn f=some F) (args:Array Value) (w:World):(callFunc f args).run P w = .ok (.enter f args) w:=by
 have hck:=HX.fn f F hF
 unfold zms at hck
 split at hck
 ·rename_i fn hfn
  split at hck
  ·rename_i c hb
   simp only[Bool.and_eq_true,bne_iff_ne,ne_eq] at hck
   exact zh5 hfn hb hck.2 _ w
  ·cases hck
 ·cases hck
theorem zgU {X:Ctx} (HX:Fits P X) {f:Nat} {F:AFun} (hF:X.fn f=some F) {asv:List AV} {K:Post} (H:z0c X f asv [] K) {W:World} {vs:List Value} (hG:GInv X.gl (imm [] [] W)) (hl:asv.length=vs.length)
 (hr:∀ (j:Nat) (y:AV) (v:Value),asv[j]?=some y→vs[j]?=some v→RAV (imm [] [] W) [] [] y v) :
 Calls P f vs.toArray W fun
  | .returned r,W'=>(∃ v h x μ,K v h x∧RAV (imm h μ W') h μ v r)∧RowKit.Below W.heap.size W W'
  | _,_=>False:=by
 rcases zaz HX H [] W vs (zum W) hG hl hr with ⟨_,q⟩ | ⟨r,w',_,_,_,_,q,_⟩
 case inr=>rw[zfC HX hF] at q;cases q
 refine q.mono fun e W' he=>?_
 cases e with
 | returned r=>
  obtain⟨v,h',x,μ',k1,k2,k3,k4,k5⟩:=he
  exact⟨⟨v,h',x,μ',k1,k2⟩,ztv k4.le⟩
 | panicked _=>exact he
 | outgrown=>exact he
def zuC (zs:List Int):AV:=.p (.sl none (zs.map fun n=>.int .i64 n))
theorem zt0 (W:World):RAV (imm [] [] W) [] [] (zuC []) (.slice none 0 0):=.p _ _ (.nils _ _ _)
theorem zmp {W:World} {a:Addr} {len cap:Nat} {zs:List Int} (hs:a.spot=none) (hl:len≤cap) (hz:len≤zs.length) (hc:∀ i,i<zs.length→W.cell? (a.add i)=some (.int .i64 (zs.getD i 0))) :
 RAV (imm [] [] W) [] [] (zuC (zs.take len)) (.slice (some a) len cap):=by
 obtain⟨b,o,s⟩:=a
 simp only at hs
 subst hs
 refine .p _ _ ?_
 have hlen:((zs.take len).map fun n=>PV.int .i64 n).length=len:=by simp [hz]
 have hfl:((zs.take len).map fun n=>PV.int .i64 n).flatMap PV.cells=(zs.take len).map fun n=>PV.int .i64 n:=by
  generalize zs.take len=l
  induction l with
  | nil=>rfl
  | cons n r ih=>simp only[List.map_cons,List.flatMap_cons,ih];rfl
 by_cases h0:len=0
 ·subst h0
  simp
  exact .nils _ _ _
 ·have key:=RPV.sl (M:=imm [] [] W) none ((zs.take len).map fun n=>PV.int .i64 n) b o cap (fun j=>.int .i64 (zs.getD j 0)) (fun hh=>by rw[hh] at hlen;simp at hlen;omega) (by rw[hlen];exact hl)
   (fun x hx=>by obtain⟨n,_,rfl⟩:=List.mem_map.1 hx;rfl)
   (fun j y hy=>by
    rw[hfl] at hy
    have hj:j<len:=by have:=z0f hy;rw[hlen] at this;exact this
    have:=hc j (by omega)
    rw[z1m] at this
    exact zeB this)
   (fun j y hy=>by
    rw[hfl] at hy
    have hj:j<len:=by have:=z0f hy;rw[hlen] at this;exact this
    have hjz:j<zs.length:=by omega
    simp [List.getElem?_take,hj,hjz] at hy
    subst hy
    have:zs.getD j 0=zs[j]:=by simp [List.getD,hjz]
    rw[this]
    exact .int _ _)
  rwa [hlen] at key
end Go.Am
end
