/- Texts of the proof, laid together: Am16, Am17, Am18, AmM, AmN, AmA, AmU. -/
import Derived.Laws.IdiomStrings
import Derived.Laws.Runes
import Derived.MapKept
import Derived.Lib.UnsafeStr
import Derived.Lib.Builder
import Derived.Laws.Externs
import GoSem.Extern.Table
import Derived.Test.YtojjldhoodnjiaaGreatDoorlawPB1
set_option linter.all false
section
/- The abstract machine,part 16: small operations. -/
set_option linter.unusedSimpArgs false
set_option linter.unusedVariables false
set_option maxHeartbeats 1000000
namespace Go.Am
variable {h h':Heap} {μ μ':Mu} {w w':World} {P:Program} {M M':Mem}
theorem bin_ok {op:BinOp} {t:TypeId} {a b:Operand} {ev:Opd→AV} {p q:Opd} {x y:Value} {v:AV} {h1:Heap} {e:Esc} (H:HeapRel h μ w) (Rp:RAV (imm h μ w) h μ (ev p) x) (Rq:RAV (imm h μ w) h μ (ev q) y)
 (he:aop (.bin op p q) ev h=some (v,h1,e)):OpOk P (do pure (.value (← (do eqGuard op t a b x y;binOp op t x y)))) h μ w v h1 e:=by
 simp only[aop] at he
 split at he
 ·rename_i c d hp hq
  simp only[Option.map_eq_some_iff,Prod.mk.injEq] at he
  obtain⟨r,hr,rfl,rfl,rfl⟩:=he
  rw[hp] at Rp;rw[hq] at Rq
  obtain⟨u,hu,hR⟩:=zjl (w:=w) (P:=P) (t:=t) Rp.p_inv Rq.p_inv hr
  obtain⟨n1,n2⟩:=zfI Rp.p_inv hr
  refine OpOk.pure H (z0r ?_) (.p _ _ hR)
  rw[Sem.run_bind,z5W n1 (.inl n2)]
  exact hu
 ·cases he
theorem un_ok {op:UnOp} {ev:Opd→AV} {p:Opd} {x:Value} {v:AV} {h1:Heap} {e:Esc} (H:HeapRel h μ w) (Rp:RAV (imm h μ w) h μ (ev p) x)
 (he:aop (.un op p) ev h=some (v,h1,e)):OpOk P (do pure (.value (← Op.unary op x))) h μ w v h1 e:=by
 simp only[aop] at he
 split at he
 ·rename_i c hp
  simp only[Option.map_eq_some_iff,Prod.mk.injEq] at he
  obtain⟨r,hr,rfl,rfl,rfl⟩:=he
  rw[hp] at Rp
  obtain⟨u,hu,hR⟩:=zm8 (w:=w) (P:=P) Rp.p_inv hr
  exact OpOk.pure H (z0r hu) (.p _ _ hR)
 ·cases he
theorem mv_ok {ev:Opd→AV} {p:Opd} {x:Value} {v:AV} {h1:Heap} {e:Esc} (H:HeapRel h μ w) (Rp:RAV (imm h μ w) h μ (ev p) x)
 (he:aop (.mv p) ev h=some (v,h1,e)):OpOk P (pure (.value x)) h μ w v h1 e:=by
 simp only[aop,Option.some.injEq,Prod.mk.injEq] at he
 obtain⟨rfl,rfl,rfl⟩:=he
 exact OpOk.pure H rfl Rp
theorem y0u {ev:Opd→AV} {c p q:Opd} {z x y:Value} {v:AV} {h1:Heap} {e:Esc} (H:HeapRel h μ w) (Rc:RAV (imm h μ w) h μ (ev c) z) (Rp:RAV (imm h μ w) h μ (ev p) x) (Rq:RAV (imm h μ w) h μ (ev q) y)
 (he:aop (.pick c p q) ev h=some (v,h1,e)):OpOk P (do pure (.value (if ← asBool z then x else y))) h μ w v h1 e:=by
 simp only[aop] at he
 split at he
 ·rename_i t hc
  rw[hc] at Rc
  rw[Rc.p_bool]
  simp only[Option.some.injEq,Prod.mk.injEq] at he
  obtain⟨rfl,rfl,rfl⟩:=he
  cases t
  ·exact OpOk.pure H (u:=y) (by simp [asBool]) Rq
  ·exact OpOk.pure H (u:=x) (by simp [asBool]) Rp
 ·cases he
theorem zqH {sh:Sh} {ev:Opd→AV} {a:Option Addr} {v:AV} {h1:Heap} {e:Esc} (H:HeapRel h μ w) (he:aop (.new0 sh) ev h=some (v,h1,e)):OpOk P (pure (.value (.slice a 0 0))) h μ w v h1 e:=by
 simp only[aop,Option.some.injEq,Prod.mk.injEq] at he
 obtain⟨rfl,rfl,rfl⟩:=he
 obtain⟨n1,n2⟩:=zaV H sh
 refine⟨_,_,_,rfl,.inl ⟨_,rfl,?_⟩,n1,n2,z0k.push (by simp [Obj.top])⟩
 exact .own h.length 0 0 0 _ 0 sh [] 0 none (Nat.le_refl _) (by simp) (by rw[← H.len];simp) (by simp) (by simp) (fun _=>rfl)
theorem zqK {ev:Opd→AV} {p:Opd} {x:Value} {v:AV} {h1:Heap} {e:Esc} (H:HeapRel h μ w) (Rp:RAV (imm h μ w) h μ (ev p) x)
 (he:aop (.nilchk p) ev h=some (v,h1,e)) {a:Operand} {ρ:Operand→Value} {o:Oper} (hx:ρ a=x) (ho:o.op = .nilCheck a):OpOk P (execOp ρ o) h μ w v h1 e:=by
 simp only[aop] at he
 have key:∀ y:Value,y=x→(execOp ρ o).run P w = .ok (.value y) w→ev p=v→OpOk P (execOp ρ o) h μ w v h []:=by
  intro y hy hr hv
  subst hy
  exact OpOk.pure H hr (hv ▸ Rp)
 have hpt:∀ b,x = .pointer (some b)→(execOp ρ o).run P w = .ok (.value x) w:=by
  intro b hb
  unfold execOp
  rw[ho]
  simp only[hx,hb]
  rfl
 split at he
 ·rename_i id off hp
  simp only[Option.some.injEq,Prod.mk.injEq] at he
  obtain⟨hv,rfl,rfl⟩:=he
  refine key x rfl ?_ hv
  rw[hp] at Rp
  cases Rp;exact hpt _ rfl
 ·rename_i id g i off hp
  simp only[Option.some.injEq,Prod.mk.injEq] at he
  obtain⟨hv,rfl,rfl⟩:=he
  refine key x rfl ?_ hv
  rw[hp] at Rp
  cases Rp;exact hpt _ rfl
 ·rename_i u hp
  simp only[Option.some.injEq,Prod.mk.injEq] at he
  obtain⟨hv,rfl,rfl⟩:=he
  refine key x rfl ?_ hv
  rw[hp] at Rp
  cases Rp;exact hpt _ rfl
 ·rename_i f cs hp
  simp only[Option.some.injEq,Prod.mk.injEq] at he
  obtain⟨hv,rfl,rfl⟩:=he
  refine key x rfl ?_ hv
  rw[hp] at Rp
  cases Rp
  unfold execOp
  rw[ho]
  simp only[hx]
  rfl
 ·rename_i k tt id g hp
  simp only[Option.map_eq_some_iff,Prod.mk.injEq] at he
  obtain⟨u,hu,rfl,rfl,rfl⟩:=he
  unfold nlA at hu
  cases hk:Nat.beq k 4 with
  | false=>rw[hk] at hu;cases hu
  | true=>
   rw[hk] at hu
   have hk:=Nat.eq_of_beq_eq_true hk
   subst hk
   simp only[cond_true,Option.some.injEq] at hu
   refine key x rfl ?_ hu
   rw[hp] at Rp
   cases Rp;exact hpt _ rfl
 ·cases he
def zgf (P:Program) (t:TypeId):Nat:=match P.underlying t with
 | some (.int _)=>0
 | some .bool=>1
 | some .string=>2
 | _=>3
def z9V (P:Program) (f:TypeId→List Nat→Option (List Nat)):Nat→List Field→List Nat→Option (List Nat)
 | _,[],ks=>some ks
 | i,fl::r,ks=>if fl.name ≠ "_" ∧ fl.offset=i then match shOf P fl.type with
  | some sh=>match f fl.type ks with
   | some ks'=>if ks'.length+z0a sh=ks.length then z9V P f (i+z0a sh) r ks' else none
   | none=>none
  | none=>none
  else none
def z50 (P:Program):Nat→TypeId→List Nat→Option (List Nat)
 | 0,_,_=>none
 | d+1,t,ks=>match P.underlying t with
  | some (.struct fs)=>if P.stoodInHeld t=true then none else z9V P (z50 P d) 0 fs.toList ks
  | _=>match ks with
   | k::r=>if zgf P t=k∧k<3 then some r else none
   | []=>none
def zgU (P:Program) (t:TypeId) (ks:List Nat):Bool:=match ks with
 | []=>match P.underlying t with | some .bool=>true | _=>false
 | _=>match P.underlying t with
  | some (.struct _)=>!P.eqGuardType P.depth t&&z50 P 20 t ks==some []
  | _=>false
theorem z5q {d:Nat} {t:TypeId} {a b:PV} {x y:Value} {r:Bool} (h1:zgf P t=a.kind) (h2:a.kind<3) (Ra:RPV M a x) (Rb:RPV M b y) (he:PV.eq1 a b=some r):(Op.equalIn (d+1) t x y).run P w = .ok r w:=by
 unfold PV.eq1 at he
 unfold zgf at h1
 split at he
 ·split at he
  ·rename_i k m k' n hkk
   subst hkk
   simp at he
   subst he
   cases Ra;cases Rb
   split at h1
   ·rename_i kk hu
    simp [Op.equalIn,z0b hu,z2n]
   all_goals simp [PV.kind] at h1
  ·cases he
 ·rename_i s s'
  simp at he
  subst he
  cases Ra;cases Rb
  split at h1
  ·simp [PV.kind] at h1
  ·rename_i hu
   simp [Op.equalIn,z0b hu,z2n]
  ·simp [PV.kind] at h1
  ·simp [PV.kind] at h1
 ·rename_i s s'
  simp at he
  subst he
  cases Ra;cases Rb
  split at h1
  ·simp [PV.kind] at h1
  ·simp [PV.kind] at h1
  ·rename_i hu
   simp [Op.equalIn,z0b hu,Go.beq_toListBytes,Go.ByteArray.toList_mk,z2n]
  ·simp [PV.kind] at h1
 ·cases he
theorem ze6:∀ {a1 b1 a2 b2:List PV} {r:Bool},a1.length=b1.length→eqs (a1++a2) (b1++b2)=some r→∃ r1 r2,eqs a1 b1=some r1∧eqs a2 b2=some r2∧r=(r1&&r2)
 | [],[],a2,b2,r,_,h=>⟨true,r,rfl,h,by simp⟩
 | [],_::_,_,_,_,h,_=>by simp at h
 | _::_,[],_,_,_,h,_=>by simp at h
 | a::a1,b::b1,a2,b2,r,hl,h=>by
  simp only[List.cons_append,eqs] at h
  split at h
  ·rename_i q hq
   simp only[Option.map_eq_some_iff] at h
   obtain⟨r',h1,rfl⟩:=h
   obtain⟨r1,r2,h2,h3,rfl⟩:=ze6 (by simpa using hl) h1
   exact⟨q&&r1,r2,by simp [eqs,hq,h2],h3,by cases q <;> simp⟩
  ·cases h
theorem z6e {f:TypeId→List Nat→Option (List Nat)} (hf:∀ t ks rest,f t ks=some rest→∃ pre,ks=pre++rest):∀ {fs:List Field} {i:Nat} {ks rest:List Nat},z9V P f i fs ks=some rest→∃ pre,ks=pre++rest
 | [],i,ks,rest,h=>by simp [z9V] at h;exact⟨[],by simp [h]⟩
 | fl::r,i,ks,rest,h=>by
  simp only[z9V] at h
  split at h
  ·split at h
   ·split at h
    ·rename_i ks' hk
     split at h
     ·obtain⟨p1,h1⟩:=hf _ _ _ hk
      obtain⟨p2,h2⟩:=z6e hf h
      exact⟨p1++p2,by rw[h1,h2,List.append_assoc]⟩
     ·cases h
    ·cases h
   ·cases h
  ·cases h
theorem z4P:∀ (d:Nat) (t:TypeId) (ks rest:List Nat),z50 P d t ks=some rest→∃ pre,ks=pre++rest
 | 0,t,ks,rest,h=>by simp [z50] at h
 | d+1,t,ks,rest,h=>by
  simp only[z50] at h
  split at h
  ·split at h
   ·cases h
   ·exact z6e (z4P d) h
  ·split at h
   ·rename_i k r
    split at h
    ·injection h with h;subst h;exact⟨[k],rfl⟩
    ·cases h
   ·cases h
def Cs (M:Mem) (asv:List PV) (xs:List Value) (off:Nat):Prop:=off+asv.length≤xs.length∧∀ (j:Nat) (a:PV) (v:Value),asv[j]?=some a→xs[off+j]?=some v→RPV M a v
def EqAt (P:Program) (w:World) (M:Mem) (d:Nat) (t:TypeId):Prop:=∀ (m:Nat) (ks rest:List Nat) (sh:Sh) (xs ys:List Value) (off:Nat) (asv bs:List PV) (r:Bool),z50 P d t ks=some rest→shOf P t=some sh→ks=asv.map PV.kind++rest→asv.map PV.kind=bs.map PV.kind→asv.length=z0a sh →
 Cs M asv xs off→Cs M bs ys off→eqs asv bs=some r→(Op.equalIn (m+d) t (z4J sh fun j=>(xs[off+j]?).getD undef) (z4J sh fun j=>(ys[off+j]?).getD undef)).run P w = .ok r w
theorem zzB {d:Nat} (IH:∀ t,EqAt P w M d t) {m:Nat} {xs ys:List Value}:∀ {fs:List Field} {i:Nat} {ks rest:List Nat} {asv bs:List PV} {r:Bool},z9V P (z50 P d) i fs ks=some rest→ks=asv.map PV.kind++rest→asv.map PV.kind=bs.map PV.kind →
 Cs M asv xs i→Cs M bs ys i→eqs asv bs=some r→(Op.eqFields (m+d) xs.toArray ys.toArray fs).run P w = .ok r w
 | [],i,ks,rest,asv,bs,r,h,hk,hab,hA,hB,he=>by
  simp only[z9V,Option.some.injEq] at h
  subst h
  have h0:asv=[]:=by
   have:=congrArg List.length hk
   simp at this
   exact this
  subst h0
  have h1:bs=[]:=by simpa using hab.symm
  subst h1
  simp [eqs] at he
  subst he
  simp [Op.eqFields]
 | fl::fs,i,ks,rest,asv,bs,r,h,hk,hab,hA,hB,he=>by
  simp only[z9V] at h
  split at h
  ·rename_i hfl
   split at h
   ·rename_i sh hsh
    split at h
    ·rename_i ks' hk'
     split at h
     ·rename_i hlen
      obtain⟨pre,h1⟩:=z4P _ _ _ _ hk'
      obtain⟨pre2,h2⟩:=z6e (z4P d) h
      have hpre:pre.length=z0a sh:=by rw[h1] at hlen;simp at hlen;omega
      have hkk:asv.map PV.kind=pre++pre2:=by
       rw[h1,h2,← List.append_assoc] at hk
       exact (List.append_cancel_right hk).symm
      have hla:asv.length=pre.length+pre2.length:=by have:=congrArg List.length hkk;simpa using this
      have hlb:asv.length=bs.length:=by have:=congrArg List.length hab;simpa using this
      obtain⟨a1,a2,rfl,ha1⟩:∃ a1 a2,asv=a1++a2∧a1.length=pre.length:=⟨asv.take pre.length,asv.drop pre.length,by simp,by simp;omega⟩
      obtain⟨b1,b2,rfl,hb1⟩:∃ b1 b2,bs=b1++b2∧b1.length=pre.length:=⟨bs.take pre.length,bs.drop pre.length,by simp,by simp;omega⟩
      rw[List.map_append] at hkk
      obtain⟨m1,m2⟩:=List.append_inj hkk (by simpa using ha1)
      rw[List.map_append,List.map_append] at hab
      obtain⟨n1,n2⟩:=List.append_inj hab (by simp;omega)
      obtain⟨r1,r2,q1,q2,rfl⟩:=ze6 (by omega) he
      have cA1:Cs M a1 xs i:=⟨by have:=hA.1;simp at this;omega,fun j a v hj hv=>hA.2 j a v (z2u hj) hv⟩
      have cB1:Cs M b1 ys i:=⟨by have:=hB.1;simp at this;omega,fun j a v hj hv=>hB.2 j a v (z2u hj) hv⟩
      have cA2:Cs M a2 xs (i+z0a sh):=⟨by have:=hA.1;simp at this;omega,fun j a v hj hv=>hA.2 (a1.length+j) a v (by rw[List.getElem?_append_right (by omega)];simpa using hj) (by rw[← hv];congr 1;omega)⟩
      have cB2:Cs M b2 ys (i+z0a sh):=⟨by have:=hB.1;simp at this;omega,fun j a v hj hv=>hB.2 (b1.length+j) a v (by rw[List.getElem?_append_right (by omega)];simpa using hj) (by rw[← hv];congr 1;omega)⟩
      have p1:=z6L (P:=P) (w:=w) (t:=fl.type) hsh (vs:=xs) (off:=i) (by have:=cA1.1;omega)
      have p2:=z6L (P:=P) (w:=w) (t:=fl.type) hsh (vs:=ys) (off:=i) (by have:=cB1.1;omega)
      have hh:=IH fl.type m ks ks' sh xs ys i a1 b1 r1 hk' hsh (by rw[h1,m1]) n1 (by omega) cA1 cB1 q1
      have ih:=zzB IH (m:=m) h (by rw[h2,m2]) n2 cA2 cB2 q2
      simp only[Op.eqFields,hfl.1,ne_eq,not_false_eq_true,if_true,Sem.run_bind,hfl.2,p1,p2,Result.andThen_ok,hh]
      cases r1
      ·simp
      ·simp [ih]
     ·cases h
    ·cases h
   ·cases h
  ·cases h
theorem y1i:∀ (d:Nat) (t:TypeId),EqAt P w M d t
 | 0,t=>fun m ks rest sh xs ys off asv bs r h=>by simp [z50] at h
 | d+1,t=>fun m ks rest sh xs ys off asv bs r h hsh hk hab hla hA hB he=>by
  have hlb:asv.length=bs.length:=by have:=congrArg List.length hab;simpa using this
  simp only[z50] at h
  split at h
  ·rename_i fs hu
   split at h
   ·cases h
   ·rename_i hst
    have hst:P.stoodInHeld t=false:=by simpa using hst
    have hsn:∃ n,sh=some n:=by
     unfold shOf at hsh
     rw[hu] at hsh
     cases hi:P.info? t with
     | none=>rw[hi] at hsh;simp at hsh
     | some i=>rw[hi] at hsh;simp at hsh;exact⟨_,hsh.symm⟩
    obtain⟨n,rfl⟩:=hsn
    have hfo:P.fieldsOf t=fs:=by simp [Program.fieldsOf,hu]
    show (Op.equalIn (m+d+1) t (.agg _) (.agg _)).run P w=_
    rw[run_equalIn_struct w (m+d) t _ _ (by rw[hfo];exact hu) hst,hfo]
    simp only[z0a] at hla
    exact zzB (y1i d) h hk hab ⟨by simp;omega,fun j a v hj hv=>by
     have hjn:j<n:=by rw[← hla];exact z0g hj
     have hlt:off+j<xs.length:=by have:=hA.1;omega
     simp [hjn,hlt] at hv
     exact hA.2 j a v hj (by rw[← hv];simp [hlt])⟩ ⟨by simp;omega,fun j a v hj hv=>by
     have hjn:j<n:=by rw[← hla,hlb];exact z0g hj
     have hlt:off+j<ys.length:=by have:=hB.1;omega
     simp [hjn,hlt] at hv
     exact hB.2 j a v hj (by rw[← hv];simp [hlt])⟩ he
  ·split at h
   ·rename_i k r'
    split at h
    ·rename_i hkk
     injection h with h
     subst h
     have hsn:sh=none:=by
      obtain⟨h1,h2⟩:=hkk
      unfold shOf at hsh
      unfold zgf at h1
      split at h1
      ·rename_i hu;rw[hu] at hsh;split at hsh <;> simp_all
      ·rename_i hu;rw[hu] at hsh;split at hsh <;> simp_all
      ·rename_i hu;rw[hu] at hsh;split at hsh <;> simp_all
      ·omega
     subst hsn
     simp only[z0a] at hla
     obtain⟨a,rfl⟩:=List.length_eq_one_iff.1 hla
     obtain⟨b,rfl⟩:=List.length_eq_one_iff.1 (hlb.symm.trans hla)
     simp only[List.map_cons,List.map_nil,List.cons_append,List.nil_append,List.cons.injEq,and_true] at hk hab
     have hxl:off<xs.length:=by have:=hA.1;simp at this;omega
     have hyl:off<ys.length:=by have:=hB.1;simp at this;omega
     have heq:PV.eq1 a b=some r:=by
      simp only[eqs] at he
      split at he
      ·rename_i q hq;simp at he;rw[hq,he]
      ·cases he
     simp only[z4J,Nat.add_zero,List.getElem?_eq_getElem hxl,List.getElem?_eq_getElem hyl,Option.getD_some]
     exact z5q (d:=m+d) (by rw[hkk.1];exact hk) (by rw[← hk];exact hkk.2) (hA.2 0 a _ rfl (by simp [hxl])) (hB.2 0 b _ rfl (by simp [hyl])) heq
    ·cases h
   ·cases h
theorem eqa_ok {ks:List Nat} {neg:Bool} {op:BinOp} (hop:op=if neg then .neq else .eql) {t:TypeId} (hc:zgU P t ks=true) {a b:Operand} {ev:Opd→AV} {p q:Opd} {x y:Value} {v:AV} {h1:Heap} {e:Esc} (H:HeapRel h μ w) (Rp:RAV (imm h μ w) h μ (ev p) x) (Rq:RAV (imm h μ w) h μ (ev q) y)
 (he:aop (.eqa ks neg p q) ev h=some (v,h1,e)):OpOk P (do pure (.value (← (do eqGuard op t a b x y;binOp op t x y)))) h μ w v h1 e:=by
 simp only[aop] at he
 split at he
 ·rename_i asv bs hp hq
  split at he
  ·rename_i hk
   simp only[Option.map_eq_some_iff,Prod.mk.injEq] at he
   obtain⟨r,hr,rfl,rfl,rfl⟩:=he
   rw[hp] at Rp;rw[hq] at Rq
   cases Rp.p_inv with | agg _ xs hxl hxr=>
   cases Rq.p_inv with | agg _ ys hyl hyr=>
   unfold zgU at hc
   split at hc
   ·exact absurd rfl hk.2.2
   ·split at hc
    ·rename_i fs hu
     simp only[Bool.and_eq_true,Bool.not_eq_true',beq_iff_eq] at hc
     obtain⟨c2,c3⟩:=hc
     have hE:(Op.equalIn 10000 t (.agg xs.toArray) (.agg ys.toArray)).run P w = .ok r w:=by
      rw[show (20:Nat)=19+1 from rfl] at c3
      unfold z50 at c3
      rw[hu] at c3
      dsimp only at c3
      split at c3
      ·cases c3
      ·rename_i hst
       have hst:P.stoodInHeld t=false:=by simpa using hst
       have hfo:P.fieldsOf t=fs:=by simp [Program.fieldsOf,hu]
       rw[show (10000:Nat)=(9980+19)+1 from rfl,run_equalIn_struct w (9980+19) t _ _ (by rw[hfo];exact hu) hst,hfo]
       exact zzB (y1i 19) c3 (by simpa using hk.1.symm) (by rw[hk.1,hk.2.1]) ⟨by omega,fun j a v h1 h2=>hxr j a v h1 (by simpa using h2)⟩ ⟨by omega,fun j a v h1 h2=>hyr j a v h1 (by simpa using h2)⟩ hr
     refine OpOk.pure H (u:=.bool (bif neg then !r else r)) (z0r ?_) (RAV.pbool _)
     rw[Sem.run_bind,run_eqGuard_agg _ _ _ _ _ _ _ c2]
     cases neg
     ·simp only[Bool.false_eq_true,if_false] at hop
      subst hop
      simp [run_eql_struct,hE]
     ·simp only[if_true] at hop
      subst hop
      simp [run_neq_struct,hE]
    ·cases hc
  ·cases he
 ·rename_i c d hp hq
  split at he
  ·rename_i hk
   subst hk
   simp only[Option.some.injEq,Prod.mk.injEq] at he
   obtain⟨rfl,rfl,rfl⟩:=he
   rw[hp] at Rp;rw[hq] at Rq
   rw[Rp.p_bool,Rq.p_bool]
   have hu:P.underlying t=some .bool:=by
    simp only[zgU] at hc
    split at hc
    ·assumption
    ·cases hc
   have hE:(Op.equalIn 10000 t (.bool c) (.bool d)).run P w = .ok (decide (c=d)) w:=
    z5q (M:=imm h μ w) (a:=.bool c) (b:=.bool d) (d:=9999) (by simp [zgf,hu,PV.kind]) (by simp [PV.kind]) (.bool c) (.bool d) (by simp [PV.eq1])
   refine OpOk.pure H (u:=.bool (bif neg then !decide (c=d) else decide (c=d))) (z0r ?_) (RAV.pbool _)
   rw[Sem.run_bind,z5W (by simp) (by simp)]
   cases neg
   ·simp only[Bool.false_eq_true,if_false] at hop
    subst hop
    simp only[Result.andThen_ok,binOp,Op.equal,Op.maxDepth,Sem.run_bind,hE,Sem.run_pure,cond_false]
   ·simp only[if_true] at hop
    subst hop
    simp only[Result.andThen_ok,binOp,Op.equal,Op.maxDepth,Sem.run_bind,hE,Sem.run_pure,cond_true]
  ·cases he
 ·cases he
end Go.Am
end
section
/- The abstract machine,part 17: nil tests,conversions,lengths,functions,greatest and zzS. -/
set_option linter.unusedSimpArgs false
set_option linter.unusedVariables false
set_option maxHeartbeats 1000000
namespace Go.Am
variable {h h':Heap} {μ μ':Mu} {w w':World} {P:Program} {M M':Mem}
def z4l (P:Program) (k:Nat) (t:TypeId) (y:Operand):Bool:=match k,P.underlying t,y with
 | 0,some (.pointer _),.const (.pointer none)=>true
 | 1,some (.map _ _),.const (.map none)=>true
 | 2,some (.func _ _ _),.const .nilFunc=>true
 | 3,some (.interface _),.const .nilIface=>true
 | 4,some (.slice _),.const (.slice none _ _)=>true
 | _,_,_=>false
theorem zfk {neg:Bool} {op:BinOp} (hop:op=if neg then .neq else .eql) {t:TypeId} {a b:Operand} {x y:Value} {r:Bool} (hg:(eqGuard op t a b x y).run P w = .ok () w)
 (hk:∀ k n,x ≠ .int k n) (hs:∀ s,x ≠ .string s) (hf:∀ k s,x ≠ .float k s) (hcx:∀ k s u,x ≠ .complex k s u) (hE:(Op.equalIn 10000 t x y).run P w = .ok r w) :
 ((do eqGuard op t a b x y;binOp op t x y):Sem Value).run P w = .ok (.bool (if neg then !r else r)) w:=by
 rw[Sem.run_bind,hg]
 simp only[Result.andThen_ok]
 cases neg
 ·simp only[Bool.false_eq_true,if_false] at hop
  subst hop
  cases x <;> first | exact absurd rfl (hk _ _) | exact absurd rfl (hs _) | exact absurd rfl (hf _ _) | exact absurd rfl (hcx _ _ _) | (simp only[binOp,Op.equal,Op.maxDepth,Sem.run_bind,hE,Result.andThen_ok,Sem.run_pure];rfl)
 ·simp only[if_true] at hop
  subst hop
  cases x <;> first | exact absurd rfl (hk _ _) | exact absurd rfl (hs _) | exact absurd rfl (hf _ _) | exact absurd rfl (hcx _ _ _) | (simp only[binOp,Op.equal,Op.maxDepth,Sem.run_bind,hE,Result.andThen_ok,Sem.run_pure];rfl)
theorem zvx {k:Nat} {t:TypeId} {y x:Value} {v:AV} {r:Bool} {op:BinOp} {a:Operand} (hc:z4l P k t (.const y)=true) (hv:zqJ k v=some r) (R:RAV M h μ v x) :
 (eqGuard op t a (.const y) x y).run P w = .ok () w∧(Op.equalIn 10000 t x y).run P w = .ok r w∧(∀ k n,x ≠ .int k n)∧(∀ s,x ≠ .string s)∧(∀ k s,x ≠ .float k s)∧(∀ k s u,x ≠ .complex k s u):=by
 rw[show (10000:Nat)=9999+1 from rfl]
 generalize 9999=d
 unfold zqJ at hv
 split at hv
 ·have hty:∃ el,P.underlying t=some (.pointer el)∧y = .pointer none:=by
   unfold z4l at hc
   split at hc <;> simp_all
  obtain⟨el,hu,rfl⟩:=hty
  split at hv <;> first | cases hv | skip
  all_goals (try (simp only[Option.some.injEq] at hv;subst hv))
  ·cases R;exact⟨by cases op <;> rfl,by simp [Op.equalIn,z0b hu],by simp,by simp,by simp,by simp⟩
  ·cases R.p_inv;exact⟨by cases op <;> rfl,by simp [Op.equalIn,z0b hu],by simp,by simp,by simp,by simp⟩
  ·cases R;exact⟨by cases op <;> rfl,by simp [Op.equalIn,z0b hu],by simp,by simp,by simp,by simp⟩
  ·cases R;exact⟨by cases op <;> rfl,by simp [Op.equalIn,z0b hu],by simp,by simp,by simp,by simp⟩
  ·cases R;exact⟨by cases op <;> rfl,by simp [Op.equalIn,z0b hu],by simp,by simp,by simp,by simp⟩
  ·cases R;exact⟨by cases op <;> rfl,by simp [Op.equalIn,z0b hu],by simp,by simp,by simp,by simp⟩
 ·have hty:∃ e1 e2,P.underlying t=some (.map e1 e2)∧y = .map none:=by
   unfold z4l at hc
   split at hc <;> simp_all
  obtain⟨e1,e2,hu,rfl⟩:=hty
  split at hv <;> first | cases hv | skip
  all_goals (try (simp only[Option.some.injEq] at hv;subst hv))
  ·cases R;exact⟨by cases op <;> rfl,by simp [Op.equalIn,z0b hu],by simp,by simp,by simp,by simp⟩
  ·cases R;exact⟨by cases op <;> rfl,by simp [Op.equalIn,z0b hu],by simp,by simp,by simp,by simp⟩
 ·have hty:∃ e1 e2 e3,P.underlying t=some (.func e1 e2 e3)∧y = .nilFunc:=by
   unfold z4l at hc
   split at hc <;> simp_all
  obtain⟨e1,e2,e3,hu,rfl⟩:=hty
  split at hv <;> first | cases hv | skip
  all_goals (try (simp only[Option.some.injEq] at hv;subst hv))
  ·cases R;exact⟨by cases op <;> rfl,by simp [Op.equalIn,z0b hu],by simp,by simp,by simp,by simp⟩
  ·cases R;exact⟨by cases op <;> rfl,by simp [Op.equalIn,z0b hu],by simp,by simp,by simp,by simp⟩
 ·have hty:∃ e1,P.underlying t=some (.interface e1)∧y = .nilIface:=by
   unfold z4l at hc
   split at hc <;> simp_all
  obtain⟨e1,hu,rfl⟩:=hty
  split at hv <;> first | cases hv | skip
  all_goals (try (simp only[Option.some.injEq] at hv;subst hv))
  ·cases R;exact⟨by cases op <;> cases a <;> rfl,by simp [Op.equalIn,z0b hu],by simp,by simp,by simp,by simp⟩
  ·cases R;exact⟨by cases op <;> rfl,by simp [Op.equalIn,z0b hu],by simp,by simp,by simp,by simp⟩
 ·have hty:∃ e1 i j,P.underlying t=some (.slice e1)∧y = .slice none i j:=by
   unfold z4l at hc
   split at hc <;> simp_all
  obtain⟨e1,i,j,hu,rfl⟩:=hty
  split at hv
  ·simp only[Option.some.injEq] at hv;subst hv
   cases R.p_inv
   exact⟨by cases op <;> rfl,by simp [Op.equalIn,z0b hu],by simp,by simp,by simp,by simp⟩
  ·cases hv
theorem zgi {k:Nat} {t:TypeId} {y x:Value} {v:AV} {op:BinOp} {a:Operand} (hc:z4l P k t (.const y)=true) (hv:z7B k v=true) (R:RAV M h μ v x) :
 ∃ r,(eqGuard op t a (.const y) x y).run P w = .ok () w∧(Op.equalIn 10000 t x y).run P w = .ok r w∧(∀ k n,x ≠ .int k n)∧(∀ s,x ≠ .string s)∧(∀ k s,x ≠ .float k s)∧(∀ k s u,x ≠ .complex k s u):=by
 rw[show (10000:Nat)=9999+1 from rfl]
 generalize 9999=d
 unfold z7B at hv
 split at hv
 ·simp only[decide_eq_true_eq] at hv
  have hty:∃ e1 i j,P.underlying t=some (.slice e1)∧y = .slice none i j:=by
   unfold z4l at hc
   split at hc <;> first | omega | skip
   ·rename_i e1 i j hu hy;injection hy with hy;exact⟨_,_,_,hu,hy⟩
   ·cases hc
  obtain⟨e1,i,j,hu,rfl⟩:=hty
  cases R.p_inv with
  | nils _ b cap=>
   cases b with
   | none=>exact⟨true,by cases op <;> rfl,by simp [Op.equalIn,z0b hu],by simp,by simp,by simp,by simp⟩
   | some b=>exact⟨false,by cases op <;> rfl,by simp [Op.equalIn,z0b hu],by simp,by simp,by simp,by simp⟩
  | sl _ _ _ _ _ _ hne=>exact absurd rfl hne
 ·cases hv
theorem zvm {k:Nat} {neg:Bool} {op:BinOp} (hop:op=if neg then .neq else .eql) {t:TypeId} {a:Operand} {y:Value} (hc:z4l P k t (.const y)=true) {ev:Opd→AV} {p:Opd} {x:Value} {v:AV} {h1:Heap} {e:Esc}
 (H:HeapRel h μ w) (Rp:RAV (imm h μ w) h μ (ev p) x) (he:aop (.isnil k neg p) ev h=some (v,h1,e)):OpOk P (do pure (.value (← (do eqGuard op t a (.const y) x y;binOp op t x y)))) h μ w v h1 e:=by
 simp only[aop] at he
 cases hb:z7B k (ev p) with
 | true=>
  rw[hb] at he
  simp only[cond_true,Option.some.injEq,Prod.mk.injEq] at he
  obtain⟨rfl,rfl,rfl⟩:=he
  obtain⟨r,q1,q2,q3,q4,q5,q6⟩:=zgi (w:=w) (op:=op) (a:=a) hc hb Rp
  exact OpOk.pure H (z0r (zfk hop q1 q3 q4 q5 q6 q2)) (.anyb _)
 | false=>
  rw[hb] at he
  simp only[cond_false,Option.map_eq_some_iff,Prod.mk.injEq] at he
  obtain⟨r,hr,rfl,rfl,rfl⟩:=he
  obtain⟨q1,q2,q3,q4,q5,q6⟩:=zvx (w:=w) (op:=op) (a:=a) hc hr Rp
  refine OpOk.pure H (z0r (zfk hop q1 q3 q4 q5 q6 q2)) ?_
  cases neg <;> exact RAV.pbool _
theorem y0e {t:TypeId} (hc:(match P.underlying t with | some (.interface _)=>false | some _=>true | none=>false)=true) {ev:Opd→AV} {p:Opd} {x:Value} {v:AV} {h1:Heap} {e:Esc} (H:HeapRel h μ w)
 (he:aop (.mkif p) ev h=some (v,h1,e)):OpOk P (do pure (.value (← Instr.makeInterface t x))) h μ w v h1 e:=by
 simp only[aop] at he
 split at he
 ·simp only[Option.some.injEq,Prod.mk.injEq] at he
  obtain⟨rfl,rfl,rfl⟩:=he
  refine OpOk.pure H (z0r (u:=.iface t x) ?_) (.ifc _ _)
  split at hc <;> first | cases hc | skip
  rename_i d hne hd
  unfold Instr.makeInterface
  rw[Sem.run_bind,z0b hd]
  cases d <;> first | rfl | exact absurd rfl (hne _)
 ·cases he
theorem ext_ok {i:Nat} {ev:Opd→AV} {p:Opd} {x:Value} {v:AV} {h1:Heap} {e:Esc} (H:HeapRel h μ w) (Rp:RAV (imm h μ w) h μ (ev p) x) (he:aop (.ext p i) ev h=some (v,h1,e)) :
 OpOk P (do pure (.value (← Instr.extract x i))) h μ w v h1 e:=by
 simp only[aop] at he
 split at he
 ·rename_i vs hp
  simp only[Option.map_eq_some_iff,Prod.mk.injEq] at he
  obtain⟨u,hu,rfl,rfl,rfl⟩:=he
  rw[hp] at Rp
  cases Rp with | tup _ xs hl hr=>
  have hi:i<xs.length:=by rw[← hl];exact z0g hu
  refine OpOk.pure H (z0r (u:=xs[i]) ?_) (hr i u _ hu (List.getElem?_eq_getElem hi))
  simp [Instr.extract,hi]
 ·cases he
def z3Z (P:Program) (t:TypeId):Nat:=match P.underlying t with
 | some (.slice _)=>1
 | some .string=>2
 | some (.map _ _)=>3
 | _=>0
theorem len_ok {t ty:TypeId} {ts:List TypeId} (hc:z3Z P t=1) {ev:Opd→AV} {p:Opd} {x:Value} {v:AV} {h1:Heap} {e:Esc} (H:HeapRel h μ w) (Rp:RAV (imm h μ w) h μ (ev p) x) (he:aop (.len p) ev h=some (v,h1,e)) :
 OpOk P (do pure (.value (← Builtin.len_ (t::ts).toArray ty #[x]))) h μ w v h1 e:=by
 have hu:∃ el,P.underlying t=some (.slice el):=by
  unfold z3Z at hc
  split at hc <;> simp_all
 obtain⟨el,hu⟩:=hu
 have key:∀ a n cap,x = .slice a n cap→v=pint n→h1=h→e=[]→OpOk P (do pure (.value (← Builtin.len_ (t::ts).toArray ty #[x]))) h μ w v h1 e:=by
  intro a n cap hx hv h2 h3
  subst hx;subst hv;subst h2;subst h3
  refine OpOk.pure H (z0r ?_) (RAV.pint n)
  simp [Builtin.len_,z0b hu]
 simp only[aop] at he
 split at he
 ·rename_i sh xs hp
  simp only[Option.some.injEq,Prod.mk.injEq] at he
  obtain⟨rfl,rfl,rfl⟩:=he
  rw[hp] at Rp
  obtain⟨a,cap,rfl,_⟩:=zy7 Rp.p_inv
  exact key _ _ _ rfl rfl rfl rfl
 ·rename_i sh hp
  simp only[Option.some.injEq,Prod.mk.injEq] at he
  obtain⟨rfl,rfl,rfl⟩:=he
  rw[hp] at Rp
  obtain⟨a,rfl⟩:=z7n Rp
  exact key _ _ _ rfl rfl rfl rfl
 ·rename_i id g off len hp
  simp only[Option.some.injEq,Prod.mk.injEq] at he
  obtain⟨rfl,rfl,rfl⟩:=he
  rw[hp] at Rp
  obtain⟨a,cap,_,_,_,_,rfl,_⟩:=zqS Rp
  exact key _ _ _ rfl rfl rfl rfl
 ·rename_i k tt id g hp
  simp only[Option.map_eq_some_iff,Prod.mk.injEq] at he
  obtain⟨u,hu,rfl,rfl,rfl⟩:=he
  unfold lnA at hu
  cases hk:Nat.beq k 3 with
  | false=>rw[hk] at hu;cases hu
  | true=>
   rw[hk] at hu
   have hk:=Nat.eq_of_beq_eq_true hk
   subst hk
   simp only[cond_true,Option.some.injEq] at hu
   subst hu
   rw[hp] at Rp
   cases Rp
   exact key _ _ _ rfl rfl rfl rfl
 ·cases he
theorem zzX {t ty:TypeId} {ts:List TypeId} (hc:z3Z P t=2) {ev:Opd→AV} {p:Opd} {x:Value} {v:AV} {h1:Heap} {e:Esc} (H:HeapRel h μ w) (Rp:RAV (imm h μ w) h μ (ev p) x) (he:aop (.lens p) ev h=some (v,h1,e)) :
 OpOk P (do pure (.value (← Builtin.len_ (t::ts).toArray ty #[x]))) h μ w v h1 e:=by
 have hu:P.underlying t=some .string:=by
  unfold z3Z at hc
  split at hc <;> simp_all
 simp only[aop] at he
 split at he
 ·rename_i s hp
  simp only[Option.some.injEq,Prod.mk.injEq] at he
  obtain⟨rfl,rfl,rfl⟩:=he
  rw[hp] at Rp
  rw[Rp.p_str]
  refine OpOk.pure H (z0r ?_) (RAV.pint s.length)
  simp only[Builtin.len_,List.getElem?_toArray,List.getElem?_cons_zero,Sem.run_bind,z0b hu,Result.andThen_ok]
  rfl
 ·cases he
theorem zzW {t ty:TypeId} {ts:List TypeId} (hc:z3Z P t=3) {ev:Opd→AV} {p:Opd} {x:Value} {v:AV} {h1:Heap} {e:Esc} (H:HeapRel h μ w) (Rp:RAV (imm h μ w) h μ (ev p) x) (he:aop (.lenm p) ev h=some (v,h1,e)) :
 OpOk P (do pure (.value (← Builtin.len_ (t::ts).toArray ty #[x]))) h μ w v h1 e:=by
 have hu:∃ e1 e2,P.underlying t=some (.map e1 e2):=by
  unfold z3Z at hc
  split at hc <;> simp_all
 obtain⟨e1,e2,hu⟩:=hu
 simp only[aop] at he
 split at he
 ·rename_i hp
  simp only[Option.some.injEq,Prod.mk.injEq] at he
  obtain⟨rfl,rfl,rfl⟩:=he
  rw[hp] at Rp
  cases Rp
  refine OpOk.pure H (z0r ?_) (RAV.pint 0)
  simp [Builtin.len_,z0b hu]
 ·rename_i id hp
  simp only[Option.map_eq_some_iff,Prod.mk.injEq] at he
  obtain⟨⟨id',es,c⟩,hm,rfl,rfl,rfl⟩:=he
  rw[hp] at Rp
  cases Rp with | mp _ b n es' c' ho hmu=>
  simp only[mget,ho,Option.some.injEq,Prod.mk.injEq] at hm
  obtain⟨rfl,rfl,rfl⟩:=hm
  obtain⟨b',n',ces,hb',k1,k2,k4,k3⟩:=H.obj _ _ _ ho hmu
  injection hb' with hb';injection hb' with hb1 hb2
  subst hb1
  refine OpOk.pure H (z0r (u:=goInt es'.length) ?_) (RAV.pint _)
  simp only[Builtin.len_,List.getElem?_toArray,List.getElem?_cons_zero,Sem.run_bind,z0b hu,Result.andThen_ok]
  simp [getObj,Sem.run,k1,k2]
 ·cases he
end Go.Am
end
section
/- The abstract machine,part 18: conversions,functions,greatest and zzS,new maps. -/
set_option linter.unusedSimpArgs false
set_option linter.unusedVariables false
set_option maxHeartbeats 1000000
namespace Go.Am
variable {h h':Heap} {μ μ':Mu} {w w':World} {P:Program} {M M':Mem}
def z5y (P:Program) (c:Cv) (src dst:TypeId):Bool:=match c with
 | .i k=>(P.underlying src).isSome&&(match P.underlying dst with | some (.int k')=>k==k' | _=>false)
 | .s2b=>(match P.underlying src with | some .string=>true | _=>false)&&(match P.underlying dst with | some (.slice e)=>(match P.underlying e with | some (.int .u8)=>shOf P e==some none | _=>false) | _=>false)
 | .b2s=>(match P.underlying src with | some (.slice e)=>(match P.underlying e with | some (.int .u8)=>shOf P e==some none | _=>false) | _=>false)&&(match P.underlying dst with | some .string=>true | _=>false)
 | .r2s=>(P.underlying src).isSome&&(match P.underlying dst with | some .string=>true | _=>false)
 | .same=>(P.underlying src).isSome&&(match P.underlying dst with | some .string=>true | _=>false)
theorem z4N:∀ {xs:List PV} {b:List UInt8},z3Y xs=some b→xs=z0o b
 | [],b,h=>by simp [z3Y] at h;subst h;rfl
 | x::r,b,h=>by
  unfold z3Y at h
  split at h
  ·cases ‹_::_=[]›
  ·rename_i n r' he
   injection he with e1 e2
   subst e1;subst e2
   split at h
   ·rename_i hn
    simp only[Option.map_eq_some_iff] at h
    obtain⟨l,h1,rfl⟩:=h
    rw[z4N h1]
    simp [z0o]
    omega
   ·cases h
  ·cases h
theorem z6V (s:List UInt8) (j:Nat):(z0o s)[j]?=(s[j]?).map fun b=>.int .u8 b.toNat:=by simp [z0o]
theorem zzq {c:Cv} {src dst:TypeId} (hc:z5y P c src dst=true) {ev:Opd→AV} {p:Opd} {x:Value} {v:AV} {h1:Heap} {e:Esc} (H:HeapRel h μ w) (Rp:RAV (imm h μ w) h μ (ev p) x)
 (he:aop (.conv c p) ev h=some (v,h1,e)):OpOk P (do pure (.value (← convert src dst x))) h μ w v h1 e:=by
 simp only[aop,Option.map_eq_some_iff,Prod.mk.injEq] at he
 obtain⟨⟨u,hh⟩,hconv,rfl,rfl,rfl⟩:=he
 cases c with
 | i k=>
  simp only[z5y,Bool.and_eq_true] at hc
  obtain⟨c1,c2⟩:=hc
  obtain⟨d,hd⟩:=Option.isSome_iff_exists.1 c1
  have hu:P.underlying dst=some (.int k):=by
   split at c2
   ·rename_i k' hk;rw[hk];simp at c2;rw[c2]
   ·cases c2
  simp only[z9T] at hconv
  split at hconv
  ·rename_i hp
   simp only[Option.some.injEq,Prod.mk.injEq] at hconv
   obtain⟨rfl,rfl⟩:=hconv
   rw[hp] at Rp
   rw[Rp.p_int]
   refine OpOk.pure H (z0r (u:=.int k (k.wrap _)) ?_) (.p _ _ (.int _ _))
   simp [convert,z0b hd,z0b hu,Conv.intToInt]
  ·cases hconv
 | s2b=>
  simp only[z5y,Bool.and_eq_true] at hc
  obtain⟨c1,c2⟩:=hc
  have hs:P.underlying src=some .string:=by split at c1 <;> simp_all
  have hd:∃ el,P.underlying dst=some (.slice el)∧P.underlying el=some (.int .u8)∧shOf P el=some none:=by
   split at c2
   ·rename_i el hel
    split at c2
    ·rename_i hu8;exact⟨el,hel,hu8,by simpa using c2⟩
    ·cases c2
   ·cases c2
  obtain⟨el,hd,hu8,hsh⟩:=hd
  simp only[z9T] at hconv
  split at hconv
  ·rename_i s hp
   split at hconv
   ·simp only[Option.some.injEq,Prod.mk.injEq] at hconv
    obtain⟨rfl,rfl⟩:=hconv
    rw[hp] at Rp
    rw[Rp.p_str]
    have hrun:=run_bytes_of_string w src dst el ⟨s.toArray⟩ hs hd hu8
    have hsz:(⟨s.toArray⟩:ByteArray).size=s.length:=rfl
    rw[hsz] at hrun
    generalize hcap:grownCap w s.length 0 el=cap at hrun
    have hle:s.length≤cap:=by rw[← hcap];exact z7t _ _ _ _
    generalize hrow:bytesRow ⟨s.toArray⟩ cap=row at hrun
    have hrs:row.size=cap:=by rw[← hrow];simp [bytesRow,hsz];omega
    have hB:z0V (w.drew.alloc (.cells row el (row.size,row.size+1))) w.heap.size cap row:=⟨hrs,el,row.size,row.size+1,by
     show (w.heap.push _)[w.heap.size]?=_
     simp,fun _=>by omega⟩
    have hW:WExt w (w.drew.alloc (.cells row el (row.size,row.size+1))):=by
     refine⟨?_,fun b hb=>?_,rfl⟩
     ·show w.heap.size≤(w.heap.push _).size
      simp
     ·show (w.heap.push _)[b]?=_
      simp [Array.getElem?_push,Nat.ne_of_lt hb]
    have hlt:w.heap.size<(w.drew.alloc (.cells row el (row.size,row.size+1))).heap.size:=by
     show w.heap.size<(w.heap.push _).size
     simp
    obtain⟨n1,n2⟩:=z57 (sh:=none) (xs:=z0o s) H hW (Nat.le_refl _) hlt hB (by simp [z0o,z0a];omega) (fun x hx=>by
     simp only[z0o,List.mem_map] at hx
     obtain⟨b,_,rfl⟩:=hx
     rfl) (fun i j x y hx hy=>by
     rw[z6V] at hx
     simp only[Option.map_eq_some_iff] at hx
     obtain⟨b,hb,rfl⟩:=hx
     have hj:j=0∧y = .int .u8 b.toNat:=by
      cases j with
      | zero=>simp [PV.cells] at hy;exact⟨rfl,hy.symm⟩
      | succ j=>simp [PV.cells] at hy
     obtain⟨rfl,rfl⟩:=hj
     have hi:=z0g hb
     refine⟨.int .u8 b.toNat,?_,.int _ _⟩
     rw[← hrow]
     have:=bytesRow_at ⟨s.toArray⟩ cap i (by simpa using hi)
     simp only[z0a,Nat.mul_one,Nat.add_zero]
     rw[this]
     have hb':s[i]=b:=by rw[List.getElem?_eq_getElem hi] at hb;simpa using hb
     simp [hb'])
    refine⟨_,_,_,z0r hrun,.inl ⟨_,rfl,?_⟩,n1,n2,z0k.push (by simp [Obj.top])⟩
    refine .own h.length s.length 0 s.length _ cap none (z0o s) 0 (some (w.heap.size,cap)) hle (by simp) (by rw[← H.len];simp) (by simp [z0o]) (by omega) (fun _=>?_)
    right
    exact⟨by simp,by simp [z0a]⟩
   ·cases hconv
  ·cases hconv
 | b2s=>
  simp only[z5y,Bool.and_eq_true] at hc
  obtain⟨c1,c2⟩:=hc
  have hd:P.underlying dst=some .string:=by split at c2 <;> simp_all
  have hs:∃ el,P.underlying src=some (.slice el)∧P.underlying el=some (.int .u8)∧shOf P el=some none:=by
   split at c1
   ·rename_i el hel
    split at c1
    ·rename_i hu8;exact⟨el,hel,hu8,by simpa using c1⟩
    ·cases c1
   ·cases c1
  obtain⟨el,hs,hu8,hsh⟩:=hs
  have hconv':=hconv
  simp only[z9T] at hconv'
  split at hconv'
  ·rename_i y hy
   obtain⟨sh,ys⟩:=y
   simp only[Option.map_eq_some_iff,Prod.mk.injEq] at hconv'
   obtain⟨b,hb,rfl,rfl⟩:=hconv'
   have hys:=z4N hb
   subst hys
   obtain⟨a,cap,rfl,hcap,hrd⟩:=ziy H Rp hy
   have hlen:(z0o b).length=b.length:=by simp [z0o]
   rw[hlen] at *
   refine OpOk.pure H (z0r (u:=.string ⟨b.toArray⟩) ?_) (.p _ _ (.str b))
   cases a with
   | none=>
    have hb0:b=[]:=by
     rcases Classical.em (b=[]) with h0 | h0
     ·exact h0
     ·obtain⟨_,_,_,ha,_⟩:=hrd (by simp [z0o];exact h0)
      cases ha
    subst hb0
    rw[run_convert_bytes_string w src dst el none _ _ hs hu8 hd]
    rfl
   | some a=>
    refine run_convert_bytes_back w src dst el a cap b hs hu8 hd (fun j hj=>?_)
    obtain⟨bb,o,f,ha,hshp,hcell⟩:=hrd (by intro h0;have:=congrArg List.length h0;simp [z0o] at this;rw[this] at hj;simp at hj)
    injection ha with ha
    subst ha
    have hfl:((z0o b).flatMap PV.cells)[j]?=some (.int .u8 b[j].toNat):=by
     rw[zah,z6V,List.getElem?_eq_getElem hj];rfl
    obtain⟨q1,q2⟩:=hcell j _ hfl
    rw[z1w,q1]
    generalize f j=z at q2 ⊢
    cases q2
    rfl
  ·cases hconv'
 | r2s=>
  simp only[z5y,Bool.and_eq_true] at hc
  obtain⟨c1,c2⟩:=hc
  have hd:P.underlying dst=some .string:=by split at c2 <;> simp_all
  simp only[z9T] at hconv
  split at hconv
  ·rename_i k n hp
   split at hconv
   ·rename_i hn
    simp only[Option.some.injEq,Prod.mk.injEq] at hconv
    obtain⟨rfl,rfl⟩:=hconv
    rw[hp] at Rp
    rw[Rp.p_int]
    refine OpOk.pure H (z0r (u:=.string ⟨#[UInt8.ofNat n.toNat]⟩) ?_) ?_
    ·rw[run_convert_int_string w src dst k n c1 hd]
     have hv:Utf8.valid n=true:=by simp [Utf8.valid];omega
     have h2:n.toNat<128:=by omega
     simp [Utf8.encode,hv,h2]
    ·have:=RPV.str (M:=imm h μ w) [UInt8.ofNat n.toNat]
     exact .p _ _ this
   ·cases hconv
  ·cases hconv
 | same=>
  simp only[z5y,Bool.and_eq_true] at hc
  obtain⟨c1,c2⟩:=hc
  have hd:P.underlying dst=some .string:=by split at c2 <;> simp_all
  obtain⟨d,hd1⟩:=Option.isSome_iff_exists.1 c1
  simp only[z9T] at hconv
  split at hconv
  ·rename_i s hp
   simp only[Option.some.injEq,Prod.mk.injEq] at hconv
   obtain⟨rfl,rfl⟩:=hconv
   rw[hp] at Rp
   rw[Rp.p_str]
   refine OpOk.pure H (z0r (u:=.string ⟨s.toArray⟩) ?_) (.p _ _ (.str s))
   simp [convert,z0b hd1,z0b hd]
  ·cases hconv
def z0X:List Opd→List Operand→Bool
 | [],[]=>true
 | a::r,b::s=>z0w a b&&z0X r s
 | _,_=>false
theorem z2V:∀ {xs:List Opd} {ys:List Operand},z0X xs ys=true→xs.length=ys.length
 | [],[],_=>rfl
 | [],_::_,h=>by simp [z0X] at h
 | _::_,[],h=>by simp [z0X] at h
 | a::r,b::s,h=>by simp only[z0X,Bool.and_eq_true] at h;simp [z2V h.2]
theorem zvz {xs:List Opd} {y:Operand} (h:z0X xs [y]=true):∃ q,xs=[q]∧z0w q y=true:=by
 match xs,h with
 | [],h=>simp [z0X] at h
 | [q],h=>exact⟨q,rfl,by simpa [z0X] using h⟩
 | _::_::_,h=>simp [z0X] at h
theorem zv0 {xs:List Opd} {y z:Operand} (h:z0X xs [y,z]=true):∃ q r,xs=[q,r]∧z0w q y=true∧z0w r z=true:=by
 match xs,h with
 | [],h=>simp [z0X] at h
 | [q],h=>simp [z0X] at h
 | [q,r],h=>exact⟨q,r,rfl,by simpa [z0X] using h⟩
 | _::_::_::_,h=>simp [z0X] at h
theorem z2W {ev:Opd→AV} {ρ:Operand→Value} (R:z2z M h μ ev ρ):∀ {xs:List Opd} {ys:List Operand},z0X xs ys=true →
 ∀ (j:Nat) (y:AV) (v:Value),(xs.map ev)[j]?=some y→(ys.map ρ)[j]?=some v→RAV M h μ y v
 | [],[],_,j,y,v,h1,h2=>by simp at h1
 | [],_::_,h,_,_,_,_,_=>by simp [z0X] at h
 | _::_,[],h,_,_,_,_,_=>by simp [z0X] at h
 | a::r,b::s,h,j,y,v,h1,h2=>by
  simp only[z0X,Bool.and_eq_true] at h
  cases j with
  | zero=>simp at h1 h2;subst h1;subst h2;exact R a b h.1
  | succ j=>exact z2W R h.2 j y v (by simpa using h1) (by simpa using h2)
theorem y0d {f:Nat} {caps:List Opd} {first cs:Array Operand} {ev:Opd→AV} {ρ:Operand→Value} (hc:z0X caps cs.toList=true) (hf:first = #[]) {v:AV} {h1:Heap} {e:Esc} (H:HeapRel h μ w) (R:z2z (imm h μ w) h μ ev ρ)
 (he:aop (.mkfn f caps) ev h=some (v,h1,e)):OpOk P (do pure (.value (← Instr.makeFunc (.func f) (first.map ρ) (cs.map ρ)))) h μ w v h1 e:=by
 simp only[aop,Option.some.injEq,Prod.mk.injEq] at he
 obtain⟨rfl,rfl,rfl⟩:=he
 subst hf
 refine OpOk.pure H (z0r rfl) ?_
 have:=RAV.fn (M:=imm h μ w) (h:=h) (μ:=μ) f (caps.map ev) (cs.toList.map ρ) (by simp [z2V hc]) (fun j y v h1 h2=>z2W R hc j y v h1 h2)
 have h2:(List.map ρ cs.toList).toArray=cs.map ρ:=by rw[← Array.toList_map]
 rw[h2] at this
 have h3:Array.map ρ #[] = #[]:=by simp
 rw[h3]
 exact this
theorem zvt {t:TypeId} {r:Option Value} (hr:r=none) {ev:Opd→AV} {v:AV} {h1:Heap} {e:Esc} (H:HeapRel h μ w) (he:aop .mkmap ev h=some (v,h1,e)):OpOk P (do pure (.value (← Instr.makeMap t r))) h μ w v h1 e:=by
 simp only[aop,Option.some.injEq,Prod.mk.injEq] at he
 obtain⟨rfl,rfl,rfl⟩:=he
 subst hr
 have hrun:(Instr.makeMap t none).run P w = .ok (.map (some w.heap.size)) { w with heap:=w.heap.push (.map #[] 0) }:=by
  simp only[Instr.makeMap]
  rfl
 obtain⟨n1,n2⟩:=H.push (WExt.push w (.map #[] 0)) (.amap [] 0) (some (w.heap.size,0)) (fun b n e=>by injection e with e;injection e with e1 e2;subst e1;exact⟨Nat.le_refl _,by simp⟩)
  (fun M' E=>⟨w.heap.size,0,#[],rfl,by simp,rfl,fun e he=>(by cases he),fun i e ce he=>(by cases he)⟩)
 exact⟨_,_,_,z0r hrun,.inl ⟨_,rfl,.mp h.length w.heap.size 0 [] 0 (by simp) (by rw[← H.len];simp)⟩,n1,n2,z0k.push (by simp [Obj.top,AV.tops])⟩
theorem ztK {ev:Opd→AV} {xs:List Opd} {l:List PV} (hu:unp (xs.map ev)=some l):xs.length=l.length∧∀ (j:Nat) (y:PV),l[j]?=some y→(xs.map ev)[j]?=some (.p y):=by
 have:=z5i hu
 refine⟨by have:=congrArg List.length this;simpa using this,fun j y hy=>by rw[this];simp [hy]⟩
theorem mx_ok {xs:List Opd} {cs:Array Operand} {ts:Array TypeId} {ty:TypeId} (hc:z0X xs cs.toList=true) {ev:Opd→AV} {ρ:Operand→Value} {v:AV} {h1:Heap} {e:Esc} (H:HeapRel h μ w) (R:z2z (imm h μ w) h μ ev ρ)
 (he:aop (.mx xs) ev h=some (v,h1,e)):OpOk P (do pure (.value (← Builtin.max_ ts ty (cs.map ρ)))) h μ w v h1 e:=by
 simp only[aop] at he
 split at he
 ·rename_i a r hm
  simp only[Option.map_eq_some_iff,Option.bind_eq_some_iff,Prod.mk.injEq] at he
  obtain⟨q,⟨l,hl,hq⟩,rfl,rfl,rfl⟩:=he
  cases xs with
  | nil=>simp at hm
  | cons o os=>
   cases hcs:cs.toList with
   | nil=>rw[hcs] at hc;simp [z0X] at hc
   | cons c cs'=>
    rw[hcs] at hc
    simp only[List.map_cons,List.cons.injEq] at hm
    obtain⟨hm1,hm2⟩:=hm
    simp only[z0X,Bool.and_eq_true] at hc
    subst hm2
    obtain⟨u1,u2⟩:=ztK hl
    have h0:=R o c hc.1
    rw[hm1] at h0
    obtain⟨u,hu,hR⟩:=zcV (w:=w) (P:=P) h0.p_inv (vs:=cs'.map ρ) (by rw[← u1,z2V hc.2];simp) (fun j y v h1 h2=>(z2W R hc.2 j (.p y) v (u2 j y h1) h2).p_inv) hq
    refine OpOk.pure H (z0r (u:=u) ?_) (.p _ _ hR)
    simp only[Builtin.max_,Array.toList_map,hcs,List.map_cons]
    exact hu
 ·cases he
theorem mn_ok {xs:List Opd} {cs:Array Operand} {ts:Array TypeId} {ty:TypeId} (hc:z0X xs cs.toList=true) {ev:Opd→AV} {ρ:Operand→Value} {v:AV} {h1:Heap} {e:Esc} (H:HeapRel h μ w) (R:z2z (imm h μ w) h μ ev ρ)
 (he:aop (.mn xs) ev h=some (v,h1,e)):OpOk P (do pure (.value (← Builtin.min_ ts ty (cs.map ρ)))) h μ w v h1 e:=by
 simp only[aop] at he
 split at he
 ·rename_i a r hm
  simp only[Option.map_eq_some_iff,Option.bind_eq_some_iff,Prod.mk.injEq] at he
  obtain⟨q,⟨l,hl,hq⟩,rfl,rfl,rfl⟩:=he
  cases xs with
  | nil=>simp at hm
  | cons o os=>
   cases hcs:cs.toList with
   | nil=>rw[hcs] at hc;simp [z0X] at hc
   | cons c cs'=>
    rw[hcs] at hc
    simp only[List.map_cons,List.cons.injEq] at hm
    obtain⟨hm1,hm2⟩:=hm
    simp only[z0X,Bool.and_eq_true] at hc
    subst hm2
    obtain⟨u1,u2⟩:=ztK hl
    have h0:=R o c hc.1
    rw[hm1] at h0
    obtain⟨u,hu,hR⟩:=zcW (w:=w) (P:=P) h0.p_inv (vs:=cs'.map ρ) (by rw[← u1,z2V hc.2];simp) (fun j y v h1 h2=>(z2W R hc.2 j (.p y) v (u2 j y h1) h2).p_inv) hq
    refine OpOk.pure H (z0r (u:=u) ?_) (.p _ _ hR)
    simp only[Builtin.min_,Array.toList_map,hcs,List.map_cons]
    exact hu
 ·cases he
end Go.Am
end
section
/- The abstract machine,part M: maps do in the model what they do here. -/
set_option linter.unusedSimpArgs false
set_option linter.unusedVariables false
set_option maxHeartbeats 1000000
namespace Go.Am
variable {h h':Heap} {μ μ':Mu} {w w':World} {P:Program} {M M':Mem}
theorem zh5 {a b:PV} {r:Bool} (he:PV.eq1 a b=some r):a.kind=b.kind∧(r=true↔a=b):=by
 unfold PV.eq1 at he
 split at he
 ·split at he
  ·rename_i hk;subst hk;simp at he;subst he;exact⟨rfl,by simp⟩
  ·cases he
 ·simp at he;subst he;exact⟨rfl,by simp⟩
 ·simp at he;subst he;exact⟨rfl,by simp⟩
 ·cases he
theorem zbL:∀ {asv bs:List PV} {r:Bool},eqs asv bs=some r→asv.map PV.kind=bs.map PV.kind∧(r=true↔asv=bs)
 | [],[],r,h=>by simp [eqs] at h;subst h;simp
 | [],_::_,r,h=>by simp [eqs] at h
 | _::_,[],r,h=>by simp [eqs] at h
 | a::asv,b::bs,r,h=>by
  simp only[eqs] at h
  split at h
  ·rename_i q hq
   simp only[Option.map_eq_some_iff] at h
   obtain⟨r',h1,rfl⟩:=h
   obtain⟨k1,k2⟩:=zh5 hq
   obtain⟨k3,k4⟩:=zbL h1
   refine⟨by simp [k1,k3],?_⟩
   simp only[Bool.and_eq_true,List.cons.injEq,k2,k4]
  ·cases h
theorem zpr {a b:PV} {r:Bool} (he:PV.eqv a b=some r):eqs a.cells b.cells=some r∧(r=true↔a=b):=by
 have sc:∀ {a b:PV},PV.eq1 a b=some r→eqs [a] [b]=some r∧(r=true↔a=b):=fun {a b} h=>by
  refine⟨?_,(zh5 h).2⟩
  simp only[eqs,h];simp
 cases a <;> cases b <;> first | exact⟨he,by rw[(zbL he).2];simp⟩ | exact sc he | cases he
theorem zth {a:PV} {x y:Value} (hk:a.key=true) (Hx:RPV M a x) (Hy:RPV M' a y):x=y:=by
 cases a with
 | int k n=>cases Hx;cases Hy;rfl
 | bool b=>cases Hx;cases Hy;rfl
 | str s=>cases Hx;cases Hy;rfl
 | sl sh xs=>simp [PV.key] at hk
 | nilp=>simp [PV.key] at hk
 | unk=>simp [PV.key] at hk
 | agg cs=>
  cases Hx with | agg _ vs hl hr=>
  cases Hy with | agg _ us hl' hr'=>
  congr 2
  apply List.ext_getElem (by omega)
  intro i h1 h2
  have hi:i<cs.length:=by omega
  have q1:=hr i cs[i] vs[i] (List.getElem?_eq_getElem hi) (List.getElem?_eq_getElem h1)
  have q2:=hr' i cs[i] us[i] (List.getElem?_eq_getElem hi) (List.getElem?_eq_getElem h2)
  simp only[PV.key] at hk
  have:=List.all_eq_true.1 hk _ (List.getElem_mem hi)
  generalize cs[i]=c at *
  generalize vs[i]=v1 at *
  generalize us[i]=v2 at *
  cases c <;> simp at this
  ·cases q1;cases q2;rfl
  ·cases q1;cases q2;rfl
  ·cases q1;cases q2;rfl
def zbC (P:Program) (kt:TypeId) (kk:Sh × List Nat):Bool:=shOf P kt==some kk.1&&z50 P 20 kt kk.2==some []&&kk.2.length==z0a kk.1
theorem z7m {sh:Sh} {a:PV} {x:Value} (hs:a.shp sh=true) (R:RPV M a x):∃ xs:List Value,(z4J sh fun j=>(xs[0+j]?).getD undef)=x∧Cs M a.cells xs 0∧a.cells.length=z0a sh:=by
 cases sh with
 | none=>
  have hc:a.cells=[a]:=by cases a <;> first | rfl | (simp [PV.shp,PV.sc] at hs)
  refine⟨[x],by simp [z4J],⟨by rw[hc];simp,fun j b v h1 h2=>?_⟩,by rw[hc];rfl⟩
  rw[hc] at h1
  cases j with
  | zero=>simp at h1 h2;subst h1;subst h2;exact R
  | succ j=>simp at h1
 | some n=>
  cases a with
  | agg cs=>
   cases R with | agg _ vs hl hr=>
   simp only[PV.shp,Bool.and_eq_true,beq_iff_eq] at hs
   refine⟨vs,?_,⟨by simp [PV.cells];omega,fun j b v h1 h2=>hr j b v h1 (by simpa using h2)⟩,hs.1⟩
   simp only[z4J]
   congr 2
   apply List.ext_getElem (by simp;omega)
   intro i h1 h2
   simp [h2]
  | _=>simp [PV.shp] at hs
theorem zpU {kk:Sh × List Nat} {v:AV} {key:PV} (hk:z5k kk v=some key):v = .p key∧key.key=true∧key.shp kk.1=true∧key.cells.map PV.kind=kk.2:=by
 unfold z5k at hk
 split at hk
 ·split at hk
  ·rename_i h1
   injection hk with hk
   subst hk
   simp only[Bool.and_eq_true,beq_iff_eq] at h1
   exact⟨rfl,h1.1.1,h1.1.2,h1.2⟩
  ·cases hk
 ·cases hk
structure KeyAt (P:Program) (M:Mem) (kt:TypeId) (kk:Sh × List Nat) (key:PV) (kv:Value):Prop where
 ct:zbC P kt kk=true
 ok:key.key=true
 shp:key.shp kk.1=true
 kinds:key.cells.map PV.kind=kk.2
 rel:RPV M key kv
theorem KeyAt.equal {kt:TypeId} {kk:Sh × List Nat} {key:PV} {kv:Value} (K:KeyAt P M kt kk key kv) {k2:PV} {kv2:Value} (R2:RPV M k2 kv2) (h2:k2.key=true) {r:Bool} (he:PV.eqv key k2=some r) :
 (Op.equal kt kv kv2).run P w = .ok r w:=by
 obtain⟨ct,hkey,hshp,hkinds,R⟩:=K
 unfold zbC at ct
 simp only[Bool.and_eq_true,beq_iff_eq] at ct
 obtain⟨⟨c1,c2⟩,c3⟩:=ct
 have hq:=(zpr he).1
 have hk2:=(zbL hq).1
 have hs2:k2.shp kk.1=true:=by
  cases hsh:kk.1 with
  | none=>
   rw[hsh] at hshp
   cases key <;> simp [PV.shp,PV.sc] at hshp <;> cases k2 <;> simp [PV.shp,PV.sc,PV.eqv,PV.eq1] at he ⊢
  | some n=>
   rw[hsh] at hshp
   cases key with
   | agg cs=>
    cases k2 with
    | agg ds=>
     simp only[PV.shp,Bool.and_eq_true,beq_iff_eq] at hshp ⊢
     have hl:=congrArg List.length hk2
     simp [PV.cells] at hl
     refine⟨by omega,?_⟩
     simp only[PV.key] at h2
     rw[List.all_eq_true] at h2 ⊢
     intro x hx
     have:=h2 x hx
     cases x <;> first | rfl | simp at this
    | _=>simp [PV.eqv,PV.eq1] at he
   | _=>simp [PV.shp] at hshp
 obtain⟨xs,e1,C1,L1⟩:=z7m hshp R
 obtain⟨ys,e2,C2,L2⟩:=z7m hs2 R2
 have:=y1i (P:=P) (w:=w) (M:=M) 20 kt 9980 kk.2 [] kk.1 xs ys 0 key.cells k2.cells r c2 c1 (by rw[hkinds];simp) hk2 L1 C1 C2 hq
 rw[e1,e2] at this
 exact this
theorem zbv {d:TypeDesc} {a b:PV} {x y:Value} {r r':Bool} (Rx:RPV M a x) (Ry:RPV M b y) (he:PV.eqv a b=some r) (hs:Instr.sameNow d x y=some r'):r'=r:=by
 unfold PV.eqv at he
 split at he
 ·cases Rx;cases Ry
  unfold Instr.sameNow at hs
  split at hs
  ·rename_i h1 h2;cases h1
  ·rename_i h1 h2;cases h1
  ·rename_i h1 h2;cases h1
  ·cases hs
 ·unfold PV.eq1 at he
  split at he
  ·split at he
   ·rename_i k m k' n hkk
    subst hkk
    cases Rx;cases Ry
    simp only[Option.some.injEq] at he
    unfold Instr.sameNow at hs
    split at hs <;> simp_all
    rw[← hs,← he,z2n]
   ·cases he
  ·cases Rx;cases Ry
   simp only[Option.some.injEq] at he
   unfold Instr.sameNow at hs
   split at hs <;> simp_all
   rw[← hs,← he,z2n]
  ·rename_i s s'
   cases Rx;cases Ry
   simp only[Option.some.injEq] at he
   unfold Instr.sameNow at hs
   split at hs
   ·rename_i h1 _;cases h1
   ·rename_i a b h1 h2
    cases h1;cases h2
    injection hs with hs
    rw[← hs,← he]
    simp [Go.beq_toListBytes,Go.ByteArray.toList_mk,z2n]
   ·rename_i h1 _;cases h1
   ·cases hs
  ·cases he
def z7U (M:Mem) (es:List ME) (ces:List MapEntry):Prop:=es.length=ces.length∧∀ (i:Nat) (e:ME) (ce:MapEntry),es[i]?=some e→ces[i]?=some ce→RPV M e.key ce.key∧e.key.key=true
def z6d (ces:List MapEntry) (off:Nat) (r:Option Nat):Option (Nat × Value):=r.bind fun i=>(ces[i]?).map fun c=>(off+i,c.val)
theorem zaQ {ce:MapEntry} {ces:List MapEntry} {off:Nat} {r:Option Nat}:z6d (ce::ces) off (r.map (· + 1))=z6d ces (off+1) r:=by
 cases r with
 | none=>rfl
 | some i=>simp [z6d,show off+(i+1)=off+1+i by omega]
theorem KeyAt.asking {kt:TypeId} {kk:Sh × List Nat} {key:PV} {kv:Value} (K:KeyAt P M kt kk key kv):∀ {es:List ME} {ces:List MapEntry} {off:Nat} {r:Option Nat},z7U M es ces→z2B key es=some r →
 (Instr.findAsking kt kv ces off).run P w = .ok (z6d ces off r) w
 | [],[],off,r,_,h=>by
  simp [z2B] at h
  subst h
  rfl
 | [],_::_,off,r,hr,_=>by simp [z7U] at hr
 | _::_,[],off,r,hr,_=>by simp [z7U] at hr
 | e::es,ce::ces,off,r,hr,h=>by
  obtain⟨k1,k2⟩:=hr.2 0 e ce rfl rfl
  have hr':z7U M es ces:=⟨by have:=hr.1;simpa using this,fun i e' ce' h1 h2=>hr.2 (i+1) e' ce' (by simpa using h1) (by simpa using h2)⟩
  simp only[z2B] at h
  simp only[Instr.findAsking,Sem.run_bind]
  split at h
  ·rename_i hq
   injection h with h
   subst h
   rw[K.equal k1 k2 hq]
   simp [z6d]
  ·rename_i hq
   simp only[Option.map_eq_some_iff] at h
   obtain⟨r',h1,rfl⟩:=h
   rw[K.equal k1 k2 hq]
   simp only[Result.andThen_ok,Bool.false_eq_true,if_false]
   rw[K.asking (off:=off+1) hr' h1,zaQ]
  ·cases h
theorem KeyAt.now {kt:TypeId} {kk:Sh × List Nat} {key:PV} {kv:Value} (K:KeyAt P M kt kk key kv) {d:TypeDesc}:∀ {es:List ME} {ces:List MapEntry} {off:Nat} {r:Option Nat} {q:Option (Nat × Value)},z7U M es ces→z2B key es=some r →
 Instr.findNow d kv ces off=some q→q=z6d ces off r
 | [],[],off,r,q,_,h,hq=>by
  simp [z2B] at h
  subst h
  simp [Instr.findNow] at hq
  subst hq
  rfl
 | [],_::_,off,r,q,hr,_,_=>by simp [z7U] at hr
 | _::_,[],off,r,q,hr,_,_=>by simp [z7U] at hr
 | e::es,ce::ces,off,r,q,hr,h,hq=>by
  obtain⟨k1,k2⟩:=hr.2 0 e ce rfl rfl
  have hr':z7U M es ces:=⟨by have:=hr.1;simpa using this,fun i e' ce' h1 h2=>hr.2 (i+1) e' ce' (by simpa using h1) (by simpa using h2)⟩
  simp only[z2B] at h
  simp only[Instr.findNow] at hq
  split at hq
  ·rename_i hs
   injection hq with hq
   subst hq
   split at h
   ·injection h with h
    subst h
    simp [z6d]
   ·rename_i he
    have:=zbv K.rel k1 he hs
    cases this
   ·cases h
  ·rename_i hs
   split at h
   ·rename_i he
    have:=zbv K.rel k1 he hs
    cases this
   ·simp only[Option.map_eq_some_iff] at h
    obtain⟨r',h1,rfl⟩:=h
    rw[K.now (off:=off+1) hr' h1 hq,zaQ]
   ·cases h
  ·cases hq
theorem KeyAt.ud {kt:TypeId} {kk:Sh × List Nat} {key:PV} {kv:Value} (K:KeyAt P M kt kk key kv):∃ d,P.underlying kt=some d:=by
 have ct:=K.ct
 unfold zbC at ct
 simp only[Bool.and_eq_true,beq_iff_eq] at ct
 cases hu:P.underlying kt with
 | some d=>exact⟨d,rfl⟩
 | none=>have:=ct.1.1;simp [shOf,hu] at this
theorem KeyAt.find {kt:TypeId} {kk:Sh × List Nat} {key:PV} {kv:Value} (K:KeyAt P M kt kk key kv) {es:List ME} {ces:List MapEntry} {r:Option Nat} (hr:z7U M es ces) (h:z2B key es=some r) :
 (Instr.findKey kt kv ces).run P w = .ok (z6d ces 0 r) w:=by
 obtain⟨d,hd⟩:=K.ud
 unfold Instr.findKey
 rw[Sem.run_bind,z0b hd]
 simp only[Result.andThen_ok]
 split
 ·rename_i q hq
  rw[K.now hr h hq];rfl
 ·exact K.asking hr h
def CkAt (P:Program) (w:World) (M:Mem) (em:Bool) (d:Nat) (t:TypeId):Prop:=∀ (m:Nat) (ks rest:List Nat) (sh:Sh) (xs:List Value) (off:Nat) (asv:List PV),z50 P d t ks=some rest→shOf P t=some sh→ks=asv.map PV.kind++rest→asv.length=z0a sh →
 Cs M asv xs off→(Instr.checkKey em (m+d) t (z4J sh fun j=>(xs[off+j]?).getD undef)).run P w = .ok () w
theorem zmP {em:Bool} {d:Nat} (IH:∀ t,CkAt P w M em d t) {m:Nat} {xs:List Value}:∀ {fs:List Field} {i:Nat} {ks rest:List Nat} {asv:List PV},z9V P (z50 P d) i fs ks=some rest→ks=asv.map PV.kind++rest →
 Cs M asv xs i→(forIn (m:=Sem) fs PUnit.unit (fun f _=>
  if f.name ≠ "_" then (do
   let v ← part f.type xs.toArray f.offset
   Instr.checkKey em (m+d) f.type v
   pure (.yield PUnit.unit)) else pure (.yield PUnit.unit))).run P w = .ok PUnit.unit w
 | [],i,ks,rest,asv,h,hk,hA=>rfl
 | fl::fs,i,ks,rest,asv,h,hk,hA=>by
  simp only[z9V] at h
  split at h
  ·rename_i hfl
   split at h
   ·rename_i sh hsh
    split at h
    ·rename_i ks' hk'
     split at h
     ·rename_i hlen
      obtain⟨pre,h1⟩:=z4P _ _ _ _ hk'
      obtain⟨pre2,h2⟩:=z6e (z4P d) h
      have hpre:pre.length=z0a sh:=by rw[h1] at hlen;simp at hlen;omega
      have hkk:asv.map PV.kind=pre++pre2:=by
       rw[h1,h2,← List.append_assoc] at hk
       exact (List.append_cancel_right hk).symm
      have hla:asv.length=pre.length+pre2.length:=by have:=congrArg List.length hkk;simpa using this
      obtain⟨a1,a2,rfl,ha1⟩:∃ a1 a2,asv=a1++a2∧a1.length=pre.length:=⟨asv.take pre.length,asv.drop pre.length,by simp,by simp;omega⟩
      rw[List.map_append] at hkk
      obtain⟨m1,m2⟩:=List.append_inj hkk (by simpa using ha1)
      have cA1:Cs M a1 xs i:=⟨by have:=hA.1;simp at this;omega,fun j a v hj hv=>hA.2 j a v (z2u hj) hv⟩
      have cA2:Cs M a2 xs (i+z0a sh):=⟨by have:=hA.1;simp at this;omega,fun j a v hj hv=>hA.2 (a1.length+j) a v (by rw[List.getElem?_append_right (by omega)];simpa using hj) (by rw[← hv];congr 1;omega)⟩
      have p1:=z6L (P:=P) (w:=w) (t:=fl.type) hsh (vs:=xs) (off:=i) (by have:=cA1.1;omega)
      have hh:=IH fl.type m ks ks' sh xs i a1 hk' hsh (by rw[h1,m1]) (by omega) cA1
      have ih:=zmP IH (m:=m) h (by rw[h2,m2]) cA2
      simp only[List.forIn_cons,Sem.run_bind,hfl.1,ne_eq,not_false_eq_true,if_true,hfl.2,Result.andThen_ok,p1,hh,Sem.run_pure]
      exact ih
     ·cases h
    ·cases h
   ·cases h
  ·cases h
theorem ck_ok {em:Bool}:∀ (d:Nat) (t:TypeId),CkAt P w M em d t
 | 0,t=>fun m ks rest sh xs off asv h=>by simp [z50] at h
 | d+1,t=>fun m ks rest sh xs off asv h hsh hk hla hA=>by
  simp only[z50] at h
  split at h
  ·rename_i fs hu
   split at h
   ·cases h
   ·have hsn:∃ n,sh=some n:=by
     unfold shOf at hsh
     rw[hu] at hsh
     cases hi:P.info? t with
     | none=>rw[hi] at hsh;simp at hsh
     | some i=>rw[hi] at hsh;simp at hsh;exact⟨_,hsh.symm⟩
    obtain⟨n,rfl⟩:=hsn
    show (Instr.checkKey em (m+d+1) t (.agg _)).run P w=_
    simp only[Instr.checkKey,Sem.run_bind,z0b hu,Result.andThen_ok]
    rw[← Array.forIn_toList]
    simp only[z0a] at hla
    have:=zmP (em:=em) (m:=m) (xs:=(List.range n).map fun j=>(xs[off+j]?).getD undef) (ck_ok d) h hk ⟨by simp;omega,fun j a v hj hv=>by
     have hjn:j<n:=by rw[← hla];exact z0g hj
     have hlt:off+j<xs.length:=by have:=hA.1;omega
     simp [hjn,hlt] at hv
     exact hA.2 j a v hj (by rw[← hv];simp [hlt])⟩
    rw[this]
    rfl
  ·split at h
   ·rename_i k r' hnot
    split at h
    ·rename_i hkk
     have hsn:sh=none:=by
      obtain⟨h1,h2⟩:=hkk
      unfold shOf at hsh
      unfold zgf at h1
      split at h1
      ·rename_i hu;rw[hu] at hsh;split at hsh <;> simp_all
      ·rename_i hu;rw[hu] at hsh;split at hsh <;> simp_all
      ·rename_i hu;rw[hu] at hsh;split at hsh <;> simp_all
      ·omega
     subst hsn
     obtain⟨h1,h2⟩:=hkk
     show (Instr.checkKey em (m+d+1) t _).run P w=_
     unfold zgf at h1
     split at h1
     ·rename_i hu;simp [Instr.checkKey,z0b hu]
     ·rename_i hu;simp [Instr.checkKey,z0b hu]
     ·rename_i hu;simp [Instr.checkKey,z0b hu]
     ·omega
    ·cases h
   ·cases h
theorem KeyAt.check {kt:TypeId} {kk:Sh × List Nat} {key:PV} {kv:Value} (K:KeyAt P M kt kk key kv) (em:Bool):(Instr.checkKey em 10000 kt kv).run P w = .ok () w:=by
 obtain⟨ct,hkey,hshp,hkinds,R⟩:=K
 unfold zbC at ct
 simp only[Bool.and_eq_true,beq_iff_eq] at ct
 obtain⟨⟨c1,c2⟩,c3⟩:=ct
 obtain⟨xs,e1,C1,L1⟩:=z7m hshp R
 have:=ck_ok (P:=P) (w:=w) (M:=M) (em:=em) 20 kt 9980 kk.2 [] kk.1 xs 0 key.cells c2 c1 (by rw[hkinds];simp) L1 C1
 rw[e1] at this
 exact this
theorem zfs {a:PV} {x:Value} (hk:a.key=true) (R:RPV M a x):∀ n,2≤n→Instr.sameBits n x x=true:=by
 intro n hn
 obtain⟨m,rfl⟩:∃ m,n=m+2:=⟨n-2,by omega⟩
 cases a with
 | int k n=>cases R;simp [Instr.sameBits]
 | bool b=>cases R;simp [Instr.sameBits]
 | str s=>cases R;simp [Instr.sameBits,MapKept.bytes_beq]
 | sl sh xs=>simp [PV.key] at hk
 | nilp=>simp [PV.key] at hk
 | unk=>simp [PV.key] at hk
 | agg cs=>
  cases R with | agg _ vs hl hr=>
  simp only[Instr.sameBits,beq_self_eq_true,Bool.true_and,List.all_eq_true]
  intro p hp
  obtain⟨i,hi,e⟩:=List.getElem_of_mem hp
  simp only[List.length_zip,Nat.min_self] at hi
  have hi':i<vs.length:=by simpa using hi
  rw[List.getElem_zip] at e
  rw[← e]
  have q1:=hr i cs[i] vs[i] (List.getElem?_eq_getElem (by omega)) (List.getElem?_eq_getElem hi')
  simp only[PV.key] at hk
  have:=List.all_eq_true.1 hk _ (List.getElem_mem (show i<cs.length by omega))
  generalize cs[i]=c at *
  dsimp only
  generalize vs[i]=v at *
  cases c <;> simp at this
  ·cases q1;simp [Instr.sameBits]
  ·cases q1;simp [Instr.sameBits]
  ·cases q1;simp [Instr.sameBits,MapKept.bytes_beq]
theorem KeyAt.stays {kt:TypeId} {kk:Sh × List Nat} {key:PV} {kv:Value} (K:KeyAt P M kt kk key kv):(Instr.keyThatStays kv kv).run P w = .ok kv w:=by
 simp [Instr.keyThatStays,zfs K.ok K.rel 10000 (by omega)]
theorem z4y {key:PV}:∀ {es:List ME} {i:Nat},z2B key es=some (some i)→∃ e,es[i]?=some e∧e.key=key
 | [],i,h=>by simp [z2B] at h
 | e::es,i,h=>by
  simp only[z2B] at h
  split at h
  ·rename_i hq
   injection h with h
   injection h with h
   subst h
   exact⟨e,rfl,((zpr hq).2.1 rfl).symm⟩
  ·simp only[Option.map_eq_some_iff] at h
   obtain⟨r,h1,h2⟩:=h
   cases r with
   | none=>simp at h2
   | some j=>
    simp at h2
    subst h2
    obtain⟨e',h3,h4⟩:=z4y h1
    exact⟨e',by simpa using h3,h4⟩
  ·cases h
theorem z5c {v:AV} {id c:Nat} {es:List ME} (hm:mget h v=some (id,es,c)):v = .mp id∧h[id]?=some (.amap es c):=by
 unfold mget at hm
 split at hm
 ·split at hm
  ·rename_i ho
   simp only[Option.some.injEq,Prod.mk.injEq] at hm
   obtain⟨rfl,rfl,rfl⟩:=hm
   exact⟨rfl,ho⟩
  ·cases hm
 ·cases hm
structure MapAt (h:Heap) (μ:Mu) (w:World) (id:Nat) (es:List ME) (c:Nat) (b:Nat) (n:Nat) (ces:Array MapEntry):Prop where
 ho:h[id]?=some (.amap es c)
 hm:μ[id]?=some (some (b,n))
 hb:w.heap[b]?=some (.map ces c)
 sz:ces.size=es.length
 bd:∀ e∈es,e.born<c
 rel:∀ (i:Nat) (e:ME) (ce:MapEntry),es[i]?=some e→ces[i]?=some ce→RPV (imm h μ w) e.key ce.key∧e.key.key=true∧RAV (imm h μ w) h μ e.val ce.val∧ce.born=e.born
theorem zaU {v:AV} {id c:Nat} {es:List ME} {x:Value} (H:HeapRel h μ w) (R:RAV (imm h μ w) h μ v x) (hm:mget h v=some (id,es,c)):∃ b n ces,x = .map (some b)∧MapAt h μ w id es c b n ces:=by
 obtain⟨rfl,ho⟩:=z5c hm
 cases R with | mp _ b n es' c' ho' hmu=>
 obtain⟨b',n',ces,hb',k1,k2,k4,k3⟩:=H.obj _ _ _ ho hmu
 injection hb' with hb';injection hb' with hb1 hb2
 subst hb1
 exact⟨_,_,ces,rfl,ho,hmu,k1,k2,k4,k3⟩
theorem MapAt.esrel {id c b n:Nat} {es:List ME} {ces:Array MapEntry} (A:MapAt h μ w id es c b n ces):z7U (imm h μ w) es ces.toList:=
 ⟨by simp [A.sz],fun i e ce h1 h2=>by obtain⟨q1,q2,_⟩:=A.rel i e ce h1 (by simpa using h2);exact⟨q1,q2⟩⟩
theorem MapAt.put {id c b n:Nat} {es:List ME} {ces:Array MapEntry} (A:MapAt h μ w id es c b n ces) (H:HeapRel h μ w) {es':List ME} {c':Nat} {ces':Array MapEntry} (hsz:ces'.size=es'.length) (hbd:∀ e∈es',e.born<c')
 (hrel:∀ (i:Nat) (e:ME) (ce:MapEntry),es'[i]?=some e→ces'[i]?=some ce→RPV (imm h μ w) e.key ce.key∧e.key.key=true∧RAV (imm h μ w) h μ e.val ce.val∧ce.born=e.born) :
 HeapRel (h.set id (.amap es' c')) μ (z0I w b (.map ces' c'))∧Evo (imm h μ w) h μ (imm (h.set id (.amap es' c')) μ (z0I w b (.map ces' c'))) (h.set id (.amap es' c')) μ:=by
 have hμ:μ.set id (some (b,n))=μ:=by
  apply List.ext_getElem?
  intro j
  rw[List.getElem?_set]
  split
  ·rename_i hj;subst hj;rw[if_pos (z0g A.hm),A.hm]
  ·rfl
 have:=H.set (w':=z0I w b (.map ces' c')) (id:=id) (o:=.amap es c) (o':=.amap es' c') (m:=some (b,n)) (m':=some (b,n)) A.ho A.hm ⟨⟨_,_,rfl⟩,rfl⟩ rfl (by rw[z11];exact Nat.le_refl _)
  (fun b' _ hne=>z2l (fun e=>hne n (by rw[e]))) (fun b' n' e=>.inl ⟨n',e⟩) (fun b' n' sh xs fz _ e=>by cases e)
  (fun M' E=>⟨b,n,ces',rfl,z1e A.hb,hsz,hbd,fun i e ce h1 h2=>by
   obtain⟨q1,q2,q3,q4⟩:=hrel i e ce h1 h2
   exact⟨q1.mono E.le,q2,q3.evo E,q4⟩⟩)
  (fun b' n' t e ht=>by
   injection e with e
   injection e with e1 _
   subst e1
   unfold ety at ht
   rw[A.hb] at ht
   cases ht)
 rw[hμ] at this
 exact this
theorem z1j {b c:Nat} {ces:Array MapEntry} (hb:w.heap[b]?=some (.map ces c)):(getObj b).run P w = .ok (.map ces c) w:=MapKept.run_getObj_map hb
theorem z1X {b c:Nat} {ces:Array MapEntry} (o:Go.Obj) (hb:w.heap[b]?=some (.map ces c)):(setObj b o).run P w = .ok () (z0I w b o):=MapKept.run_setObj_map o hb
def z5z (P:Program) (kk:Sh × List Nat) (t:TypeId):Bool:=match P.underlying t with
 | some (.map k _)=>zbC P k kk
 | _=>false
def z6X (P:Program) (kk:Sh × List Nat) (z:AV) (t:TypeId):Bool:=match P.underlying t with
 | some (.map k e)=>zbC P k kk&&(match P.info? e with | some i=>(match i.zero with | some v=>z3b z v | none=>false) | none=>false)
 | _=>false
theorem z8h {kk:Sh × List Nat} {t:TypeId} (hc:z5z P kk t=true):∃ k e,P.underlying t=some (.map k e)∧zbC P k kk=true:=by
 unfold z5z at hc
 split at hc
 ·rename_i k e hu;exact⟨k,e,hu,hc⟩
 ·cases hc
theorem z8i {kk:Sh × List Nat} {z:AV} {t:TypeId} (hc:z6X P kk z t=true):∃ k e v,P.underlying t=some (.map k e)∧zbC P k kk=true∧z3b z v=true∧∀ w,(zeroValue e).run P w = .ok v w:=by
 unfold z6X at hc
 split at hc
 ·rename_i k e hu
  simp only[Bool.and_eq_true] at hc
  obtain⟨c1,c2⟩:=hc
  split at c2
  ·rename_i i hi
   split at c2
   ·rename_i v hv
    refine⟨k,e,v,hu,c1,c2,fun w=>?_⟩
    unfold zeroValue
    rw[Sem.run_bind,z0F hi]
    simp [hv]
   ·cases c2
  ·cases c2
 ·cases hc
theorem zhU {kk:Sh × List Nat} {kt:TypeId} (hc:zbC P kt kk=true) {v:AV} {key:PV} {x:Value} (hk:z5k kk v=some key) (R:RAV (imm h μ w) h μ v x):KeyAt P (imm h μ w) kt kk key x:=by
 obtain⟨rfl,k1,k2,k3⟩:=zpU hk
 exact⟨hc,k1,k2,k3,R.p_inv⟩
theorem z5a {ces:List MapEntry} {i:Nat} {ce:MapEntry} (hc:ces[i]?=some ce):z6d ces 0 (some i)=some (i,ce.val):=by simp [z6d,hc]
theorem z9N {es:List ME} {i:Nat} {v:AV}:AV.tops ((es.modify i fun e=>{ e with val:=v }).map ME.val)≤max (AV.tops (es.map ME.val)) v.top:=by
 refine z4O (fun j y hy=>?_)
 rw[List.getElem?_map,List.getElem?_modify] at hy
 simp only[Option.map_eq_map,Option.map_eq_some_iff] at hy
 obtain⟨e,he,rfl⟩:=hy
 obtain⟨e0,he0,rfl⟩:=he
 have h0:(es.map ME.val)[j]?=some e0.val:=by simp [he0]
 have:=z4x h0
 split
 ·show v.top≤_;omega
 ·show e0.val.top≤_;omega
theorem zf5 {es:List ME} {e:ME}:AV.tops ((es++[e]).map ME.val)≤max (AV.tops (es.map ME.val)) e.val.top:=by
 rw[List.map_append,z2M]
 simp [AV.tops]
theorem zkl {es:List ME} {i:Nat}:AV.tops ((es.eraseIdx i).map ME.val)≤AV.tops (es.map ME.val):=by
 refine z4O (fun j y hy=>?_)
 have hm:y∈(es.eraseIdx i).map ME.val:=by
  obtain⟨hj,e⟩:=List.getElem?_eq_some_iff.1 hy
  rw[← e];exact List.getElem_mem _
 obtain⟨e,he,rfl⟩:=List.mem_map.1 hm
 have he':=(List.eraseIdx_sublist es i).subset he
 obtain⟨k,hk,ek⟩:=List.getElem_of_mem he'
 have:(es.map ME.val)[k]?=some e.val:=by simp [hk,ek]
 exact z4x this
theorem zmW {z:AV} {v:Value} (hc:z3b z v=true):z.top=0:=by
 have:=(z1c (M:=⟨fun _ _=>none,fun _=>none,none,fun _=>none⟩) (h:=[]) (μ:=[]) hc).top_le
 simpa using this
theorem y0a {kk:Sh × List Nat} {ok:Bool} {z:AV} {t:TypeId} (hc:z6X P kk z t=true) {ev:Opd→AV} {p q:Opd} {x y:Value} {v:AV} {h1:Heap} {e:Esc} (H:HeapRel h μ w) (Rp:RAV (imm h μ w) h μ (ev p) x) (Rq:RAV (imm h μ w) h μ (ev q) y)
 (he:aop (.look kk ok z p q) ev h=some (v,h1,e)):OpOk P (do pure (.value (← Instr.lookup t x y ok))) h μ w v h1 e:=by
 obtain⟨kt,et,zv,hu,hkt,hz,hzr⟩:=z8i hc
 have Rz:RAV (imm h μ w) h μ z zv:=z1c hz
 simp only[aop] at he
 split at he
 ·rename_i key hk
  have K:=zhU hkt hk Rq
  have fin:∀ {es:List ME} {ces:Array MapEntry} {r:Option Nat},z7U (imm h μ w) es ces.toList→(∀ (i:Nat) (e:ME) (ce:MapEntry),es[i]?=some e→ces[i]?=some ce→RAV (imm h μ w) h μ e.val ce.val) →
   z2B key es=some r→(Instr.lookup t x y ok).run P w=(do
    Instr.checkKey ces.isEmpty 10000 kt y
    let q ← Instr.findKey kt y ces.toList
    match q with
    | some (_,v)=>do
     let z ← pure (v,true)
     pure (if ok=true then .tuple #[z.1,.bool z.2] else z.1)
    | none=>do
     let u ← zeroValue et
     let z ← pure (u,false)
     pure (if ok=true then .tuple #[z.1,.bool z.2] else z.1):Sem Value).run P w →
   some ((bif ok then AV.tup [((r.bind (es[·]?)).map ME.val).getD z,pbool ((r.bind (es[·]?)).map ME.val).isSome] else ((r.bind (es[·]?)).map ME.val).getD z),h,([]:Esc))=some (v,h1,e) →
   OpOk P (do pure (.value (← Instr.lookup t x y ok))) h μ w v h1 e:=by
   intro es ces r hr hv hf hg hres
   simp only[Option.some.injEq,Prod.mk.injEq] at hres
   obtain⟨rfl,rfl,rfl⟩:=hres
   have hfind:=K.find (w:=w) hr hf
   have hck:=K.check (w:=w) ces.isEmpty
   rw[Sem.run_bind,hck] at hg
   simp only[Result.andThen_ok] at hg
   rw[Sem.run_bind,hfind] at hg
   simp only[Result.andThen_ok] at hg
   have done:∀ (u:Value) (b:Bool),RAV (imm h μ w) h μ (((r.bind (es[·]?)).map ME.val).getD z) u→b=((r.bind (es[·]?)).map ME.val).isSome →
    (Instr.lookup t x y ok).run P w = .ok (if ok=true then .tuple #[u,.bool b] else u) w→OpOk P (do pure (.value (← Instr.lookup t x y ok))) h μ w (bif ok then AV.tup [((r.bind (es[·]?)).map ME.val).getD z,pbool ((r.bind (es[·]?)).map ME.val).isSome] else ((r.bind (es[·]?)).map ME.val).getD z) h []:=by
    intro u b Ru hb hrun
    refine OpOk.pure H (z0r hrun) ?_
    cases ok with
    | false=>simpa using Ru
    | true=>
     simp only[cond_true,if_true]
     refine .tup _ [u,.bool b] rfl (fun j a c h1 h2=>?_)
     match j with
     | 0=>cases h1;cases h2;exact Ru
     | 1=>cases h1;cases h2;rw[hb];exact RAV.pbool _
     | j+2=>simp at h1
   cases r with
   | none=>exact done zv false Rz rfl (by rw[hg];simp [z6d,hzr])
   | some i=>
    obtain⟨e0,he0,_⟩:=z4y hf
    have hi:i<ces.size:=by have:=z0g he0;have:=hr.1;simp at this;omega
    have hce:ces[i]?=some ces[i]:=Array.getElem?_eq_getElem hi
    refine done ces[i].val true ?_ (by simp [he0]) (by rw[hg,z5a (ce:=ces[i]) (by simpa using hce)];simp)
    simp only[Option.bind_some,he0,Option.map_some,Option.getD_some]
    exact hv i e0 _ he0 hce
  split at he
  ·rename_i es hes
   split at he
   ·rename_i r hf
    split at hes
    ·rename_i hp
     injection hes with hes
     subst hes
     rw[hp] at Rp
     cases Rp
     exact fin (ces:=#[]) ⟨rfl,fun i e ce h1=>by simp at h1⟩ (fun i e ce h1=>by simp at h1) hf (by
      unfold Instr.lookup
      rw[Sem.run_bind,z0b hu]
      rfl) he
    ·simp only[Option.map_eq_some_iff] at hes
     obtain⟨⟨id,es',c⟩,hm,rfl⟩:=hes
     obtain⟨b,n,ces,rfl,A⟩:=zaU H Rp hm
     refine fin (ces:=ces) A.esrel (fun i e ce h1 h2=>(A.rel i e ce h1 h2).2.2.1) hf ?_ he
     unfold Instr.lookup
     rw[Sem.run_bind,z0b hu]
     simp only[Result.andThen_ok]
     rw[Sem.run_bind,z1j A.hb]
     rfl
   ·cases he
  ·cases he
 ·cases he
theorem z4v {ces:Array MapEntry} {i:Nat} {ce:MapEntry} (hc:ces[i]?=some ce) (d:Value):((ces[i]?).map (·.key)).getD d=ce.key:=by simp [hc]
theorem zbb {M:Mem} {es:List ME} {ces:Array MapEntry} {i:Nat} {kv:Value} {key:PV} {v:AV} {x:Value} (hk:∀ e,es[i]?=some e→e.key=key) (Rk:RPV M key kv) (Rv:RAV M h μ v x)
 (hrel:∀ (i:Nat) (e:ME) (ce:MapEntry),es[i]?=some e→ces[i]?=some ce→RPV M e.key ce.key∧e.key.key=true∧RAV M h μ e.val ce.val∧ce.born=e.born) :
 ∀ (j:Nat) (e:ME) (ce:MapEntry),(es.modify i fun e=>{ e with val:=v })[j]?=some e→(ces.modify i fun e=>{ e with key:=kv,val:=x })[j]?=some ce→RPV M e.key ce.key∧e.key.key=true∧RAV M h μ e.val ce.val∧ce.born=e.born:=by
 intro j e ce h1 h2
 rw[List.getElem?_modify] at h1
 simp only[Option.map_eq_map,Option.map_eq_some_iff] at h1
 simp only[Array.getElem?_modify] at h2
 obtain⟨e0,he0,rfl⟩:=h1
 by_cases hij:i=j
 ·subst hij
  simp only[if_true,Option.map_eq_some_iff] at h2 ⊢
  obtain⟨c0,hc0,rfl⟩:=h2
  obtain⟨q1,q2,q3,q4⟩:=hrel i e0 c0 he0 hc0
  exact⟨by rw[hk e0 he0];exact Rk,q2,Rv,q4⟩
 ·rw[if_neg hij] at h2
  rw[if_neg hij]
  exact hrel j e0 ce he0 h2
theorem ziz {M:Mem} {es:List ME} {ces:Array MapEntry} {e1:ME} {c1:MapEntry} (hsz:ces.size=es.length) (h1:RPV M e1.key c1.key∧e1.key.key=true∧RAV M h μ e1.val c1.val∧c1.born=e1.born)
 (hrel:∀ (i:Nat) (e:ME) (ce:MapEntry),es[i]?=some e→ces[i]?=some ce→RPV M e.key ce.key∧e.key.key=true∧RAV M h μ e.val ce.val∧ce.born=e.born) :
 ∀ (j:Nat) (e:ME) (ce:MapEntry),(es++[e1])[j]?=some e→(ces.push c1)[j]?=some ce→RPV M e.key ce.key∧e.key.key=true∧RAV M h μ e.val ce.val∧ce.born=e.born:=by
 intro j e ce ha hb
 rcases z2b ha with ha | ⟨rfl,rfl⟩
 ·have hj:=z0g ha
  rw[Array.getElem?_push,if_neg (by omega)] at hb
  exact hrel j e ce ha hb
 ·rw[Array.getElem?_push,if_pos (by omega)] at hb
  injection hb with hb
  subst hb
  exact h1
theorem zqF {kk:Sh × List Nat} {t:TypeId} (hc:z5z P kk t=true) {ev:Opd→AV} {m k u:Opd} {x y z:Value} {v:AV} {h1:Heap} {e:Esc} (H:HeapRel h μ w) (Rm:RAV (imm h μ w) h μ (ev m) x) (Rk:RAV (imm h μ w) h μ (ev k) y) (Ru:RAV (imm h μ w) h μ (ev u) z)
 (he:aop (.mupd kk m k u) ev h=some (v,h1,e)):OpOk P (do Instr.mapUpdate t x y z;pure .skip) h μ w v h1 e:=by
 obtain⟨kt,et,hu,hkt⟩:=z8h hc
 simp only[aop] at he
 split at he
 ·rename_i key id es c hk hm hok
  have K:=zhU hkt hk Rk
  obtain⟨b,n,ces,rfl,A⟩:=zaU H Rm hm
  have hck:=K.check (w:=w) false
  split at he
  ·rename_i i hf
   simp only[Option.some.injEq,Prod.mk.injEq] at he
   obtain⟨rfl,rfl,rfl⟩:=he
   obtain⟨e0,he0,hek⟩:=z4y hf
   have hi:i<ces.size:=by have:=z0g he0;have:=A.sz;omega
   have hce:ces[i]?=some ces[i]:=Array.getElem?_eq_getElem hi
   obtain⟨q1,q2,q3,q4⟩:=A.rel i e0 _ he0 hce
   have hkv:ces[i].key=y:=zth (by rw[hek];exact K.ok) q1 (by rw[hek];exact K.rel)
   have hfind:=K.find (w:=w) A.esrel hf
   rw[z5a (ce:=ces[i]) (by simpa using hce)] at hfind
   have hrun:(Instr.mapUpdate t (.map (some b)) y z).run P w = .ok () (z0I w b (.map (ces.modify i fun e=>{ e with key:=y,val:=z }) c)):=by
    unfold Instr.mapUpdate
    rw[Sem.run_bind,z0b hu]
    simp only[Result.andThen_ok]
    rw[Sem.run_bind,z1j A.hb]
    simp only[Result.andThen_ok]
    rw[Sem.run_bind,hck]
    simp only[Result.andThen_ok]
    rw[Sem.run_bind,hfind]
    simp only[Result.andThen_ok]
    rw[Sem.run_bind,z4v hce,hkv,K.stays]
    simp only[Result.andThen_ok]
    exact z1X _ A.hb
   obtain⟨n1,n2⟩:=A.put H (es':=es.modify i fun e=>{ e with val:=ev u }) (c':=c) (ces':=ces.modify i fun e=>{ e with key:=y,val:=z }) (by simp [A.sz])
    (fun e he=>by
     obtain⟨j,hj,ej⟩:=List.getElem_of_mem he
     have:(es.modify i fun e=>{ e with val:=ev u })[j]?=some e:=by rw[List.getElem?_eq_getElem hj,ej]
     rw[List.getElem?_modify] at this
     simp only[Option.map_eq_map,Option.map_eq_some_iff] at this
     obtain⟨e',he',rfl⟩:=this
     have:=A.bd e' (by obtain⟨q,e⟩:=List.getElem?_eq_some_iff.1 he';rw[← e];exact List.getElem_mem _)
     split <;> exact this)
    (zbb (fun e he=>by rw[he0] at he;injection he with he;rw[← he];exact hek) K.rel Ru A.rel)
   exact⟨_,_,_,zvQ hrun,.inr ⟨rfl,rfl⟩,n1,n2,z0k.set A.ho (by
    have:=z9N (es:=es) (i:=i) (v:=ev u)
    have:=z2h id (ev u)
    simp only[Obj.top];omega)⟩
  ·rename_i hf
   simp only[Option.some.injEq,Prod.mk.injEq] at he
   obtain⟨rfl,rfl,rfl⟩:=he
   have hfind:=K.find (w:=w) A.esrel hf
   have hrun:(Instr.mapUpdate t (.map (some b)) y z).run P w = .ok () (z0I w b (.map (ces.push { key:=y,val:=z,born:=c }) (c+1))):=by
    unfold Instr.mapUpdate
    rw[Sem.run_bind,z0b hu]
    simp only[Result.andThen_ok]
    rw[Sem.run_bind,z1j A.hb]
    simp only[Result.andThen_ok]
    rw[Sem.run_bind,hck]
    simp only[Result.andThen_ok]
    rw[Sem.run_bind,hfind]
    simp only[z6d,Option.bind_none,Result.andThen_ok]
    exact z1X _ A.hb
   obtain⟨n1,n2⟩:=A.put H (es':=es++[⟨key,ev u,c⟩]) (c':=c+1) (ces':=ces.push { key:=y,val:=z,born:=c }) (by simp [A.sz])
    (fun e he=>by
     rw[List.mem_append,List.mem_singleton] at he
     rcases he with he | rfl
     ·have:=A.bd e he;omega
     ·exact Nat.lt_succ_self _)
    (ziz A.sz ⟨K.rel,K.ok,Ru,rfl⟩ A.rel)
   exact⟨_,_,_,zvQ hrun,.inr ⟨rfl,rfl⟩,n1,n2,z0k.set A.ho (by
    have:=zf5 (es:=es) (e:=⟨key,ev u,c⟩)
    have:=z2h id (ev u)
    simp only[Obj.top];dsimp only at *;omega)⟩
  ·cases he
 ·cases he
theorem y0c {kk:Sh × List Nat} {z:AV} {t:TypeId} (hc:z6X P kk z t=true) {ev:Opd→AV} {m k:Opd} {x y:Value} {v:AV} {h1:Heap} {e:Esc} (H:HeapRel h μ w) (Rm:RAV (imm h μ w) h μ (ev m) x) (Rk:RAV (imm h μ w) h μ (ev k) y)
 (he:aop (.ment kk z m k) ev h=some (v,h1,e)):OpOk P (do pure (.value (← Instr.mapEntry t x y))) h μ w v h1 e:=by
 obtain⟨kt,et,zv,hu,hkt,hz,hzr⟩:=z8i hc
 have Rz:RAV (imm h μ w) h μ z zv:=z1c hz
 simp only[aop] at he
 split at he
 ·rename_i key id es c hk hm
  have K:=zhU hkt hk Rk
  obtain⟨b,n,ces,rfl,A⟩:=zaU H Rm hm
  have hck:=K.check (w:=w) false
  split at he
  ·rename_i i hf
   simp only[Option.map_eq_some_iff,Prod.mk.injEq] at he
   obtain⟨e0,he0,rfl,rfl,rfl⟩:=he
   have hek:e0.key=key:=by
    obtain⟨e1,h2,h3⟩:=z4y hf
    rw[he0] at h2;injection h2 with h2;rw[h2];exact h3
   have hi:i<ces.size:=by have:=z0g he0;have:=A.sz;omega
   have hce:ces[i]?=some ces[i]:=Array.getElem?_eq_getElem hi
   obtain⟨q1,q2,q3,q4⟩:=A.rel i e0 _ he0 hce
   have hkv:ces[i].key=y:=zth (by rw[hek];exact K.ok) q1 (by rw[hek];exact K.rel)
   have hfind:=K.find (w:=w) A.esrel hf
   rw[z5a (ce:=ces[i]) (by simpa using hce)] at hfind
   have hsame:ces.modify i (fun e=>{ e with key:=y })=ces:=by
    apply Array.ext_getElem?
    intro j
    rw[Array.getElem?_modify]
    split
    ·rename_i hij;subst hij
     rw[hce];simp [← hkv]
    ·rfl
   have hrun:(Instr.mapEntry t (.map (some b)) y).run P w = .ok (.tuple #[ces[i].val,goInt e0.born]) w:=by
    unfold Instr.mapEntry
    rw[Sem.run_bind,z0b hu]
    simp only[Result.andThen_ok]
    rw[Sem.run_bind,z1j A.hb]
    simp only[Result.andThen_ok]
    rw[Sem.run_bind,hck]
    simp only[Result.andThen_ok]
    rw[Sem.run_bind,hfind]
    simp only[Result.andThen_ok]
    rw[Sem.run_bind,z4v hce,hkv,K.stays]
    simp only[Result.andThen_ok]
    rw[Sem.run_bind,hsame,z1X _ A.hb,z5B A.hb]
    simp [hce,q4]
   refine OpOk.pure H (z0r hrun) (.tup _ [ces[i].val,goInt e0.born] rfl (fun j a c h1 h2=>?_))
   match j with
   | 0=>simp at h1 h2;subst h1;subst h2;exact q3
   | 1=>simp at h1 h2;subst h1;subst h2;exact RAV.pint _
   | j+2=>simp at h1
  ·rename_i hf
   simp only[Option.some.injEq,Prod.mk.injEq] at he
   obtain⟨rfl,rfl,rfl⟩:=he
   have hfind:=K.find (w:=w) A.esrel hf
   have hrun:(Instr.mapEntry t (.map (some b)) y).run P w = .ok (.tuple #[zv,goInt c]) (z0I w b (.map (ces.push { key:=y,val:=zv,born:=c }) (c+1))):=by
    unfold Instr.mapEntry
    rw[Sem.run_bind,z0b hu]
    simp only[Result.andThen_ok]
    rw[Sem.run_bind,z1j A.hb]
    simp only[Result.andThen_ok]
    rw[Sem.run_bind,hck]
    simp only[Result.andThen_ok]
    rw[Sem.run_bind,hfind]
    simp only[z6d,Option.bind_none,Result.andThen_ok]
    rw[Sem.run_bind,hzr]
    simp only[Result.andThen_ok]
    rw[Sem.run_bind,z1X _ A.hb]
    rfl
   obtain⟨n1,n2⟩:=A.put H (es':=es++[⟨key,z,c⟩]) (c':=c+1) (ces':=ces.push { key:=y,val:=zv,born:=c }) (by simp [A.sz])
    (fun e he=>by
     rw[List.mem_append,List.mem_singleton] at he
     rcases he with he | rfl
     ·have:=A.bd e he;omega
     ·exact Nat.lt_succ_self _)
    (ziz A.sz ⟨K.rel,K.ok,Rz,rfl⟩ A.rel)
   refine⟨_,_,_,z0r hrun,.inl ⟨_,rfl,.tup _ [zv,goInt c] rfl (fun j a c' h1 h2=>?_)⟩,n1,n2,z0k.set A.ho (by
    have h3:=zf5 (es:=es) (e:=⟨key,z,c⟩)
    have h4:=zmW hz
    simp only[Obj.top,z1q];dsimp only at *;omega)⟩
   match j with
   | 0=>simp at h1 h2;subst h1;subst h2;exact z1c hz
   | 1=>simp at h1 h2;subst h1;subst h2;exact RAV.pint _
   | j+2=>simp at h1
  ·cases he
 ·cases he
theorem zpt {t:TypeId} {ev:Opd→AV} {m s u:Opd} {x y z:Value} {v:AV} {h1:Heap} {e:Esc} (H:HeapRel h μ w) (Rm:RAV (imm h μ w) h μ (ev m) x) (Rs:RAV (imm h μ w) h μ (ev s) y) (Ru:RAV (imm h μ w) h μ (ev u) z)
 (he:aop (.estore m s u) ev h=some (v,h1,e)):OpOk P (do Instr.entryStore t x y z;pure .skip) h μ w v h1 e:=by
 simp only[aop] at he
 split at he
 ·rename_i id es c bn hm hs hok
  obtain⟨b,n,ces,rfl,A⟩:=zaU H Rm hm
  obtain⟨kk,rfl⟩:=z2o hs Rs
  split at he
  ·rename_i i hf
   simp only[Option.some.injEq,Prod.mk.injEq] at he
   obtain⟨rfl,rfl,rfl⟩:=he
   rw[List.findIdx?_eq_some_iff_getElem] at hf
   obtain⟨hi,hb1,hb2⟩:=hf
   have he0:es[i]?=some es[i]:=List.getElem?_eq_getElem hi
   have hi':i<ces.size:=by have:=A.sz;omega
   have hce:ces[i]?=some ces[i]:=Array.getElem?_eq_getElem hi'
   obtain⟨q1,q2,q3,q4⟩:=A.rel i _ _ he0 hce
   have hfi:ces.findIdx? (fun e=>(e.born:Int)==(bn:Int))=some i:=by
    rw[Array.findIdx?_eq_some_iff_getElem]
    refine⟨hi',?_,fun j hj=>?_⟩
    ·simp only[beq_iff_eq] at hb1 ⊢;rw[q4,hb1]
    ·have hj1:j<es.length:=by omega
     have hj2:j<ces.size:=by omega
     obtain⟨_,_,_,q5⟩:=A.rel j _ _ (List.getElem?_eq_getElem hj1) (Array.getElem?_eq_getElem hj2)
     have:=hb2 j hj
     simp only[beq_iff_eq] at this ⊢
     rw[q5];omega
   have hrun:(Instr.entryStore t (.map (some b)) (.int kk bn) z).run P w = .ok () (z0I w b (.map (ces.modify i fun e=>{ e with val:=z }) c)):=by
    unfold Instr.entryStore
    dsimp only
    rw[Sem.run_bind,z1j A.hb]
    simp only[Result.andThen_ok]
    rw[Sem.run_bind]
    have:(asInt (.int kk (bn:Int))).run P w = .ok (bn:Int) w:=by simp [asInt,asIntOf]
    rw[this]
    simp only[Result.andThen_ok,hfi]
    exact z1X _ A.hb
   have hmod:ces.modify i (fun e=>{ e with val:=z })=ces.modify i (fun e=>{ e with key:=ces[i].key,val:=z }):=by
    apply Array.ext_getElem?
    intro j
    rw[Array.getElem?_modify,Array.getElem?_modify]
    split
    ·rename_i hij;subst hij;rw[hce];rfl
    ·rfl
   rw[hmod] at hrun
   obtain⟨n1,n2⟩:=A.put H (es':=es.modify i fun e=>{ e with val:=ev u }) (c':=c) (ces':=ces.modify i fun e=>{ e with key:=ces[i].key,val:=z }) (by simp [A.sz])
    (fun e he=>by
     obtain⟨j,hj,ej⟩:=List.getElem_of_mem he
     have:(es.modify i fun e=>{ e with val:=ev u })[j]?=some e:=by rw[List.getElem?_eq_getElem hj,ej]
     rw[List.getElem?_modify] at this
     simp only[Option.map_eq_map,Option.map_eq_some_iff] at this
     obtain⟨e',he',rfl⟩:=this
     have:=A.bd e' (by obtain⟨q,e⟩:=List.getElem?_eq_some_iff.1 he';rw[← e];exact List.getElem_mem _)
     split <;> exact this)
    (zbb (key:=es[i].key) (fun e he=>by rw[he0] at he;injection he with he;rw[← he]) q1 Ru A.rel)
   exact⟨_,_,_,zvQ hrun,.inr ⟨rfl,rfl⟩,n1,n2,z0k.set A.ho (by
    have:=z9N (es:=es) (i:=i) (v:=ev u)
    have:=z2h id (ev u)
    simp only[Obj.top];omega)⟩
  ·cases he
 ·cases he
theorem y0b {kk:Sh × List Nat} {t ty:TypeId} {ts:List TypeId} (hc:z5z P kk t=true) {ev:Opd→AV} {m k:Opd} {x y:Value} {v:AV} {h1:Heap} {e:Esc} (H:HeapRel h μ w) (Rm:RAV (imm h μ w) h μ (ev m) x) (Rk:RAV (imm h μ w) h μ (ev k) y)
 (he:aop (.mdel kk m k) ev h=some (v,h1,e)):OpOk P (do pure (.value (← Builtin.delete_ (t::ts).toArray ty #[x,y]))) h μ w v h1 e:=by
 obtain⟨kt,et,hu,hkt⟩:=z8h hc
 simp only[aop] at he
 split at he
 ·rename_i key id es c hk hm
  have K:=zhU hkt hk Rk
  obtain⟨b,n,ces,rfl,A⟩:=zaU H Rm hm
  have hck:=K.check (w:=w) ces.isEmpty
  split at he
  ·rename_i i hf
   simp only[Option.some.injEq,Prod.mk.injEq] at he
   obtain⟨rfl,rfl,rfl⟩:=he
   obtain⟨e0,he0,hek⟩:=z4y hf
   have hi:i<ces.size:=by have:=z0g he0;have:=A.sz;omega
   have hce:ces[i]?=some ces[i]:=Array.getElem?_eq_getElem hi
   have hfind:=K.find (w:=w) A.esrel hf
   rw[z5a (ce:=ces[i]) (by simpa using hce)] at hfind
   have hrun:(Builtin.delete_ (t::ts).toArray ty #[.map (some b),y]).run P w = .ok (.tuple #[]) (z0I w b (.map (ces.eraseIdxIfInBounds i) c)):=by
    unfold Builtin.delete_
    simp only[List.getElem?_toArray,List.getElem?_cons_zero,List.getElem?_cons_succ]
    rw[Sem.run_bind,z0b hu]
    simp only[Result.andThen_ok]
    simp only[Sem.run_bind]
    simp [z1j A.hb,hck,hfind,z1X _ A.hb]
   have herase:∀ j:Nat,(ces.eraseIdxIfInBounds i)[j]?=(ces.toList.eraseIdx i)[j]?:=by
    intro j
    unfold Array.eraseIdxIfInBounds
    rw[dif_pos hi,← Array.getElem?_toList,Array.toList_eraseIdx]
   obtain⟨n1,n2⟩:=A.put H (es':=es.eraseIdx i) (c':=c) (ces':=ces.eraseIdxIfInBounds i)
    (by unfold Array.eraseIdxIfInBounds;rw[dif_pos hi,Array.size_eraseIdx,List.length_eraseIdx_of_lt (z0g he0),A.sz])
    (fun e he=>A.bd e ((List.eraseIdx_sublist _ _).subset he))
    (fun j e ce h1 h2=>by
     rw[herase,List.getElem?_eraseIdx] at h2
     rw[List.getElem?_eraseIdx] at h1
     split at h1
     ·rename_i hj;rw[if_pos hj] at h2;exact A.rel j e ce h1 (by simpa using h2)
     ·rename_i hj;rw[if_neg hj] at h2;exact A.rel (j+1) e ce h1 (by simpa using h2))
   exact⟨_,_,_,z0r hrun,.inl ⟨_,rfl,.und _⟩,n1,n2,z0k.set A.ho (by
    have:=zkl (es:=es) (i:=i)
    simp only[Obj.top,z1q];omega)⟩
  ·rename_i hf
   simp only[Option.some.injEq,Prod.mk.injEq] at he
   obtain⟨rfl,rfl,rfl⟩:=he
   have hfind:=K.find (w:=w) A.esrel hf
   have hrun:(Builtin.delete_ (t::ts).toArray ty #[.map (some b),y]).run P w = .ok (.tuple #[]) w:=by
    unfold Builtin.delete_
    simp only[List.getElem?_toArray,List.getElem?_cons_zero,List.getElem?_cons_succ]
    rw[Sem.run_bind,z0b hu]
    simp only[Result.andThen_ok]
    simp only[Sem.run_bind]
    simp [z1j A.hb,hck,hfind,z6d,z1X _ A.hb,z5B A.hb]
   exact OpOk.pure H (z0r hrun) (.und _)
  ·cases he
 ·cases he
end Go.Am
end
section
/- The abstract machine,part N: ranges over maps,whatever the order. -/
set_option linter.unusedSimpArgs false
set_option linter.unusedVariables false
set_option maxHeartbeats 1000000
namespace Go.Am
variable {h h':Heap} {μ μ':Mu} {w w':World} {P:Program} {M M':Mem}
def zbD (P:Program) (t:TypeId):Bool:=match P.underlying t with
 | some (.map _ _)=>true
 | _=>false
theorem z99 {b s l:Nat} {m:Option Nat} {seen:Array Nat} (hb:w.heap[b]?=some (.mapIter m s seen l)):(getObj b).run P w = .ok (.mapIter m s seen l) w:=by
 simp [getObj,Sem.run,hb]
theorem ztj {b s l:Nat} {m:Option Nat} {seen:Array Nat} (o':Go.Obj) (hb:w.heap[b]?=some (.mapIter m s seen l)):(setObj b o').run P w = .ok () (z0I w b o'):=by
 simp [setObj,Sem.run,hb,z0I]
theorem zqE {t:TypeId} (hc:zbD P t=true) {ev:Opd→AV} {p:Opd} {x:Value} {v:AV} {h1:Heap} {e:Esc} (H:HeapRel h μ w) (Rp:RAV (imm h μ w) h μ (ev p) x)
 (he:aop (.mrange p) ev h=some (v,h1,e)):OpOk P (do pure (.value (← Instr.range t x))) h μ w v h1 e:=by
 have hu:∃ a b,P.underlying t=some (.map a b):=by
  unfold zbD at hc
  split at hc
  ·rename_i a b hu;exact⟨a,b,hu⟩
  ·cases hc
 obtain⟨ka,kb,hu⟩:=hu
 simp only[aop] at he
 split at he
 ·rename_i id es c hm
  simp only[Option.some.injEq,Prod.mk.injEq] at he
  obtain⟨rfl,rfl,rfl⟩:=he
  obtain⟨b,n,ces,rfl,A⟩:=zaU H Rp hm
  have hrun:(Instr.range t (.map (some b))).run P w = .ok (.pointer (some ⟨w.heap.size,0,none⟩)) { w with heap:=w.heap.push (.mapIter (some b) c #[] c) }:=by
   unfold Instr.range
   rw[Sem.run_bind,z0b hu]
   simp only[Result.andThen_ok]
   rw[Sem.run_bind,z1j A.hb]
   simp only[Result.andThen_ok]
   rfl
  obtain⟨n1,n2⟩:=H.push (WExt.push w (.mapIter (some b) c #[] c)) (.iter (some id) c [] c) (some (w.heap.size,0)) (fun b n e=>by injection e with e;injection e with e1 e2;subst e1;exact⟨Nat.le_refl _,by simp⟩)
   (fun M' E=>⟨w.heap.size,0,rfl,⟨b,n,es,c,z2u A.hm,z2u A.ho,by simp⟩⟩)
  exact⟨_,_,_,z0r hrun,.inl ⟨_,rfl,.it h.length w.heap.size 0 (some id) c [] c (by simp) (by rw[← H.len];simp)⟩,n1,n2,z0k.push (by
   have:=z0g A.ho
   simp only[Obj.top];omega)⟩
 ·split at he
  ·rename_i hp
   simp only[Option.some.injEq,Prod.mk.injEq] at he
   obtain⟨rfl,rfl,rfl⟩:=he
   rw[hp] at Rp
   cases Rp
   have hrun:(Instr.range t (.map none)).run P w = .ok (.pointer (some ⟨w.heap.size,0,none⟩)) { w with heap:=w.heap.push (.mapIter none 0 #[] 0) }:=by
    unfold Instr.range
    rw[Sem.run_bind,z0b hu]
    simp only[Result.andThen_ok]
    rfl
   obtain⟨n1,n2⟩:=H.push (WExt.push w (.mapIter none 0 #[] 0)) (.iter none 0 [] 0) (some (w.heap.size,0)) (fun b n e=>by injection e with e;injection e with e1 e2;subst e1;exact⟨Nat.le_refl _,by simp⟩)
    (fun M' E=>⟨w.heap.size,0,rfl,fun _=>by simp⟩)
   exact⟨_,_,_,z0r hrun,.inl ⟨_,rfl,.it h.length w.heap.size 0 none 0 [] 0 (by simp) (by rw[← H.len];simp)⟩,n1,n2,z0k.push (by simp [Obj.top])⟩
  ·cases he
theorem zge {id:Nat} {mm:Option Nat} {since:Nat} {seen:List Nat} {last:Nat} {x:Value} (H:HeapRel h μ w) (R:RAV (imm h μ w) h μ (.it id) x) (hi:h[id]?=some (.iter mm since seen last)) :
 ∃ b n,x = .pointer (some ⟨b,0,none⟩)∧μ[id]?=some (some (b,n))∧(match (generalizing:=false) mm with
  | none=>since=0→w.heap[b]?=some (.mapIter none 0 #[] 0)
  | some i=>∃ bm nm es c,μ[i]?=some (some (bm,nm))∧h[i]?=some (.amap es c)∧w.heap[b]?=some (.mapIter (some bm) since seen.toArray last)):=by
 cases R with | it _ b n m s sn l ho hm=>
 obtain⟨b',n',hb',k1⟩:=H.obj _ _ _ hi hm
 injection hb' with hb';injection hb' with hb1 hb2
 subst hb1
 exact⟨_,_,rfl,hm,k1⟩
theorem zqC {ev:Opd→AV} {p:Opd} {x:Value} {v:AV} {h1:Heap} {e:Esc} (H:HeapRel h μ w) (Rp:RAV (imm h μ w) h μ (ev p) x)
 (he:aop (.mentry p) ev h=some (v,h1,e)):OpOk P (do pure (.value (← Instr.entry x))) h μ w v h1 e:=by
 simp only[aop] at he
 split at he
 ·rename_i id hp
  split at he
  ·rename_i mi since seen last hi
   split at he
   ·rename_i mid es c bo hm hl
    rw[hp] at Rp
    obtain⟨b,n,rfl,hmu,bm,nm,es',c',k1,k2,k3⟩:=zge H Rp hi
    split at he
    ·rename_i hcl
     simp only[Option.map_eq_some_iff,Prod.mk.injEq] at he
     obtain⟨e0,hf,rfl,rfl,rfl⟩:=he
     have hm2:h[mi]?=some (.amap es c):=by
      have:=(z5c hm).2
      have:=(z5c hm).1
      injection this with this
      subst this
      assumption
     have hmi:mid=mi:=by have:=(z5c hm).1;injection this with this;exact this.symm
     rw[k2] at hm2
     injection hm2 with hm2
     injection hm2 with q1 q2
     subst q1;subst q2
     obtain⟨b3,n3,ces,hb3,w1,w2,w4,w3⟩:=H.obj _ _ _ k2 k1
     injection hb3 with hb3;injection hb3 with hb31 hb32
     subst hb31
     rw[List.find?_eq_some_iff_getElem] at hf
     obtain⟨hb0,i,hi1,hei,hlt⟩:=hf
     have hi2:i<ces.size:=by omega
     obtain⟨q1,q2,q3,q4⟩:=w3 i _ _ (List.getElem?_eq_getElem hi1) (Array.getElem?_eq_getElem hi2)
     have hfind:ces.find? (·.born==bo)=some ces[i]:=by
      rw[Array.find?_eq_some_iff_getElem]
      refine⟨by rw[q4,hei];exact hb0,i,hi2,rfl,fun j hj=>?_⟩
      obtain⟨_,_,_,q5⟩:=w3 j _ _ (List.getElem?_eq_getElem (show j<es'.length by omega)) (Array.getElem?_eq_getElem (show j<ces.size by omega))
      have:=hlt j hj
      rw[q5];simpa using this
     have hback:seen.toArray.back?=some bo:=by rw[List.back?_toArray];exact hl
     have hrun:(Instr.entry (.pointer (some ⟨b,0,none⟩))).run P w = .ok (.tuple #[ces[i].key,ces[i].val]) w:=by
      unfold Instr.entry
      simp only[Sem.run_bind,Sem.run_pure,Result.andThen_ok,z99 k3,hback,z1j w1,hcl,hfind]
      simp
     refine OpOk.pure H (z0r hrun) (.tup _ [ces[i].key,ces[i].val] rfl (fun j a c h1 h2=>?_))
     rw[hei] at q1 q3
     match j with
     | 0=>simp at h1 h2;subst h1;subst h2;exact .p _ _ q1
     | 1=>simp at h1 h2;subst h1;subst h2;exact q3
     | j+2=>simp at h1
    ·cases he
   ·cases he
  ·cases he
 ·cases he
theorem zvn {es:List ME} {ces:Array MapEntry} {seen:List Nat} (hsz:ces.size=es.length) (hb:∀ (i:Nat) (e:ME) (ce:MapEntry),es[i]?=some e→ces[i]?=some ce→ce.born=e.born) :
 ∀ ce∈(ces.filter fun e=>!seen.toArray.contains e.born).toList,∃ (i:Nat) (e:ME),es[i]?=some e∧ces[i]?=some ce∧e∈es.filter fun e=>!seen.contains e.born:=by
 intro ce hce
 rw[Array.toList_filter,List.mem_filter] at hce
 obtain⟨h1,h2⟩:=hce
 obtain⟨i,hi,rfl⟩:=List.getElem_of_mem h1
 have hi1:i<ces.size:=by simpa using hi
 have hi2:i<es.length:=by omega
 have hc:ces[i]?=some ces[i]:=Array.getElem?_eq_getElem hi1
 have:=hb i _ _ (List.getElem?_eq_getElem hi2) hc
 refine⟨i,es[i],List.getElem?_eq_getElem hi2,by simpa using hc,?_⟩
 rw[List.mem_filter]
 refine⟨List.getElem_mem _,?_⟩
 rw[← this]
 simpa using h2
theorem zeR {es:List ME} {ces:Array MapEntry} {seen:List Nat} (hsz:ces.size=es.length) (hb:∀ (i:Nat) (e:ME) (ce:MapEntry),es[i]?=some e→ces[i]?=some ce→ce.born=e.born)
 (h0:(ces.filter fun e=>!seen.toArray.contains e.born) = #[]):es.filter (fun e=>!seen.contains e.born)=[]:=by
 rw[List.filter_eq_nil_iff]
 intro e he
 obtain⟨i,hi,rfl⟩:=List.getElem_of_mem he
 have hi2:i<ces.size:=by omega
 have:=hb i _ _ (List.getElem?_eq_getElem hi) (Array.getElem?_eq_getElem hi2)
 rw[Array.filter_eq_empty_iff] at h0
 have:=h0 ces[i] (Array.getElem_mem hi2)
 simp_all
theorem zvu {ty:TypeId} {ev:Opd→AV} {p:Opd} {x:Value} {l:List (AV × Heap)} (H:HeapRel h μ w) (Rp:RAV (imm h μ w) h μ (ev p) x)
 (he:zqD h (ev p)=some l):∃ y∈l,OpOk P (do pure (.value (← Instr.next x false ty))) h μ w y.1 y.2 []:=by
 unfold zqD at he
 split at he
 ·rename_i id hp
  rw[hp] at Rp
  split at he
  ·rename_i s sn ls hi
   obtain⟨b,n,rfl,hmu,k1⟩:=zge H Rp hi
   split at he
   case isFalse=>cases he
   rename_i hs0
   injection he with he
   subst he
   have k1:=k1 hs0
   refine⟨_,List.mem_singleton.2 rfl,?_⟩
   have hrun:(Instr.next (.pointer (some ⟨b,0,none⟩)) false ty).run P w = .ok (.tuple #[.bool false]) w:=by
    unfold Instr.next
    simp [z99 k1]
   refine OpOk.pure H (z0r hrun) (.tup _ [.bool false] rfl (fun j a c h1 h2=>?_))
   match j with
   | 0=>simp at h1 h2;subst h1;subst h2;exact RAV.pbool _
   | j+1=>simp at h1
  ·rename_i mi since seen last hi
   obtain⟨b,n,rfl,hmu,bm,nm,es',c',k1,k2,k3⟩:=zge H Rp hi
   split at he
   ·rename_i mid es c hm
    have hm2:=(z5c hm).2
    have hmi:mi=mid:=by have:=(z5c hm).1;injection this
    subst hmi
    rw[k2] at hm2
    injection hm2 with hm2
    injection hm2 with q1 q2
    subst q1;subst q2
    obtain⟨b3,n3,ces,hb3,w1,w2,w4,w3⟩:=H.obj _ _ _ k2 k1
    injection hb3 with hb3;injection hb3 with hb31 hb32
    subst hb31
    split at he
    ·rename_i hcs
     obtain⟨rfl,rfl⟩:=hcs
     have hbo:∀ (i:Nat) (e:ME) (ce:MapEntry),es'[i]?=some e→ces[i]?=some ce→ce.born=e.born:=fun i e ce a1 a2=>(w3 i e ce a1 a2).2.2.2
     have hblt:∀ ce∈ces,ce.born<last:=by
      intro ce hce
      obtain⟨i,hi1,rfl⟩:=Array.getElem_of_mem hce
      have hi2:i<es'.length:=by omega
      rw[hbo i _ _ (List.getElem?_eq_getElem hi2) (Array.getElem?_eq_getElem hi1)]
      exact w4 _ (List.getElem_mem hi2)
     have huns:(!seen.toArray.isEmpty && !ces.isEmpty&&ces.all (fun e=>decide (e.born≥last)))=false:=by
      cases hz:ces.isEmpty with
      | true=>simp
      | false=>
       have h0:0<ces.size:=by
        rcases Nat.eq_zero_or_pos ces.size with q | q
        ·rw[Array.isEmpty_iff_size_eq_zero.2 q] at hz;cases hz
        ·exact q
       have:ces.all (fun e=>decide (e.born≥last))=false:=by
        rw[Bool.eq_false_iff]
        intro hall
        rw[Array.all_eq_true_iff_forall_mem] at hall
        have q1:=hall ces[0] (Array.getElem_mem h0)
        have q2:=hblt ces[0] (Array.getElem_mem h0)
        simp at q1;omega
       simp [this]
     have hold:(ces.filter fun e=>!seen.toArray.contains e.born).filter (fun e=>decide (e.born<last))=ces.filter fun e=>!seen.toArray.contains e.born:=by
      rw[Array.filter_eq_self]
      intro ce hce
      rw[Array.mem_filter] at hce
      simpa using hblt ce hce.1
     have hnew:(ces.filter fun e=>!seen.toArray.contains e.born).filter (fun e=>decide (e.born≥last)) = #[]:=by
      rw[Array.filter_eq_empty_iff]
      intro ce hce
      rw[Array.mem_filter] at hce
      have:=hblt ce hce.1
      simp;omega
     generalize hL:(ces.filter fun e=>!seen.toArray.contains e.born)=L at *
     have hbody:∀ (q:Nat) (w1':World),(choose (.mapNext ((if L.isEmpty then #[none] else #[])++(L ++ #[]).map some).size)).run P w = .ok q w1'→WExt w w1' →
      (Instr.next (.pointer (some ⟨b,0,none⟩)) false ty).run P w=(match ((if L.isEmpty then #[none] else #[])++(L ++ #[]).map some)[q]? with
       | some (some e)=>(do setObj b (.mapIter (some bm) last (seen.toArray.push e.born) last);pure (.tuple #[.bool true,e.key,e.val]):Sem Value)
       | some none=>pure (.tuple #[.bool false])
       | none=>stuck "Next: no such candidate").run P w1':=by
      intro q w1' hch _
      unfold Instr.next
      simp only[Sem.run_bind,Sem.run_pure,Result.andThen_ok,z99 k3,z1j w1,huns,Bool.false_eq_true,if_false,hL,hold,hnew,hch]
      rfl
     have hlen:es'.filter (fun e=>!seen.contains e.born)=[]∨L ≠ #[]:=by
      by_cases h0:L = #[]
      ·left;exact zeR w2 hbo (by rw[hL];exact h0)
      ·right;exact h0
     by_cases h0:L = #[]
     ·subst h0
      have hnil:=zeR w2 hbo hL
      rw[hnil] at he
      injection he with he
      subst he
      refine⟨_,List.mem_singleton.2 rfl,?_⟩
      have hch:(choose (.mapNext ((if (#[]:Array MapEntry).isEmpty then #[none] else #[])++((#[]:Array MapEntry) ++ #[]).map some).size)).run P w = .ok 0 w:=by
       simp [Question.forced]
      have:=hbody 0 w hch (WExt.refl w)
      have hrun:(Instr.next (.pointer (some ⟨b,0,none⟩)) false ty).run P w = .ok (.tuple #[.bool false]) w:=by
       rw[this];simp
      have hμ:μ.set id (some (b,n))=μ:=by
       apply List.ext_getElem?
       intro j
       rw[List.getElem?_set]
       split
       ·rename_i hj;subst hj;rw[if_pos (z0g hmu),hmu]
       ·rfl
      have:=H.set (w':=w) (id:=id) (o:=.iter (some mi) last seen last) (o':=.iter none 1 [] 0) (m:=some (b,n)) (m':=some (b,n)) hi hmu ⟨⟨_,_,_,_,rfl⟩,rfl⟩ rfl (Nat.le_refl _)
       (fun b' _ hne=>rfl) (fun b' n' e=>.inl ⟨n',e⟩) (fun b' n' sh xs fz _ e=>by cases e)
       (fun M' E=>⟨b,n,rfl,fun e=>by cases e⟩) (fun _ _ _ _ h=>h)
      rw[hμ] at this
      obtain⟨n1,n2⟩:=this
      refine⟨_,_,_,z0r hrun,.inl ⟨_,rfl,.tup _ [.bool false] rfl (fun j a c h1 h2=>?_)⟩,n1,n2,z0k.set hi (by simp only[Obj.top,z1q];omega)⟩
      match j with
      | 0=>simp at h1 h2;subst h1;subst h2;exact RAV.pbool _
      | j+1=>simp at h1
     ·have hne:L.isEmpty=false:=by
       cases hz:L.isEmpty with
       | false=>rfl
       | true=>exact absurd (Array.isEmpty_iff.1 hz) h0
      have hpos:0<L.size:=by
       rcases Nat.eq_zero_or_pos L.size with q | q
       ·exact absurd (Array.eq_empty_of_size_eq_zero q) h0
       ·exact q
      have hcand:((if L.isEmpty then #[none] else #[])++(L ++ #[]).map some)=L.map some:=by rw[hne];simp
      obtain⟨q,w1',hch,hq,hext⟩:∃ q w1',(choose (.mapNext ((if L.isEmpty then #[none] else #[])++(L ++ #[]).map some).size)).run P w = .ok q w1'∧q<L.size∧WExt w w1':=by
       rw[hcand]
       simp only[Array.size_map,run_choose,Question.forced,Question.cut]
       by_cases h1:L.size≤1
       ·exact⟨0,w,by simp [h1],by omega,WExt.refl w⟩
       ·exact⟨w.tape w.drawn (Question.mapNext L.size)%L.size,{ w with drawn:=w.drawn+1 },by simp [h1],Nat.mod_lt _ hpos,WExt.drew w _⟩
      have hb:=hbody q w1' hch hext
      rw[hcand] at hb
      have hLq:(L.map some)[q]?=some (some L[q]):=by simp [hq]
      rw[hLq] at hb
      dsimp only at hb
      obtain⟨i,e,he1,he2,he3⟩:=zvn (seen:=seen) w2 hbo L[q] (by rw[hL];simp)
      have hes:es'.filter (fun e=>!seen.contains e.born)≠[]:=fun hn=>by rw[hn] at he3;cases he3
      have hl:l=(es'.filter (fun e=>!seen.contains e.born)).map fun e=>(.tup [pbool true,.p e.key,e.val],h.set id (.iter (some mi) last (seen++[e.born]) last)):=by
       split at he
       ·rename_i hn;exact absurd hn hes
       ·injection he with he;exact he.symm
      obtain⟨q1,q2,q3,q4⟩:=w3 i e _ he1 he2
      have k3':w1'.heap[b]?=some (.mapIter (some bm) last seen.toArray last):=by rw[hext.right b (z8b k3)];exact k3
      have hrun:(Instr.next (.pointer (some ⟨b,0,none⟩)) false ty).run P w = .ok (.tuple #[.bool true,L[q].key,L[q].val]) (z0I w1' b (.mapIter (some bm) last (seen.toArray.push L[q].born) last)):=by
       rw[hb,Sem.run_bind,ztj _ k3']
       rfl
      obtain⟨H1,E1⟩:=H.ext hext
      have hμ:μ.set id (some (b,n))=μ:=by
       apply List.ext_getElem?
       intro j
       rw[List.getElem?_set]
       split
       ·rename_i hj;subst hj;rw[if_pos (z0g hmu),hmu]
       ·rfl
      have hidm:id≠mi:=fun e=>by subst e;rw[k2] at hi;cases hi
      have:=H1.set (w':=z0I w1' b (.mapIter (some bm) last (seen.toArray.push L[q].born) last)) (id:=id) (o:=.iter (some mi) last seen last) (o':=.iter (some mi) last (seen++[e.born]) last) (m:=some (b,n)) (m':=some (b,n)) hi hmu ⟨⟨_,_,_,_,rfl⟩,rfl⟩ rfl (by rw[z11];exact Nat.le_refl _)
       (fun b' _ hne=>z2l (fun e=>hne n (by rw[e]))) (fun b' n' e=>.inl ⟨n',e⟩) (fun b' n' sh xs fz _ e=>by cases e)
       (fun M' E=>⟨b,n,rfl,bm,nm,es',last,by rw[List.getElem?_set_ne hidm];exact k1,by rw[List.getElem?_set_ne hidm];exact k2,by
        rw[z1e k3',← q4];simp⟩)
       (fun b' n' t e ht=>by
        injection e with e
        injection e with e1 _
        subst e1
        unfold ety at ht
        rw[k3'] at ht
        cases ht)
      rw[hμ] at this
      obtain⟨n1,n2⟩:=this
      refine⟨(.tup [pbool true,.p e.key,e.val],h.set id (.iter (some mi) last (seen++[e.born]) last)),?_,_,_,_,z0r hrun,.inl ⟨_,rfl,.tup _ [.bool true,L[q].key,L[q].val] rfl (fun j a c h1 h2=>?_)⟩,n1,E1.trans n2,z0k.set hi (by simp only[Obj.top,z1q];omega)⟩
      ·rw[hl];exact List.mem_map.2 ⟨e,he3,rfl⟩
      ·match j with
       | 0=>simp at h1 h2;subst h1;subst h2;exact RAV.pbool _
       | 1=>simp at h1 h2;subst h1;subst h2;exact .p _ _ (q1.mono (E1.trans n2).le)
       | 2=>simp at h1 h2;subst h1;subst h2;exact q3.evo (E1.trans n2)
       | j+3=>simp at h1
    ·cases he
   ·cases he
  ·cases he
 ·cases he
theorem zyP {sh:Sh} {t u ty:TypeId} (hc:z3h P sh t u=true) {ev:Opd→AV} {p q:Opd} {s x:Value} {l:List (AV × Heap)} (H:HeapRel h μ w) (Rs:RAV (imm h μ w) h μ (ev p) s) (Rx:RAV (imm h μ w) h μ (ev q) x)
 (he:z52 h (some sh) ([p,q].map ev)=some l):∃ y∈l,OpOk P (do pure (.value (← Builtin.append_ #[t,u] ty #[s,x]))) h μ w y.1 y.2 []:=by
 simp only[List.map_cons,List.map_nil,z52] at he
 unfold appq at he
 split at he
 case h_2=>cases he
 rename_i sh' ys hr
 split at he
 case isFalse=>cases he
 rename_i hsh
 subst hsh
 have S:=z3H (P:=P) H Rx hr
 obtain⟨c,hck,hc2⟩:=S.2 ys.length (Nat.le_refl _)
 rw[List.take_length] at hc2
 have hck0:(Builtin.firstCells (z0a sh') ys.length x).run P w = .ok c w:=hck w.drawn
 split at he
 case h_2=>cases he
 rename_i id g off len hs0
 split at he
 case h_2=>cases he
 rename_i rsh xs fz ho
 split at he
 case isTrue hcond=>
  obtain⟨rfl,hg,hlen,hmax,hfz⟩:=hcond
  injection he with he
  subst he
  rw[hs0] at Rs
  have RR:=z2c H Rs ho hg
  obtain⟨_,k2,a,cap,rfl,hlc,hcap⟩:=RR
  obtain⟨m,hm,hO⟩:=z4z H ho
  obtain⟨kf,_,kO⟩:=hO
  subst hg
  by_cases hroom:len+ys.length≤cap
  ·by_cases hc0:0<cap
   ·obtain⟨b,n,c',hm',rfl,hB,hn1,hn2,hcell⟩:=hcap hc0
    refine⟨_,List.mem_cons_self,?_⟩
    obtain⟨w',r1,r2,r3,r4⟩:=z2I (P:=P) (at_:=xs.length) H ho hm' hB hc2 hfz (Nat.le_refl _) (Nat.le_trans (Nat.mul_le_mul_right _ (by omega)) hn1)
    rw[z7o] at r2 r3 r4
    have hrun:=z0v (ty:=ty) (base:=some ⟨b,off*z0a rsh,none⟩) (sLen:=len) (sCap:=cap) hc S.1 hck0 hroom (w':=w') (by
     have e:off*z0a rsh+len*z0a rsh=xs.length*z0a rsh:=by rw[← Nat.add_mul,hlen]
     simpa [z1w,e] using r1)
    refine⟨_,_,_,z0r hrun,.inl ⟨_,rfl,?_⟩,r2,r3,r4⟩
    refine .own id (xs.length+ys.length) off (len+ys.length) _ cap rsh (xs++ys) fz (some (b,n)) hroom (z06 ho) hm' (by simp) (by omega) (fun _=>?_)
    right
    exact⟨rfl,hn1⟩
   ·have hl0:len=0:=by omega
    have hy0:ys=[]:=by apply List.length_eq_zero_iff.1;omega
    subst hy0;subst hl0
    have hcap0:cap=0:=by omega
    subst hcap0
    refine⟨_,List.mem_cons_self,?_⟩
    have hrun:=z0v (ty:=ty) (base:=a) (sLen:=0) (sCap:=0) hc S.1 hck0 (by simp) (w':=w) (by
     have:c.toList=[]:=by apply List.length_eq_zero_iff.1;rw[hc2.1];simp
     cases a with
     | none=>rfl
     | some a=>rw[this];rfl)
    have hs:h.set id (.row rsh (xs++[]) fz)=h:=by rw[List.append_nil];exact z0A ho
    rw[hs]
    refine⟨_,_,_,z0r hrun,.inl ⟨_,rfl,?_⟩,H,Evo.refl _ _ _,z0k.refl _ _⟩
    exact Rs
  ·have hr0:rds h (.own id xs.length off len)=some (rsh,win xs off len):=by simp [rds,rd,ho];omega
   have hwl:(win xs off len).length=len:=by simp [win];omega
   obtain⟨newCap,n,w',c',g1,g2,g3,g4,g5,g6,g7,_⟩:=z3O (ty:=ty) (base:=a) (sCap:=cap) (xs:=win xs off len) (v0:=.own id xs.length off len) hc H Rx hr (by omega) (by omega) (by rw[hwl];exact Rs) hr0
   rw[hwl] at g1 g3
   obtain⟨n1,n2⟩:=z57 H g4 (Nat.le_refl _) g5 g6 (by rw[← g2];exact Nat.mul_le_mul_right _ (by rw[List.length_append,hwl];exact g1)) g7.2.1 g7.2.2
   refine⟨_,List.mem_cons_of_mem _ List.mem_cons_self,?_⟩
   refine⟨_,_,_,z0r g3,.inl ⟨_,rfl,?_⟩,n1,n2,z0k.push (by simp [Obj.top])⟩
   refine .own h.length (len+ys.length) 0 (len+ys.length) _ newCap rsh (win xs off len++ys) 0 (some (w.heap.size,n)) g1 (by simp) (by rw[← H.len];simp) (by simp [hwl]) (by simp) (fun _=>?_)
   right
   exact⟨by simp,by rw[← g2];simp⟩
 split at he
 case isFalse=>cases he
 rename_i hcond
 obtain⟨rfl,hg,hlen,hfz,hmax⟩:=hcond
 injection he with he
 subst he
 rw[hs0] at Rs
 have RR:=z2c H Rs ho hg
 obtain⟨_,k2,a,cap,rfl,hlc,hcap⟩:=RR
 obtain⟨m,hm,hO⟩:=z4z H ho
 obtain⟨kf,_,kO⟩:=hO
 subst hg
 have hsl:∀ zs:List PV,xs.length≤(splice xs (off+len) zs).length:=by intro zs;simp [splice];omega
 have hsl2:∀ zs:List PV,off+len+zs.length≤(splice xs (off+len) zs).length:=by intro zs;simp [splice];omega
 by_cases hroom:len+ys.length≤cap
 ·by_cases hc0:0<cap
  ·obtain⟨b,n,c',hm',rfl,hB,hn1,hn2,hcell⟩:=hcap hc0
   refine⟨_,List.mem_cons_self,?_⟩
   obtain⟨w',r1,r2,r3,r4⟩:=z2I (P:=P) (at_:=off+len) H ho hm' hB hc2 hfz (by omega) (Nat.le_trans (Nat.mul_le_mul_right _ (by omega)) hn1)
   have hrun:=z0v (ty:=ty) (base:=some ⟨b,off*z0a rsh,none⟩) (sLen:=len) (sCap:=cap) hc S.1 hck0 hroom (w':=w') (by
    have e:off*z0a rsh+len*z0a rsh=(off+len)*z0a rsh:=by rw[← Nat.add_mul]
    simpa [z1w,e] using r1)
   refine⟨_,_,_,z0r hrun,.inl ⟨_,rfl,?_⟩,r2,r3,r4⟩
   refine .own id (splice xs (off+len) ys).length off (len+ys.length) _ cap rsh (splice xs (off+len) ys) fz (some (b,n)) hroom (z06 ho) hm' (Nat.le_refl _) (by have:=hsl2 ys;omega) (fun _=>?_)
   right
   exact⟨rfl,hn1⟩
  ·have hl0:len=0:=by omega
   have hy0:ys=[]:=by apply List.length_eq_zero_iff.1;omega
   subst hy0;subst hl0
   have hcap0:cap=0:=by omega
   subst hcap0
   refine⟨_,List.mem_cons_self,?_⟩
   have hrun:=z0v (ty:=ty) (base:=a) (sLen:=0) (sCap:=0) hc S.1 hck0 (by simp) (w':=w) (by
    have:c.toList=[]:=by apply List.length_eq_zero_iff.1;rw[hc2.1];simp
    cases a with
    | none=>rfl
    | some a=>rw[this];rfl)
   have hsp:splice xs (off+0) []=xs:=by simp [splice]
   have hs:h.set id (.row rsh (splice xs (off+0) []) fz)=h:=by rw[hsp];exact z0A ho
   rw[hs]
   refine⟨_,_,_,z0r hrun,.inl ⟨_,rfl,?_⟩,H,Evo.refl _ _ _,z0k.refl _ _⟩
   rw[hsp]
   exact Rs
 ·have hr0:rds h (.own id xs.length off len)=some (rsh,win xs off len):=by simp [rds,rd,ho];omega
  have hwl:(win xs off len).length=len:=by simp [win];omega
  obtain⟨newCap,n,w',c',g1,g2,g3,g4,g5,g6,g7,_⟩:=z3O (ty:=ty) (base:=a) (sCap:=cap) (xs:=win xs off len) (v0:=.own id xs.length off len) hc H Rx hr (by omega) (by omega) (by rw[hwl];exact Rs) hr0
  rw[hwl] at g1 g3
  obtain⟨n1,n2⟩:=z57 H g4 (Nat.le_refl _) g5 g6 (by rw[← g2];exact Nat.mul_le_mul_right _ (by rw[List.length_append,hwl];exact g1)) g7.2.1 g7.2.2
  refine⟨_,List.mem_cons_of_mem _ List.mem_cons_self,?_⟩
  refine⟨_,_,_,z0r g3,.inl ⟨_,rfl,?_⟩,n1,n2,z0k.push (by simp [Obj.top])⟩
  refine .own h.length (len+ys.length) 0 (len+ys.length) _ newCap rsh (win xs off len++ys) 0 (some (w.heap.size,n)) g1 (by simp) (by rw[← H.len];simp) (by simp [hwl]) (by simp) (fun _=>?_)
  right
  exact⟨by simp,by rw[← g2];simp⟩
end Go.Am
end
section
/- The abstract machine: rows whose elements name rows (made,put tov). -/
set_option linter.unusedSimpArgs false
set_option linter.unusedVariables false
namespace Go.Am
variable {h h':Heap} {μ μ':Mu} {w w':World} {P:Program} {M M':Mem}
theorem zqI (H:HeapRel h μ w) (sh:Sh) :
 HeapRel (h++[.arow sh []]) (μ++[none]) w∧Evo (imm h μ w) h μ (imm (h++[.arow sh []]) (μ++[none]) w) (h++[.arow sh []]) (μ++[none]):=
 H.push (WExt.refl w) _ _ (fun b' n e=>by cases e) (fun M' E=>⟨by simp,rfl⟩)
theorem zib {t:Nat} (H:HeapRel h μ w):OpOk P (pure (.value (.slice none 0 0))) h μ w (.bt 3 t h.length 0) (h++[.arow (z24 t) []]) []:=by
 obtain⟨k1,k2⟩:=zqI H (z24 t)
 refine⟨_,_,_,Sem.run_pure ..,.inl ⟨_,rfl,?_⟩,k1,k2,z0k.push (by simp [Obj.top,AV.tops])⟩
 exact .bt3 t h.length 0 none 0 (.arow (z24 t) []) none (Nat.le_refl _) (by simp) (by rw[← H.len];simp) (fun sh cs e=>by
  injection e with e1 e2
  subst e1;subst e2
  exact⟨by simp,fun _=>by simp [z5G]⟩)
def chk9 (P:Program) (sh:Sh) (t:TypeId):Bool:=match P.underlying t with
 | some (.slice e)=>shOf P e==some sh&&decide (z0a sh≤2^24)&&decide (z0a sh≠0)&&(match P.info? e with
  | some i=>(match i.zero with | some v=>v.cells.size==z0a sh | none=>false)
  | none=>false)
 | _=>false
theorem zmE {t:TypeId} {sh:Sh} {e9:Nat} (hsh:z24 e9=sh) (hc:chk9 P sh t=true) {a:AV} {x:Value} {cs:List AV} (H:HeapRel h μ w) (R:RAV (imm h μ w) h μ a x) (hv:a.cells=some cs) (hl:cs.length=z0a sh) :
 OpOk P (do pure (.value (← Instr.buildSlice t 1 #[(0,x)]))) h μ w (.bt 3 e9 h.length 1) (h++[.arow sh cs]) []:=by
 unfold chk9 at hc
 split at hc
 case h_2=>cases hc
 rename_i el hu
 simp only[Bool.and_eq_true,beq_iff_eq,decide_eq_true_eq] at hc
 obtain⟨⟨⟨c1,c4⟩,c5⟩,c6⟩:=hc
 split at c6
 case h_2=>cases c6
 rename_i i hi
 split at c6
 case h_2=>cases c6
 rename_i zv hz
 simp only[beq_iff_eq] at c6
 obtain⟨s1,s2⟩:=z1C R hv
 obtain⟨c0,hc0⟩:∃ c0:Array Value,c0=(Array.range (1*z0a sh)).map (fun k=>zv.cells[k%zv.cells.size]!):=⟨_,rfl⟩
 have h0:c0.size=z0a sh:=by rw[hc0];simp
 have hsz:0+x.cells.toList.length≤c0.size:=by rw[h0];simp [s1,hl]
 have hrun:(Instr.buildSlice t 1 #[(0,x)]).run P w = .ok (.slice (some ⟨w.heap.size,0,none⟩) 1 1) { w with heap:=w.heap.push (.cells (z0L c0 0 x.cells.toList) el (0,0)) }:=by
  unfold Instr.buildSlice
  rw[Sem.run_bind,z0b hu]
  simp only[Result.andThen_ok,Sem.run_bind,z00 c1]
  rw[if_neg (by omega),if_neg (by omega)]
  have hf:Instr.fill (fun i=>some (i*z0a sh,z0a sh)) c0 [(0,x)]=some (z0L c0 0 x.cells.toList):=by
   simp only[Instr.fill]
   have hneg:¬ ((decide (x.cells.size≠z0a sh)||decide (0*z0a sh+x.cells.size>c0.size))=true):=by
    simp [s1,hl,h0]
   rw[if_neg hneg,z7c,Nat.zero_mul]
  simp only[Sem.run_bind,z6M hi hz,Result.andThen_ok,Sem.run_pure,← hc0,hf,z01]
 have hB:z0V { w with heap:=w.heap.push (.cells (z0L c0 0 x.cells.toList) el (0,0)) } w.heap.size (z0L c0 0 x.cells.toList).size (z0L c0 0 x.cells.toList):=z0V.push _ el
 have hsz2:(z0L c0 0 x.cells.toList).size=z0a sh:=by rw[z0Z,h0]
 obtain⟨n1,n2⟩:=H.push (WExt.push w (.cells (z0L c0 0 x.cells.toList) el (0,0))) (.arow sh cs) (some (w.heap.size,z0a sh)) (fun b' n e=>by injection e with e;injection e with e1 e2;subst e1;exact⟨Nat.le_refl _,by simp⟩)
  (fun M' E=>⟨fun y hy=>by obtain⟨j,hj⟩:=List.getElem?_of_mem hy;exact (s2 j y hj).1,_,hsz2 ▸ hB,by omega,fun j y hy=>by
   obtain⟨_,u,q1,q2⟩:=s2 j y hy
   refine⟨u,?_,q2.evo E⟩
   have hj:=z0g hy
   rw[z16 _ _ _ _ hsz,if_pos (by simp [s1];omega)]
   simpa using q1⟩)
 refine⟨_,_,_,z0r hrun,.inl ⟨_,rfl,?_⟩,n1,n2,z0k.push ?_⟩
 ·exact .bt3 e9 h.length 1 _ 1 (.arow sh cs) (some (w.heap.size,z0a sh)) (Nat.le_refl _) (by simp) (by rw[← H.len];simp) (fun sh2 cs2 e=>by
   injection e with e1 e2
   subst e1;subst e2
   refine⟨by omega,fun _=>.inr ⟨by simp,by omega⟩⟩)
 ·have:=z8e hv
  have:=R.top_le
  simp only[Obj.top]
  omega
theorem asrc (H:HeapRel h μ w) {t id g:Nat} {x:Value} (R:RAV (imm h μ w) h μ (.bt 3 t id g) x) {sh:Sh} {ds:List AV} (ho:h[id]?=some (.arow sh ds)) (hg:g*z0a sh=ds.length) (h0:z0a sh≠0) :
 ∃ a cap m,x = .slice a g cap∧g≤cap∧μ[id]?=some m∧z5G m (z0a sh) 0 a cap∧(Builtin.lenOf x).run P w = .ok g w ∧
  ∃ c:Array Value,(∀ k,(Builtin.firstCells (z0a sh) g x).run P { w with drawn:=k } = .ok c { w with drawn:=k })∧c.size=ds.length∧∀ (j:Nat) (y:AV),ds[j]?=some y→y.sc=true∧∃ v,c[j]?=some v∧RAV (imm h μ w) h μ y v:=by
 cases R with | bt3 _ _ _ a cap ob m hl ho' hm hv=>
 rw[ho] at ho'
 injection ho' with ho'
 obtain⟨q1,q2⟩:=hv sh ds ho'.symm
 have q3:=q2 hg
 refine⟨a,cap,m,rfl,hl,hm,q3,by simp [Builtin.lenOf],?_⟩
 obtain⟨k1,k2⟩:=H.obj id _ m ho hm
 by_cases hz:g=0
 ·subst hz
  have hd:ds=[]:=by
   rw[Nat.zero_mul] at hg
   exact List.length_eq_zero_iff.1 hg.symm
  subst hd
  refine⟨#[],fun k=>?_,rfl,fun j y hy=>by simp at hy⟩
  cases a with
  | none=>simp [Builtin.firstCells]
  | some a=>simp [Builtin.firstCells,loadCells,loadCellsFrom]
 ·cases m with
  | none=>simp [z5G] at q3;omega
  | some m=>
   obtain⟨b,n⟩:=m
   obtain⟨c,c1,c2,c3⟩:=k2
   have ha:a=some ⟨b,0,none⟩:=by
    rcases q3 with q3 | q3
    ·omega
    ·rw[q3.1,Nat.zero_mul]
   subst ha
   refine⟨((List.range (g*z0a sh)).map fun j=>(c[j]?).getD undef).toArray,fun k=>?_,by simp [hg],fun j y hy=>?_⟩
   ·simp only[Builtin.firstCells]
    refine z3V (fun j hj=>?_)
    have hlt:j<c.size:=by rw[c1.1];omega
    have hB:z0V { w with drawn:=k } b n c:=c1
    rw[z0z hB,Nat.zero_add]
    simp [hlt]
   ·obtain⟨v,v1,v2⟩:=c3 j y hy
    have hj:=z0g hy
    exact⟨k1 y (List.mem_of_getElem? hy),v,by simp [hg,hj,v1],v2⟩
theorem ziG:∀ (a b:List AV),AV.tops (a++b)=max (AV.tops a) (AV.tops b)
 | [],b=>by simp [AV.tops]
 | x::a,b=>by simp only[List.cons_append,AV.tops,ziG a b];omega
theorem apA_ok {t u ty:TypeId} {e9:Nat} {sh:Sh} (hsh:z24 e9=sh) (hc:z3h P sh t u=true) (h0:z0a sh≠0) {s x:Value} {vs vx v:AV} {h1:Heap} {e:Esc} (H:HeapRel h μ w) (Rs:RAV (imm h μ w) h μ vs s) (Rx:RAV (imm h μ w) h μ vx x)
 (he:apA sh h vs vx=some (v,h1,e)):OpOk P (do pure (.value (← Builtin.append_ #[t,u] ty #[s,x]))) h μ w v h1 e:=by
 unfold apA at he
 split at he
 case h_2=>cases he
 rename_i k tt id g k' tt' id' g'
 cases hk:(Nat.beq k 3&&Nat.beq k' 3) with
 | false=>rw[hk] at he;cases he
 | true=>
  rw[hk] at he
  simp only[Bool.and_eq_true] at hk
  have hk1:=Nat.eq_of_beq_eq_true hk.1
  have hk2:=Nat.eq_of_beq_eq_true hk.2
  subst hk1;subst hk2
  simp only[cond_true] at he
  split at he
  case h_2=>cases he
  rename_i rsh cs rsh' ds ho ho'
  split at he
  case isFalse=>cases he
  rename_i hcond
  obtain⟨rfl,rfl,hg,hg',hmax⟩:=hcond
  simp only[Option.some.injEq,Prod.mk.injEq] at he
  obtain⟨rfl,rfl,rfl⟩:=he
  obtain⟨a,cap,m,rfl,hl,hm,hO,_,old,hok,holdn,hold⟩:=asrc (P:=P) H Rs ho hg h0
  obtain⟨a',cap',m',rfl,hl',hm',hO',hlen',c,hck,hcn,hcc⟩:=asrc (P:=P) H Rx ho' hg' h0
  have hmul:(g+g')*z0a rsh'=cs.length+ds.length:=by rw[Nat.add_mul,hg,hg']
  have hesc:∀ o:Obj,z0k h (h.set id (.arow rsh' (cs++ds))) (bif decide (id<AV.tops ds) then [(id,AV.tops ds)] else []):=fun _=>by
   refine z0k.set ho ?_
   simp only[Obj.top,ziG]
   cases hd:decide (id<AV.tops ds) with
   | false=>simp at hd;simp only[cond_false,z1q];omega
   | true=>simp only[cond_true,z1q];simp;omega
  by_cases hroom:g+g'≤cap
  ·cases m with
   | none=>
    have hc0:cap=0:=hO
    have hg0:g=0:=by omega
    have hg0':g'=0:=by omega
    subst hg0;subst hg0'
    have hd0:ds=[]:=by rw[Nat.zero_mul] at hg';exact List.length_eq_zero_iff.1 hg'.symm
    have hcs0:cs=[]:=by rw[Nat.zero_mul] at hg;exact List.length_eq_zero_iff.1 hg.symm
    subst hd0;subst hcs0
    have hc00:c = #[]:=by apply Array.eq_empty_of_size_eq_zero;simpa using hcn
    subst hc00
    have hrun:=z0v (P:=P) (w:=w) (ty:=ty) (base:=a) (sLen:=0) (sCap:=cap) hc hlen' (hck w.drawn) hroom (w':=w) (by cases a <;> simp [storeCells])
    have hs:h.set id (.arow rsh' ([]++[]))=h:=z0A ho
    rw[hs]
    exact⟨_,_,_,z0r hrun,.inl ⟨_,rfl,by simpa using Rs⟩,H,Evo.refl _ _ _,z0k.refl _ _⟩
   | some m=>
    obtain⟨b,n⟩:=m
    obtain⟨k1,c1,hB,hn,hcell⟩:=H.obj id _ _ ho hm
    by_cases hz:g'=0
    ·subst hz
     have hd0:ds=[]:=by rw[Nat.zero_mul] at hg';exact List.length_eq_zero_iff.1 hg'.symm
     subst hd0
     have hc00:c = #[]:=by apply Array.eq_empty_of_size_eq_zero;simpa using hcn
     subst hc00
     have hrun:=z0v (P:=P) (w:=w) (ty:=ty) (base:=a) (sLen:=g) (sCap:=cap) hc hlen' (hck w.drawn) hroom (w':=w) (by cases a <;> simp [storeCells])
     have hs:h.set id (.arow rsh' (cs++[]))=h:=by rw[List.append_nil];exact z0A ho
     rw[hs]
     exact⟨_,_,_,z0r hrun,.inl ⟨_,rfl,by simpa using Rs⟩,H,Evo.refl _ _ _,z0k.refl _ _⟩
    ·have hOa:a=some ⟨b,0,none⟩∧cap*z0a rsh'≤n:=by
      rcases hO with q | q
      ·omega
      ·exact⟨by rw[q.1,Nat.zero_mul],by rw[← Nat.zero_add cap];exact q.2⟩
     obtain⟨rfl,hcapn⟩:=hOa
     have hfit:(g+g')*z0a rsh'≤n:=Nat.le_trans (Nat.mul_le_mul_right _ hroom) hcapn
     have hone:∀ u∈c.toList,u.oneCell'=true:=fun u hu=>by
      obtain⟨j,hj⟩:=List.getElem?_of_mem hu
      have hjl:j<ds.length:=by have:=z0g hj;simp at this;omega
      obtain⟨q1,u',q2,q3⟩:=hcc j ds[j] (List.getElem?_eq_getElem hjl)
      rw[Array.getElem?_toList,q2] at hj
      injection hj with hj
      subst hj
      exact zft q3 q1
     obtain⟨E,lo,hi,g1,g2⟩:=z3d (P:=P) (o:=g*z0a rsh') c.toList w c1 0 hB (by simp;omega) hone
     simp only[Nat.add_zero] at g2
     have hlo:¬ False→lo<hi→n≤lo:=by
      obtain⟨_,E',lo',hi'',q1,q2⟩:=hB
      rw[g1] at q1;injection q1 with q1;injection q1 with _ _ q3;injection q3 with q3 q4;subst q3;subst q4;exact q2
     have hsz:g*z0a rsh'+c.toList.length≤c1.size:=by rw[hB.1];simp;omega
     have hμ:μ.set id (some (b,n))=μ:=z0A hm
     have key:=H.set (w':=z0I w b (.cells (z0L c1 (g*z0a rsh') c.toList) E (lo,hi))) (o':=.arow rsh' (cs++ds)) (m':=some (b,n)) ho hm (.inl ⟨_,rfl,by simp,fun _=>rfl⟩)
      rfl (Nat.le_of_eq (z11 _ _).symm) (fun b' _ hb'=>z2l (fun e=>hb' n (by rw[e])))
      (fun b' n e=>.inl ⟨n,e⟩) (fun b' n' sh2 xs2 fz2 e1 e2=>by cases e2)
      (fun M' Ev=>by
       refine⟨fun y hy=>?_,z0L c1 (g*z0a rsh') c.toList,⟨by rw[z0Z,hB.1],E,lo,hi,z1e g1,hlo⟩,by rw[List.length_append];omega,fun j y hy=>?_⟩
       ·rcases List.mem_append.1 hy with hy | hy
        ·exact k1 y hy
        ·obtain⟨j,hj⟩:=List.getElem?_of_mem hy
         exact (hcc j y hj).1
       ·rw[z16 _ _ _ _ hsz]
        rcases Nat.lt_or_ge j cs.length with hj | hj
        ·rw[List.getElem?_append_left hj] at hy
         rw[if_neg (by omega)]
         obtain⟨u,p,q⟩:=hcell j y hy
         exact⟨u,p,q.evo Ev⟩
        ·rw[List.getElem?_append_right hj] at hy
         have:=z0g hy
         rw[if_pos (by simp;omega)]
         obtain⟨_,u,p,q⟩:=hcc _ y hy
         exact⟨u,by rw[Array.getElem?_toList,hg];exact p,q.evo Ev⟩) (z7a g1)
     rw[hμ] at key
     have hrun:=z0v (P:=P) (ty:=ty) (base:=some ⟨b,0,none⟩) (sLen:=g) (sCap:=cap) hc hlen' (hck w.drawn) hroom (by simpa [z1w] using g2)
     refine⟨_,_,_,z0r hrun,.inl ⟨_,rfl,?_⟩,key.1,key.2,hesc (.box [])⟩
     exact .bt3 tt id (g+g') _ cap _ _ hroom (z06 ho) hm (fun sh2 cs2 e=>by
      injection e with e1 e2
      subst e1;subst e2
      exact⟨by rw[hmul,List.length_append];exact Nat.le_refl _,fun _=>.inr ⟨by simp,by simpa using hcapn⟩⟩)
  ·obtain⟨el,newCap,rest,r0,r1,r2,r3⟩:=z4f (P:=P) (w:=w) (ty:=ty) (base:=a) (sLen:=g) (sCap:=cap) hc hlen' hck (by omega) hmax hok
   have hbsz:(old++c++rest).size=newCap*z0a rsh':=by
    simp only[Array.size_append,holdn,hcn,r2,Nat.sub_mul]
    have:=Nat.mul_le_mul_right (z0a rsh') r1
    omega
   have hB:z0V { w with drawn:=w.drawn+1,heap:=w.heap.push (.cells (old++c++rest) el (0,0)) } w.heap.size (old++c++rest).size (old++c++rest):=⟨rfl,el,0,0,by simp,fun _ h=>by omega⟩
   have hfit:(g+g')*z0a rsh'≤newCap*z0a rsh':=Nat.mul_le_mul_right _ r1
   have key:=H.set (w':={ w with drawn:=w.drawn+1,heap:=w.heap.push (.cells (old++c++rest) el (0,0)) }) (o':=.arow rsh' (cs++ds)) (m':=some (w.heap.size,(old++c++rest).size)) ho hm
    (.inl ⟨_,rfl,by simp,fun he=>by
     exfalso
     rw[List.length_append] at he
     have:g'*z0a rsh'=0:=by omega
     rcases Nat.mul_eq_zero.1 this with q | q
     ·subst q
      omega
     ·exact h0 q⟩)
    rfl (by simp) (fun b' hb' _=>by simp [Array.getElem?_push,Nat.ne_of_lt hb'])
    (fun b' n e=>by injection e with e;injection e with e1 e2;subst e1;exact .inr ⟨Nat.le_refl _,by simp⟩) (fun b' n' sh2 xs2 fz2 e1 e2=>by cases e2)
    (fun M' Ev=>by
     refine⟨fun y hy=>?_,_,hB,by rw[List.length_append,hbsz];omega,fun j y hy=>?_⟩
     ·rcases List.mem_append.1 hy with hy | hy
      ·obtain⟨j,hj⟩:=List.getElem?_of_mem hy
       exact (hold j y hj).1
      ·obtain⟨j,hj⟩:=List.getElem?_of_mem hy
       exact (hcc j y hj).1
     ·rcases Nat.lt_or_ge j cs.length with hj | hj
      ·rw[List.getElem?_append_left hj] at hy
       obtain⟨_,u,p,q⟩:=hold j y hy
       refine⟨u,?_,q.evo Ev⟩
       rw[Array.append_assoc,Array.getElem?_append_left (by omega)]
       exact p
      ·rw[List.getElem?_append_right hj] at hy
       have:=z0g hy
       obtain⟨_,u,p,q⟩:=hcc _ y hy
       refine⟨u,?_,q.evo Ev⟩
       rw[Array.append_assoc,Array.getElem?_append_right (by omega),Array.getElem?_append_left (by omega),holdn]
       exact p) (fun b' n' t' e ht=>by
        rw[z4Y (w:=w)]
        ·exact ht
        ·have:=zh6 ht
         simp [Array.getElem?_push,Nat.ne_of_lt this])
   refine⟨_,_,_,z0r r3,.inl ⟨_,rfl,?_⟩,key.1,key.2,hesc (.box [])⟩
   exact .bt3 tt id (g+g') _ newCap _ _ r1 (z06 ho) (z06 hm) (fun sh2 cs2 e=>by
    injection e with e1 e2
    subst e1;subst e2
    exact⟨by rw[hmul,List.length_append];exact Nat.le_refl _,fun _=>.inr ⟨by simp,by rw[hbsz];simp⟩⟩)
end Go.Am
end
section
/- The abstract machine: a strings.Builder's operations (z13) are sound. -/
set_option linter.unusedSimpArgs false
set_option linter.unusedVariables false
namespace Go.Am
variable {h h':Heap} {μ μ':Mu} {w w':World} {P:Program} {M M':Mem}
def zal (P:Program) (t:TypeId):Bool:=match P.info? t with
 | some i=>i.size==2&&(match i.zero with | some v=>(match v.cells.toList with | [.pointer none,.slice none 0 0]=>true | _=>false) | none=>false)&&liesAt P P.depth t (2 / P.cellsOf t) 0 t 1
 | none=>false
def zzp (P:Program) (t s d:TypeId):Bool:=match P.underlying s with
 | some (.pointer t')=>t'==t&&(match P.underlying d with | some .unsafePointer=>true | _=>false)
 | some .unsafePointer=>match P.underlying d with
  | some (.pointer t')=>t'==t
  | _=>false
 | _=>false
def zzo (P:Program) (s:TypeId):Bool:=match P.underlying s with
 | some (.pointer t)=>(P.info? t).isSome
 | _=>false
def zmM (P:Program) (t s:TypeId):Bool:=match P.underlying s with
 | some (.pointer t')=>t'==t
 | _=>false
def zmN (P:Program) (t s:TypeId):Bool:=match P.underlying s with
 | some (.slice t')=>t'==t
 | _=>false
theorem newBld {t te:TypeId} (hc:zal P t=true) (H:HeapRel h μ w) :
 OpOk P (do pure (.value (← Instr.alloc t true (.tuple #[])))) h μ w (.ref h.length 0) (h++[.box [.bt 0 t h.length 0,.bt 1 te (h.length+1) 0],.row none [] 0]) [(h.length,h.length+2)]:=by
 unfold zal at hc
 split at hc
 case h_2=>cases hc
 rename_i i hi
 simp only[Bool.and_eq_true,beq_iff_eq] at hc
 obtain⟨⟨c1,c2⟩,c3⟩:=hc
 split at c2
 case h_2=>cases c2
 rename_i v hv
 split at c2
 case h_2=>cases c2
 rename_i hcells
 have hvc:v.cells = #[.pointer none,.slice none 0 0]:=by rw[← hcells]
 have hrun:(Instr.alloc t true (.tuple #[])).run P w = .ok (.pointer (some ⟨w.heap.size,0,none⟩)) { w with heap:=w.heap.push (.cells v.cells t (0,0)) }:=by
  unfold Instr.alloc
  rw[Sem.run_bind]
  have:(zeroValue t).run P w = .ok v w:=by
   unfold zeroValue
   rw[Sem.run_bind,z0F hi]
   simp [hv]
  rw[this]
  simp [newVar,z01]
 have hB:z0V { w with heap:=w.heap.push (.cells v.cells t (0,0)) } w.heap.size 2 v.cells:=by
  have:=z0V.push (w:=w) v.cells t
  rwa [show v.cells.size=2 by rw[hvc];rfl] at this
 obtain⟨h1,h2⟩:=zy0 (cs:=[.nilp,.sl0 none]) H (WExt.push w _) (Nat.le_refl _) (by simp) hB (c:=v.cells) (fun j x hx=>by
  rw[hvc]
  match j with
  | 0=>simp at hx;subst hx;exact⟨rfl,_,rfl,.nilp⟩
  | 1=>simp at hx;subst hx;exact⟨rfl,_,rfl,.sl0 _ _⟩
  | j+2=>simp at hx)
 simp only[List.length_cons,List.length_nil,Nat.zero_add,Nat.reduceAdd] at h1 h2
 obtain⟨h3,h4⟩:=zaV h1 none
 simp only[List.append_assoc,List.cons_append,List.nil_append] at h3 h4
 have ho:(h++[Obj.box [.nilp,.sl0 none],.row none [] 0])[h.length]?=some (.box [.nilp,.sl0 none]):=by simp
 have hm:(μ++[some (w.heap.size,2),none])[h.length]?=some (some (w.heap.size,2)):=by rw[← H.len];simp
 have ho2:(h++[Obj.box [.nilp,.sl0 none],.row none [] 0])[h.length+1]?=some (.row none [] 0):=by
  rw[List.getElem?_append_right (by omega)];simp
 have hm2:(μ++[some (w.heap.size,2),none])[h.length+1]?=some none:=by
  rw[← H.len,List.getElem?_append_right (by omega)];simp
 have hg:({ w with heap:=w.heap.push (.cells v.cells t (0,0)) }:World).heap[w.heap.size]?=some (.cells v.cells t (0,0)):=by simp
 have key:=h3.set (w':={ w with heap:=w.heap.push (.cells v.cells t (0,0)) }) (o':=.box [.bt 0 t h.length 0,.bt 1 te (h.length+1) 0]) (m':=some (w.heap.size,2)) ho hm ⟨⟨_,rfl⟩,rfl⟩ rfl (Nat.le_refl _) (fun _ _ _=>rfl)
  (fun b n e=>.inl ⟨n,e⟩) (fun b n sh xs fz _ e=>by cases e)
  (fun M' E=>⟨w.heap.size,v.cells,rfl,hB,fun j x hx=>by
   rw[hvc]
   match j with
   | 0=>simp at hx;subst hx;exact⟨rfl,_,rfl,.bt0 t h.length 0 w.heap.size 2 _ (z06 ho) (z06 hm) (E.le.s _ _ (z4p hg))⟩
   | 1=>simp at hx;subst hx;exact⟨rfl,_,rfl,.bt1 te (h.length+1) 0 none 0 [] 0 none (Nat.le_refl _) (by rw[List.getElem?_set_ne (by omega)];exact ho2) (by rw[List.getElem?_set_ne (by omega)];exact hm2) (Nat.le_refl _) (fun _=>⟨rfl,rfl⟩)⟩
   | j+2=>simp at hx⟩)
  (fun _ _ _ _ h=>h)
 have es:(h++[Obj.box [.nilp,.sl0 none],.row none [] 0]).set h.length (.box [.bt 0 t h.length 0,.bt 1 te (h.length+1) 0])=h++[.box [.bt 0 t h.length 0,.bt 1 te (h.length+1) 0],.row none [] 0]:=by simp
 have em:(μ++[some (w.heap.size,2),none]).set h.length (some (w.heap.size,2))=μ++[some (w.heap.size,2),none]:=z0A hm
 have hE:z0k h (h++[.box [.bt 0 t h.length 0,.bt 1 te (h.length+1) 0],.row none [] 0]) [(h.length,h.length+2)]:=by
  have a:=z0k.push (h:=h) (o:=.box [.nilp,.sl0 none]) (by simp [Obj.top,AV.tops,AV.top])
  have a2:=z0k.push (h:=h++[.box [.nilp,.sl0 none]]) (o:=.row none [] 0) (by simp [Obj.top])
  have a3:=a.trans a2
  simp only[List.append_assoc,List.cons_append,List.nil_append] at a3
  have b:=z0k.set (x:=[(h.length,h.length+2)]) (o':=.box [.bt 0 t h.length 0,.bt 1 te (h.length+1) 0]) ho (by simp [Obj.top,AV.tops,AV.top,z1q])
  rw[es] at b
  exact a3.trans b
 rw[es,em] at key
 exact⟨_,_,_,z0r hrun,.inl ⟨_,rfl,.ref h.length 0 w.heap.size 2 [.bt 0 t h.length 0,.bt 1 te (h.length+1) 0] (by simp) (by rw[← H.len];simp)⟩,key.1,(h2.trans h4).trans key.2,hE⟩
theorem z9K {w:World} {b:Nat} {c:Array Value} {E:TypeId} {f:Nat × Nat} (e:w.heap[b]?=some (.cells c E f)):w.shape? b=some (E,c.size):=by
 unfold World.shape?
 simp only[e]
theorem upB_ok {t s d:TypeId} (hb:zal P t=true) (hc:zzp P t s d=true) {id:Nat} {x:Value} (H:HeapRel h μ w) (R:RAV (imm h μ w) h μ (.ref id 0) x) {t' id' g:Nat} {v2:AV} (ho:h[id]?=some (.box [.bt 0 t' id' g,v2])) (e1:t'=t) (e2:id'=id) :
 OpOk P (do pure (.value (← convert s d x))) h μ w (.ref id 0) h []:=by
 subst e1;subst e2
 have R0:=R
 cases R with | ref _ _ b n cs ho' hm=>
 rw[ho] at ho'
 injection ho' with ho'
 injection ho' with ho'
 subst ho'
 obtain⟨b',c,hbn,hB,hcell⟩:=H.obj id' _ _ ho hm
 injection hbn with hbn
 injection hbn with q1 q2
 subst q1
 obtain⟨_,vv,_,hR⟩:=hcell 0 _ rfl
 have hty:ety w b=some t':=by
  cases hR with | bt0 _ _ _ b2 n2 cs2 ho2 hm2 hs2=>
  rw[hm] at hm2
  injection hm2 with hm2
  injection hm2 with hm2
  injection hm2 with r1 r2
  subst r1
  exact hs2
 obtain⟨hsz,E,lo,hi,he,_⟩:=hB
 have hE:E=t':=by rw[z4p he] at hty;injection hty
 subst hE
 have hsh:w.shape? b=some (E,2):=by rw[z9K he,hsz];rfl
 unfold zal at hb
 split at hb
 case h_2=>cases hb
 rename_i i hi
 simp only[Bool.and_eq_true,beq_iff_eq] at hb
 obtain⟨⟨c1,c2⟩,c3⟩:=hb
 unfold zzp at hc
 split at hc
 ·rename_i t'' hs
  simp only[Bool.and_eq_true,beq_iff_eq] at hc
  obtain⟨rfl,hd⟩:=hc
  have hd:P.underlying d=some .unsafePointer:=by split at hd <;> simp_all
  exact OpOk.pure H (z0r (Lib.run_to_unsafe w ⟨b,0,none⟩ hs hd hi (by rw[c1];decide) hsh (Nat.zero_lt_succ 1))) R0
 ·rename_i hs
  split at hc
  case h_2=>cases hc
  rename_i t'' hd
  simp only[beq_iff_eq] at hc
  subst hc
  exact OpOk.pure H (z0r (Lib.run_from_unsafe w ⟨b,0,none⟩ hs hd hi hsh c3)) R0
 ·cases hc
theorem y0j {t:TypeId} (hc:zzo P t=true) {a b:Operand} {id o:Nat} {x y:Value} (H:HeapRel h μ w) (Rx:RAV (imm h μ w) h μ (.ref id o) x) (Ry:RAV (imm h μ w) h μ (.ref id o) y) :
 OpOk P (do pure (.value (← (do eqGuard .neq t a b x y;binOp .neq t x y)))) h μ w (pbool false) h []:=by
 cases Rx with | ref _ _ b1 n1 cs1 ho1 hm1=>
 cases Ry with | ref _ _ b2 n2 cs2 ho2 hm2=>
 rw[hm1] at hm2
 injection hm2 with hm2
 injection hm2 with hm2
 injection hm2 with r1 r2
 subst r1
 unfold zzo at hc
 split at hc
 case h_2=>cases hc
 rename_i te ht
 obtain⟨j,hj⟩:=Option.isSome_iff_exists.1 hc
 refine OpOk.pure H (z0r ?_) (RAV.pbool false)
 have hg:(eqGuard .neq t a b (.pointer (some ⟨b1,o,none⟩)) (.pointer (some ⟨b1,o,none⟩))).run P w = .ok () w:=rfl
 rw[Sem.run_bind,hg]
 exact Lib.run_neq_ptr_same w _ ht hj
theorem zzT {t ty:TypeId} {ts:List TypeId} {n:Nat} {x:Value} {a:Option Addr} {cap:Nat} (hx:x = .slice a n cap) (H:HeapRel h μ w) (hc:z3Z P t=1) :
 OpOk P (do pure (.value (← Builtin.len_ (t::ts).toArray ty #[x]))) h μ w (pint n) h []:=by
 have hu:∃ el,P.underlying t=some (.slice el):=by
  unfold z3Z at hc
  split at hc <;> simp_all
 obtain⟨el,hu⟩:=hu
 subst hx
 refine OpOk.pure H (z0r ?_) (RAV.pint n)
 simp [Builtin.len_,z0b hu]
theorem zyO {t u ty te:TypeId} (hc:z3h P none t u=true) (ht:zmN P te t=true) {s x:Value} {vs vx v:AV} {h1:Heap} {e:Esc} (H:HeapRel h μ w) (Rs:RAV (imm h μ w) h μ vs s) (Rx:RAV (imm h μ w) h μ vx x)
 (he:appB te h vs vx=some (v,h1,e)):OpOk P (do pure (.value (← Builtin.append_ #[t,u] ty #[s,x]))) h μ w v h1 e:=by
 have htt:P.underlying t=some (.slice te):=by
  unfold zmN at ht
  split at ht
  ·rename_i t' h'
   simp only[beq_iff_eq] at ht
   subst ht
   exact h'
  ·cases ht
 unfold appB at he
 split at he
 case h_2=>cases he
 rename_i ys hr
 have S:=z3H (P:=P) H Rx hr
 obtain⟨c,hck,hc2⟩:=S.2 ys.length (Nat.le_refl _)
 rw[List.take_length] at hc2
 have hck0:(Builtin.firstCells (z0a none) ys.length x).run P w = .ok c w:=hck w.drawn
 split at he
 ·rename_i t0 id g
  split at he
  case h_2=>cases he
  rename_i xs fz ho
  split at he
  case isFalse=>cases he
  rename_i hcond
  obtain⟨rfl,rfl,hfz,hmax⟩:=hcond
  simp only[Option.some.injEq,Prod.mk.injEq] at he
  obtain⟨rfl,rfl,rfl⟩:=he
  have Rs0:=Rs
  cases Rs with | bt1 _ _ _ a cap xs' fz' m hl ho' hm hg hv=>
  rw[ho] at ho'
  injection ho' with ho'
  injection ho' with _ q2 q3
  subst q2;subst q3
  have hb:=hv rfl
  obtain⟨kf,ks,kO⟩:=H.obj id _ _ ho hm
  cases m with
  | none=>
   obtain⟨rfl,rfl⟩:=hb
   have hx0:xs=[]:=kO
   subst hx0
   by_cases hz:ys.length=0
   ·have hy0:ys=[]:=List.length_eq_zero_iff.1 hz
    subst hy0
    have hrun:=z0v (ty:=ty) (base:=none) (sLen:=0) (sCap:=0) hc S.1 hck0 (by simp) (w':=w) rfl
    have hs:h.set id (.row none ([]++[]) fz)=h:=z0A ho
    rw[hs]
    exact⟨_,_,_,z0r hrun,.inl ⟨_,rfl,Rs0⟩,H,Evo.refl _ _ _,z0k.refl _ _⟩
   ·obtain⟨newCap,n,w',c',g1,g2,g3,g4,g5,g6,g7,g8⟩:=z3O (ty:=ty) (base:=none) (sCap:=0) (xs:=[]) (v0:=.sl0 none) hc H Rx hr (by simp;omega) (by simpa using hmax) (.sl0 none none) rfl
    have key:=H.set (w':=w') (o':=.row none ([]++ys) fz) (m':=some (w.heap.size,n)) ho hm ⟨[]++ys,fz,rfl,by simp,fun hl=>by rw[List.length_append] at hl;simp only[List.length_nil] at hl;omega⟩
     g4.zz g4.1 (fun b hb _=>g4.2 b hb) (fun b n' e=>by injection e with e;injection e with e1 e2;subst e1;exact .inr ⟨Nat.le_refl _,g5⟩)
     (fun b n' sh2 xs2 fz2 e1 e2=>by cases e1)
     (fun M' Ev=>by
      refine⟨by have q:fz≤0:=hfz;omega,g7.2.1,c',g6.sealed _,?_,fun i j x y hx hy=>?_⟩
      ·rw[← g2];exact Nat.mul_le_mul_right _ (by simpa using g1)
      ·obtain⟨v,q1,q2⟩:=g7.2.2 i j x y hx hy
       exact⟨v,q1,q2.mono Ev.le⟩) (fun b n t e ht=>by cases e)
    refine⟨_,_,_,z0r g3,.inl ⟨_,rfl,?_⟩,key.1,key.2,z0k.set ho (by simp [Obj.top])⟩
    exact .bt1 t0 id (0+ys.length) _ newCap ([]++ys) fz (some (w.heap.size,n)) (by simpa using g1) (z06 ho) (z06 hm) (by simp) (fun _=>⟨rfl,⟨by omega,by rw[← g2];simp [z0a]⟩,g8 _ htt⟩)
  | some m=>
   obtain⟨b,n⟩:=m
   obtain⟨rfl,hcn,hst⟩:=hb
   obtain⟨c',hB,hn2,hcell⟩:=kO
   by_cases hroom:xs.length+ys.length≤cap
   ·obtain⟨w',r1,r2,r3,r4⟩:=z2I (P:=P) (at_:=xs.length) H ho hm hB hc2 hfz (Nat.le_refl _) (by simp only[z0a];omega)
    rw[z7o] at r2 r3 r4
    have hrun:=z0v (ty:=ty) (base:=some ⟨b,0,none⟩) (sLen:=xs.length) (sCap:=cap) hc S.1 hck0 hroom (w':=w') (by simpa [z1w] using r1)
    refine⟨_,_,_,z0r hrun,.inl ⟨_,rfl,?_⟩,r2,r3,r4⟩
    exact .bt1 t0 id (xs.length+ys.length) _ cap (xs++ys) fz (some (b,n)) hroom (z06 ho) hm (by simp) (fun _=>⟨rfl,hcn,r3.le.s _ _ hst⟩)
   ·have Ro:RAV (imm h μ w) h μ (.own id xs.length 0 xs.length) (.slice (some ⟨b,0,none⟩) xs.length cap):=.own id xs.length 0 xs.length _ cap none xs fz (some (b,n)) hl ho hm (Nat.le_refl _) (by simp) (fun _=>.inr ⟨by simp,by simp [z0a];exact hcn.2⟩)
    have hr0:rds h (.own id xs.length 0 xs.length)=some (none,xs):=by simp [rds,rd,ho,win]
    obtain⟨newCap,n',w',c'',g1,g2,g3,g4,g5,g6,g7,g8⟩:=z3O (ty:=ty) (base:=some ⟨b,0,none⟩) (sCap:=cap) (xs:=xs) (v0:=.own id xs.length 0 xs.length) hc H Rx hr (by omega) hmax Ro hr0
    have hpos:0<ys.length:=by omega
    have key:=H.set (w':=w') (o':=.row none (xs++ys) fz) (m':=some (w.heap.size,n')) ho hm ⟨xs++ys,fz,rfl,by simp,fun hl=>by rw[List.length_append] at hl;omega⟩
     g4.zz g4.1 (fun b hb _=>g4.2 b hb) (fun b n' e=>by injection e with e;injection e with e1 e2;subst e1;exact .inr ⟨Nat.le_refl _,g5⟩)
     (fun b n' sh2 xs2 fz2 e1 e2=>by
      injection e2 with e2 e3 e4
      subst e2;subst e3;subst e4
      refine⟨_,fz,rfl,fun j hj=>⟨z2e (g4.2 b (H.inside id b n' (e1 ▸ hm))),fun n'' e3=>hj⟩⟩)
     (fun M' Ev=>by
      refine⟨by simp;omega,g7.2.1,c'',g6.sealed _,?_,fun i j x y hx hy=>?_⟩
      ·rw[← g2];exact Nat.mul_le_mul_right _ (by simpa using g1)
      ·obtain⟨v,q1,q2⟩:=g7.2.2 i j x y hx hy
       exact⟨v,q1,q2.mono Ev.le⟩) (fun b n t e ht=>by rw[z4Y (g4.2 b (H.inside id b n (e ▸ hm)))];exact ht)
    refine⟨_,_,_,z0r g3,.inl ⟨_,rfl,?_⟩,key.1,key.2,z0k.set ho (by simp [Obj.top])⟩
    exact .bt1 t0 id (xs.length+ys.length) _ newCap (xs++ys) fz (some (w.heap.size,n')) g1 (z06 ho) (z06 hm) (by simp) (fun _=>⟨rfl,⟨by omega,by rw[← g2];simp [z0a]⟩,g8 _ htt⟩)
 ·cases he
theorem zu4 {ts:Array TypeId} {ty te:TypeId} {x:Value} {vx v:AV} (H:HeapRel h μ w) (Rx:RAV (imm h μ w) h μ vx x) {h1:Heap} {e:Esc}
 (he:zu3 te h vx=some (v,h1,e)):OpOk P (do pure (.value (← Builtin.unsafeSliceData_ ts ty #[x]))) h μ w v h1 e:=by
 unfold zu3 at he
 split at he
 ·rename_i t0 id g
  split at he
  case h_2=>cases he
  rename_i xs fz ho
  split at he
  case isFalse=>cases he
  rename_i hcond
  obtain⟨rfl,rfl⟩:=hcond
  cases Rx with | bt1 _ _ _ a cap xs' fz' m hl ho' hm hg hv=>
  rw[ho] at ho'
  injection ho' with ho'
  injection ho' with _ q2 q3
  subst q2;subst q3
  have hb:=hv rfl
  obtain⟨kf,ks,kO⟩:=H.obj id _ _ ho hm
  cases m with
  | none=>
   obtain⟨rfl,rfl⟩:=hb
   have hx0:xs=[]:=kO
   subst hx0
   simp only[List.length_nil,if_true,Option.some.injEq,Prod.mk.injEq] at he
   obtain⟨rfl,rfl,rfl⟩:=he
   exact OpOk.pure H (z0r (Lib.run_unsafeSliceData_nil w ts ty 0 0)) (.anyp none)
  | some m=>
   obtain⟨b,n⟩:=m
   obtain⟨rfl,hcn,hst⟩:=hb
   have hrun:=Lib.run_unsafeSliceData_row (P:=P) w ts ty ⟨b,0,none⟩ xs.length cap (by omega)
   split at he
   ·simp only[Option.some.injEq,Prod.mk.injEq] at he
    obtain⟨rfl,rfl,rfl⟩:=he
    exact OpOk.pure H (z0r hrun) (.anyp _)
   ·simp only[Option.some.injEq,Prod.mk.injEq] at he
    obtain⟨rfl,rfl,rfl⟩:=he
    exact OpOk.pure H (z0r hrun) (.bt2 t0 id xs.length _ xs fz (some (b,n)) ho hm (Nat.le_refl _) (fun _=>⟨b,n,rfl,rfl,hst⟩))
 ·cases he
theorem zjA {b n:Nat} {c:Array Value} {E:TypeId} {lo hi:Nat} (hb:w.heap[b]?=some (.cells c E (lo,hi))) (hn:n≠0):∃ lo' hi',w.freeze ⟨b,0,none⟩ n=z0I w b (.cells c E (lo',hi')):=by
 have hlt:b<w.heap.size:=z8b hb
 have hb':w.heap[b] = .cells c E (lo,hi):=by
  rw[Array.getElem?_eq_getElem hlt] at hb;injection hb
 refine⟨if lo==hi then 0 else min lo 0,if lo==hi then 0+n else max hi (0+n),?_⟩
 unfold World.freeze
 rw[if_neg hn]
 simp only[z0I]
 congr 1
 apply Array.ext_getElem?
 intro i
 by_cases hi':b=i
 ·subst hi'
  rw[Array.getElem?_setIfInBounds_self_of_lt hlt,Array.getElem?_modify]
  simp only[if_true,Array.getElem?_eq_getElem hlt,Option.map_some,hb']
  by_cases hq:lo=hi <;> simp [hq]
 ·rw[Array.getElem?_setIfInBounds_ne hi',Array.getElem?_modify]
  simp [hi']
theorem zgw:∀ {xs:List PV} {s:List UInt8},z3Y xs=some s→s.length=xs.length∧∀ (j:Nat) (b:UInt8),s[j]?=some b→xs[j]?=some (.int .u8 b.toNat):=by
 intro xs s h
 rw[z4N h]
 exact⟨by simp [z0o],fun j b hb=>by rw[z6V,hb];rfl⟩
theorem y0Q {ts:List TypeId} {pt it ty te:TypeId} (ht:zmM P te pt=true) (hcell1:P.cellsOf te=1) {x:Value} {vx v:AV} {n:Nat} (H:HeapRel h μ w) (Rx:RAV (imm h μ w) h μ vx x) {h1:Heap} {e:Esc}
 (he:strB te h vx n=some (v,h1,e)):OpOk P (do pure (.value (← Builtin.unsafeString_ #[pt,it] ty #[x,.int .i64 n]))) h μ w v h1 e:=by
 have htt:P.underlying pt=some (.pointer te):=by
  unfold zmM at ht
  split at ht
  ·rename_i t' h'
   simp only[beq_iff_eq] at ht
   subst ht
   exact h'
  ·cases ht
 unfold strB at he
 split at he
 ·split at he
  case isFalse=>cases he
  rename_i h0
  subst h0
  simp only[Option.some.injEq,Prod.mk.injEq] at he
  obtain⟨rfl,rfl,rfl⟩:=he
  cases Rx with | anyp a=>
  exact OpOk.pure H (z0r (Lib.run_unsafeString_none w pt it ty a)) (.p _ _ (.str []))
 ·rename_i t0 id g
  split at he
  case h_2=>cases he
  rename_i xs fz ho
  split at he
  case isFalse=>cases he
  rename_i hcond
  obtain⟨rfl,rfl,rfl,hpos,hmax⟩:=hcond
  simp only[Option.map_eq_some_iff,Prod.mk.injEq] at he
  obtain⟨s,hs,rfl,rfl,rfl⟩:=he
  obtain⟨hsl,hsg⟩:=zgw hs
  cases Rx with | bt2 _ _ _ a xs' fz' m ho' hm hg hv=>
  rw[ho] at ho'
  injection ho' with ho'
  injection ho' with _ q2 q3
  subst q2;subst q3
  obtain⟨b,n,rfl,rfl,hst⟩:=hv rfl
  obtain⟨kf,ks,c,hB,hn2,hcell⟩:=H.obj id _ _ ho hm
  obtain⟨hsz,E,lo,hi,hE,_⟩:=hB
  have hEt:E=t0:=by
   have hst:ety w b=some t0:=hst
   rw[z4p hE] at hst
   injection hst
  subst hEt
  have hne:s≠[]:=by intro h0;subst h0;simp at hsl;omega
  have hrun:=Lib.run_unsafeString_row (P:=P) w pt it ty E htt hcell1 b c.size (z9K hE) s hne (by simp only[z0a] at hn2;omega) (by unfold z0J at hmax;omega) (fun j y hy=>by
   rw[z1w,Nat.zero_add]
   obtain⟨v,v1,v2⟩:=hcell j 0 _ (.int .u8 y.toNat) (hsg j y hy) rfl
   cases v2
   have:w.cell? ⟨b,j,none⟩=c[j]?:=by
    unfold World.cell?
    simp [hE]
   rw[this]
   simpa [z0a] using v1)
  rw[hsl] at hrun
  have hw2:∃ lo' hi',w.freeze ⟨b,0,none⟩ xs.length=z0I w b (.cells c E (lo',hi')):=zjA hE (by omega)
  obtain⟨lo',hi',hw2⟩:=hw2
  have key:=H.set (w':=z0I w b (.cells c E (lo',hi'))) (o':=.row none xs (xs.length+1)) (m':=some (b,n)) ho hm ⟨xs,_,rfl,Nat.le_refl _,fun _=>rfl⟩
   rfl (Nat.le_of_eq (z11 _ _).symm) (fun b' _ hb'=>z2l (fun e=>hb' n (by rw[e]))) (fun b' n e=>.inl ⟨n,e⟩)
   (fun b' n' sh2 xs2 fz2 e1 e2=>by
    injection e2 with e2 e3 e4
    subst e2;subst e3;subst e4
    injection e1 with e1;injection e1 with e1 _;subst e1
    refine⟨_,_,rfl,fun j hj=>⟨?_,fun _ _=>by simp only[z0a] at hj ⊢;omega⟩⟩
    unfold World.cell?
    simp [hE,z1e hE])
   (fun M' Ev=>by
    refine⟨by omega,ks,c,⟨hsz,E,lo',hi',z1e hE,fun q=>absurd (by omega) q⟩,hn2,fun i j x y hx hy=>?_⟩
    obtain⟨v,v1,v2⟩:=hcell i j x y hx hy
    exact⟨v,v1,v2.mono Ev.le⟩) (z7a hE)
  rw[z0A hm] at key
  rw[hw2] at hrun
  exact⟨_,_,_,z0r hrun,.inl ⟨_,rfl,.p _ _ (.str s)⟩,key.1,key.2,z0k.set ho (by simp [Obj.top])⟩
 ·cases he
def z7u (o:Op):Option (Operand × List Operand):=match o with
 | .call c=>match c.callee with
  | .value f=>some (f,c.args.toList)
  | _=>none
 | _=>none
theorem z6K {o:Oper} {f:Operand} {ys:List Operand} (hc:z7u o.op=some (f,ys)) {ρ:Operand→Value} {g:Nat} {caps:Array Value} (hf:ρ f = .func (.func g) #[] caps) :
 (execOp ρ o).run P w=(callFunc g ((ys.map ρ).toArray++caps)).run P w:=by
 unfold z7u at hc
 split at hc
 ·rename_i c hop
  split at hc
  ·rename_i f' hcal
   injection hc with hc
   injection hc with h1 h2
   subst h1;subst h2
   unfold execOp
   rw[hop]
   simp only[resolve,hcal,Deferred.ofValue,hf,Sem.run_bind,Sem.run_pure,Result.andThen_ok,invoke]
   have e1:(List.map ρ c.args.toList).toArray=c.args.map ρ:=by rw[← Array.toList_map]
   rw[e1]
   simp
  ·cases hc
 ·cases hc
def zfT (P:Program) (f:Nat):Bool:=match P.funcs[f]? with
 | some fn=>fn.name == "internal/abi.NoEscape" && fn.body.isNone&&(Extern.findNext fn).isNone
 | none=>false
theorem zpC {fn:Func} (h:fn.name = "internal/abi.NoEscape"):Extern.find fn=some Extern.AbiNoEscape.same:=by
 have h1:(Extern.allGenericRows.lookup "internal/abi.NoEscape").isNone=true:=by kernel_rfl
 have h2:(Extern.allTypedRows.lookup "internal/abi.NoEscape").isNone=true:=by kernel_rfl
 have h3:Extern.allRows.lookup "internal/abi.NoEscape" = some Extern.AbiNoEscape.same:=by kernel_rfl
 unfold Extern.find
 rw[h]
 simp only[Option.isNone_iff_eq_none.1 h1,Option.isNone_iff_eq_none.1 h2,h3]
 rfl
theorem zwe {f:Nat} (hc:zfT P f=true) {o:Oper} {g y:Operand} (ho:z7u o.op=some (g,[y])) {ρ:Operand→Value} (hg:ρ g = .func (.func f) #[] #[]) {v:AV} (H:HeapRel h μ w) (R:RAV (imm h μ w) h μ v (ρ y)) :
 OpOk P (execOp ρ o) h μ w v h []:=by
 unfold zfT at hc
 split at hc
 case h_2=>cases hc
 rename_i fn hf
 simp only[Bool.and_eq_true,beq_iff_eq] at hc
 obtain⟨⟨c1,c2⟩,c3⟩:=hc
 refine OpOk.pure H ?_ R
 rw[z6K ho hg,run_callFunc_extern hf (by rw[c1];rfl) c2 (Option.isNone_iff_eq_none.1 c3) (zpC c1)]
 rfl
def zvw:AV→Value→Bool
 | .sl0 _,.slice none 0 0=>true
 | .sl0 _,_=>false
 | _,_=>true
def zOkR:List AV→List Value→Bool
 | [],[]=>true
 | a::r,b::s=>(match a with
  | .bt k _ _ _=>Nat.beq k 3&&zvw (.sl0 none) b
  | a=>a.sc&&z3b a b&&zvw a b)&&zOkR r s
 | _,_=>false
theorem ziT:∀ {z:List AV} {c:List Value},zOkR z c=true→z.length=c.length
 | [],[],_=>rfl
 | [],_::_,e=>by simp [zOkR] at e
 | _::_,[],e=>by simp [zOkR] at e
 | a::r,b::s,e=>by
  simp only[zOkR,Bool.and_eq_true] at e
  simp [ziT e.2]
theorem zeV {sh:Sh} {b:Value} (e4:zvw (.sl0 sh) b=true):b = .slice none 0 0:=by
 unfold zvw at e4
 split at e4
 ·rfl
 ·cases e4
 ·rename_i h1 h2
  first | exact absurd rfl (h2 _) | exact (h1 _ rfl).elim | exact (h2 _ rfl).elim | exact absurd rfl (h1 _)
def z8f (P:Program) (z:List AV) (t:TypeId):Bool:=match P.info? t with
 | some i=>match i.zero with
  | some v=>zOkR z v.cells.toList
  | none=>false
 | none=>false
theorem z6J:∀ (z:List AV) (c:List Value) {h:Heap} {μ:Mu},HeapRel h μ w→zOkR z c=true →
 ∃ μ',HeapRel (z0H z h).2 μ' w∧Evo (imm h μ w) h μ (imm (z0H z h).2 μ' w) (z0H z h).2 μ'∧z0k h (z0H z h).2 []∧(z0H z h).1.length=z.length ∧
  ∀ (j:Nat) (x:AV),(z0H z h).1[j]?=some x→x.sc=true∧∃ v,c[j]?=some v∧RAV (imm (z0H z h).2 μ' w) (z0H z h).2 μ' x v
 | [],c,h,μ,H,_=>⟨μ,H,Evo.refl _ _ _,z0k.refl _ _,rfl,fun j x hx=>by simp [z0H] at hx⟩
 | a::r,[],h,μ,H,e=>by simp [zOkR] at e
 | a::r,b::s,h,μ,H,e=>by
  simp only[zOkR,Bool.and_eq_true] at e
  obtain⟨e1,e3⟩:=e
  by_cases ha:∃ sh,a = .sl0 sh
  ·obtain⟨sh,rfl⟩:=ha
   simp only[Bool.and_eq_true] at e1
   obtain⟨k1,k2⟩:=zaV H sh
   obtain⟨μ',g1,g2,g3,g4,g5⟩:=z6J r s k1 e3
   have hb':b = .slice none 0 0:=zeV e1.2
   refine⟨μ',g1,k2.trans g2,?_,by simp [z0H,g4],fun j x hx=>?_⟩
   ·simpa [z0H] using (z0k.push (h:=h) (o:=.row sh [] 0) (by simp [Obj.top])).trans g3
   ·cases j with
    | zero=>
     simp [z0H] at hx
     subst hx
     refine⟨rfl,b,rfl,?_⟩
     subst hb'
     have q:RAV (imm (h++[.row sh [] 0]) (μ++[none]) w) (h++[.row sh [] 0]) (μ++[none]) (.own h.length 0 0 0) (.slice none 0 0):=
      .own h.length 0 0 0 none 0 sh [] 0 none (Nat.le_refl _) (by simp) (by rw[← H.len];simp) (Nat.zero_le _) (Nat.le_refl _) (fun _=>by simp [z5G])
     exact q.evo g2
    | succ j=>exact g5 j x (by simpa [z0H] using hx)
  ·by_cases hb:∃ k t id g,a = .bt k t id g
   ·obtain⟨k,t,id,g,rfl⟩:=hb
    simp only[Bool.and_eq_true] at e1
    obtain⟨k1,k2⟩:=zqI H (z24 t)
    obtain⟨μ',g1,g2,g3,g4,g5⟩:=z6J r s k1 e3
    have hb':b = .slice none 0 0:=zeV e1.2
    refine⟨μ',g1,k2.trans g2,?_,by simp [z0H,g4],fun j x hx=>?_⟩
    ·simpa [z0H] using (z0k.push (h:=h) (o:=.arow (z24 t) []) (by simp [Obj.top,AV.tops])).trans g3
    ·cases j with
     | zero=>
      simp [z0H] at hx
      subst hx
      refine⟨rfl,b,rfl,?_⟩
      subst hb'
      have q:RAV (imm (h++[.arow (z24 t) []]) (μ++[none]) w) (h++[.arow (z24 t) []]) (μ++[none]) (.bt 3 t h.length 0) (.slice none 0 0):=
       .bt3 t h.length 0 none 0 (.arow (z24 t) []) none (Nat.le_refl _) (by simp) (by rw[← H.len];simp) (fun sh cs e=>by
        injection e with q1 q2
        subst q1;subst q2
        exact⟨by simp,fun _=>by simp [z5G]⟩)
      exact q.evo g2
     | succ j=>exact g5 j x (by simpa [z0H] using hx)
   ·obtain⟨μ',g1,g2,g3,g4,g5⟩:=z6J r s H e3
    have hr:z0H (a::r) h=(a::(z0H r h).1,(z0H r h).2):=by
     cases a <;> first | rfl | exact absurd ⟨_,rfl⟩ ha | exact absurd ⟨_,_,_,_,rfl⟩ hb
    have e2:a.sc=true∧z3b a b=true:=by
     cases a <;> first | exact absurd ⟨_,rfl⟩ ha | exact absurd ⟨_,_,_,_,rfl⟩ hb | (simp only[Bool.and_eq_true] at e1;exact e1.1)
    rw[hr]
    refine⟨μ',g1,g2,g3,by simp [g4],fun j x hx=>?_⟩
    cases j with
    | zero=>
     simp at hx
     subst hx
     exact⟨e2.1,b,rfl,(z1c e2.2).evo g2⟩
    | succ j=>exact g5 j x (by simpa using hx)
theorem zm1 {z:List AV} {t:TypeId} (hc:z8f P z t=true) (H:HeapRel h μ w) :
 OpOk P (do pure (.value (← Instr.alloc t true (.tuple #[])))) h μ w (.ref (z0H z h).2.length 0) ((z0H z h).2++[.box (z0H z h).1]) []:=by
 unfold z8f at hc
 split at hc
 ·rename_i i hi
  split at hc
  ·rename_i v hv
   obtain⟨μ',g1,g2,g3,g4,g5⟩:=z6J z v.cells.toList H hc
   have hl:=ziT hc
   obtain⟨_,_,μ2,k1,k2,k3,k4,k5⟩:=zid (P:=P) g1 (s:=do pure (.value (← Instr.alloc t true (.tuple #[])))) (c:=v.cells) t (by rw[g4,hl];simp) (fun j x hx=>by simpa using g5 j x hx) (by
    refine z0r ?_
    unfold Instr.alloc
    rw[Sem.run_bind]
    have:(zeroValue t).run P w = .ok v w:=by
     unfold zeroValue
     rw[Sem.run_bind,z0F hi]
     simp [hv]
    rw[this]
    simp [newVar,z01])
   exact⟨_,_,μ2,k1,k2,k3,g2.trans k4,by simpa using g3.trans k5⟩
  ·cases hc
 ·cases hc
theorem zco:∀ (z:List AV) (c:List Value) {h:Heap} {μ:Mu},HeapRel h μ w→c.length=z.length→(∀ (j:Nat) (x:AV),z[j]?=some x→x.sc=true∧∃ v,c[j]?=some v∧RAV (imm h μ w) h μ x v) →
 ∃ μ',HeapRel (z1h z h).2 μ' w∧Evo (imm h μ w) h μ (imm (z1h z h).2 μ' w) (z1h z h).2 μ'∧z0k h (z1h z h).2 []∧(z1h z h).1.length=z.length ∧
  ∀ (j:Nat) (x:AV),(z1h z h).1[j]?=some x→x.sc=true∧∃ v,c[j]?=some v∧RAV (imm (z1h z h).2 μ' w) (z1h z h).2 μ' x v
 | [],c,h,μ,H,_,_=>⟨μ,H,Evo.refl _ _ _,z0k.refl _ _,rfl,fun j x hx=>by simp [z1h] at hx⟩
 | a::r,[],h,μ,H,e,_=>by simp at e
 | a::r,b::s,h,μ,H,e,hr=>by
  have e3:s.length=r.length:=by simpa using e
  obtain⟨a1,b',hb',a2⟩:=hr 0 a rfl
  have hbb:b'=b:=by simpa using hb'.symm
  subst hbb
  by_cases ha:∃ sh,a = .sl0 sh
  ·obtain⟨sh,rfl⟩:=ha
   obtain⟨k1,k2⟩:=zaV H sh
   obtain⟨μ',g1,g2,g3,g4,g5⟩:=zco r s k1 e3 (fun j x hx=>by
    obtain⟨q1,v,q2,q3⟩:=hr (j+1) x (by simpa using hx)
    exact⟨q1,v,by simpa using q2,q3.evo k2⟩)
   refine⟨μ',g1,k2.trans g2,?_,by simp [z1h,g4],fun j x hx=>?_⟩
   ·simpa [z1h] using (z0k.push (h:=h) (o:=.row sh [] 0) (by simp [Obj.top])).trans g3
   ·cases j with
    | zero=>
     simp [z1h] at hx
     subst hx
     refine⟨rfl,b',rfl,?_⟩
     cases a2 with
     | sl0 _ aa=>
      have q:RAV (imm (h++[.row sh [] 0]) (μ++[none]) w) (h++[.row sh [] 0]) (μ++[none]) (.own h.length 0 0 0) (.slice aa 0 0):=
       .own h.length 0 0 0 aa 0 sh [] 0 none (Nat.le_refl _) (by simp) (by rw[← H.len];simp) (Nat.zero_le _) (Nat.le_refl _) (fun _=>by simp [z5G])
      exact q.evo g2
    | succ j=>exact g5 j x (by simpa [z1h] using hx)
  ·obtain⟨μ',g1,g2,g3,g4,g5⟩:=zco r s H e3 (fun j x hx=>by
    obtain⟨q1,v,q2,q3⟩:=hr (j+1) x (by simpa using hx)
    exact⟨q1,v,by simpa using q2,q3⟩)
   have hrw:z1h (a::r) h=(a::(z1h r h).1,(z1h r h).2):=by
    cases a <;> first | rfl | exact absurd ⟨_,rfl⟩ ha
   rw[hrw]
   refine⟨μ',g1,g2,g3,by simp [g4],fun j x hx=>?_⟩
   cases j with
   | zero=>
    simp at hx
    subst hx
    exact⟨a1,b',rfl,a2.evo g2⟩
   | succ j=>exact g5 j x (by simpa using hx)
theorem zzl {t:TypeId} {v:AV} {x:Value} {cs:List AV} (H:HeapRel h μ w) (R:RAV (imm h μ w) h μ v x) (hc:v.cells=some cs) :
 OpOk P (do pure (.value (← Instr.box t x))) h μ w (.ref (z1h cs h).2.length 0) ((z1h cs h).2++[.box (z1h cs h).1]) []:=by
 have hs:=z1C R hc
 obtain⟨μ',g1,g2,g3,g4,g5⟩:=zco cs x.cells.toList H (by simpa using hs.1) (fun j y hy=>by
  obtain⟨q1,u,q2,q3⟩:=hs.2 j y hy
  exact⟨q1,u,by simpa using q2,q3⟩)
 obtain⟨_,_,μ2,k1,k2,k3,k4,k5⟩:=zid (P:=P) g1 (s:=do pure (.value (← Instr.box t x))) (c:=x.cells) t (by rw[g4];exact hs.1) (fun j y hy=>by simpa using g5 j y hy) (by
  refine z0r ?_
  simp [Instr.box,newVar,z01])
 exact⟨_,_,μ2,k1,k2,k3,g2.trans k4,by simpa using g3.trans k5⟩
end Go.Am
end
