import Derived.MapKept
import Derived.Lib.UnsafeStr
import Derived.Lib.Builder
import Derived.Laws.Externs
import GoSem.Extern.Table
import Derived.Orders
import Derived.Test.YthofcepomhnpdaaGreatlawST1
set_option linter.all false
set_option maxRecDepth 100000
set_option maxHeartbeats 0
namespace Go.Am
section
variable {h h':aA} {μ μ':Mu} {w w':World} {P:Program} {M M':Mem}
theorem zaI {a b:PV}{r:Bool}(he:PV.eq1 a b=some r):a.kind=b.kind/\(r=true↔a=b):=by
 unfold PV.eq1 at he;split at he
 ·split at he
  ·rename_i hk;subst hk;simp at he;subst he;exact⟨rfl,by simp⟩
  ·cases he
 ·simp at he;subst he;exact⟨rfl,by simp⟩
 ·simp at he;subst he;exact⟨rfl,by simp⟩
 ·cases he
theorem z4G:∀ {asv bs:List PV}{r:Bool},eqs asv bs=some r->asv.map PV.kind=bs.map PV.kind/\(r=true↔asv=bs)
 | [],[],r,h=>by simp [eqs]at h;subst h;simp
 | [],_::_,r,h=>by simp [eqs]at h
 | _::_,[],r,h=>by simp [eqs]at h
 | a::asv,b::bs,r,h=>by
  simp only[eqs]at h;split at h
  ·rename_i q hq
   simp only[Option.map_eq_some_iff]at h;obtain⟨r',h1,rfl⟩:=h;obtain⟨k1,k2⟩:=zaI hq;obtain⟨k3,k4⟩:=z4G h1;refine⟨by simp [k1,k3],?_⟩
   simp only[Bool.and_eq_true,List.cons.injEq,k2,k4]
  ·cases h
theorem zaL {a b:PV}{r:Bool}(he:PV.eqv a b=some r):eqs a.cells b.cells=some r/\(r=true↔a=b):=by
 have sc:∀{a b:PV},PV.eq1 a b=some r->eqs [a] [b]=some r/\(r=true↔a=b):=λ{a b} h=>by
  refine⟨?_,(zaI h).2⟩;simp only[eqs,h];simp
 cases a <;> cases b <;> first|exact⟨he,by rw[(z4G he).2];simp⟩|exact sc he|cases he
theorem zsr {a:PV}{x y:Value}(hk:a.key=true)(Hx:RPV M a x)(Hy:RPV M' a y):x=y:=by
 cases a with
 | int k n=>cases Hx;cases Hy;rfl
 | bool b=>cases Hx;cases Hy;rfl
 | str s=>cases Hx;cases Hy;rfl
 | sl sh xs=>simp [PV.key]at hk
 | nilp=>simp [PV.key]at hk
 | unk=>simp [PV.key]at hk
 | agg cs=>
  cases Hx with|agg _ vs hl hr=>
  cases Hy with|agg _ us hl' hr'=>
  congr 2
  apply List.ext_getElem (by omega)
  intro i h1 h2;have hi:i<cs.length:=by omega
  have q1:=hr i cs[i] vs[i] (List.getElem?_eq_getElem hi) (List.getElem?_eq_getElem h1)
  have q2:=hr' i cs[i] us[i] (List.getElem?_eq_getElem hi) (List.getElem?_eq_getElem h2)
  simp only[PV.key]at hk;have:=List.all_eq_true.1 hk _ (List.getElem_mem hi);generalize cs[i]=c at *;generalize vs[i]=v1 at *;generalize us[i]=v2 at *;cases c <;> simp at this
  ·cases q1;cases q2;rfl
  ·cases q1;cases q2;rfl
  ·cases q1;cases q2;rfl
def LH (P:Program)(kt:TypeId)(kk:Sh × List Nat):Bool:=DB P kt==some kk.1&&rE P 20 kt kk.2==some []&&kk.2.length==kA kk.1
theorem z8e {sh:Sh}{a:PV}{x:Value}(hs:a.shp sh=true)(R:RPV M a x):∃xs:List Value,(UD sh λj=>(xs[0+j]?).getD undef)=x/\Cs M a.cells xs 0/\a.cells.length=kA sh:=by
 cases sh with
 | none=>
  have hc:a.cells=[a]:=by cases a <;> first|rfl|(simp [PV.shp,PV.sc]at hs)
  refine⟨[x],by simp [UD],⟨by rw[hc];simp,λj b v h1 h2=>?_⟩,by rw[hc];rfl⟩
  rw[hc]at h1;cases j with
  | zero=>simp at h1 h2;subst h1;subst h2;exact R
  | succ j=>simp at h1
 | some n=>
  cases a with
  | agg cs=>
   cases R with|agg _ vs hl hr=>
   simp only[PV.shp,Bool.and_eq_true,beq_iff_eq]at hs;refine⟨vs,?_,⟨by simp [PV.cells];omega,λj b v h1 h2=>hr j b v h1 (by simpa using h2)⟩,hs.1⟩
   simp only[UD];congr 2
   apply List.ext_getElem (by simp;omega)
   intro i h1 h2;simp [h2]
  | _=>simp [PV.shp]at hs
theorem zps {kk:Sh × List Nat}{v:AV}{key:PV}(hk:cD kk v=some key):v = .p key/\key.key=true/\key.shp kk.1=true/\key.cells.map PV.kind=kk.2:=by
 unfold cD at hk;split at hk
 ·split at hk
  ·rename_i h1
   injection hk with hk
   subst hk;simp only[Bool.and_eq_true,beq_iff_eq]at h1;exact⟨rfl,h1.1.1,h1.1.2,h1.2⟩
  ·cases hk
 ·cases hk
structure KeyAt (P:Program) (M:Mem) (kt:TypeId) (kk:Sh × List Nat) (key:PV) (kv:Value):Prop where
 ct:LH P kt kk=true
 ok:key.key=true
 shp:key.shp kk.1=true
 kinds:key.cells.map PV.kind=kk.2
 rel:RPV M key kv
theorem KeyAt.equal {kt:TypeId}{kk:Sh × List Nat}{key:PV}{kv:Value}(K:KeyAt P M kt kk key kv){k2:PV}{kv2:Value}(R2:RPV M k2 kv2)(h2:k2.key=true){r:Bool}(he:PV.eqv key k2=some r) :
 (Op.equal kt kv kv2).run P w = .ok r w:=by
 obtain⟨ct,hkey,hshp,hkinds,R⟩:=K;unfold LH at ct;simp only[Bool.and_eq_true,beq_iff_eq]at ct;obtain⟨⟨c1,c2⟩,c3⟩:=ct;have hq:=(zaL he).1
 have hk2:=(z4G hq).1
 have hs2:k2.shp kk.1=true:=by
  cases hsh:kk.1 with
  | none=>
   rw[hsh]at hshp;cases key <;> simp [PV.shp,PV.sc]at hshp <;> cases k2 <;> simp [PV.shp,PV.sc,PV.eqv,PV.eq1]at he ⊢
  | some n=>
   rw[hsh]at hshp;cases key with
   | agg cs=>
    cases k2 with
    | agg ds=>
     simp only[PV.shp,Bool.and_eq_true,beq_iff_eq]at hshp ⊢;have hl:=congrArg List.length hk2
     simp [PV.cells]at hl;refine⟨by omega,?_⟩
     simp only[PV.key]at h2;rw[List.all_eq_true]at h2 ⊢;intro x hx;have:=h2 x hx;cases x <;> first|rfl|simp at this
    | _=>simp [PV.eqv,PV.eq1]at he
   | _=>simp [PV.shp]at hshp
 obtain⟨xs,e1,C1,L1⟩:=z8e hshp R;obtain⟨ys,e2,C2,L2⟩:=z8e hs2 R2;have:=z8s (P:=P) (w:=w) (M:=M) 20 kt 9980 kk.2 [] kk.1 xs ys 0 key.cells k2.cells r c2 c1 (by rw[hkinds];simp) hk2 L1 C1 C2 hq
 rw[e1,e2]at this;exact this
theorem zdY {d:TypeDesc}{a b:PV}{x y:Value}{r r':Bool}(Rx:RPV M a x)(Ry:RPV M b y)(he:PV.eqv a b=some r)(hs:Instr.sameNow d x y=some r'):r'=r:=by
 unfold PV.eqv at he;split at he
 ·cases Rx;cases Ry
  unfold Instr.sameNow at hs;split at hs
  ·rename_i h1 h2;cases h1
  ·rename_i h1 h2;cases h1
  ·rename_i h1 h2;cases h1
  ·cases hs
 ·unfold PV.eq1 at he
  split at he
  ·split at he
   ·rename_i k m k' n hkk
    subst hkk;cases Rx;cases Ry
    simp only[Option.some.injEq]at he;unfold Instr.sameNow at hs;split at hs <;> simp_all
    rw[<-hs,<-he,YF]
   ·cases he
  ·cases Rx;cases Ry
   simp only[Option.some.injEq]at he;unfold Instr.sameNow at hs;split at hs <;> simp_all
   rw[<-hs,<-he,YF]
  ·rename_i s s'
   cases Rx;cases Ry
   simp only[Option.some.injEq]at he;unfold Instr.sameNow at hs;split at hs
   ·rename_i h1 _;cases h1
   ·rename_i a b h1 h2
    cases h1;cases h2
    injection hs with hs
    rw[<-hs,<-he];simp [Go.beq_toListBytes,Go.ByteArray.toList_mk,YF]
   ·rename_i h1 _;cases h1
   ·cases hs
  ·cases he
def oG (M:Mem)(es:List ME)(ces:List MapEntry):Prop:=es.length=ces.length/\∀(i:Nat) (e:ME) (ce:MapEntry),es[i]?=some e->ces[i]?=some ce->RPV M e.key ce.key/\e.key.key=true
def JF (ces:List MapEntry)(off:Nat)(r:Option Nat):Option (Nat×Value):=r.bind λi=>(ces[i]?).map λc=>(off+i,c.val)
theorem zby {ce:MapEntry}{ces:List MapEntry}{off:Nat}{r:Option Nat}:JF (ce::ces) off (r.map (· + 1))=JF ces (off+1) r:=by
 cases r with
 | none=>rfl
 | some i=>simp [JF,show off+(i+1)=off+1+i by omega]
theorem KeyAt.asking {kt:TypeId}{kk:Sh × List Nat}{key:PV}{kv:Value}(K:KeyAt P M kt kk key kv):∀{es:List ME} {ces:List MapEntry} {off:Nat} {r:Option Nat},oG M es ces->QC key es=some r ->
 (Instr.findAsking kt kv ces off).run P w = .ok (JF ces off r) w
 | [],[],off,r,_,h=>by
  simp [QC]at h;subst h;rfl
 | [],_::_,off,r,hr,_=>by simp [oG]at hr
 | _::_,[],off,r,hr,_=>by simp [oG]at hr
 | e::es,ce::ces,off,r,hr,h=>by
  obtain⟨k1,k2⟩:=hr.2 0 e ce rfl rfl;have hr':oG M es ces:=⟨by have:=hr.1;simpa using this,λi e' ce' h1 h2=>hr.2 (i+1) e' ce' (by simpa using h1) (by simpa using h2)⟩
  simp only[QC]at h;simp only[Instr.findAsking,Sem.run_bind];split at h
  ·rename_i hq
   injection h with h
   subst h;rw[K.equal k1 k2 hq];simp [JF]
  ·rename_i hq
   simp only[Option.map_eq_some_iff]at h;obtain⟨r',h1,rfl⟩:=h;rw[K.equal k1 k2 hq];simp only[Result.andThen_ok,Bool.false_eq_true,if_false];rw[K.asking (off:=off+1) hr' h1,zby]
  ·cases h
theorem KeyAt.now {kt:TypeId}{kk:Sh × List Nat}{key:PV}{kv:Value}(K:KeyAt P M kt kk key kv){d:TypeDesc}:∀{es:List ME} {ces:List MapEntry} {off:Nat} {r:Option Nat} {q:Option (Nat×Value)},oG M es ces->QC key es=some r ->
 Instr.findNow d kv ces off=some q->q=JF ces off r
 | [],[],off,r,q,_,h,hq=>by
  simp [QC]at h;subst h;simp [Instr.findNow]at hq;subst hq;rfl
 | [],_::_,off,r,q,hr,_,_=>by simp [oG]at hr
 | _::_,[],off,r,q,hr,_,_=>by simp [oG]at hr
 | e::es,ce::ces,off,r,q,hr,h,hq=>by
  obtain⟨k1,k2⟩:=hr.2 0 e ce rfl rfl;have hr':oG M es ces:=⟨by have:=hr.1;simpa using this,λi e' ce' h1 h2=>hr.2 (i+1) e' ce' (by simpa using h1) (by simpa using h2)⟩
  simp only[QC]at h;simp only[Instr.findNow]at hq;split at hq
  ·rename_i hs
   injection hq with hq
   subst hq;split at h
   ·injection h with h
    subst h;simp [JF]
   ·rename_i he
    have:=zdY K.rel k1 he hs;cases this
   ·cases h
  ·rename_i hs
   split at h
   ·rename_i he
    have:=zdY K.rel k1 he hs;cases this
   ·simp only[Option.map_eq_some_iff]at h
    obtain⟨r',h1,rfl⟩:=h;rw[K.now (off:=off+1) hr' h1 hq,zby]
   ·cases h
  ·cases hq
theorem KeyAt.ud {kt:TypeId}{kk:Sh × List Nat}{key:PV}{kv:Value}(K:KeyAt P M kt kk key kv):∃d,P.underlying kt=some d:=by
 have ct:=K.ct
 unfold LH at ct;simp only[Bool.and_eq_true,beq_iff_eq]at ct;cases hu:P.underlying kt with
 | some d=>exact⟨d,rfl⟩
 | none=>have:=ct.1.1;simp [DB,hu]at this
theorem KeyAt.find {kt:TypeId}{kk:Sh × List Nat}{key:PV}{kv:Value}(K:KeyAt P M kt kk key kv){es:List ME}{ces:List MapEntry}{r:Option Nat}(hr:oG M es ces)(h:QC key es=some r) :
 (Instr.findKey kt kv ces).run P w = .ok (JF ces 0 r) w:=by
 obtain⟨d,hd⟩:=K.ud;unfold Instr.findKey;rw[Sem.run_bind,YA hd];simp only[Result.andThen_ok];split
 ·rename_i q hq
  rw[K.now hr h hq];rfl
 ·exact K.asking hr h
def CkAt (P:Program)(w:World)(M:Mem)(em:Bool)(d:Nat)(t:TypeId):Prop:=∀(m:Nat) (ks rest:List Nat) (sh:Sh) (xs:List Value) (off:Nat) (asv:List PV),rE P d t ks=some rest->DB P t=some sh->ks=asv.map PV.kind++rest->asv.length=kA sh ->
 Cs M asv xs off->(Instr.checkKey em (m+d) t (UD sh λj=>(xs[off+j]?).getD undef)).run P w = .ok () w
theorem z9V {em:Bool}{d:Nat}(IH:∀ t,CkAt P w M em d t){m:Nat}{xs:List Value}:∀{fs:List Field} {i:Nat} {ks rest:List Nat} {asv:List PV},cH P (rE P d) i fs ks=some rest->ks=asv.map PV.kind++rest ->
 Cs M asv xs i->(forIn (m:=Sem) fs PUnit.unit (λf _=>
  if f.name ≠ "_" then(do
   let v <-part f.type xs.toArray f.offset
   Instr.checkKey em (m+d) f.type v
   pure (.yield PUnit.unit)) else pure (.yield PUnit.unit))).run P w = .ok PUnit.unit w
 | [],i,ks,rest,asv,h,hk,hA=>rfl
 | fl::fs,i,ks,rest,asv,h,hk,hA=>by
  simp only[cH]at h;split at h
  ·rename_i hfl
   split at h
   ·rename_i sh hsh
    split at h
    ·rename_i ks' hk'
     split at h
     ·rename_i hlen
      obtain⟨pre,h1⟩:=kS _ _ _ _ hk';obtain⟨pre2,h2⟩:=OV (kS d) h;have hpre:pre.length=kA sh:=by rw[h1]at hlen;simp at hlen;omega
      have hkk:asv.map PV.kind=pre++pre2:=by
       rw[h1,h2,<-List.append_assoc]at hk;exact(List.append_cancel_right hk).symm
      have hla:asv.length=pre.length+pre2.length:=by have:=congrArg List.length hkk;simpa using this
      obtain⟨a1,a2,rfl,ha1⟩:∃a1 a2,asv=a1++a2/\a1.length=pre.length:=⟨asv.take pre.length,asv.drop pre.length,by simp,by simp;omega⟩
      rw[List.map_append]at hkk;obtain⟨m1,m2⟩:=List.append_inj hkk (by simpa using ha1)
      have cA1:Cs M a1 xs i:=⟨by have:=hA.1;simp at this;omega,λj a v hj hv=>hA.2 j a v (bI hj) hv⟩
      have cA2:Cs M a2 xs (i+kA sh):=⟨by have:=hA.1;simp at this;omega,λj a v hj hv=>hA.2 (a1.length+j) a v (by rw[List.getElem?_append_right (by omega)];simpa using hj) (by rw[<-hv];congr 1;omega)⟩
      have p1:=LO (P:=P) (w:=w) (t:=fl.type) hsh (vs:=xs) (off:=i) (by have:=cA1.1;omega)
      have hh:=IH fl.type m ks ks' sh xs i a1 hk' hsh (by rw[h1,m1]) (by omega) cA1
      have ih:=z9V IH (m:=m) h (by rw[h2,m2]) cA2
      simp only[List.forIn_cons,Sem.run_bind,hfl.1,ne_eq,not_false_eq_true,if_true,hfl.2,Result.andThen_ok,p1,hh,Sem.run_pure];exact ih
     ·cases h
    ·cases h
   ·cases h
  ·cases h
theorem z9U {em:Bool}:∀(d:Nat) (t:TypeId),CkAt P w M em d t
 | 0,t=>λm ks rest sh xs off asv h=>by simp [rE]at h
 | d+1,t=>λm ks rest sh xs off asv h hsh hk hla hA=>by
  simp only[rE]at h;split at h
  ·rename_i fs hu
   split at h
   ·cases h
   ·have hsn:∃n,sh=some n:=by
     unfold DB at hsh;rw[hu]at hsh;cases hi:P.info? t with
     | none=>rw[hi]at hsh;simp at hsh
     | some i=>rw[hi]at hsh;simp at hsh;exact⟨_,hsh.symm⟩
    obtain⟨n,rfl⟩:=hsn;show(Instr.checkKey em (m+d+1) t (.agg _)).run P w=_
    simp only[Instr.checkKey,Sem.run_bind,YA hu,Result.andThen_ok];rw[<-Array.forIn_toList];simp only[kA]at hla;have:=z9V (em:=em) (m:=m) (xs:=(List.range n).map λj=>(xs[off+j]?).getD undef) (z9U d) h hk ⟨by simp;omega,λj a v hj hv=>by
     have hjn:j<n:=by rw[<-hla];exact MA hj
     have hlt:off+j<xs.length:=by have:=hA.1;omega
     simp [hjn,hlt]at hv;exact hA.2 j a v hj (by rw[<-hv];simp [hlt])⟩
    rw[this];rfl
  ·split at h
   ·rename_i k r' hnot
    split at h
    ·rename_i hkk
     have hsn:sh=none:=by
      obtain⟨h1,h2⟩:=hkk;unfold DB at hsh;unfold kG at h1;split at h1
      ·rename_i hu;rw[hu]at hsh;split at hsh <;> simp_all
      ·rename_i hu;rw[hu]at hsh;split at hsh <;> simp_all
      ·rename_i hu;rw[hu]at hsh;split at hsh <;> simp_all
      ·omega
     subst hsn;obtain⟨h1,h2⟩:=hkk;show(Instr.checkKey em (m+d+1) t _).run P w=_
     unfold kG at h1;split at h1
     ·rename_i hu;simp [Instr.checkKey,YA hu]
     ·rename_i hu;simp [Instr.checkKey,YA hu]
     ·rename_i hu;simp [Instr.checkKey,YA hu]
     ·omega
    ·cases h
   ·cases h
theorem KeyAt.check {kt:TypeId}{kk:Sh × List Nat}{key:PV}{kv:Value}(K:KeyAt P M kt kk key kv)(em:Bool):(Instr.checkKey em 10000 kt kv).run P w = .ok () w:=by
 obtain⟨ct,hkey,hshp,hkinds,R⟩:=K;unfold LH at ct;simp only[Bool.and_eq_true,beq_iff_eq]at ct;obtain⟨⟨c1,c2⟩,c3⟩:=ct;obtain⟨xs,e1,C1,L1⟩:=z8e hshp R;have:=z9U (P:=P) (w:=w) (M:=M) (em:=em) 20 kt 9980 kk.2 [] kk.1 xs 0 key.cells c2 c1 (by rw[hkinds];simp) L1 C1
 rw[e1]at this;exact this
theorem zt0 {a:PV}{x:Value}(hk:a.key=true)(R:RPV M a x):∀n,2<=n->Instr.sameBits n x x=true:=by
 intro n hn;obtain⟨m,rfl⟩:∃m,n=m+2:=⟨n-2,by omega⟩
 cases a with
 | int k n=>cases R;simp [Instr.sameBits]
 | bool b=>cases R;simp [Instr.sameBits]
 | str s=>cases R;simp [Instr.sameBits,MapKept.bytes_beq]
 | sl sh xs=>simp [PV.key]at hk
 | nilp=>simp [PV.key]at hk
 | unk=>simp [PV.key]at hk
 | agg cs=>
  cases R with|agg _ vs hl hr=>
  simp only[Instr.sameBits,beq_self_eq_true,Bool.true_and,List.all_eq_true];intro p hp;obtain⟨i,hi,e⟩:=List.getElem_of_mem hp;simp only[List.length_zip,Nat.min_self]at hi;have hi':i<vs.length:=by simpa using hi
  rw[List.getElem_zip]at e;rw[<-e];have q1:=hr i cs[i] vs[i] (List.getElem?_eq_getElem (by omega)) (List.getElem?_eq_getElem hi')
  simp only[PV.key]at hk;have:=List.all_eq_true.1 hk _ (List.getElem_mem (show i<cs.length by omega))
  generalize cs[i]=c at *;dsimp only;generalize vs[i]=v at *;cases c <;> simp at this
  ·cases q1;simp [Instr.sameBits]
  ·cases q1;simp [Instr.sameBits]
  ·cases q1;simp [Instr.sameBits,MapKept.bytes_beq]
theorem KeyAt.stays {kt:TypeId}{kk:Sh × List Nat}{key:PV}{kv:Value}(K:KeyAt P M kt kk key kv):(Instr.keyThatStays kv kv).run P w = .ok kv w:=by
 simp [Instr.keyThatStays,zt0 K.ok K.rel 10000 (by omega)]
theorem gW {key:PV}:∀{es:List ME} {i:Nat},QC key es=some (some i)->∃e,es[i]?=some e/\e.key=key
 | [],i,h=>by simp [QC]at h
 | e::es,i,h=>by
  simp only[QC]at h;split at h
  ·rename_i hq
   injection h with h
   injection h with h
   subst h;exact⟨e,rfl,((zaL hq).2.1 rfl).symm⟩
  ·simp only[Option.map_eq_some_iff]at h
   obtain⟨r,h1,h2⟩:=h;cases r with
   | none=>simp at h2
   | some j=>
    simp at h2;subst h2;obtain⟨e',h3,h4⟩:=gW h1;exact⟨e',by simpa using h3,h4⟩
  ·cases h
theorem QM {v:AV}{id c:Nat}{es:List ME}(hm:mC h v=some (id,es,c)):v = .mp id/\h[id]?=some (.amap es c):=by
 unfold mC at hm;split at hm
 ·split at hm
  ·rename_i ho
   simp only[Option.some.injEq,Prod.mk.injEq]at hm;obtain⟨rfl,rfl,rfl⟩:=hm;exact⟨rfl,ho⟩
  ·cases hm
 ·cases hm
structure MapAt (h:aA) (μ:Mu) (w:World) (id:Nat) (es:List ME) (c:Nat) (b:Nat) (n:Nat) (ces:Array MapEntry):Prop where
 ho:h[id]?=some (.amap es c)
 hm:μ[id]?=some (some (b,n))
 hb:w.heap[b]?=some (.map ces c)
 sz:ces.size=es.length
 bd:∀e∈es,e.born<c
 rel:∀(i:Nat) (e:ME) (ce:MapEntry),es[i]?=some e->ces[i]?=some ce->RPV (imm h μ w) e.key ce.key/\e.key.key=true/\RAV (imm h μ w) h μ e.val ce.val/\ce.born=e.born
theorem dW {v:AV}{id c:Nat}{es:List ME}{x:Value}(H:HeapRel h μ w)(R:RAV (imm h μ w) h μ v x)(hm:mC h v=some (id,es,c)):∃b n ces,x = .map (some b)/\MapAt h μ w id es c b n ces:=by
 obtain⟨rfl,ho⟩:=QM hm;cases R with|mp _ b n es' c' ho' hmu=>
 obtain⟨b',n',ces,hb',k1,k2,k4,k3⟩:=H.obj _ _ _ ho hmu;injection hb' with hb';injection hb' with hb1 hb2
 subst hb1;exact⟨_,_,ces,rfl,ho,hmu,k1,k2,k4,k3⟩
theorem MapAt.esrel {id c b n:Nat}{es:List ME}{ces:Array MapEntry}(A:MapAt h μ w id es c b n ces):oG (imm h μ w) es ces.toList:=
 ⟨by simp [A.sz],λi e ce h1 h2=>by obtain⟨q1,q2,_⟩:=A.rel i e ce h1 (by simpa using h2);exact⟨q1,q2⟩⟩
theorem MapAt.put {id c b n:Nat}{es:List ME}{ces:Array MapEntry}(A:MapAt h μ w id es c b n ces)(H:HeapRel h μ w){es':List ME}{c':Nat}{ces':Array MapEntry}(hsz:ces'.size=es'.length)(hbd:∀ e∈es',e.born<c')
 (hrel:∀(i:Nat) (e:ME) (ce:MapEntry),es'[i]?=some e->ces'[i]?=some ce->RPV (imm h μ w) e.key ce.key/\e.key.key=true/\RAV (imm h μ w) h μ e.val ce.val/\ce.born=e.born) :
 HeapRel (h.set id (.amap es' c')) μ (OB w b (.map ces' c'))/\Evo (imm h μ w) h μ (imm (h.set id (.amap es' c')) μ (OB w b (.map ces' c'))) (h.set id (.amap es' c')) μ:=by
 have hμ:μ.set id (some (b,n))=μ:=by
  apply List.ext_getElem?
  intro j;rw[List.getElem?_set];split
  ·rename_i hj;subst hj;rw[if_pos (MA A.hm),A.hm]
  ·rfl
 have:=H.set (w':=OB w b (.map ces' c')) (id:=id) (o:=.amap es c) (o':=.amap es' c') (m:=some (b,n)) (m':=some (b,n)) A.ho A.hm ⟨⟨_,_,rfl⟩,rfl⟩ rfl (by rw[ZO];exact Nat.le_refl _)
  (λb' _ hne=>YO (λe=>hne n (by rw[e]))) (λb' n' e=>.inl ⟨n',e⟩) (λb' n' sh xs fz _ e=>by cases e)
  (λM' E=>⟨b,n,ces',rfl,UG A.hb,hsz,hbd,λi e ce h1 h2=>by
   obtain⟨q1,q2,q3,q4⟩:=hrel i e ce h1 h2;exact⟨q1.mono E.le,q2,q3.evo E,q4⟩⟩)
  (λb' n' t e ht=>by
   injection e with e
   injection e with e1 _
   subst e1;unfold ety at ht;rw[A.hb]at ht;cases ht)
 rw[hμ]at this;exact this
theorem pJ {b c:Nat}{ces:Array MapEntry}(hb:w.heap[b]?=some (.map ces c)):(getObj b).run P w = .ok (.map ces c) w:=MapKept.run_getObj_map hb
theorem TY {b c:Nat}{ces:Array MapEntry}(o:Go.Obj)(hb:w.heap[b]?=some (.map ces c)):(setObj b o).run P w = .ok () (OB w b o):=MapKept.run_setObj_map o hb
def KJ (P:Program)(kk:Sh × List Nat)(t:TypeId):Bool:=match P.underlying t with
 | some (.map k _)=>LH P k kk
 | _=>false
def yT (P:Program)(kk:Sh × List Nat)(z:AV)(t:TypeId):Bool:=match P.underlying t with
 | some (.map k e)=>LH P k kk&&(match P.info? e with|some i=>(match i.zero with|some v=>MJ z v|none=>false)|none=>false)
 | _=>false
theorem z9O {kk:Sh × List Nat}{t:TypeId}(hc:KJ P kk t=true):∃k e,P.underlying t=some (.map k e)/\LH P k kk=true:=by
 unfold KJ at hc;split at hc
 ·rename_i k e hu;exact⟨k,e,hu,hc⟩
 ·cases hc
theorem zix {kk:Sh × List Nat}{z:AV}{t:TypeId}(hc:yT P kk z t=true):∃k e v,P.underlying t=some (.map k e)/\LH P k kk=true/\MJ z v=true/\∀w,(zeroValue e).run P w = .ok v w:=by
 unfold yT at hc;split at hc
 ·rename_i k e hu
  simp only[Bool.and_eq_true]at hc;obtain⟨c1,c2⟩:=hc;split at c2
  ·rename_i i hi
   split at c2
   ·rename_i v hv
    refine⟨k,e,v,hu,c1,c2,λw=>?_⟩
    unfold zeroValue;rw[Sem.run_bind,qJ hi];simp [hv]
   ·cases c2
  ·cases c2
 ·cases hc
theorem z5t {kk:Sh × List Nat}{kt:TypeId}(hc:LH P kt kk=true){v:AV}{key:PV}{x:Value}(hk:cD kk v=some key)(R:RAV (imm h μ w) h μ v x):KeyAt P (imm h μ w) kt kk key x:=by
 obtain⟨rfl,k1,k2,k3⟩:=zps hk;exact⟨hc,k1,k2,k3,R.p_inv⟩
theorem z4X {ces:List MapEntry}{i:Nat}{ce:MapEntry}(hc:ces[i]?=some ce):JF ces 0 (some i)=some (i,ce.val):=by simp [JF,hc]
theorem zuI {es:List ME}{i:Nat}{v:AV}:AV.tops ((es.modify i λe=>{ e with val:=v }).map ME.val)<=max (AV.tops (es.map ME.val)) v.top:=by
 refine sJ (λj y hy=>?_)
 rw[List.getElem?_map,List.getElem?_modify]at hy;simp only[Option.map_eq_map,Option.map_eq_some_iff]at hy;obtain⟨e,he,rfl⟩:=hy;obtain⟨e0,he0,rfl⟩:=he;have h0:(es.map ME.val)[j]?=some e0.val:=by simp [he0]
 have:=eJ h0;split
 ·show v.top<=_;omega
 ·show e0.val.top<=_;omega
theorem zuK {es:List ME}{e:ME}:AV.tops ((es++[e]).map ME.val)<=max (AV.tops (es.map ME.val)) e.val.top:=by
 rw[List.map_append,jS];simp [AV.tops]
theorem zuH {es:List ME}{i:Nat}:AV.tops ((es.eraseIdx i).map ME.val)<=AV.tops (es.map ME.val):=by
 refine sJ (λj y hy=>?_)
 have hm:y∈(es.eraseIdx i).map ME.val:=by
  obtain⟨hj,e⟩:=List.getElem?_eq_some_iff.1 hy;rw[<-e];exact List.getElem_mem _
 obtain⟨e,he,rfl⟩:=List.mem_map.1 hm;have he':=(List.eraseIdx_sublist es i).subset he
 obtain⟨k,hk,ek⟩:=List.getElem_of_mem he';have:(es.map ME.val)[k]?=some e.val:=by simp [hk,ek]
 exact eJ this
theorem zqQ {kk:Sh × List Nat}{ok:Bool}{z:AV}{t:TypeId}(hc:yT P kk z t=true){ev:Opd->AV}{p q:Opd}{x y:Value}{v:AV}{h1:aA}{e:Esc}(H:HeapRel h μ w)(Rp:RAV (imm h μ w) h μ (ev p) x)(Rq:RAV (imm h μ w) h μ (ev q) y)
 (he:aop (.look kk ok z p q) ev h=some (v,h1,e)):qA P (do pure (.value (<-Instr.lookup t x y ok))) h μ w v h1 e:=by
 obtain⟨kt,et,zv,hu,hkt,hz,hzr⟩:=zix hc;have Rz:RAV (imm h μ w) h μ z zv:=HT hz
 simp only[aop]at he;split at he
 ·rename_i key hk
  have K:=z5t hkt hk Rq
  have fin:∀{es:List ME} {ces:Array MapEntry} {r:Option Nat},oG (imm h μ w) es ces.toList->(∀(i:Nat) (e:ME) (ce:MapEntry),es[i]?=some e->ces[i]?=some ce->RAV (imm h μ w) h μ e.val ce.val) ->
   QC key es=some r->(Instr.lookup t x y ok).run P w=(do
    Instr.checkKey ces.isEmpty 10000 kt y
    let q <-Instr.findKey kt y ces.toList
    match q with
    | some (_,v)=>do
     let z <-pure (v,true)
     pure (if ok=true then .tuple #[z.1,.bool z.2] else z.1)
    | none=>do
     let u <-zeroValue et
     let z <-pure (u,false)
     pure (if ok=true then .tuple #[z.1,.bool z.2] else z.1):Sem Value).run P w ->
   some ((bif ok then AV.tup [((r.bind (es[·]?)).map ME.val).getD z,pbool ((r.bind (es[·]?)).map ME.val).isSome] else((r.bind (es[·]?)).map ME.val).getD z),h,([]:Esc))=some (v,h1,e) ->
   qA P (do pure (.value (<-Instr.lookup t x y ok))) h μ w v h1 e:=by
   intro es ces r hr hv hf hg hres;simp only[Option.some.injEq,Prod.mk.injEq]at hres;obtain⟨rfl,rfl,rfl⟩:=hres;have hfind:=K.find (w:=w) hr hf
   have hck:=K.check (w:=w) ces.isEmpty
   rw[Sem.run_bind,hck]at hg;simp only[Result.andThen_ok]at hg;rw[Sem.run_bind,hfind]at hg;simp only[Result.andThen_ok]at hg;have done:∀(u:Value) (b:Bool),RAV (imm h μ w) h μ (((r.bind (es[·]?)).map ME.val).getD z) u->b=((r.bind (es[·]?)).map ME.val).isSome ->
    (Instr.lookup t x y ok).run P w = .ok (if ok=true then .tuple #[u,.bool b] else u) w->qA P (do pure (.value (<-Instr.lookup t x y ok))) h μ w (bif ok then AV.tup [((r.bind (es[·]?)).map ME.val).getD z,pbool ((r.bind (es[·]?)).map ME.val).isSome] else((r.bind (es[·]?)).map ME.val).getD z) h []:=by
    intro u b Ru hb hrun;refine qA.pure H (QA hrun) ?_;cases ok with
    | false=>simpa using Ru
    | true=>
     simp only[cond_true,if_true];refine .tup _ [u,.bool b] rfl (λj a c h1 h2=>?_)
     match j with
     | 0=>cases h1;cases h2;exact Ru
     | 1=>cases h1;cases h2;rw[hb];exact RAV.pbool _
     | j+2=>simp at h1
   cases r with
   | none=>exact done zv false Rz rfl (by rw[hg];simp [JF,hzr])
   | some i=>
    obtain⟨e0,he0,_⟩:=gW hf;have hi:i<ces.size:=by have:=MA he0;have:=hr.1;simp at this;omega
    have hce:ces[i]?=some ces[i]:=Array.getElem?_eq_getElem hi
    refine done ces[i].val true ?_ (by simp [he0]) (by rw[hg,z4X (ce:=ces[i]) (by simpa using hce)];simp)
    simp only[Option.bind_some,he0,Option.map_some,Option.getD_some];exact hv i e0 _ he0 hce
  split at he
  ·rename_i es hes
   split at he
   ·rename_i r hf
    split at hes
    ·rename_i hp
     injection hes with hes
     subst hes;rw[hp]at Rp;cases Rp;exact fin (ces:=#[]) ⟨rfl,λi e ce h1=>by simp at h1⟩ (λi e ce h1=>by simp at h1) hf (by
      unfold Instr.lookup;rw[Sem.run_bind,YA hu];rfl) he
    ·simp only[Option.map_eq_some_iff]at hes
     obtain⟨⟨id,es',c⟩,hm,rfl⟩:=hes;obtain⟨b,n,ces,rfl,A⟩:=dW H Rp hm;refine fin (ces:=ces) A.esrel (λi e ce h1 h2=>(A.rel i e ce h1 h2).2.2.1) hf ?_ he
     unfold Instr.lookup;rw[Sem.run_bind,YA hu];simp only[Result.andThen_ok];rw[Sem.run_bind,pJ A.hb];rfl
   ·cases he
  ·cases he
 ·cases he
theorem zoQ {ces:Array MapEntry}{i:Nat}{ce:MapEntry}(hc:ces[i]?=some ce)(d:Value):((ces[i]?).map (·.key)).getD d=ce.key:=by simp [hc]
theorem zrX {M:Mem}{es:List ME}{ces:Array MapEntry}{i:Nat}{kv:Value}{key:PV}{v:AV}{x:Value}(hk:∀ e,es[i]?=some e->e.key=key)(Rk:RPV M key kv)(Rv:RAV M h μ v x)
 (hrel:∀(i:Nat) (e:ME) (ce:MapEntry),es[i]?=some e->ces[i]?=some ce->RPV M e.key ce.key/\e.key.key=true/\RAV M h μ e.val ce.val/\ce.born=e.born) :
 ∀(j:Nat) (e:ME) (ce:MapEntry),(es.modify i λe=>{ e with val:=v })[j]?=some e->(ces.modify i λe=>{ e with key:=kv,val:=x })[j]?=some ce->RPV M e.key ce.key/\e.key.key=true/\RAV M h μ e.val ce.val/\ce.born=e.born:=by
 intro j e ce h1 h2;rw[List.getElem?_modify]at h1;simp only[Option.map_eq_map,Option.map_eq_some_iff]at h1;simp only[Array.getElem?_modify]at h2;obtain⟨e0,he0,rfl⟩:=h1;by_cases hij:i=j
 ·subst hij
  simp only[if_true,Option.map_eq_some_iff]at h2 ⊢;obtain⟨c0,hc0,rfl⟩:=h2;obtain⟨q1,q2,q3,q4⟩:=hrel i e0 c0 he0 hc0;exact⟨by rw[hk e0 he0];exact Rk,q2,Rv,q4⟩
 ·rw[if_neg hij]at h2
  rw[if_neg hij];exact hrel j e0 ce he0 h2
theorem zrY {M:Mem}{es:List ME}{ces:Array MapEntry}{e1:ME}{c1:MapEntry}(hsz:ces.size=es.length)(h1:RPV M e1.key c1.key/\e1.key.key=true/\RAV M h μ e1.val c1.val/\c1.born=e1.born)
 (hrel:∀(i:Nat) (e:ME) (ce:MapEntry),es[i]?=some e->ces[i]?=some ce->RPV M e.key ce.key/\e.key.key=true/\RAV M h μ e.val ce.val/\ce.born=e.born) :
 ∀(j:Nat) (e:ME) (ce:MapEntry),(es++[e1])[j]?=some e->(ces.push c1)[j]?=some ce->RPV M e.key ce.key/\e.key.key=true/\RAV M h μ e.val ce.val/\ce.born=e.born:=by
 intro j e ce ha hb;rcases pH ha with ha|⟨rfl,rfl⟩
 ·have hj:=MA ha
  rw[Array.getElem?_push,if_neg (by omega)]at hb
  exact hrel j e ce ha hb
 ·rw[Array.getElem?_push,if_pos (by omega)]at hb
  injection hb with hb
  subst hb;exact h1
theorem zcC {kk:Sh × List Nat}{t:TypeId}(hc:KJ P kk t=true){ev:Opd->AV}{m k u:Opd}{x y z:Value}{v:AV}{h1:aA}{e:Esc}(H:HeapRel h μ w)(Rm:RAV (imm h μ w) h μ (ev m) x)(Rk:RAV (imm h μ w) h μ (ev k) y)(Ru:RAV (imm h μ w) h μ (ev u) z)
 (he:aop (.mupd kk m k u) ev h=some (v,h1,e)):qA P (do Instr.mapUpdate t x y z;pure .skip) h μ w v h1 e:=by
 obtain⟨kt,et,hu,hkt⟩:=z9O hc;simp only[aop]at he;split at he
 ·rename_i key id es c hk hm hok
  have K:=z5t hkt hk Rk
  obtain⟨b,n,ces,rfl,A⟩:=dW H Rm hm;have hck:=K.check (w:=w) false
  split at he
  ·rename_i i hf
   simp only[Option.some.injEq,Prod.mk.injEq]at he;obtain⟨rfl,rfl,rfl⟩:=he;obtain⟨e0,he0,hek⟩:=gW hf;have hi:i<ces.size:=by have:=MA he0;have:=A.sz;omega
   have hce:ces[i]?=some ces[i]:=Array.getElem?_eq_getElem hi
   obtain⟨q1,q2,q3,q4⟩:=A.rel i e0 _ he0 hce;have hkv:ces[i].key=y:=zsr (by rw[hek];exact K.ok) q1 (by rw[hek];exact K.rel)
   have hfind:=K.find (w:=w) A.esrel hf
   rw[z4X (ce:=ces[i]) (by simpa using hce)]at hfind
   have hrun:(Instr.mapUpdate t (.map (some b)) y z).run P w = .ok () (OB w b (.map (ces.modify i λe=>{ e with key:=y,val:=z }) c)):=by
    unfold Instr.mapUpdate;rw[Sem.run_bind,YA hu];simp only[Result.andThen_ok];rw[Sem.run_bind,pJ A.hb];simp only[Result.andThen_ok];rw[Sem.run_bind,hck];simp only[Result.andThen_ok];rw[Sem.run_bind,hfind];simp only[Result.andThen_ok];rw[Sem.run_bind,zoQ hce,hkv,K.stays];simp only[Result.andThen_ok];exact TY _ A.hb
   obtain⟨n1,n2⟩:=A.put H (es':=es.modify i λe=>{ e with val:=ev u }) (c':=c) (ces':=ces.modify i λe=>{ e with key:=y,val:=z }) (by simp [A.sz])
    (λe he=>by
     obtain⟨j,hj,ej⟩:=List.getElem_of_mem he;have:(es.modify i λe=>{ e with val:=ev u })[j]?=some e:=by rw[List.getElem?_eq_getElem hj,ej]
     rw[List.getElem?_modify]at this;simp only[Option.map_eq_map,Option.map_eq_some_iff]at this;obtain⟨e',he',rfl⟩:=this;have:=A.bd e' (by obtain⟨q,e⟩:=List.getElem?_eq_some_iff.1 he';rw[<-e];exact List.getElem_mem _)
     split <;> exact this)
    (zrX (λe he=>by rw[he0]at he;injection he with he;rw[<-he];exact hek) K.rel Ru A.rel)
   exact⟨_,_,_,z7W hrun,.inr ⟨rfl,rfl⟩,n1,n2,vA.set A.ho (by
    have:=zuI (es:=es) (i:=i) (v:=ev u);have:=DV id (ev u);simp only[Obj.top];omega)⟩
  ·rename_i hf
   simp only[Option.some.injEq,Prod.mk.injEq]at he;obtain⟨rfl,rfl,rfl⟩:=he;have hfind:=K.find (w:=w) A.esrel hf
   have hrun:(Instr.mapUpdate t (.map (some b)) y z).run P w = .ok () (OB w b (.map (ces.push { key:=y,val:=z,born:=c }) (c+1))):=by
    unfold Instr.mapUpdate;rw[Sem.run_bind,YA hu];simp only[Result.andThen_ok];rw[Sem.run_bind,pJ A.hb];simp only[Result.andThen_ok];rw[Sem.run_bind,hck];simp only[Result.andThen_ok];rw[Sem.run_bind,hfind];simp only[JF,Option.bind_none,Result.andThen_ok];exact TY _ A.hb
   obtain⟨n1,n2⟩:=A.put H (es':=es++[⟨key,ev u,c⟩]) (c':=c+1) (ces':=ces.push { key:=y,val:=z,born:=c }) (by simp [A.sz])
    (λe he=>by
     rw[List.mem_append,List.mem_singleton]at he;rcases he with he|rfl
     ·have:=A.bd e he;omega
     ·exact Nat.lt_succ_self _)
    (zrY A.sz ⟨K.rel,K.ok,Ru,rfl⟩ A.rel)
   exact⟨_,_,_,z7W hrun,.inr ⟨rfl,rfl⟩,n1,n2,vA.set A.ho (by
    have:=zuK (es:=es) (e:=⟨key,ev u,c⟩);have:=DV id (ev u);simp only[Obj.top];dsimp only at *;omega)⟩
  ·cases he
 ·cases he
theorem zrb {kk:Sh × List Nat}{t ty:TypeId}{ts:List TypeId}(hc:KJ P kk t=true){ev:Opd->AV}{m k:Opd}{x y:Value}{v:AV}{h1:aA}{e:Esc}(H:HeapRel h μ w)(Rm:RAV (imm h μ w) h μ (ev m) x)(Rk:RAV (imm h μ w) h μ (ev k) y)
 (he:aop (.mdel kk m k) ev h=some (v,h1,e)):qA P (do pure (.value (<-Builtin.delete_ (t::ts).toArray ty #[x,y]))) h μ w v h1 e:=by
 obtain⟨kt,et,hu,hkt⟩:=z9O hc;simp only[aop]at he;split at he
 ·rename_i key id es c hk hm
  have K:=z5t hkt hk Rk
  obtain⟨b,n,ces,rfl,A⟩:=dW H Rm hm;have hck:=K.check (w:=w) ces.isEmpty
  split at he
  ·rename_i i hf
   simp only[Option.some.injEq,Prod.mk.injEq]at he;obtain⟨rfl,rfl,rfl⟩:=he;obtain⟨e0,he0,hek⟩:=gW hf;have hi:i<ces.size:=by have:=MA he0;have:=A.sz;omega
   have hce:ces[i]?=some ces[i]:=Array.getElem?_eq_getElem hi
   have hfind:=K.find (w:=w) A.esrel hf
   rw[z4X (ce:=ces[i]) (by simpa using hce)]at hfind
   have hrun:(Builtin.delete_ (t::ts).toArray ty #[.map (some b),y]).run P w = .ok (.tuple #[]) (OB w b (.map (ces.eraseIdxIfInBounds i) c)):=by
    unfold Builtin.delete_;simp only[List.getElem?_toArray,List.getElem?_cons_zero,List.getElem?_cons_succ];rw[Sem.run_bind,YA hu];simp only[Result.andThen_ok];simp only[Sem.run_bind];simp [pJ A.hb,hck,hfind,TY _ A.hb]
   have herase:∀j:Nat,(ces.eraseIdxIfInBounds i)[j]?=(ces.toList.eraseIdx i)[j]?:=by
    intro j;unfold Array.eraseIdxIfInBounds;rw[dif_pos hi,<-Array.getElem?_toList,Array.toList_eraseIdx]
   obtain⟨n1,n2⟩:=A.put H (es':=es.eraseIdx i) (c':=c) (ces':=ces.eraseIdxIfInBounds i)
    (by unfold Array.eraseIdxIfInBounds;rw[dif_pos hi,Array.size_eraseIdx,List.length_eraseIdx_of_lt (MA he0),A.sz])
    (λe he=>A.bd e ((List.eraseIdx_sublist _ _).subset he))
    (λj e ce h1 h2=>by
     rw[herase,List.getElem?_eraseIdx]at h2;rw[List.getElem?_eraseIdx]at h1;split at h1
     ·rename_i hj;rw[if_pos hj]at h2;exact A.rel j e ce h1 (by simpa using h2)
     ·rename_i hj;rw[if_neg hj]at h2;exact A.rel (j+1) e ce h1 (by simpa using h2))
   exact⟨_,_,_,QA hrun,.inl ⟨_,rfl,.und _⟩,n1,n2,vA.set A.ho (by
    have:=zuH (es:=es) (i:=i);simp only[Obj.top,pD];omega)⟩
  ·rename_i hf
   simp only[Option.some.injEq,Prod.mk.injEq]at he;obtain⟨rfl,rfl,rfl⟩:=he;have hfind:=K.find (w:=w) A.esrel hf
   have hrun:(Builtin.delete_ (t::ts).toArray ty #[.map (some b),y]).run P w = .ok (.tuple #[]) w:=by
    unfold Builtin.delete_;simp only[List.getElem?_toArray,List.getElem?_cons_zero,List.getElem?_cons_succ];rw[Sem.run_bind,YA hu];simp only[Result.andThen_ok];simp only[Sem.run_bind];simp [pJ A.hb,hck,hfind,JF,TY _ A.hb,zef A.hb]
   exact qA.pure H (QA hrun) (.und _)
  ·cases he
 ·cases he
end
section
variable {h h':aA} {μ μ':Mu} {w w':World} {P:Program} {M M':Mem}
def z1y (P:Program)(t:TypeId):Bool:=match P.underlying t with
 | some (.map _ _)=>true
 | _=>false
theorem z7T {b s l:Nat}{m:Option Nat}{seen:Array Nat}(hb:w.heap[b]?=some (.mapIter m s seen l)):(getObj b).run P w = .ok (.mapIter m s seen l) w:=by
 simp [getObj,Sem.run,hb]
theorem zsv {b s l:Nat}{m:Option Nat}{seen:Array Nat}(o':Go.Obj)(hb:w.heap[b]?=some (.mapIter m s seen l)):(setObj b o').run P w = .ok () (OB w b o'):=by
 simp [setObj,Sem.run,hb,OB]
theorem zri {t:TypeId}(hc:z1y P t=true){ev:Opd->AV}{p:Opd}{x:Value}{v:AV}{h1:aA}{e:Esc}(H:HeapRel h μ w)(Rp:RAV (imm h μ w) h μ (ev p) x)
 (he:aop (.mrange p) ev h=some (v,h1,e)):qA P (do pure (.value (<-Instr.range t x))) h μ w v h1 e:=by
 have hu:∃a b,P.underlying t=some (.map a b):=by
  unfold z1y at hc;split at hc
  ·rename_i a b hu;exact⟨a,b,hu⟩
  ·cases hc
 obtain⟨ka,kb,hu⟩:=hu;simp only[aop]at he;split at he
 ·rename_i id es c hm
  simp only[Option.some.injEq,Prod.mk.injEq]at he;obtain⟨rfl,rfl,rfl⟩:=he;obtain⟨b,n,ces,rfl,A⟩:=dW H Rp hm;have hrun:(Instr.range t (.map (some b))).run P w = .ok (.pointer (some ⟨w.heap.size,0,none⟩)) { w with heap:=w.heap.push (.mapIter (some b) c #[] c) }:=by
   unfold Instr.range;rw[Sem.run_bind,YA hu];simp only[Result.andThen_ok];rw[Sem.run_bind,pJ A.hb];simp only[Result.andThen_ok];rfl
  obtain⟨n1,n2⟩:=H.push (WExt.push w (.mapIter (some b) c #[] c)) (.iter (some id) c [] c) (some (w.heap.size,0)) (λb n e=>by injection e with e;injection e with e1 e2;subst e1;exact⟨Nat.le_refl _,by simp⟩)
   (λM' E=>⟨w.heap.size,0,rfl,⟨b,n,es,c,bI A.hm,bI A.ho,by simp⟩⟩)
  exact⟨_,_,_,QA hrun,.inl ⟨_,rfl,.it h.length w.heap.size 0 (some id) c [] c (by simp) (by rw[<-H.len];simp)⟩,n1,n2,vA.push (by
   have:=MA A.ho;simp only[Obj.top];omega)⟩
 ·split at he
  ·rename_i hp
   simp only[Option.some.injEq,Prod.mk.injEq]at he;obtain⟨rfl,rfl,rfl⟩:=he;rw[hp]at Rp;cases Rp;have hrun:(Instr.range t (.map none)).run P w = .ok (.pointer (some ⟨w.heap.size,0,none⟩)) { w with heap:=w.heap.push (.mapIter none 0 #[] 0) }:=by
    unfold Instr.range;rw[Sem.run_bind,YA hu];simp only[Result.andThen_ok];rfl
   obtain⟨n1,n2⟩:=H.push (WExt.push w (.mapIter none 0 #[] 0)) (.iter none 0 [] 0) (some (w.heap.size,0)) (λb n e=>by injection e with e;injection e with e1 e2;subst e1;exact⟨Nat.le_refl _,by simp⟩)
    (λM' E=>⟨w.heap.size,0,rfl,λ_=>by simp⟩)
   exact⟨_,_,_,QA hrun,.inl ⟨_,rfl,.it h.length w.heap.size 0 none 0 [] 0 (by simp) (by rw[<-H.len];simp)⟩,n1,n2,vA.push (by simp [Obj.top])⟩
  ·cases he
theorem z5q {id:Nat}{mm:Option Nat}{since:Nat}{seen:List Nat}{last:Nat}{x:Value}(H:HeapRel h μ w)(R:RAV (imm h μ w) h μ (.it id) x)(hi:h[id]?=some (.iter mm since seen last)) :
 ∃b n,x = .pointer (some ⟨b,0,none⟩)/\μ[id]?=some (some (b,n))/\(match (generalizing:=false) mm with
  | none=>since=0->w.heap[b]?=some (.mapIter none 0 #[] 0)
  | some i=>∃bm nm es c,μ[i]?=some (some (bm,nm))/\h[i]?=some (.amap es c)/\w.heap[b]?=some (.mapIter (some bm) since seen.toArray last)):=by
 cases R with|it _ b n m s sn l ho hm=>
 obtain⟨b',n',hb',k1⟩:=H.obj _ _ _ hi hm;injection hb' with hb';injection hb' with hb1 hb2
 subst hb1;exact⟨_,_,rfl,hm,k1⟩
theorem zrc {ev:Opd->AV}{p:Opd}{x:Value}{v:AV}{h1:aA}{e:Esc}(H:HeapRel h μ w)(Rp:RAV (imm h μ w) h μ (ev p) x)
 (he:aop (.mentry p) ev h=some (v,h1,e)):qA P (do pure (.value (<-Instr.entry x))) h μ w v h1 e:=by
 simp only[aop]at he;split at he
 ·rename_i id hp
  split at he
  ·rename_i mi since seen last hi
   split at he
   ·rename_i mid es c bo hm hl
    rw[hp]at Rp;obtain⟨b,n,rfl,hmu,bm,nm,es',c',k1,k2,k3⟩:=z5q H Rp hi;split at he
    ·rename_i hcl
     simp only[Option.map_eq_some_iff,Prod.mk.injEq]at he;obtain⟨e0,hf,rfl,rfl,rfl⟩:=he;have hm2:h[mi]?=some (.amap es c):=by
      have:=(QM hm).2;have:=(QM hm).1;injection this with this
      subst this;assumption
     have hmi:mid=mi:=by have:=(QM hm).1;injection this with this;exact this.symm
     rw[k2]at hm2;injection hm2 with hm2
     injection hm2 with q1 q2
     subst q1;subst q2
     obtain⟨b3,n3,ces,hb3,w1,w2,w4,w3⟩:=H.obj _ _ _ k2 k1;injection hb3 with hb3;injection hb3 with hb31 hb32
     subst hb31;rw[List.find?_eq_some_iff_getElem]at hf;obtain⟨hb0,i,hi1,hei,hlt⟩:=hf;have hi2:i<ces.size:=by omega
     obtain⟨q1,q2,q3,q4⟩:=w3 i _ _ (List.getElem?_eq_getElem hi1) (Array.getElem?_eq_getElem hi2);have hfind:ces.find? (·.born==bo)=some ces[i]:=by
      rw[Array.find?_eq_some_iff_getElem];refine⟨by rw[q4,hei];exact hb0,i,hi2,rfl,λj hj=>?_⟩
      obtain⟨_,_,_,q5⟩:=w3 j _ _ (List.getElem?_eq_getElem (show j<es'.length by omega)) (Array.getElem?_eq_getElem (show j<ces.size by omega))
      have:=hlt j hj;rw[q5];simpa using this
     have hback:seen.toArray.back?=some bo:=by rw[List.back?_toArray];exact hl
     have hrun:(Instr.entry (.pointer (some ⟨b,0,none⟩))).run P w = .ok (.tuple #[ces[i].key,ces[i].val]) w:=by
      unfold Instr.entry;simp only[Sem.run_bind,Sem.run_pure,Result.andThen_ok,z7T k3,hback,pJ w1,hcl,hfind];simp
     refine qA.pure H (QA hrun) (.tup _ [ces[i].key,ces[i].val] rfl (λj a c h1 h2=>?_))
     rw[hei]at q1 q3;match j with
     | 0=>simp at h1 h2;subst h1;subst h2;exact .p _ _ q1
     | 1=>simp at h1 h2;subst h1;subst h2;exact q3
     | j+2=>simp at h1
    ·cases he
   ·cases he
  ·cases he
 ·cases he
theorem zqD {es:List ME}{ces:Array MapEntry}{seen:List Nat}(hsz:ces.size=es.length)(hb:∀ (i:Nat) (e:ME) (ce:MapEntry),es[i]?=some e->ces[i]?=some ce->ce.born=e.born) :
 ∀ce∈(ces.filter λe=>!seen.toArray.contains e.born).toList,∃(i:Nat) (e:ME),es[i]?=some e/\ces[i]?=some ce/\e∈es.filter λe=>!seen.contains e.born:=by
 intro ce hce;rw[Array.toList_filter,List.mem_filter]at hce;obtain⟨h1,h2⟩:=hce;obtain⟨i,hi,rfl⟩:=List.getElem_of_mem h1;have hi1:i<ces.size:=by simpa using hi
 have hi2:i<es.length:=by omega
 have hc:ces[i]?=some ces[i]:=Array.getElem?_eq_getElem hi1
 have:=hb i _ _ (List.getElem?_eq_getElem hi2) hc;refine⟨i,es[i],List.getElem?_eq_getElem hi2,by simpa using hc,?_⟩
 rw[List.mem_filter];refine⟨List.getElem_mem _,?_⟩;rw[<-this];simpa using h2
theorem zcn {es:List ME}{ces:Array MapEntry}{seen:List Nat}(hsz:ces.size=es.length)(hb:∀ (i:Nat) (e:ME) (ce:MapEntry),es[i]?=some e->ces[i]?=some ce->ce.born=e.born)
 (h0:(ces.filter λe=>!seen.toArray.contains e.born) = #[]):es.filter (λe=>!seen.contains e.born)=[]:=by
 rw[List.filter_eq_nil_iff];intro e he;obtain⟨i,hi,rfl⟩:=List.getElem_of_mem he;have hi2:i<ces.size:=by omega
 have:=hb i _ _ (List.getElem?_eq_getElem hi) (Array.getElem?_eq_getElem hi2);rw[Array.filter_eq_empty_iff]at h0;have:=h0 ces[i] (Array.getElem_mem hi2);simp_all
theorem zrh {ty:TypeId}{ev:Opd->AV}{p:Opd}{x:Value}{l:List (AV × aA)}(H:HeapRel h μ w)(Rp:RAV (imm h μ w) h μ (ev p) x)
 (he:dR h (ev p)=some l):∃y∈l,qA P (do pure (.value (<-Instr.next x false ty))) h μ w y.1 y.2 []:=by
 unfold dR at he;split at he
 ·rename_i id hp
  rw[hp]at Rp;split at he
  ·rename_i s sn ls hi
   obtain⟨b,n,rfl,hmu,k1⟩:=z5q H Rp hi;split at he;case isFalse=>cases he
   rename_i hs0;injection he with he
   subst he;have k1:=k1 hs0
   refine⟨_,List.mem_singleton.2 rfl,?_⟩;have hrun:(Instr.next (.pointer (some ⟨b,0,none⟩)) false ty).run P w = .ok (.tuple #[.bool false]) w:=by
    unfold Instr.next;simp [z7T k1]
   refine qA.pure H (QA hrun) (.tup _ [.bool false] rfl (λj a c h1 h2=>?_))
   match j with
   | 0=>simp at h1 h2;subst h1;subst h2;exact RAV.pbool _
   | j+1=>simp at h1
  ·rename_i mi since seen last hi
   obtain⟨b,n,rfl,hmu,bm,nm,es',c',k1,k2,k3⟩:=z5q H Rp hi;split at he
   ·rename_i mid es c hm
    have hm2:=(QM hm).2
    have hmi:mi=mid:=by have:=(QM hm).1;injection this
    subst hmi;rw[k2]at hm2;injection hm2 with hm2
    injection hm2 with q1 q2
    subst q1;subst q2
    obtain⟨b3,n3,ces,hb3,w1,w2,w4,w3⟩:=H.obj _ _ _ k2 k1;injection hb3 with hb3;injection hb3 with hb31 hb32
    subst hb31;split at he
    ·rename_i hcs
     obtain⟨rfl,rfl⟩:=hcs;have hbo:∀(i:Nat) (e:ME) (ce:MapEntry),es'[i]?=some e->ces[i]?=some ce->ce.born=e.born:=λi e ce a1 a2=>(w3 i e ce a1 a2).2.2.2
     have hblt:∀ce∈ces,ce.born<last:=by
      intro ce hce;obtain⟨i,hi1,rfl⟩:=Array.getElem_of_mem hce;have hi2:i<es'.length:=by omega
      rw[hbo i _ _ (List.getElem?_eq_getElem hi2) (Array.getElem?_eq_getElem hi1)];exact w4 _ (List.getElem_mem hi2)
     have huns:(!seen.toArray.isEmpty && !ces.isEmpty&&ces.all (λe=>decide (e.born≥last)))=false:=by
      cases hz:ces.isEmpty with
      | true=>simp
      | false=>
       have h0:0<ces.size:=by
        rcases Nat.eq_zero_or_pos ces.size with q|q
        ·rw[Array.isEmpty_iff_size_eq_zero.2 q]at hz;cases hz
        ·exact q
       have:ces.all (λe=>decide (e.born≥last))=false:=by
        rw[Bool.eq_false_iff];intro hall;rw[Array.all_eq_true_iff_forall_mem]at hall;have q1:=hall ces[0] (Array.getElem_mem h0)
        have q2:=hblt ces[0] (Array.getElem_mem h0)
        simp at q1;omega
       simp [this]
     have hold:(ces.filter λe=>!seen.toArray.contains e.born).filter (λe=>decide (e.born<last))=ces.filter λe=>!seen.toArray.contains e.born:=by
      rw[Array.filter_eq_self];intro ce hce;rw[Array.mem_filter]at hce;simpa using hblt ce hce.1
     have hnew:(ces.filter λe=>!seen.toArray.contains e.born).filter (λe=>decide (e.born≥last)) = #[]:=by
      rw[Array.filter_eq_empty_iff];intro ce hce;rw[Array.mem_filter]at hce;have:=hblt ce hce.1;simp;omega
     generalize hL:(ces.filter λe=>!seen.toArray.contains e.born)=L at *
     have hbody:∀(q:Nat) (w1':World),(choose (.mapNext ((if L.isEmpty then #[none] else #[])++(L ++ #[]).map some).size)).run P w = .ok q w1'->WExt w w1' ->
      (Instr.next (.pointer (some ⟨b,0,none⟩)) false ty).run P w=(match ((if L.isEmpty then #[none] else #[])++(L ++ #[]).map some)[q]? with
       | some (some e)=>(do setObj b (.mapIter (some bm) last (seen.toArray.push e.born) last);pure (.tuple #[.bool true,e.key,e.val]):Sem Value)
       | some none=>pure (.tuple #[.bool false])
       | none=>stuck "Next: no such candidate").run P w1':=by
      intro q w1' hch _;unfold Instr.next;simp only[Sem.run_bind,Sem.run_pure,Result.andThen_ok,z7T k3,pJ w1,huns,Bool.false_eq_true,if_false,hL,hold,hnew,hch];rfl
     have hlen:es'.filter (λe=>!seen.contains e.born)=[]∨L ≠ #[]:=by
      by_cases h0:L = #[]
      ·left;exact zcn w2 hbo (by rw[hL];exact h0)
      ·right;exact h0
     by_cases h0:L = #[]
     ·subst h0
      have hnil:=zcn w2 hbo hL
      rw[hnil]at he;injection he with he
      subst he;refine⟨_,List.mem_singleton.2 rfl,?_⟩;have hch:(choose (.mapNext ((if(#[]:Array MapEntry).isEmpty then #[none] else #[])++((#[]:Array MapEntry) ++ #[]).map some).size)).run P w = .ok 0 w:=by
       simp [Question.forced]
      have:=hbody 0 w hch (WExt.refl w);have hrun:(Instr.next (.pointer (some ⟨b,0,none⟩)) false ty).run P w = .ok (.tuple #[.bool false]) w:=by
       rw[this];simp
      have hμ:μ.set id (some (b,n))=μ:=by
       apply List.ext_getElem?
       intro j;rw[List.getElem?_set];split
       ·rename_i hj;subst hj;rw[if_pos (MA hmu),hmu]
       ·rfl
      have:=H.set (w':=w) (id:=id) (o:=.iter (some mi) last seen last) (o':=.iter none 1 [] 0) (m:=some (b,n)) (m':=some (b,n)) hi hmu ⟨⟨_,_,_,_,rfl⟩,rfl⟩ rfl (Nat.le_refl _)
       (λb' _ hne=>rfl) (λb' n' e=>.inl ⟨n',e⟩) (λb' n' sh xs fz _ e=>by cases e)
       (λM' E=>⟨b,n,rfl,λe=>by cases e⟩) (λ_ _ _ _ h=>h)
      rw[hμ]at this;obtain⟨n1,n2⟩:=this;refine⟨_,_,_,QA hrun,.inl ⟨_,rfl,.tup _ [.bool false] rfl (λj a c h1 h2=>?_)⟩,n1,n2,vA.set hi (by simp only[Obj.top,pD];omega)⟩
      match j with
      | 0=>simp at h1 h2;subst h1;subst h2;exact RAV.pbool _
      | j+1=>simp at h1
     ·have hne:L.isEmpty=false:=by
       cases hz:L.isEmpty with
       | false=>rfl
       | true=>exact absurd (Array.isEmpty_iff.1 hz) h0
      have hpos:0<L.size:=by
       rcases Nat.eq_zero_or_pos L.size with q|q
       ·exact absurd (Array.eq_empty_of_size_eq_zero q) h0
       ·exact q
      have hcand:((if L.isEmpty then #[none] else #[])++(L ++ #[]).map some)=L.map some:=by rw[hne];simp
      obtain⟨q,w1',hch,hq,hext⟩:∃q w1',(choose (.mapNext ((if L.isEmpty then #[none] else #[])++(L ++ #[]).map some).size)).run P w = .ok q w1'/\q<L.size/\WExt w w1':=by
       rw[hcand];simp only[Array.size_map,run_choose,Question.forced,Question.cut];by_cases h1:L.size<=1
       ·exact⟨0,w,by simp [h1],by omega,WExt.refl w⟩
       ·exact⟨w.tape w.drawn (Question.mapNext L.size)%L.size,{ w with drawn:=w.drawn+1 },by simp [h1],Nat.mod_lt _ hpos,WExt.drew w _⟩
      have hb:=hbody q w1' hch hext
      rw[hcand]at hb;have hLq:(L.map some)[q]?=some (some L[q]):=by simp [hq]
      rw[hLq]at hb;dsimp only at hb;obtain⟨i,e,he1,he2,he3⟩:=zqD (seen:=seen) w2 hbo L[q] (by rw[hL];simp)
      have hes:es'.filter (λe=>!seen.contains e.born)≠[]:=λhn=>by rw[hn]at he3;cases he3
      have hl:l=(es'.filter (λe=>!seen.contains e.born)).map λe=>(.tup [pbool true,.p e.key,e.val],h.set id (.iter (some mi) last (seen++[e.born]) last)):=by
       split at he
       ·rename_i hn;exact absurd hn hes
       ·injection he with he;exact he.symm
      obtain⟨q1,q2,q3,q4⟩:=w3 i e _ he1 he2;have k3':w1'.heap[b]?=some (.mapIter (some bm) last seen.toArray last):=by rw[hext.right b (oL k3)];exact k3
      have hrun:(Instr.next (.pointer (some ⟨b,0,none⟩)) false ty).run P w = .ok (.tuple #[.bool true,L[q].key,L[q].val]) (OB w1' b (.mapIter (some bm) last (seen.toArray.push L[q].born) last)):=by
       rw[hb,Sem.run_bind,zsv _ k3'];rfl
      obtain⟨H1,E1⟩:=H.ext hext;have hμ:μ.set id (some (b,n))=μ:=by
       apply List.ext_getElem?
       intro j;rw[List.getElem?_set];split
       ·rename_i hj;subst hj;rw[if_pos (MA hmu),hmu]
       ·rfl
      have hidm:id≠mi:=λe=>by subst e;rw[k2]at hi;cases hi
      have:=H1.set (w':=OB w1' b (.mapIter (some bm) last (seen.toArray.push L[q].born) last)) (id:=id) (o:=.iter (some mi) last seen last) (o':=.iter (some mi) last (seen++[e.born]) last) (m:=some (b,n)) (m':=some (b,n)) hi hmu ⟨⟨_,_,_,_,rfl⟩,rfl⟩ rfl (by rw[ZO];exact Nat.le_refl _)
       (λb' _ hne=>YO (λe=>hne n (by rw[e]))) (λb' n' e=>.inl ⟨n',e⟩) (λb' n' sh xs fz _ e=>by cases e)
       (λM' E=>⟨b,n,rfl,bm,nm,es',last,by rw[List.getElem?_set_ne hidm];exact k1,by rw[List.getElem?_set_ne hidm];exact k2,by
        rw[UG k3',<-q4];simp⟩)
       (λb' n' t e ht=>by
        injection e with e
        injection e with e1 _
        subst e1;unfold ety at ht;rw[k3']at ht;cases ht)
      rw[hμ]at this;obtain⟨n1,n2⟩:=this;refine⟨(.tup [pbool true,.p e.key,e.val],h.set id (.iter (some mi) last (seen++[e.born]) last)),?_,_,_,_,QA hrun,.inl ⟨_,rfl,.tup _ [.bool true,L[q].key,L[q].val] rfl (λj a c h1 h2=>?_)⟩,n1,E1.trans n2,vA.set hi (by simp only[Obj.top,pD];omega)⟩
      ·rw[hl];exact List.mem_map.2 ⟨e,he3,rfl⟩
      ·match j with
       | 0=>simp at h1 h2;subst h1;subst h2;exact RAV.pbool _
       | 1=>simp at h1 h2;subst h1;subst h2;exact .p _ _ (q1.mono (E1.trans n2).le)
       | 2=>simp at h1 h2;subst h1;subst h2;exact q3.evo (E1.trans n2)
       | j+3=>simp at h1
    ·cases he
   ·cases he
  ·cases he
 ·cases he
end
section
variable {h h':aA} {μ μ':Mu} {w w':World} {P:Program} {M M':Mem}
end
section
variable {h h':aA} {μ μ':Mu} {w w':World} {P:Program} {M M':Mem}
def pL (o:Op):Option (Operand×List Operand):=match o with
 | .call c=>match c.callee with
  | .value f=>some (f,c.args.toList)
  | _=>none
 | _=>none
theorem QY {o:Oper}{f:Operand}{ys:List Operand}(hc:pL o.op=some (f,ys)){ρ:Operand->Value}{g:Nat}{caps:Array Value}(hf:ρ f = .func (.func g) #[] caps) :
 (execOp ρ o).run P w=(callFunc g ((ys.map ρ).toArray++caps)).run P w:=by
 unfold pL at hc;split at hc
 ·rename_i c hop
  split at hc
  ·rename_i f' hcal
   injection hc with hc
   injection hc with h1 h2
   subst h1;subst h2
   unfold execOp;rw[hop];simp only[resolve,hcal,Deferred.ofValue,hf,Sem.run_bind,Sem.run_pure,Result.andThen_ok,invoke];have e1:(List.map ρ c.args.toList).toArray=c.args.map ρ:=by rw[<-Array.toList_map]
   rw[e1];simp
  ·cases hc
 ·cases hc
theorem z7S:∀ (z:List AV)(c:List Value){h:aA}{μ:Mu},HeapRel h μ w->c.length=z.length->(∀(j:Nat) (x:AV),z[j]?=some x->x.sc=true/\∃v,c[j]?=some v/\RAV (imm h μ w) h μ x v) ->
 ∃μ',HeapRel (JB z h).2 μ' w/\Evo (imm h μ w) h μ (imm (JB z h).2 μ' w) (JB z h).2 μ'/\vA h (JB z h).2 []/\(JB z h).1.length=z.length /\
  ∀(j:Nat) (x:AV),(JB z h).1[j]?=some x->x.sc=true/\∃v,c[j]?=some v/\RAV (imm (JB z h).2 μ' w) (JB z h).2 μ' x v
 | [],c,h,μ,H,_,_=>⟨μ,H,Evo.refl _ _ _,vA.refl _ _,rfl,λj x hx=>by simp [JB]at hx⟩
 | a::r,[],h,μ,H,e,_=>by simp at e
 | a::r,b::s,h,μ,H,e,hr=>by
  have e3:s.length=r.length:=by simpa using e
  obtain⟨a1,b',hb',a2⟩:=hr 0 a rfl;have hbb:b'=b:=by simpa using hb'.symm
  subst hbb;by_cases ha:∃sh,a = .sl0 sh
  ·obtain⟨sh,rfl⟩:=ha
   obtain⟨k1,k2⟩:=kW H sh;obtain⟨μ',g1,g2,g3,g4,g5⟩:=z7S r s k1 e3 (λj x hx=>by
    obtain⟨q1,v,q2,q3⟩:=hr (j+1) x (by simpa using hx)
    exact⟨q1,v,by simpa using q2,q3.evo k2⟩)
   refine⟨μ',g1,k2.trans g2,?_,by simp [JB,g4],λj x hx=>?_⟩
   ·simpa [JB] using (vA.push (h:=h) (o:=.row sh [] 0) (by simp [Obj.top])).trans g3
   ·cases j with
    | zero=>
     simp [JB]at hx;subst hx;refine⟨rfl,b',rfl,?_⟩;cases a2 with
     | sl0 _ aa=>
      have q:RAV (imm (h++[.row sh [] 0]) (μ++[none]) w) (h++[.row sh [] 0]) (μ++[none]) (.own h.length 0 0 0) (.slice aa 0 0):=
       .own h.length 0 0 0 aa 0 sh [] 0 none (Nat.le_refl _) (by simp) (by rw[<-H.len];simp) (Nat.zero_le _) (Nat.le_refl _) (λ_=>by simp [AH])
      exact q.evo g2
    | succ j=>exact g5 j x (by simpa [JB] using hx)
  ·obtain⟨μ',g1,g2,g3,g4,g5⟩:=z7S r s H e3 (λj x hx=>by
    obtain⟨q1,v,q2,q3⟩:=hr (j+1) x (by simpa using hx)
    exact⟨q1,v,by simpa using q2,q3⟩)
   have hrw:JB (a::r) h=(a::(JB r h).1,(JB r h).2):=by
    cases a <;> first|rfl|exact absurd ⟨_,rfl⟩ ha
   rw[hrw];refine⟨μ',g1,g2,g3,by simp [g4],λj x hx=>?_⟩
   cases j with
   | zero=>
    simp at hx;subst hx;exact⟨a1,b',rfl,a2.evo g2⟩
   | succ j=>exact g5 j x (by simpa using hx)
theorem zgu {t:TypeId}{v:AV}{x:Value}{cs:List AV}(H:HeapRel h μ w)(R:RAV (imm h μ w) h μ v x)(hc:v.cells=some cs) :
 qA P (do pure (.value (<-Instr.box t x))) h μ w (.ref (JB cs h).2.length 0) ((JB cs h).2++[.box (JB cs h).1]) []:=by
 have hs:=rL R hc
 obtain⟨μ',g1,g2,g3,g4,g5⟩:=z7S cs x.cells.toList H (by simpa using hs.1) (λj y hy=>by
  obtain⟨q1,u,q2,q3⟩:=hs.2 j y hy;exact⟨q1,u,by simpa using q2,q3⟩)
 obtain⟨_,_,μ2,k1,k2,k3,k4,k5⟩:=z5A (P:=P) g1 (s:=do pure (.value (<-Instr.box t x))) (c:=x.cells) t (by rw[g4];exact hs.1) (λj y hy=>by simpa using g5 j y hy) (by
  refine QA ?_;simp [Instr.box,newVar,kI])
 exact⟨_,_,μ2,k1,k2,k3,g2.trans k4,by simpa using g3.trans k5⟩
end
section
variable {h h':aA} {μ μ':Mu} {w w':World} {P:Program} {M M':Mem}
def KH (b:Builtin)(o:Op):Option (List Operand×List TypeId):=match o with
 | .call c=>match c.callee with
  | .builtin b'=>if b=b' then some (c.args.toList,c.argTypes.toList) else none
  | _=>none
 | _=>none
def z1z (P:Program)(k t:Nat)(xs:List Opd)(o:Op):Bool:=match k with
 | 12=>match o,xs with
  | .box _ y,[x]=>VA x y
  | _,_=>false
 | _=>false
def zT (P:Program)(a:AO)(o:Op):Bool:=match a with
 | .uns k t xs=>z1z P k t xs o
 | .mv x=>match o with
  | .move y=>VA x y
  | .assign y=>VA x y
  | _=>false
 | .pick c x y=>match o with
  | .pick c' x' y'=>VA c c'&&VA x x'&&VA y y'
  | _=>false
 | .alloc z=>match o with
  | .alloc t=>xP P z t
  | _=>false
 | .box x=>match o with
  | .box _ y=>VA x y
  | _=>false
 | .build z ps=>match o with
  | .build t qs=>z1t P z ps t qs.toList
  | _=>false
 | .bsl _ sh n z ps=>match o with
  | .buildSlice t n' qs=>z1s P sh n z ps t n' qs.toList
  | _=>false
 | .load sh x=>match o with
  | .load t y=>DB P t==some sh&&VA x y
  | _=>false
 | .store sh x v=>match o with
  | .store t y u=>DB P t==some sh&&VA x y&&VA v u
  | _=>false
 | .nilchk x=>match o with
  | .nilCheck y=>VA x y
  | _=>false
 | .bin op x y=>match o with
  | .binOp op' _ x' y' _=>decide (op=op')&&VA x x'&&VA y y'
  | _=>false
 | .eqa ks neg x y=>match o with
  | .binOp op' t x' y' _=>decide (op'=if neg then .neq else .eql)&&xT P t ks&&VA x x'&&VA y y'
  | _=>false
 | .isnil k neg x=>match o with
  | .binOp op' t x' y' _=>decide (op'=if neg then .neq else .eql)&&EG P k t y'&&VA x x'
  | _=>false
 | .mkif _=>false
 | .un op x=>match o with
  | .unOp op' _ y=>decide (op=op')&&VA x y
  | _=>false
 | .conv c x=>match o with
  | .convert s d y=>IJ P c s d&&VA x y
  | _=>false
 | .mkfn f caps=>match o with
  | .makeFunc fn first cs=>(match fn with | .func f'=>f==f'|_=>false)&&first.size==0&&MC caps cs.toList
  | _=>false
 | .mkmap=>match o with
  | .makeMap _ r=>r.isNone
  | _=>false
 | .mksl sh z l c=>match o with
  | .makeSlice t l' c'=>z1x P sh z t&&VA l l'&&VA c c'
  | _=>false
 | .slice sh x lo hi mx=>match o with
  | .slice t x' lo' hi' mx'=>LJ P t sh&&VA x x'&&XC lo lo'&&XC hi hi'&&XC mx mx'&&(mx.isNone||hi.isSome)
  | _=>false
 | .slstr x lo hi=>match o with
  | .slice t x' lo' hi' mx'=>tL P t&&VA x x'&&XC lo lo'&&XC hi hi'&&mx'.isNone
  | _=>false
 | .faddr off sh x=>match o with
  | .fieldAddr s y f=>JJ P s f off sh&&VA x y
  | _=>false
 | .field off sh x=>match o with
  | .field s y f=>JJ P s f off sh&&VA x y
  | _=>false
 | .iaddr sh x i=>match o with
  | .indexAddr t y j=>LJ P t sh&&VA x y&&VA i j
  | _=>false
 | .iaddra n sh x i=>false
 | .idxa n sh x i=>false
 | .idxs x i=>match o with
  | .index t y j=>tL P t&&VA x y&&VA i j
  | _=>false
 | .ext x i=>match o with
  | .extract y j=>VA x y&&i==j
  | _=>false
 | .len x=>match KH .len o with
  | some ([y],t::_)=>sL P t==1&&VA x y
  | _=>false
 | .lens x=>match KH .len o with
  | some ([y],t::_)=>sL P t==2&&VA x y
  | _=>false
 | .lenm x=>false
 | .app sh x y=>match KH .append o with
  | some ([x',y'],[t,u])=>HJ P sh t u&&VA x x'&&VA y y'
  | _=>false
 | .copy sh x y=>false
 | .clr sh z x=>match KH .clear o with
  | some ([x'],t::_)=>z1u P sh z t&&VA x x'
  | _=>false
 | .look kk ok z x k=>match o with
  | .lookup t x' k' ok'=>yT P kk z t&&ok==ok'&&VA x x'&&VA k k'
  | _=>false
 | .mupd kk m k v=>match o with
  | .mapUpdate t m' k' v'=>KJ P kk t&&VA m m'&&VA k k'&&VA v v'
  | .insert t m' k' v'=>KJ P kk t&&VA m m'&&VA k k'&&VA v v'
  | _=>false
 | .ment kk z m k=>false
 | .estore m s v=>false
 | .mdel kk m k=>match KH .delete o with
  | some ([m',k'],t::_)=>KJ P kk t&&VA m m'&&VA k k'
  | _=>false
 | .mrange x=>match o with
  | .range t y=>z1y P t&&VA x y
  | _=>false
 | .mentry x=>match o with
  | .entry y=>VA x y
  | _=>false
 | .mx xs=>match KH .max o with
  | some (ys,_)=>MC xs ys
  | _=>false
 | .mn xs=>match KH .min o with
  | some (ys,_)=>MC xs ys
  | _=>false
 | .new0 _=>match o with
  | .move (.const (.slice none 0 0))=>true
  | .assign (.const (.slice none 0 0))=>true
  | _=>false
 | _=>false
theorem FJ {b:Builtin}{o:Oper}{ys:List Operand}{ts:List TypeId}(hb:KH b o.op=some (ys,ts)){ρ:Operand->Value} :
 ∃cs,(execOp ρ o).run P w=(builtin b ts.toArray o.type cs (ys.map ρ).toArray).run P w:=by
 unfold KH at hb;split at hb
 ·rename_i c hc
  split at hb
  ·rename_i b' hcb
   split at hb
   ·rename_i hbb
    subst hbb;injection hb with hb
    injection hb with h1 h2
    subst h1;subst h2
    refine⟨(c.args.map fun | .const _=>true|_=>false),?_⟩
    unfold execOp;rw[hc];simp only[resolve,hcb,Sem.run_bind,Sem.run_pure,Result.andThen_ok,invoke];have e1:(List.map ρ c.args.toList).toArray=c.args.map ρ:=by rw[<-Array.toList_map]
    rw[e1];rfl
   ·cases hb
  ·cases hb
 ·cases hb
theorem qA.congr {s s':Sem Next}{v:AV}{h1:aA}{e:Esc}(hr:s.run P w=s'.run P w)(H:qA P s' h μ w v h1 e):qA P s h μ w v h1 e:=by
 obtain⟨nx,w',μ',r,q⟩:=H;exact⟨nx,w',μ',hr.trans r,q⟩
theorem zuV {k t:Nat}{xs:List Opd}{o:Oper}(hc:z1z P k t xs o.op=true){ev:Opd->AV}(hev:∀ v,ev (.c v)=v){ρ:Operand->Value}(hρ:∀ v,ρ (.const v)=v){v:AV}{h1:aA}{e:Esc}(H:HeapRel h μ w)(R:lE (imm h μ w) h μ ev ρ)
 (he:qI k t (xs.map ev) h=some (v,h1,e)):qA P (execOp ρ o) h μ w v h1 e:=by
 have E:∀{s:Sem Next},execOp ρ o=s->qA P s h μ w v h1 e->qA P (execOp ρ o) h μ w v h1 e:=λhs H=>hs ▸ H
 unfold z1z at hc;split at hc
 ·split at hc
  case h_2=>cases hc
  rename_i t' y x ho;simp only[qI,List.map_cons,List.map_nil]at he;split at he;case h_2=>cases he
  rename_i cs hv;simp only[Option.some.injEq,Prod.mk.injEq]at he;obtain⟨rfl,rfl,rfl⟩:=he;exact E (by unfold execOp;rw[ho]) (zgu H (R _ _ hc) hv)
 ·cases hc
theorem zcP {a:AO}{o:Oper}(hc:zT P a o.op=true){ev:Opd->AV}(hev:∀ v,ev (.c v)=v){ρ:Operand->Value}(hρ:∀ v,ρ (.const v)=v){v:AV}{h1:aA}{e:Esc}(H:HeapRel h μ w)(R:lE (imm h μ w) h μ ev ρ)
 (he:aop a ev h=some (v,h1,e)):qA P (execOp ρ o) h μ w v h1 e:=by
 have E:∀{s:Sem Next},execOp ρ o=s->qA P s h μ w v h1 e->qA P (execOp ρ o) h μ w v h1 e:=λhs H=>hs ▸ H
 cases a <;> simp only[zT]at hc
 case mv x=>
  split at hc
  ·rename_i y ho;exact E (by unfold execOp;rw[ho]) (zcD H (R _ _ hc) he)
  ·rename_i y ho;exact E (by unfold execOp;rw[ho]) (zcD H (R _ _ hc) he)
  ·cases hc
 case uns k t xs=>exact zuV hc hev hρ H R he
 case pick c x y=>
  split at hc
  ·rename_i c' x' y' ho
   simp only[Bool.and_eq_true]at hc;exact E (by unfold execOp;rw[ho]) (zrG H (R _ _ hc.1.1) (R _ _ hc.1.2) (R _ _ hc.2) he)
  ·cases hc
 case alloc z=>
  split at hc
  ·rename_i t ho
   simp only[aop,Option.some.injEq,Prod.mk.injEq]at he;obtain⟨rfl,rfl,rfl⟩:=he;exact E (by unfold execOp;rw[ho]) (zfL hc H)
  ·cases hc
 case box x=>
  split at hc
  ·rename_i t y ho
   simp only[aop]at he;split at he
   ·rename_i cs hcs
    simp only[Option.some.injEq,Prod.mk.injEq]at he;obtain⟨rfl,rfl,rfl⟩:=he;exact E (by unfold execOp;rw[ho]) (zgt H (R _ _ hc) hcs)
   ·cases he
  ·cases hc
 case build z ps=>
  split at hc
  ·rename_i t qs ho
   simp only[aop,Option.map_eq_some_iff,Prod.mk.injEq]at he;obtain⟨cs,hcs,rfl,rfl,rfl⟩:=he;exact E (by unfold execOp;rw[ho]) (zgw hc H R hcs)
  ·cases hc
 case bsl own sh n z ps=>
  split at hc
  ·rename_i t n' qs ho
   exact E (by unfold execOp;rw[ho]) (zgv hc H R he)
  ·cases hc
 case load sh x=>
  split at hc
  ·rename_i t y ho
   simp only[Bool.and_eq_true,beq_iff_eq]at hc;exact E (by unfold execOp;rw[ho]) (zqN hc.1 H (R _ _ hc.2) ev x rfl he)
  ·cases hc
 case store sh x u=>
  split at hc
  ·rename_i t y z ho
   simp only[Bool.and_eq_true,beq_iff_eq]at hc;exact E (by unfold execOp;rw[ho]) (zus hc.1.1 H ev x u (R _ _ hc.1.2) (R _ _ hc.2) he)
  ·cases hc
 case nilchk x=>
  split at hc
  ·rename_i y ho;exact zrv H (R _ _ hc) he rfl ho
  ·cases hc
 case bin op x y=>
  split at hc
  ·rename_i op' t x' y' u ho
   simp only[Bool.and_eq_true,decide_eq_true_eq]at hc;obtain⟨⟨rfl,c2⟩,c3⟩:=hc;exact E (by unfold execOp;rw[ho]) (zgn H (R _ _ c2) (R _ _ c3) he)
  ·cases hc
 case eqa ks neg x y=>
  split at hc
  ·rename_i op' t x' y' u ho
   simp only[Bool.and_eq_true,decide_eq_true_eq]at hc;obtain⟨⟨⟨c1,c2⟩,c3⟩,c4⟩:=hc;exact E (by unfold execOp;rw[ho]) (znW c1 c2 H (R _ _ c3) (R _ _ c4) he)
  ·cases hc
 case isnil k neg x=>
  split at hc
  ·rename_i op' t x' y' u ho
   simp only[Bool.and_eq_true,decide_eq_true_eq]at hc;obtain⟨⟨c1,c2⟩,c3⟩:=hc;have hy:∃z,y' = .const z:=by
    unfold EG at c2;split at c2 <;> first|exact⟨_,rfl⟩|cases c2
   obtain⟨z,rfl⟩:=hy;have:=zpo (P:=P) (a:=x') c1 c2 H (R _ _ c3) he;refine E (by unfold execOp;rw[ho]) ?_
   simp only[hρ];exact this
  ·cases hc
 case un op x=>
  split at hc
  ·rename_i op' t y ho
   simp only[Bool.and_eq_true,decide_eq_true_eq]at hc;obtain⟨rfl,c2⟩:=hc;exact E (by unfold execOp;rw[ho]) (un_ok H (R _ _ c2) he)
  ·cases hc
 case conv c x=>
  split at hc
  ·rename_i s d y ho
   simp only[Bool.and_eq_true]at hc;exact E (by unfold execOp;rw[ho]) (ziG hc.1 H (R _ _ hc.2) he)
  ·cases hc
 case mkfn f caps=>
  split at hc
  ·rename_i fn first cs ho
   simp only[Bool.and_eq_true,beq_iff_eq]at hc;obtain⟨⟨c1,c2⟩,c3⟩:=hc;split at c1
   ·simp only[beq_iff_eq]at c1
    subst c1;exact E (by unfold execOp;rw[ho]) (zre c3 (Array.eq_empty_of_size_eq_zero c2) H R he)
   ·cases c1
  ·cases hc
 case mkmap=>
  split at hc
  ·rename_i t r ho
   rw[Option.isNone_iff_eq_none]at hc;subst hc;exact E (s:=do pure (.value (<-Instr.makeMap t none))) (by unfold execOp;rw[ho];rfl) (zrf rfl H he)
  ·cases hc
 case mksl sh z l c=>
  split at hc
  ·rename_i t l' c' ho
   simp only[Bool.and_eq_true]at hc;exact E (by unfold execOp;rw[ho]) (zrg hc.1.1 H (R _ _ hc.1.2) (R _ _ hc.2) he)
  ·cases hc
 case slice sh x lo hi mx=>
  split at hc
  ·rename_i t x' lo' hi' mx' ho
   simp only[Bool.and_eq_true,Bool.or_eq_true]at hc;obtain⟨⟨⟨⟨⟨c1,c2⟩,c3⟩,c4⟩,c5⟩,c6⟩:=hc;refine E (by unfold execOp;rw[ho]) (ztM c1 H R c2 c3 c4 c5 (λhm=>?_) he)
   rcases c6 with c6|c6
   ·cases mx <;> simp_all
   ·exact c6
  ·cases hc
 case slstr x lo hi=>
  split at hc
  ·rename_i t x' lo' hi' mx' ho
   simp only[Bool.and_eq_true]at hc;obtain⟨⟨⟨⟨c1,c2⟩,c3⟩,c4⟩,c5⟩:=hc;rw[Option.isNone_iff_eq_none]at c5;subst c5;exact E (s:=do pure (.value (<-Instr.sliceAt t (ρ x') (lo'.map ρ) (hi'.map ρ) none))) (by unfold execOp;rw[ho];rfl) (ztN c1 H R c2 c3 c4 he)
  ·cases hc
 case faddr off sh x=>
  split at hc
  ·rename_i s y f ho
   simp only[Bool.and_eq_true]at hc;exact E (by unfold execOp;rw[ho]) (zov hc.1 H ev x (R _ _ hc.2) he)
  ·cases hc
 case field off sh x=>
  split at hc
  ·rename_i s y f ho
   simp only[Bool.and_eq_true]at hc;exact E (by unfold execOp;rw[ho]) (zo2 hc.1 H ev x (R _ _ hc.2) he)
  ·cases hc
 case iaddr sh x i=>
  split at hc
  ·rename_i t y j ho
   simp only[Bool.and_eq_true]at hc;exact E (by unfold execOp;rw[ho]) (zoX hc.1.1 H ev x i (R _ _ hc.1.2) (R _ _ hc.2) he)
  ·cases hc
 case idxs x i=>
  split at hc
  ·rename_i t y j ho
   simp only[Bool.and_eq_true]at hc;exact E (by unfold execOp;rw[ho]) (zpd hc.1.1 H ev x i (R _ _ hc.1.2) (R _ _ hc.2) he)
  ·cases hc
 case ext x i=>
  split at hc
  ·rename_i y j ho
   simp only[Bool.and_eq_true,beq_iff_eq]at hc;obtain⟨c1,rfl⟩:=hc;exact E (by unfold execOp;rw[ho]) (zoe H (R _ _ c1) he)
  ·cases hc
 case len x=>
  split at hc
  ·rename_i y t ts hb
   simp only[Bool.and_eq_true,beq_iff_eq]at hc;obtain⟨cs,hr⟩:=FJ (P:=P) (w:=w) hb (ρ:=ρ);exact qA.congr hr (zqE hc.1 H (R _ _ hc.2) he)
  ·cases hc
 case lens x=>
  split at hc
  ·rename_i y t ts hb
   simp only[Bool.and_eq_true,beq_iff_eq]at hc;obtain⟨cs,hr⟩:=FJ (P:=P) (w:=w) hb (ρ:=ρ);exact qA.congr hr (zqH hc.1 H (R _ _ hc.2) he)
  ·cases hc
 case app sh x y=>
  split at hc
  ·rename_i x' y' t u hb
   simp only[Bool.and_eq_true]at hc;obtain⟨cs,hr⟩:=FJ (P:=P) (w:=w) hb (ρ:=ρ);exact qA.congr hr (zfQ hc.1.1 H (R _ _ hc.1.2) (R _ _ hc.2) he)
  ·cases hc
 case clr sh z x=>
  split at hc
  ·rename_i x' t ts hb
   simp only[Bool.and_eq_true]at hc;obtain⟨cs,hr⟩:=FJ (P:=P) (w:=w) hb (ρ:=ρ);exact qA.congr hr (zi3 hc.1 H (R _ _ hc.2) he)
  ·cases hc
 case look kk ok z x k=>
  split at hc
  ·rename_i t x' k' ok' ho
   simp only[Bool.and_eq_true,beq_iff_eq]at hc;obtain⟨⟨⟨c1,rfl⟩,c3⟩,c4⟩:=hc;exact E (by unfold execOp;rw[ho]) (zqQ c1 H (R _ _ c3) (R _ _ c4) he)
  ·cases hc
 case mupd kk m k u=>
  split at hc
  ·rename_i t m' k' v' ho
   simp only[Bool.and_eq_true]at hc;obtain⟨⟨⟨c1,c2⟩,c3⟩,c4⟩:=hc;exact E (by unfold execOp;rw[ho]) (zcC c1 H (R _ _ c2) (R _ _ c3) (R _ _ c4) he)
  ·rename_i t m' k' v' ho
   simp only[Bool.and_eq_true]at hc;obtain⟨⟨⟨c1,c2⟩,c3⟩,c4⟩:=hc;exact E (by unfold execOp;rw[ho]) (zcC c1 H (R _ _ c2) (R _ _ c3) (R _ _ c4) he)
  ·cases hc
 case mdel kk m k=>
  split at hc
  ·rename_i m' k' t ts hb
   simp only[Bool.and_eq_true]at hc;obtain⟨cs,hr⟩:=FJ (P:=P) (w:=w) hb (ρ:=ρ);exact qA.congr hr (zrb hc.1.1 H (R _ _ hc.1.2) (R _ _ hc.2) he)
  ·cases hc
 case mrange x=>
  split at hc
  ·rename_i t y ho
   simp only[Bool.and_eq_true]at hc;exact E (by unfold execOp;rw[ho]) (zri hc.1 H (R _ _ hc.2) he)
  ·cases hc
 case mentry x=>
  split at hc
  ·rename_i y ho
   exact E (by unfold execOp;rw[ho]) (zrc H (R _ _ hc) he)
  ·cases hc
 case mx xs=>
  split at hc
  ·rename_i ys ts hb
   obtain⟨cs,hr⟩:=FJ (P:=P) (w:=w) hb (ρ:=ρ);refine qA.congr hr ?_;have:=mx_ok (P:=P) (cs:=ys.toArray) (ts:=ts.toArray) (ty:=o.type) hc H R he;have h2:Array.map ρ ys.toArray=(List.map ρ ys).toArray:=by simp
   rw[h2]at this;exact this
  ·cases hc
 case mn xs=>
  split at hc
  ·rename_i ys ts hb
   obtain⟨cs,hr⟩:=FJ (P:=P) (w:=w) hb (ρ:=ρ);refine qA.congr hr ?_;have:=mn_ok (P:=P) (cs:=ys.toArray) (ts:=ts.toArray) (ty:=o.type) hc H R he;have h2:Array.map ρ ys.toArray=(List.map ρ ys).toArray:=by simp
   rw[h2]at this;exact this
  ·cases hc
 case new0 sh=>
  split at hc
  ·rename_i ho
   refine E (s:=pure (.value (.slice none 0 0))) (by unfold execOp;rw[ho];simp only[hρ]) (zcG H he)
  ·rename_i ho
   refine E (s:=pure (.value (.slice none 0 0))) (by unfold execOp;rw[ho];simp only[hρ]) (zcG H he)
  ·cases hc
 all_goals cases hc
end
section
variable {h h':aA} {μ μ':Mu} {w w':World} {P:Program} {M M':Mem}
def LE (gl:Nat->Option PV)(M:Mem):Prop:=∀n v,gl n=some v->RAV M [] [] (.vp v) (.pointer (some ⟨n,0,none⟩))/\∃cs t x,M.b n=some (.cells cs t x)/\cs.size=v.cells.length
theorem RAV.vp_any {v:PV}{x:Value}{h':aA}{μ':Mu}(H:RAV M h μ (.vp v) x):RAV M h' μ' (.vp v) x:=by
 cases H with|vp _ b o f hm hr=>exact .vp v b o f hm hr
theorem LE.mono {gl:Nat->Option PV}(hM:M.le M')(H:LE gl M):LE gl M':=λn v hv=>by
 obtain⟨h1,cs,t,x,h2,h3⟩:=H n v hv;refine⟨?_,cs,t,x,hM.b _ _ h2,h3⟩;cases h1 with|vp _ _ _ f hm hr=>exact .vp v n 0 f (λj y hy=>hM.c _ _ _ (hm j y hy)) (λj y hy=>(hr j y hy).mono hM)
structure Rel (gl:Nat->Option PV) (nt:Nat) (M0:Mem) (h0:aA) (μ0:Mu) (e:List (Nat × AV)) (h:aA) (x:Esc) (a:Act) (w:World) (μ:Mu):Prop where
 heap:HeapRel h μ w
 env:∀t,RAV (imm h μ w) h μ (bA e t) (a.tmps.getD t undef)
 glob:LE gl (imm h μ w)
 evo:Evo M0 h0 μ0 (imm h μ w) h μ
 esc:vA h0 h x
 size:nt<=a.tmps.size
 defers:a.defers=[]
variable {gl:Nat->Option PV} {nt:Nat} {M0:Mem} {h0:aA} {μ0:Mu} {e:List (Nat × AV)} {x:Esc} {a:Act}
theorem Rel.opds (H:Rel gl nt M0 h0 μ0 e h x a w μ):lE (imm h μ w) h μ (Opd.ev gl e) a.eval:=by
 intro p q hpq;unfold VA at hpq;split at hpq
 ·simp only[beq_iff_eq]at hpq
  subst hpq;exact H.env _
 ·exact HT hpq
 ·simp only[beq_iff_eq]at hpq
  subst hpq;exact .fn _ [] [] rfl (λj y v h1 h2=>by simp at h1)
 ·simp only[beq_iff_eq]at hpq
  subst hpq;simp only[Opd.ev];split
  ·rename_i v hv;exact(H.glob _ v hv).1.vp_any
  ·exact .und _
 ·cases hpq
theorem nL {d:Option Nat}{v:AV}{t:Nat}:bA (put d v e) t=if d=some t then v else bA e t:=by
 cases d with
 | none=>simp [put]
 | some d=>simp [put,bA]
theorem zrQ {d:Option Nat}{u:Value}{t:Nat}(hd:∀ i,d=some i->i<a.tmps.size):(a.put d u).tmps.getD t undef=if d=some t then u else a.tmps.getD t undef:=by
 cases d with
 | none=>simp [Act.put]
 | some d=>
  have:=hd d rfl;by_cases h:d=t
  ·subst h;simp [Act.put,this]
  ·simp [Act.put,h,Array.getElem?_setIfInBounds]
theorem zrS {d:Option Nat}{u:Value}:(a.put d u).tmps.size=a.tmps.size:=by
 cases d <;> simp [Act.put]
theorem zrP {d:Option Nat}{u:Value}:(a.put d u).defers=a.defers:=by
 cases d <;> rfl
theorem Rel.step (H:Rel gl nt M0 h0 μ0 e h x a w μ){d:Option Nat}(hd:∀ i,d=some i->i<nt){v:AV}{u:Value}{h':aA}{x':Esc}{w':World}{μ':Mu}(H':HeapRel h' μ' w')(E:Evo (imm h μ w) h μ (imm h' μ' w') h' μ')(I:vA h h' x')
 (hv:RAV (imm h' μ' w') h' μ' v u):Rel gl nt M0 h0 μ0 (put d v e) h' (x'++x) (a.put d u) w' μ':=by
 have hd':∀i,d=some i->i<a.tmps.size:=λi hi=>Nat.lt_of_lt_of_le (hd i hi) H.size
 refine⟨H',λt=>?_,H.glob.mono E.le,H.evo.trans E,vA.trans H.esc I,by rw[zrS];exact H.size,by rw[zrP];exact H.defers⟩
 rw[nL,zrQ hd'];split
 ·exact hv
 ·exact(H.env t).evo E
theorem Rel.skip (H:Rel gl nt M0 h0 μ0 e h x a w μ){d:Option Nat}(hd:∀ i,d=some i->i<nt):Rel gl nt M0 h0 μ0 (put d .skp e) h x (a.put d undef) w μ:=by
 have:=H.step hd H.heap (Evo.refl _ _ _) (vA.refl h []) (.skp);simpa using this
def aD (P:Program)(gl:Nat->Option PV):Hd:=λf asv h K=>
 ∀(μ:Mu) (w:World) (vs:List Value),HeapRel h μ w->LE gl (imm h μ w)->asv.length=vs.length->(∀(j:Nat) (y:AV) (v:Value),asv[j]?=some y->vs[j]?=some v->RAV (imm h μ w) h μ y v) ->
  ((∀w,(callFunc f vs.toArray).run P w = .ok (.enter f vs.toArray) w) /\
  Calls P f vs.toArray w fun
   | .returned r,w'=>∃v h' x μ',K v h' x/\RAV (imm h' μ' w') h' μ' v r/\HeapRel h' μ' w'/\Evo (imm h μ w) h μ (imm h' μ' w') h' μ'/\vA h h' x
   | _,_=>False) ∨
  ∃r w' v h' x μ',(callFunc f vs.toArray).run P w = .ok (.value r) w'/\K v h' x/\RAV (imm h' μ' w') h' μ' v r/\HeapRel h' μ' w'/\Evo (imm h μ w) h μ (imm h' μ' w') h' μ'/\vA h h' x
theorem aD.mono (P:Program)(gl:Nat->Option PV):(aD P gl).Mono:=by
 intro f asv h K K' hK H μ w vs h1 h2 h3 h4;rcases H μ w vs h1 h2 h3 h4 with⟨q1,q2⟩|⟨r,w',v,h',x,μ',q1,k,rest⟩
 case inr=>exact .inr ⟨r,w',v,h',x,μ',q1,hK _ _ _ k,rest⟩
 refine .inl ⟨q1,q2.mono λe w' he=>?_⟩
 cases e with
 | returned r=>obtain⟨v,h',x,μ',k,rest⟩:=he;exact⟨v,h',x,μ',hK _ _ _ k,rest⟩
 | panicked _=>exact he
 | outgrown=>exact he
def z1w (ops:Array Oper)(nt:Nat):Option (Nat×Bool)->Option (Nat×Bool)->Bool
 | none,none=>true
 | some (t,b),some (j,b')=>b==b'&&decide (t<nt)&&(match ops[j]? with|some o=>o.dst==some t|none=>false)
 | _,_=>false
def HI (P:Program)(nt:Nat)(ops:Array Oper)(o:AOp)(p:Oper):Bool:=
 o.dst==p.dst&&(match o.dst with|some d=>decide (d<nt)|none=>true)&&z1w ops nt o.guard p.guard&&match o.op with
  | .call f args=>match pL p.op with
   | some (g,ys)=>VA (.f f) g&&MC args ys
   | none=>false
  | .callv f args=>match pL p.op with
   | some (g,ys)=>VA f g&&MC args ys
   | none=>false
  | .mnext none xs=>match p.op with
   | .next y isS=>!isS&&MC xs [y]
   | _=>false
  | .mnext (some _) _=>false
  | op=>zT P op p.op
def MH (P:Program)(nt:Nat)(ops:Array Oper):List AOp->Nat->Bool
 | [],i=>i==ops.size
 | o::r,i=>match ops[i]? with
  | some p=>HI P nt ops o p&&MH P nt ops r (i+1)
  | none=>false
theorem lZ (H:Rel gl nt M0 h0 μ0 e h x a w μ){ops:Array Oper}{g:Option (Nat × Bool)}{p:Oper}(hc:z1w ops nt g p.guard=true){b:Bool}(hw:wanted g e=some b):Region.wanted p (yielded ops a.tmps)=b:=by
 unfold Region.wanted;unfold z1w at hc;split at hc
 ·rename_i hg
  rw[hg];simp only[wanted,Option.some.injEq]at hw;exact hw
 ·rename_i t b1 j b2 hg
  rw[hg];simp only[Bool.and_eq_true,beq_iff_eq,decide_eq_true_eq]at hc;obtain⟨⟨rfl,ht⟩,hj⟩:=hc;split at hj
  ·rename_i o ho
   simp only[beq_iff_eq]at hj;have hsz:t<a.tmps.size:=Nat.lt_of_lt_of_le ht H.size
   have hR:=H.env t
   have hget:a.tmps[t]?=some (a.tmps.getD t undef):=by simp [Array.getElem?_eq_getElem hsz,Array.getD,hsz]
   simp only[yielded,ho,Option.bind_some,hj,hget];unfold wanted at hw;dsimp only at hw;split at hw
   ·rename_i c hv
    rw[hv]at hR;rw[hR.p_bool];have hw':=Option.some.inj hw
    rw[<-hw'];cases c <;> cases b1 <;> rfl
   ·rename_i hv
    rw[hv]at hR;generalize a.tmps.getD t undef=z at hR;injection hw with hw
    subst hw;cases hR;cases b1 <;> rfl
   ·cases hw
  ·cases hj
 ·cases hc
theorem oJ {C:Hd}(hC:∀ f a h K,C f a h K->aD P gl f a h K){ops:Array Oper}{Q:Exit->Act->World->Prop} :
 ∀(aops:List AOp) (i:Nat) {e:List (Nat×AV)} {h:aA} {x:Esc} {K:List (Nat×AV)->aA->Esc->Prop} {a:Act} {w:World} {μ:Mu},MH P nt ops aops i=true->lB C gl aops e h x K->Rel gl nt M0 h0 μ0 e h x a w μ ->
  (∀e h x a w μ,K e h x->Rel gl nt M0 h0 μ0 e h x a w μ->Q .normal a w)->wpOps P ops Q (List.range' i (ops.size-i)) a w
 | [],i,e,h,x,K,a,w,μ,hc,H,R,hK=>by
  simp only[MH,beq_iff_eq]at hc;subst hc;simp only[Nat.sub_self,List.range'_zero,wpOps];exact hK _ _ _ _ _ _ H R
 | o::r,i,e,h,x,K,a,w,μ,hc,H,R,hK=>by
  simp only[MH]at hc;split at hc
  ·rename_i p hp
   have hi:i<ops.size:=by
    rcases Nat.lt_or_ge i ops.size with q|q
    ·exact q
    ·rw[Array.getElem?_eq_none q]at hp;cases hp
   simp only[Bool.and_eq_true]at hc;obtain⟨c1,c2⟩:=hc;have hr:List.range' i (ops.size-i)=i::List.range' (i+1) (ops.size-(i+1)):=by
    rw[show ops.size-i=(ops.size-(i+1))+1 by omega,List.range'_succ]
   rw[hr];simp only[wpOps,hp];obtain⟨dst,guard,op⟩:=o;unfold HI at c1;simp only[Bool.and_eq_true,beq_iff_eq]at c1;obtain⟨⟨⟨d1,d2⟩,d3⟩,d4⟩:=c1;have hd:∀j,dst=some j->j<nt:=λj hj=>by subst hj;simpa using d2
   subst d1;unfold lB at H;dsimp only at H;split at H
   ·rename_i hw
    rw[if_pos (lZ R d3 hw)];left;have call:∀(f:Nat) (asv:List AV) (g:Operand) (ys:List Operand) (caps:List AV) (cvs:List Value),pL p.op=some (g,ys)->a.eval g = .func (.func f) #[] cvs.toArray->caps.length=cvs.length ->
     (∀(j:Nat) (y:AV) (v:Value),caps[j]?=some y->cvs[j]?=some v->RAV (imm h μ w) h μ y v)->asv.length=ys.length ->
     (∀(j:Nat) (y:AV) (v:Value),asv[j]?=some y->(ys.map a.eval)[j]?=some v->RAV (imm h μ w) h μ y v) ->
     C f (asv++caps) h (λv h' x'=>lB C gl r (put p.dst v e) h' (x'++x) K)->p.wp P a w (wpOps P ops Q (List.range' (i+1) (ops.size-(i+1)))) Q:=by
     intro f asv g ys caps cvs hcall hg hcl hcr hal har HC;have hco:=hC _ _ _ _ HC μ w (ys.map a.eval++cvs) R.heap R.glob (by simp [hal,hcl]) (λj y v hy hv=>by
      rcases Nat.lt_or_ge j asv.length with q|q
      ·rw[List.getElem?_append_left q]at hy
       rw[List.getElem?_append_left (by simpa [<-hal] using q)]at hv
       exact har j y v hy hv
      ·rw[List.getElem?_append_right q]at hy
       rw[List.getElem?_append_right (by simpa [<-hal] using q)]at hv
       exact hcr _ y v hy (by simpa [<-hal] using hv))
     unfold Oper.wp;have harr:(ys.map a.eval++cvs).toArray=(ys.map a.eval).toArray++cvs.toArray:=by simp
     rcases hco with⟨q1,q2⟩|⟨u,w',v,h',x',μ',q1,k1,k2,k3,k4,k5⟩
     case inr=>
      rw[QY hcall hg,<-harr,q1,Oper.upon_value];exact oJ hC r (i+1) c2 k1 (R.step hd k3 k4 k5 k2) hK
     rw[QY hcall hg,<-harr,q1 w];rw[Oper.upon_enter];refine q2.mono λen w' he=>?_
     cases en with
     | returned u=>
      obtain⟨v,h',x',μ',k1,k2,k3,k4,k5⟩:=he;exact oJ hC r (i+1) c2 k1 (R.step hd k3 k4 k5 k2) hK
     | panicked _=>exact he.elim
     | outgrown=>exact he.elim
    cases op;case call f args=>
     dsimp only at H d4;split at d4
     ·rename_i g ys hcall
      simp only[Bool.and_eq_true]at d4;have hg:=R.opds _ _ d4.1
      have hgv:a.eval g = .func (.func f) #[] #[]:=by
       simp only[Opd.ev]at hg;generalize a.eval g=z at hg;cases hg with
       | fn _ _ vs hl hr=>
        have:vs=[]:=List.length_eq_zero_iff.1 (by simpa using hl.symm)
        subst this;rfl
      exact call f _ g ys [] [] hcall hgv rfl (λj y v h1 h2=>by simp at h1) (by simp [kJ d4.2]) (lJ R.opds d4.2) (by simpa using H)
     ·cases d4
    case callv f args=>
     dsimp only at H d4;split at d4
     ·rename_i g ys hcall
      simp only[Bool.and_eq_true]at d4;split at H
      ·rename_i fn caps hf
       have hg:=R.opds _ _ d4.1
       rw[hf]at hg;generalize hz:a.eval g=z at hg;cases hg with
       | fn _ _ vs hl hr=>exact call fn _ g ys caps vs hcall hz hl hr (by simp [kJ d4.2]) (lJ R.opds d4.2) H
      ·exact H.elim
     ·cases d4
    case mnext osh xs=>
     cases osh with
     | some sh=>
      dsimp only at d4;cases d4
     | none=>
     dsimp only at H d4;split at d4
     ·rename_i y isS hop
      simp only[Bool.and_eq_true,Bool.not_eq_true']at d4;obtain⟨rfl,d5⟩:=d4;obtain⟨q1,rfl,d6⟩:=zr1 d5;split at H
      ·rename_i l hl
       obtain⟨z,hz,nx,w',μ',r1,r2,r3,r4,r5⟩:=zrh (ty:=p.type) R.heap (R.opds _ _ d6) hl;unfold Oper.wp;have e1:execOp a.eval p=(do pure (.value (<-Instr.next (a.eval y) false p.type)):Sem Next):=by unfold execOp;rw[hop]
       rw[e1,r1];rcases r2 with⟨u,rfl,hu⟩|⟨rfl,hv⟩
       ·rw[Oper.upon_value]
        exact oJ hC r (i+1) c2 (H.2 z hz) (R.step hd r3 r4 r5 hu) hK
       ·rw[Oper.upon_skip]
        exact oJ hC r (i+1) c2 (H.2 z hz) (R.step hd r3 r4 r5 (by rw[hv];exact .und undef)) hK
      ·exact H.elim
     ·cases d4
    all_goals
     dsimp only at H d4;split at H
     ·rename_i v h' x' ha
      obtain⟨nx,w',μ',r1,r2,r3,r4,r5⟩:=zcP (o:=p) d4 (λ_=>rfl) (λ_=>rfl) R.heap R.opds ha
      unfold Oper.wp;rw[r1];rcases r2 with⟨u,rfl,hu⟩|⟨rfl,rfl⟩
      ·rw[Oper.upon_value]
       exact oJ hC r (i+1) c2 H (R.step hd r3 r4 r5 hu) hK
      ·rw[Oper.upon_skip]
       exact oJ hC r (i+1) c2 H (R.step hd r3 r4 r5 (.und _)) hK
     ·exact H.elim
   ·rename_i hw
    rw[if_neg (by rw[lZ R d3 hw];simp)]
    exact oJ hC r (i+1) c2 H (R.skip hd) hK
   ·exact H.elim
  ·cases hc
end
section
variable {h h':aA} {μ μ':Mu} {w w':World} {P:Program} {M M':Mem}
variable {gl:Nat->Option PV} {nt:Nat} {M0:Mem} {h0:aA} {μ0:Mu} {e:List (Nat × AV)} {x:Esc} {a:Act}
theorem za2 {C:Hd}(hC:∀ f a h K,C f a h K->aD P gl f a h K){ops:Array Oper}{Q:Exit->Act->World->Prop}{o:AOp}{p:Oper}{i:Nat}(hp:ops[i]?=some p)(hc:HI P nt ops o p=true)
 {g g':aA} {v:AV} {y:Esc} (R:Rel gl nt M0 h0 μ0 e g x a w μ) (H:ADo C gl o e g v g' y) {K:Act->World->Prop}
 (hK:∀a' w' μ' u,a'=a.put p.dst u->HeapRel g' μ' w'->Evo (imm g μ w) g μ (imm g' μ' w') g' μ'->vA g g' y->RAV (imm g' μ' w') g' μ' v u->K a' w'):wpOp P ops Q i K a w:=by
 unfold wpOp;rw[hp];dsimp only;obtain⟨dst,guard,op⟩:=o;unfold HI at hc;simp only[Bool.and_eq_true,beq_iff_eq]at hc;obtain⟨⟨⟨d1,d2⟩,d3⟩,d4⟩:=hc;subst d1;unfold ADo at H;dsimp only at H;split at H
 ·rename_i hw
  rw[if_pos (lZ R d3 hw)];left;have call:∀(f:Nat) (asv:List AV) (gg:Operand) (ys:List Operand) (caps:List AV) (cvs:List Value),pL p.op=some (gg,ys)->a.eval gg = .func (.func f) #[] cvs.toArray->caps.length=cvs.length ->
   (∀(j:Nat) (y:AV) (v:Value),caps[j]?=some y->cvs[j]?=some v->RAV (imm g μ w) g μ y v)->asv.length=ys.length ->
   (∀(j:Nat) (y:AV) (v:Value),asv[j]?=some y->(ys.map a.eval)[j]?=some v->RAV (imm g μ w) g μ y v) ->
   C f (asv++caps) g (λv1 h1 x1=>v1=v/\h1=g'/\x1=y)->p.wp P a w K Q:=by
   intro f asv gg ys caps cvs hcall hg hcl hcr hal har HC;have hco:=hC _ _ _ _ HC μ w (ys.map a.eval++cvs) R.heap R.glob (by simp [hal,hcl]) (λj y v hy hv=>by
    rcases Nat.lt_or_ge j asv.length with q|q
    ·rw[List.getElem?_append_left q]at hy
     rw[List.getElem?_append_left (by simpa [<-hal] using q)]at hv
     exact har j y v hy hv
    ·rw[List.getElem?_append_right q]at hy
     rw[List.getElem?_append_right (by simpa [<-hal] using q)]at hv
     exact hcr _ y v hy (by simpa [<-hal] using hv))
   unfold Oper.wp;have harr:(ys.map a.eval++cvs).toArray=(ys.map a.eval).toArray++cvs.toArray:=by simp
   rcases hco with⟨q1,q2⟩|⟨u,w',v1,h1,x1,μ',q1,⟨rfl,rfl,rfl⟩,k2,k3,k4,k5⟩
   case inr=>
    rw[QY hcall hg,<-harr,q1,Oper.upon_value];exact hK _ _ μ' u rfl k3 k4 k5 k2
   rw[QY hcall hg,<-harr,q1 w];rw[Oper.upon_enter];refine q2.mono λen w' he=>?_
   cases en with
   | returned u=>
    obtain⟨v1,h1,x1,μ',⟨rfl,rfl,rfl⟩,k2,k3,k4,k5⟩:=he;exact hK _ _ μ' u rfl k3 k4 k5 k2
   | panicked _=>exact he.elim
   | outgrown=>exact he.elim
  cases op;case call f args=>
   dsimp only at H d4;split at d4
   ·rename_i gg ys hcall
    simp only[Bool.and_eq_true]at d4;have hg:=R.opds _ _ d4.1
    have hgv:a.eval gg = .func (.func f) #[] #[]:=by
     simp only[Opd.ev]at hg;generalize a.eval gg=z at hg;cases hg with
     | fn _ _ vs hl hr=>
      have:vs=[]:=List.length_eq_zero_iff.1 (by simpa using hl.symm)
      subst this;rfl
    exact call f _ gg ys [] [] hcall hgv rfl (λj y v h1 h2=>by simp at h1) (by simp [kJ d4.2]) (lJ R.opds d4.2) (by simpa using H)
   ·cases d4
  case callv f args=>
   dsimp only at H d4;split at d4
   ·rename_i gg ys hcall
    simp only[Bool.and_eq_true]at d4;split at H
    ·rename_i fn caps hf
     have hg:=R.opds _ _ d4.1
     rw[hf]at hg;generalize hz:a.eval gg=z at hg;cases hg with
     | fn _ _ vs hl hr=>exact call fn _ gg ys caps vs hcall hz hl hr (by simp [kJ d4.2]) (lJ R.opds d4.2) H
    ·exact H.elim
   ·cases d4
  case mnext sh xs=>exact H.elim
  all_goals
   dsimp only at H d4;obtain⟨nx,w',μ',r1,r2,r3,r4,r5⟩:=zcP (o:=p) d4 (λ_=>rfl) (λ_=>rfl) R.heap R.opds H
   unfold Oper.wp;rw[r1];rcases r2 with⟨u,rfl,hu⟩|⟨rfl,hv⟩
   ·rw[Oper.upon_value]
    exact hK _ _ μ' u rfl r3 r4 r5 hu
   ·rw[Oper.upon_skip]
    exact hK _ _ μ' undef rfl r3 r4 r5 (hv ▸ .und _)
 ·rename_i hw
  obtain⟨rfl,rfl,rfl⟩:=H;rw[if_neg (by rw[lZ R d3 hw];simp)]
  exact hK _ _ μ undef rfl R.heap (Evo.refl _ _ _) (vA.refl _ _) .skp
 ·exact H.elim
def AO.hfree:AO->Bool
 | .mv _ | .pick _ _ _ | .build _ _ | .nilchk _ | .bin _ _ _ | .eqa _ _ _ _ | .isnil _ _ _ | .mkif _ | .un _ _ | .mkfn _ _ | .slstr _ _ _ | .faddr _ _ _ | .field _ _ _ | .iaddra _ _ _ _ | .idxa _ _ _ _ | .idxs _ _ | .ext _ _ | .len _ | .lens _ | .mx _ | .mn _=>true
 | _=>false
theorem FK {α:Type}{F:α->AV}{X:Option α}{h h1 g:aA}{v:AV}{y:Esc}(H:Option.map (λv=>(F v,h,([]:Esc))) X=some (v,h1,y)):Option.map (λv=>(F v,g,([]:Esc))) X=some (v,g,[]):=by
 cases X with
 | none=>cases H
 | some z=>simp at H ⊢;exact H.1
theorem nilc {α:Type}{b:Bool}{F:α->AV}{X:Option α}{h h1 g:aA}{u v:AV}{y:Esc}(H:(bif b then some (u,h,([]:Esc)) else Option.map (λv=>(F v,h,([]:Esc))) X)=some (v,h1,y)):(bif b then some (u,g,([]:Esc)) else Option.map (λv=>(F v,g,([]:Esc))) X)=some (v,g,[]):=by
 cases b with
 | true=>simp at H ⊢;exact H.1
 | false=>exact FK H
theorem zoU {op:AO}(hf:op.hfree=true){ev:Opd->AV}{v:AV}{h1:aA}{y:Esc}(H:aop op ev h=some (v,h1,y))(g:aA):aop op ev g=some (v,g,[]):=by
 cases op <;> first
  | (cases hf;done)
  | (simp only[aop]at H ⊢;simp_all;done)
  | (simp only[aop]at H ⊢;exact FK H)
  | (simp only[aop]at H ⊢;exact nilc H)
  | (simp only[aop]at H ⊢;split at H <;> first|(simp_all;done)|exact FK H|(split at H <;> first|(simp_all;done)|exact FK H|(rw[if_pos ‹_›];exact FK H)|(split at H <;> first|(simp_all;done)|exact FK H|(rw[if_pos ‹_›];exact FK H))))
structure Tr (C:Hd) (gl:Nat->Option PV) (ds:List DOp) (m:Nat) (dn:sD) (hs:List aA) (E:Nat->List (Nat × AV)) (H:Nat->aA) (V:Nat->AV) (X Y:Nat->Esc) (i:Nat) (o:DOp):Prop where
 run:ADo C gl o.op (IA (some o.rd) (E (m+i))) (H (m+i)) (V (m+i)) (H (m+i+1)) (Y (m+i))
 env:E (m+i+1)=put o.op.dst (V (m+i)) (E (m+i))
 esc:X (m+i+1)=Y (m+i)++X (m+i)
 still:o.eff=false->H (m+i+1)=H (m+i)/\Y (m+i)=[]
 early:∀k∈o.early,∃g,(k<m/\hs[k]?=some g∨m<=k/\k<m+i/\g=H k)/\ADo C gl o.op (IA (some o.rd) (E (m+i))) g (V (m+i)) g []
 again:∀j∈o.again,(∃q,j<m/\dn[j]?=some q/\ADo C gl q.1 q.2.1 (H (m+i+1)) q.2.2 (H (m+i+1)) []) ∨
  (m<=j/\∃q,ds[j-m]?=some q/\ADo C gl q.op (IA (some q.rd) (E j)) (H (m+i+1)) (V j) (H (m+i+1)) [])
end
section
variable {h h':aA} {μ μ':Mu} {w w':World} {P:Program} {M M':Mem}
variable {gl:Nat->Option PV} {nt:Nat} {M0:Mem} {h0:aA} {μ0:Mu} {e:List (Nat × AV)} {x:Esc} {a:Act}
theorem ze4 {C:Hd}:∀(ds:List DOp) (m:Nat) (dn:sD) (hs:List aA) (e:List (Nat×AV)) (h:aA) (x:Esc) (K:List (Nat×AV)->aA->Esc->Prop),QD C gl ds dn hs e h x K->dn.length=m->hs.length=m ->
 ∃E H V X Y,E m=e/\H m=h/\X m=x/\(∀i o,ds[i]?=some o->Tr C gl ds m dn hs E H V X Y i o)/\K (E (m+ds.length)) (H (m+ds.length)) (X (m+ds.length))
 | [],m,dn,hs,e,h,x,K,HD,h1,h2=>⟨λ_=>e,λ_=>h,λ_=>.und,λ_=>x,λ_=>[],rfl,rfl,rfl,λi o ho=>by simp at ho,HD⟩
 | o::r,m,dn,hs,e,h,x,K,HD,h1,h2=>by
  obtain⟨v,h',y,d1,d2,d3,d4,d5⟩:=HD;obtain⟨E,H,V,X,Y,e1,e2,e3,e4,e5⟩:=ze4 r (m+1) _ _ _ _ _ K d5 (by simp [h1]) (by simp [h2])
  refine⟨λi=>if i=m then e else E i,λi=>if i=m then h else H i,λi=>if i=m then v else V i,λi=>if i=m then x else X i,λi=>if i=m then y else Y i,by simp,by simp,by simp,?_,?_⟩
  ·intro i o' ho'
   cases i with
   | zero=>
    simp only[List.getElem?_cons_zero,Option.some.injEq]at ho';subst ho';refine⟨?_,?_,?_,λhf=>?_,λk hk=>?_,λj hj=>?_⟩
    ·simp only[Nat.add_zero,if_true,Nat.succ_ne_self,if_false,e2];exact d1
    ·simp only[Nat.add_zero,if_true,Nat.succ_ne_self,if_false,e1]
    ·simp only[Nat.add_zero,if_true,Nat.succ_ne_self,if_false,e3]
    ·simp only[Nat.add_zero,if_true,Nat.succ_ne_self,if_false,e2];exact d2 hf
    ·obtain⟨g,q1,q2⟩:=d3 k hk
     refine⟨g,.inl ⟨by rw[<-h2];exact MA q1,q1⟩,?_⟩
     simp only[Nat.add_zero,if_true];exact q2
    ·obtain⟨q,q1,q2⟩:=d4 j hj
     refine .inl ⟨q,by rw[<-h1];exact MA q1,q1,?_⟩
     simp only[Nat.add_zero,Nat.succ_ne_self,if_false,e2];exact q2
   | succ i=>
    simp only[List.getElem?_cons_succ]at ho';have T:=e4 i o' ho'
    have hm2:m+(i+1)=m+1+i:=by omega
    have hm3:¬(m+1+i=m):=by omega
    have hm4:¬(m+1+i+1=m):=by omega
    refine⟨?_,?_,?_,λhf=>?_,λk hk=>?_,λj hj=>?_⟩
    ·simp only[hm2,hm3,hm4,if_false];exact T.run
    ·simp only[hm2,hm3,hm4,if_false];exact T.env
    ·simp only[hm2,hm3,hm4,if_false];exact T.esc
    ·simp only[hm2,hm3,hm4,if_false];exact T.still hf
    ·obtain⟨g,q1,q2⟩:=T.early k hk
     refine⟨g,?_,by simp only[hm2,hm3,if_false];exact q2⟩
     rcases q1 with⟨q1,q3⟩|⟨q1,q3,q4⟩
     ·rcases Nat.lt_or_ge k m with q5|q5
      ·left
       rw[List.getElem?_append_left (by omega)]at q3
       exact⟨q5,q3⟩
      ·have:k=m:=by omega
       subst this;right;rw[List.getElem?_append_right (by omega),h2,Nat.sub_self]at q3
       simp at q3;exact⟨Nat.le_refl _,by omega,by simp [q3]⟩
     ·right
      exact⟨by omega,by omega,by rw[if_neg (by omega)];exact q4⟩
    ·rcases T.again j hj with⟨q,q1,q2,q3⟩|⟨q1,q,q2,q3⟩
     ·rcases Nat.lt_or_ge j m with q5|q5
      ·left
       rw[List.getElem?_append_left (by omega)]at q2
       exact⟨q,q5,q2,by simp only[hm2,hm4,if_false];exact q3⟩
      ·have:j=m:=by omega
       subst this;right;rw[List.getElem?_append_right (by omega),h1,Nat.sub_self]at q2
       simp at q2;subst q2;exact⟨Nat.le_refl _,o,by simp,by simp only[hm2,hm4,if_false,if_true];exact q3⟩
     ·right
      refine⟨by omega,q,?_,?_⟩
      ·rw[show j-m=(j-(m+1))+1 by omega]
       simpa using q2
      ·simp only[hm2,hm4,if_false]
       rw[if_neg (by omega),if_neg (by omega)]
       exact q3
  ·dsimp only
   rw[if_neg (by simp),if_neg (by simp),if_neg (by simp)]
   rw[show m+(o::r).length=m+1+r.length by simp;omega]
   exact e5
def lk (dst:Nat->Option Nat)(V:Nat->AV)(e:List (Nat × AV))(sel:Nat->Bool):Nat->Nat->AV
 | 0,t=>bA e t
 | m+1,t=>if sel m=true/\dst m=some t then V m else lk dst V e sel m t
theorem aW {dst:Nat->Option Nat}{V:Nat->AV}{e:List (Nat × AV)}{s s':Nat->Bool}{t:Nat}:∀(n:Nat),(∀j,j<n->dst j=some t->s j=s' j)->lk dst V e s n t=lk dst V e s' n t
 | 0,_=>rfl
 | n+1,h=>by
  simp only[lk];rw[aW n (λj hj=>h j (by omega))]
  by_cases hd:dst n=some t
  ·rw[h n (by omega) hd]
  ·simp [hd]
theorem bW {dst:Nat->Option Nat}{V:Nat->AV}{e:List (Nat × AV)}{s:Nat->Bool}{t:Nat}{i:Nat}:∀(n:Nat),i<=n->(∀j,i<=j->j<n->dst j=some t->s j=false)->lk dst V e s n t=lk dst V e s i t
 | 0,hi,_=>by
  have:i=0:=by omega
  subst this;rfl
 | n+1,hi,h=>by
  rcases Nat.lt_or_ge n i with q|q
  ·have:i=n+1:=by omega
   subst this;rfl
  ·simp only[lk]
   rw[if_neg,bW n q (λj h1 h2=>h j h1 (by omega))]
   rintro⟨h1,h2⟩
   rw[h n q (by omega) h2]at h1
   cases h1
end
section
variable {h h':aA} {μ μ':Mu} {w w':World} {P:Program} {M M':Mem}
variable {gl:Nat->Option PV} {nt:Nat} {M0:Mem} {h0:aA} {μ0:Mu} {e:List (Nat × AV)} {x:Esc} {a:Act} {ops:Array Oper}
def xE (o:Oper):List Nat:=(o.after.toList.filter (Region.binds .any)).map (·.on)
inductive Bef (ops:Array Oper):Nat->Nat->Prop
 | one {k i:Nat} {o:Oper} (ho:ops[i]?=some o) (hk:k∈xE o):Bef ops k i
 | more {k m i:Nat} {o:Oper} (h:Bef ops k m) (ho:ops[i]?=some o) (hm:m∈xE o):Bef ops k i
def CT:List (List Nat)->List (List Nat)->List (List Nat)
 | [],t=>t
 | es::r,t=>CT r (t++[(es++es.flatMap λm=>t.getD m []).eraseDups])
theorem z9Z:∀ (os:List Oper)(m:Nat)(t:List (List Nat)),ops.toList.drop m=os->t.length=m->(∀i l,t[i]?=some l->∀k∈l,Bef ops k i) ->
 ∀i l,(CT (os.map xE) t)[i]?=some l->∀k∈l,Bef ops k i
 | [],m,t,_,_,ht=>ht
 | o::r,m,t,ho,hm,ht=>by
  have hom:ops[m]?=some o:=by
   have:(ops.toList.drop m)[0]?=some o:=by rw[ho];rfl
   rw[List.getElem?_drop]at this;simpa using this
  have hr:ops.toList.drop (m+1)=r:=by
   rw[<-List.drop_drop,ho];rfl
  simp only[List.map_cons,CT];refine z9Z r (m+1) _ hr (by simp [hm]) (λi l hi k hk=>?_)
  rcases pH hi with hi|⟨hi,hl⟩
  ·exact ht i l hi k hk
  ·rw[hi,hm]
   rw[hl]at hk;rw[List.mem_eraseDups]at hk;rcases List.mem_append.1 hk with hk|hk
   ·exact .one hom hk
   ·obtain⟨q,q1,q2⟩:=List.mem_flatMap.1 hk
    cases hq:t[q]? with
    | none=>simp [List.getD,hq]at q2
    | some l'=>
     simp [List.getD,hq]at q2;exact .more (ht q l' hq k q2) hom q1
def KR (tab:List (List Nat))(i j:Nat)(p q:DOp):Bool:=
 (tab.getD j []).contains i ||
  (!(p.eff&&q.eff)&&(match p.op.dst with|some t=>q.op.dst != some t && !q.rd.contains t|none=>true)&&(match q.op.dst with|some t=>!p.rd.contains t|none=>true) &&
   (!(q.eff && !p.eff)||p.op.op.hfree||q.again.contains i)&&(!(p.eff && !q.eff)||q.op.op.hfree||q.early.contains i))
def NY (tab:List (List Nat))(j:Nat)(q:DOp):List DOp->Nat->Bool
 | [],_=>true
 | p::r,i=>decide (j<=i)||(KR tab i j p q&&NY tab j q r (i+1))
def OY (tab:List (List Nat))(all:List DOp):List DOp->Nat->Bool
 | [],_=>true
 | q::r,j=>NY tab j q all 0&&OY tab all r (j+1)
def zV:List Oper->Nat->Bool
 | [],_=>true
 | o::r,i=>(xE o).all (λk=>decide (k<i))&&zV r (i+1)
def wT (P:Program)(nt:Nat)(ops:Array Oper)(ds:List DOp):Bool:=
 MH P nt ops (ds.map (·.op)) 0&&zV ops.toList 0&&OY (CT (ops.toList.map xE) []) ds ds 0
theorem zdq {tab:List (List Nat)}{j:Nat}{q:DOp}:∀{l:List DOp} {i:Nat},NY tab j q l i=true->∀k p,l[k]?=some p->i+k<j->KR tab (i+k) j p q=true
 | [],i,_,k,p,h,_=>by simp at h
 | p0::r,i,h,k,p,hk,hlt=>by
  simp only[NY,Bool.or_eq_true,decide_eq_true_eq,Bool.and_eq_true]at h;rcases h with h|⟨h1,h2⟩
  ·omega
  ·cases k with
   | zero=>simp at hk;subst hk;exact h1
   | succ k=>
    have:=zdq h2 k p (by simpa using hk) (by omega)
    rwa [show i+1+k=i+(k+1) by omega]at this
theorem zdt {tab:List (List Nat)}{all:List DOp}:∀{l:List DOp} {j:Nat},OY tab all l j=true->∀k q,l[k]?=some q->∀i p,all[i]?=some p->i<j+k->KR tab i (j+k) p q=true
 | [],j,_,k,q,h,_,_,_,_=>by simp at h
 | q0::r,j,h,k,q,hk,i,p,hp,hlt=>by
  simp only[OY,Bool.and_eq_true]at h;cases k with
  | zero=>
   simp at hk;subst hk;have:=zdq h.1 i p hp (by simpa using hlt)
   simpa using this
  | succ k=>
   have:=zdt h.2 k q (by simpa using hk) i p hp (by omega)
   rwa [show j+1+k=j+(k+1) by omega]at this
theorem zaA:∀ {l:List Oper}{i:Nat},zV l i=true->∀j o,l[j]?=some o->∀k∈xE o,k<i+j
 | [],_,_,j,o,h,_,_=>by simp at h
 | o0::r,i,h,j,o,hj,k,hk=>by
  simp only[zV,Bool.and_eq_true,List.all_eq_true,decide_eq_true_eq]at h;cases j with
  | zero=>simp at hj;subst hj;simpa using h.1 k hk
  | succ j=>have:=zaA h.2 j o (by simpa using hj) k hk;omega
theorem z9P:∀ {l:List AOp}{i:Nat},MH P nt ops l i=true->i+l.length=ops.size/\∀j o,l[j]?=some o->∃p,ops[i+j]?=some p/\HI P nt ops o p=true
 | [],i,h=>by simp [MH]at h;exact⟨by simpa using h,λj o hj=>by simp at hj⟩
 | o0::r,i,h=>by
  simp only[MH]at h;split at h
  ·rename_i p hp
   simp only[Bool.and_eq_true]at h;obtain⟨h1,h2⟩:=z9P h.2;refine⟨by simp;omega,λj o hj=>?_⟩
   cases j with
   | zero=>simp at hj;subst hj;exact⟨p,hp,h.1⟩
   | succ j=>
    obtain⟨p',q1,q2⟩:=h2 j o (by simpa using hj)
    exact⟨p',by rw[<-q1];congr 1;omega,q2⟩
  ·cases h
theorem ziw {o:AOp}{p:Oper}(h:HI P nt ops o p=true):o.dst=p.dst/\∀j,o.dst=some j->j<nt:=by
 unfold HI at h;simp only[Bool.and_eq_true,beq_iff_eq]at h;obtain⟨⟨⟨d1,d2⟩,d3⟩,d4⟩:=h;exact⟨d1,λj hj=>by rw[hj]at d2;simpa using d2⟩
theorem zfI (l:List Nat)(e:List (Nat × AV))(t:Nat):bA (IA (some l) e) t=if t∈l then bA e t else .und:=by
 simp only[IA];induction l with
 | nil=>simp [bA]
 | cons k r ih=>
  simp only[List.map_cons,bA];by_cases hk:k=t
  ·subst hk;simp
  ·rw[if_neg hk,ih]
   have:¬t=k:=λh=>hk h.symm
   simp [this]
def Down (ops:Array Oper)(sel:Nat->Bool):Prop:=∀i o,ops[i]?=some o->sel i=true->∀k∈xE o,sel k=true
theorem Bef.down {sel:Nat->Bool}(hD:Down ops sel){k i:Nat}(hb:Bef ops k i):sel i=true->sel k=true:=by
 induction hb with
 | one ho hk=>exact λhi=>hD _ _ ho hi _ hk
 | more _ ho hm ih=>exact λhi=>ih (hD _ _ ho hi _ hm)
theorem Bef.ready {sel:Nat->Bool}(hD:Down ops sel){k i:Nat}(hb:Bef ops k i)(hr:∀ o,ops[i]?=some o->∀ k∈xE o,sel k=true):sel k=true:=by
 cases hb with
 | one ho hk=>exact hr _ ho _ hk
 | more hb ho hm=>exact hb.down hD (hr _ ho _ hm)
end
section
variable {h h':aA} {μ μ':Mu} {w w':World} {P:Program} {M M':Mem}
variable {gl:Nat->Option PV} {nt:Nat} {M0:Mem} {h0:aA} {μ0:Mu} {e:List (Nat × AV)} {x:Esc} {a:Act} {ops:Array Oper}
theorem zr9 {tab:List (List Nat)}(ht:∀ i l,tab[i]?=some l->∀ k∈l,Bef ops k i){i j:Nat}{p q:DOp}(h:KR tab i j p q=true) :
 Bef ops i j∨(¬(p.eff=true/\q.eff=true)/\(∀t,p.op.dst=some t->q.op.dst≠some t/\t∉q.rd)/\(∀t,q.op.dst=some t->t∉p.rd) /\
  (q.eff=true->p.eff=false->p.op.op.hfree=true∨i∈q.again)/\(p.eff=true->q.eff=false->q.op.op.hfree=true∨i∈q.early)):=by
 unfold KR at h;rw[Bool.or_eq_true]at h;rcases h with h|h
 ·left
  cases hq:tab[j]? with
  | none=>simp [List.getD,hq]at h
  | some l=>simp [List.getD,hq]at h;exact ht j l hq i h
 ·right
  simp only[Bool.and_eq_true,Bool.not_eq_true',Bool.or_eq_true]at h;obtain⟨⟨⟨⟨h1,h2⟩,h3⟩,h4⟩,h5⟩:=h;refine⟨λhab=>by(rw[hab.1,hab.2]at h1;cases h1),λt ht=>?_,λt ht=>?_,λha hb=>?_,λha hb=>?_⟩
  ·rw[ht]at h2
   simpa using h2
  ·rw[ht]at h3
   simpa using h3
  ·rw[ha,hb]at h4
   simpa using h4
  ·rw[ha,hb]at h5
   simpa using h5
theorem zaH {C:Hd}{ds:List DOp}{E:Nat->List (Nat × AV)}{H:Nat->aA}{V:Nat->AV}{X Y:Nat->Esc}(T:∀ i o,ds[i]?=some o->Tr C gl ds 0 [] [] E H V X Y i o)(e0:E 0=e)(t:Nat) :
 ∀i,i<=ds.length->bA (E i) t=lk (λi=>(ds[i]?).bind (·.op.dst)) V e (λ_=>true) i t
 | 0,_=>by simp [lk,e0]
 | i+1,hi=>by
  have ho:=List.getElem?_eq_getElem (show i<ds.length by omega)
  have hT:=(T i _ ho).env
  simp only[Nat.zero_add]at hT;rw[hT,nL,zaH T e0 t i (by omega)]
  simp only[lk,ho,Option.bind_some,true_and]
theorem zes {C:Hd}{ds:List DOp}{E:Nat->List (Nat × AV)}{H:Nat->aA}{V:Nat->AV}{X Y:Nat->Esc}(T:∀ i o,ds[i]?=some o->Tr C gl ds 0 [] [] E H V X Y i o){c:Nat} :
 ∀d,c+d<=ds.length->(∀k o,c<=k->k<c+d->ds[k]?=some o->o.eff=false)->H (c+d)=H c/\X (c+d)=X c
 | 0,_,_=>⟨rfl,rfl⟩
 | d+1,hd,hn=>by
  have ho:=List.getElem?_eq_getElem (show c+d<ds.length by omega)
  have hT:=T _ _ ho
  have hs:=hT.still (hn _ _ (by omega) (by omega) ho)
  obtain⟨h1,h2⟩:=zes T d (by omega) (λk o h1 h2 h3=>hn k o h1 (by omega) h3)
  simp only[Nat.zero_add]at hs;have he:=hT.esc
  simp only[Nat.zero_add]at he;rw[hs.2]at he;exact⟨by rw[<-Nat.add_assoc,hs.1,h1],by rw[<-Nat.add_assoc,he,List.nil_append,h2]⟩
theorem zeS {C:Hd}{o:AOp}(hf:o.op.hfree=true){v:AV}{y:Esc}(H:ADo C gl o e h v h' y)(g:aA):ADo C gl o e g v g []:=by
 obtain⟨dst,guard,op⟩:=o;unfold ADo at H ⊢;dsimp only at H hf ⊢;split at H
 ·cases op
  case call f args=>cases hf
  case callv f args=>cases hf
  case mnext sh xs=>cases hf
  all_goals exact zoU hf H g
 ·exact⟨H.1,rfl,rfl⟩
 ·exact H.elim
theorem z5w {p:Nat->Prop}{c i:Nat}(h:∃ k,c<=k/\k<i/\p k):∃k,c<=k/\k<i/\p k/\∀k',c<=k'->k'<k->¬p k':=by
 obtain⟨k,h1,h2,h3⟩:=h;induction k using Nat.strongRecOn with
 | _ k ih=>
  by_cases hq:∃k',c<=k'/\k'<k/\p k'
  ·obtain⟨k',q1,q2,q3⟩:=hq
   exact ih k' q2 q1 (by omega) q3
  ·exact⟨k,h1,h2,h3,λk' q1 q2 q3=>hq ⟨k',q1,q2,q3⟩⟩
theorem za7 {C:Hd}(hC:∀ f a h K,C f a h K->aD P gl f a h K){ds:List DOp}{K:List (Nat × AV)->aA->Esc->Prop}{Q:Exit->Act->World->Prop}(hc:wT P nt ops ds=true)
 (HD:QD C gl ds [] [] e h x K) (R:Rel gl nt M0 h0 μ0 e h x a w μ) (hK:∀e h x a w μ,K e h x->Rel gl nt M0 h0 μ0 e h x a w μ->Q .normal a w) :
 wpAny P .any ops Q ops.size (Array.replicate ops.size false) a w:=by
 unfold wT at hc;simp only[Bool.and_eq_true]at hc;obtain⟨⟨c1,c2⟩,c3⟩:=hc;obtain⟨c4,c5⟩:=z9P c1;have hn:ds.length=ops.size:=by simpa using c4
 have htab:=z9Z (ops:=ops) ops.toList 0 [] (by simp) rfl (λi l hi=>by simp at hi)
 have hpair:∀(i j:Nat) (p q:DOp),ds[i]?=some p->ds[j]?=some q->i<j->Bef ops i j∨(¬(p.eff=true/\q.eff=true)/\(∀t,p.op.dst=some t->q.op.dst≠some t/\t∉q.rd)/\(∀t,q.op.dst=some t->t∉p.rd) /\
  (q.eff=true->p.eff=false->p.op.op.hfree=true∨i∈q.again)/\(p.eff=true->q.eff=false->q.op.op.hfree=true∨i∈q.early)):=λi j p q hp hq hlt=>by
  have:=zdt c3 j q hq i p hp (by omega)
  rw[Nat.zero_add]at this;exact zr9 htab this
 have hop:∀(i:Nat) (o:DOp),ds[i]?=some o->∃p,ops[i]?=some p/\HI P nt ops o.op p=true:=λi o ho=>by
  obtain⟨p,q1,q2⟩:=c5 i o.op (by simp [ho])
  rw[Nat.zero_add]at q1;exact⟨p,q1,q2⟩
 obtain⟨E,H,V,X,Y,e1,e2,e3,T,e5⟩:=ze4 ds 0 [] [] e h x K HD rfl rfl;simp only[Nat.zero_add]at e5;have hE:=λt i hi=>zaH (e:=e) T e1 t i hi
 let dst:Nat->Option Nat:=λi=>(ds[i]?).bind (·.op.dst)
 have hdst:∀(i:Nat) (o:DOp),ds[i]?=some o->dst i=o.op.dst:=λi o ho=>by show(ds[i]?).bind _=_;rw[ho];rfl
 have hdst':∀(i t:Nat),dst i=some t->∃o,ds[i]?=some o/\o.op.dst=some t:=λi t ht=>by
  cases ho:ds[i]? with
  | none=>exact absurd ht (by show(ds[i]?).bind _≠_;rw[ho];simp)
  | some o=>exact⟨o,rfl,by rw[<-hdst i o ho];exact ht⟩
 have hstill:∀c i,c<=i->i<=ds.length->(∀(k:Nat) (o:DOp),c<=k->k<i->ds[k]?=some o->o.eff=false)->H i=H c/\X i=X c:=λc i hci hi hk=>by
  have:=zes T (c:=c) (i-c) (by omega) (λk o h1 h2 h3=>hk k o h1 (by omega) h3)
  rwa [show c+(i-c)=i by omega]at this
 have done:∀(listed:Array Bool) (c:Nat) (en:List (Nat×AV)) (a:Act) (w:World) (μ:Mu),(∀i,i<ops.size->listed.getD i false=true)->(∀(k:Nat) (o:DOp),ds[k]?=some o->o.eff=true->(listed.getD k false=true↔k<c))->c<=ds.length ->
  (∀t,bA en t=lk dst V e (λi=>listed.getD i false) ds.length t)->Rel gl nt M0 h0 μ0 en (H c) (X c) a w μ->Q .normal a w:=by
  intro listed c en a w μ hall hce hcl hen R;have hHn:=hstill c ds.length hcl (Nat.le_refl _) (λk o h1 h2 h3=>by
   cases hb:o.eff with
   | false=>rfl
   | true=>have:=(hce k o h3 hb).1 (hall k (by omega));omega)
  refine hK _ _ _ a w μ e5 ?_;rw[hHn.1,hHn.2];refine⟨R.heap,λt=>?_,R.glob,R.evo,R.esc,R.size,R.defers⟩
  rw[hE t _ (Nat.le_refl _)];have:=hen t;rw[aW (s':=λ_=>true) ds.length (λj hj _=>hall j (by omega))]at this
  rw[<-this];exact R.env t
 have key:∀(fuel:Nat) (listed:Array Bool) (U:List Nat) (c:Nat) (en:List (Nat×AV)) (a:Act) (w:World) (μ:Mu),listed.size=ops.size->(∀i,i<ops.size->listed.getD i false=false->i∈U)->U.length<=fuel ->
  Down ops (λi=>listed.getD i false)->(∀(k:Nat) (o:DOp),ds[k]?=some o->o.eff=true->(listed.getD k false=true↔k<c))->(c=0∨∃(k:Nat) (o:DOp),c=k+1/\ds[k]?=some o/\o.eff=true)->c<=ds.length ->
  (∀t,bA en t=lk dst V e (λi=>listed.getD i false) ds.length t)->Rel gl nt M0 h0 μ0 en (H c) (X c) a w μ->wpAny P .any ops Q fuel listed a w:=by
  intro fuel;induction fuel with
  | zero=>
   intro listed U c en a w μ hsz hU hUl hD hce hc0 hcl hen R;have hall:∀i,i<ops.size->listed.getD i false=true:=λi hi=>by
    cases hb:listed.getD i false with
    | true=>rfl
    | false=>
     have:=hU i hi hb;have hnil:U=[]:=List.length_eq_zero_iff.1 (by omega)
     rw[hnil]at this;cases this
   refine⟨?_,done listed c en a w μ hall hce hcl hen R⟩;rw[List.eq_nil_iff_forall_not_mem];intro i hi;rw[mem_ready]at hi;obtain⟨q1,o,q2,_⟩:=hi;have hi:i<ops.size:=(Array.getElem?_eq_some_iff.1 q2).1
   have:=hall i hi;simp [Array.getD,hsz,hi]at q1 this;rw[q1]at this;cases this
  | succ fuel ih=>
   intro listed U c en a w μ hsz hU hUl hD hce hc0 hcl hen R;refine⟨λhr=>?_,λi hi=>?_⟩
   ·have hall:∀i,i<ops.size->listed.getD i false=true:=by
     intro i;induction i using Nat.strongRecOn with
     | _ i ihi=>
      intro hi;cases hb:listed.getD i false with
      | true=>rfl
      | false=>
       have hm:i∈Region.ready .any ops listed:=by
        rw[mem_ready];refine⟨by simp [Array.getD,hsz,hi]at hb ⊢;exact hb,ops[i],Array.getElem?_eq_getElem hi,λed hed hbd=>?_⟩
        have hk:ed.on∈xE ops[i]:=List.mem_map.2 ⟨ed,List.mem_filter.2 ⟨by simpa using hed,hbd⟩,rfl⟩
        have hlt:=zaA c2 i ops[i] (by simp [hi]) ed.on hk
        exact ihi ed.on (by omega) (by omega)
       rw[hr]at hm;cases hm
    exact done listed c en a w μ hall hce hcl hen R
   ·rw[mem_ready]at hi
    obtain⟨q1,p,hp,q3⟩:=hi;have hin:i<ops.size:=(Array.getElem?_eq_some_iff.1 hp).1
    have hnl:listed.getD i false=false:=by
     simp [Array.getD,hsz,hin]at q1 ⊢;exact q1
    have hready:∀o,ops[i]?=some o->∀k∈xE o,listed.getD k false=true:=by
     intro o ho k hk;rw[hp]at ho;injection ho with ho
     subst ho;obtain⟨ed,q4,rfl⟩:=List.mem_map.1 hk;obtain⟨q5,q6⟩:=List.mem_filter.1 q4;exact q3 ed (by simpa using q5) q6
    have ho:=List.getElem?_eq_getElem (show i<ds.length by omega)
    generalize ds[i]'(by omega)=o at ho
    obtain⟨p',hp',hck⟩:=hop i o ho;rw[hp]at hp';injection hp' with hp'
    subst hp';obtain⟨hd1,hd2⟩:=ziw hck;have hT:=T i o ho
    have hrun:=hT.run
    simp only[Nat.zero_add]at hrun;have before:∀(k:Nat) (q:DOp),ds[k]?=some q->k<i->Bef ops k i->listed.getD k false=true:=λk q _ _ hb=>hb.ready hD hready
    have behind:∀(k:Nat),Bef ops i k->listed.getD k false=false:=λk hb=>by
     cases hs:listed.getD k false with
     | false=>rfl
     | true=>have:=hb.down hD hs;rw[hnl]at this;cases this
    have Renv:Rel gl nt M0 h0 μ0 (IA (some o.rd) (E i)) (H c) (X c) a w μ:=by
     refine⟨R.heap,λt=>?_,R.glob,R.evo,R.esc,R.size,R.defers⟩
     rw[zfI];split
     ·rename_i htr
      have h1:=hen t
      rw[bW (i:=i) ds.length (by omega) (λj hij hj hdj=>by
       obtain⟨q,hq,hqd⟩:=hdst' j t hdj;rcases Nat.eq_or_lt_of_le hij with hh|hh
       ·subst hh;exact hnl
       ·rcases hpair i j o q ho hq hh with hb|⟨_,_,k3,_⟩
        ·exact behind j hb
        ·exact absurd htr (k3 t hqd)),aW (s':=λ_=>true) i (λj hj hdj=>by
       obtain⟨q,hq,hqd⟩:=hdst' j t hdj;rcases hpair j i q o hq ho hj with hb|⟨_,k2,_⟩
       ·exact before j q hq hj hb
       ·exact absurd htr (k2 t hqd).2),<-hE t i (by omega)]at h1
      rw[<-h1];exact R.env t
     ·exact .und _
    have next:∀(c':Nat) (a':Act) (w':World) (μ':Mu) (u:Value),a'=a.put p.dst u->(∀(k:Nat) (q:DOp),ds[k]?=some q->q.eff=true->((listed.setIfInBounds i true).getD k false=true↔k<c'))->(c'=0∨∃(k:Nat) (o:DOp),c'=k+1/\ds[k]?=some o/\o.eff=true)->c'<=ds.length ->
     (∀e',(∀t,bA e' t=if o.op.dst=some t then V i else bA en t)->Rel gl nt M0 h0 μ0 e' (H c') (X c') a' w' μ')->wpAny P .any ops Q fuel (listed.setIfInBounds i true) a' w':=by
     intro c' a' w' μ' u ha k1 k2 k3 k4;refine ih (listed.setIfInBounds i true) (U.erase i) c' (put o.op.dst (V i) en) a' w' μ' (by simp [hsz]) (λj hj hb=>?_) ?_ ?_ k1 k2 k3 (λt=>?_) (k4 _ (λt=>nL))
     ·by_cases hji:i=j
      ·subst hji
       simp [Array.getD,hsz,hin]at hb
      ·rw[getD_set_ne false hji]at hb
       exact(List.mem_erase_of_ne (λh=>hji h.symm)).2 (hU j hj hb)
     ·have:=List.length_erase_of_mem (hU i hin hnl)
      omega
     ·intro j q hq hs k hk
      by_cases hji:i=j
      ·subst hji
       exact getD_set_true (hready q hq k hk)
      ·have hs':listed.getD j false=true:=by
        have:=hs;simp only[getD_set_ne false hji]at this;exact this
       exact getD_set_true (hD j q hq hs' k hk)
     ·rw[nL]
      by_cases hdt:o.op.dst=some t
      ·rw[if_pos hdt]
       rw[bW (i:=i+1) ds.length (by omega) (λj hij hj hdj=>by
        obtain⟨q,hq,hqd⟩:=hdst' j t hdj;show(listed.setIfInBounds i true).getD j false=false
        rw[getD_set_ne false (show i≠j by omega)]
        rcases hpair i j o q ho hq (by omega) with hb|⟨_,k2,_⟩
        ·exact behind j hb
        ·exact absurd hqd (k2 t hdt).1)]
       simp only[lk];rw[if_pos ⟨by simp [Array.getD,hsz,hin],by rw[hdst i o ho];exact hdt⟩]
      ·rw[if_neg hdt,hen t]
       refine aW _ (λj hj hdj=>?_)
       have hji:i≠j:=by
        intro hji;subst hji;rw[hdst i o ho]at hdj;exact hdt hdj
       exact(getD_set_ne false hji).symm
    cases heff:o.eff with
    | true=>
     have hci:c<=i:=by
      rcases hc0 with hc0|⟨k,q,hck2,hq,hqe⟩
      ·omega
      ·rcases Nat.lt_trichotomy k i with hh|hh|hh
       ·omega
       ·subst hh
        have:=(hce k q hq hqe).2 (by omega)
        rw[hnl]at this;cases this
       ·rcases hpair i k o q ho hq hh with hb|⟨k1,_⟩
        ·have:=behind k hb
         have h2:=(hce k q hq hqe).2 (by omega)
         rw[this]at h2;cases h2
        ·exact absurd ⟨heff,hqe⟩ k1
     have hbe:∀(k:Nat) (q:DOp),k<i->ds[k]?=some q->q.eff=true->k<c:=λk q hk hq hqe=>by
      rcases hpair k i q o hq ho hk with hb|⟨k1,_⟩
      ·exact(hce k q hq hqe).1 (before k q hq hk hb)
      ·exact absurd ⟨hqe,heff⟩ k1
     have hHi:=hstill c i hci (by omega) (λk q h1 h2 h3=>by
      cases hb:q.eff with
      | false=>rfl
      | true=>have:=hbe k q h2 h3 hb;omega)
     rw[hHi.1]at hrun;refine za2 hC hp hck Renv hrun (λa' w' μ' u ha hH hEv hI hV=>?_)
     refine next (i+1) a' w' μ' u ha (λk q hq hqe=>?_) (.inr ⟨i,o,rfl,ho,heff⟩) (by omega) (λe' he'=>?_)
     ·by_cases hki:i=k
      ·subst hki
       simp [Array.getD,hsz,hin]
      ·rw[getD_set_ne false hki,hce k q hq hqe]
       constructor
       ·intro _;omega
       ·intro _;exact hbe k q (by omega) hq hqe
     ·have hst:=R.step (d:=p.dst) (λj hj=>hd2 j (by rw[hd1];exact hj)) hH hEv hI hV
      have hX:X (i+1)=Y i++X c:=by have:=hT.esc;simp only[Nat.zero_add]at this;rw[this,hHi.2]
      rw[hX,ha];refine⟨hst.heap,λt=>?_,hst.glob,hst.evo,hst.esc,hst.size,hst.defers⟩
      have:=hst.env t;rw[nL,<-hd1]at this;rw[he' t];rw[hd1]at this ⊢;exact this
    | false=>
     have hs:=hT.still heff
     simp only[Nat.zero_add]at hs;rw[hs.1,hs.2]at hrun;have hdo:ADo C gl o.op (IA (some o.rd) (E i)) (H c) (V i) (H c) []:=by
      by_cases hf:o.op.op.hfree=true
      ·exact zeS hf hrun _
      ·rcases Nat.lt_or_ge i c with hic|hci
       ·rcases hc0 with hc0|⟨k,q,hck2,hq,hqe⟩
        ·omega
        ·have hik:i<k:=by
          rcases Nat.eq_or_lt_of_le (show i<=k by omega) with hh|hh
          ·subst hh
           rw[ho]at hq;injection hq with hq
           subst hq;rw[heff]at hqe;cases hqe
          ·exact hh
         rcases hpair i k o q ho hq hik with hb|⟨_,_,_,k4,_⟩
         ·have:=behind k hb
          have h2:=(hce k q hq hqe).2 (by omega)
          rw[this]at h2;cases h2
         ·rcases k4 hqe heff with k4|k4
          ·exact absurd k4 hf
          ·rcases(T k q hq).again i k4 with⟨_,h1,_⟩|⟨_,q',h1,h2⟩
           ·omega
           ·simp only[Nat.sub_zero]at h1
            rw[ho]at h1;injection h1 with h1
            subst h1;simp only[Nat.zero_add]at h2;rw[hck2];exact h2
       ·by_cases hk:∃k,c<=k/\k<i/\∃q,ds[k]?=some q/\q.eff=true
        ·obtain⟨k,hck2,hki,⟨q,hq,hqe⟩,hmin⟩:=z5w hk
         have hHk:=hstill c k hck2 (by omega) (λk' q' h1 h2 h3=>by
          cases hb:q'.eff with
          | false=>rfl
          | true=>exact absurd ⟨q',h3,hb⟩ (hmin k' h1 h2))
         rcases hpair k i q o hq ho hki with hb|⟨_,_,_,_,k5⟩
         ·have:=(hce k q hq hqe).1 (before k q hq hki hb)
          omega
         ·rcases k5 hqe heff with k5|k5
          ·exact absurd k5 hf
          ·obtain⟨g,h1,h2⟩:=hT.early k k5
           simp only[Nat.zero_add]at h1 h2;rcases h1 with⟨h1,_⟩|⟨_,_,h1⟩
           ·omega
           ·rw[h1,hHk.1]at h2
            exact h2
        ·have hHi:=hstill c i hci (by omega) (λk q h1 h2 h3=>by
          cases hb:q.eff with
          | false=>rfl
          | true=>exact absurd ⟨k,h1,h2,q,h3,hb⟩ hk)
         rw[hHi.1]at hrun;exact hrun
     refine za2 hC hp hck Renv hdo (λa' w' μ' u ha hH hEv hI hV=>?_)
     refine next c a' w' μ' u ha (λk q hq hqe=>?_) hc0 hcl (λe' he'=>?_)
     ·have hki:i≠k:=by
       intro hki;subst hki;rw[ho]at hq;injection hq with hq
       subst hq;rw[heff]at hqe;cases hqe
      rw[getD_set_ne false hki];exact hce k q hq hqe
     ·have hst:=R.step (d:=p.dst) (λj hj=>hd2 j (by rw[hd1];exact hj)) hH hEv hI hV
      rw[List.nil_append]at hst;rw[ha];refine⟨hst.heap,λt=>?_,hst.glob,hst.evo,hst.esc,hst.size,hst.defers⟩
      have:=hst.env t;rw[nL,<-hd1]at this;rw[he' t];rw[hd1]at this ⊢;exact this
 refine key ops.size _ (List.range ops.size) 0 e a w μ (by simp) (λi hi _=>List.mem_range.2 hi) (by simp) ?_ ?_ (.inl rfl) (Nat.zero_le _) ?_ ?_
 ·intro i o ho hs
  have hi:i<ops.size:=(Array.getElem?_eq_some_iff.1 ho).1
  simp [Array.getD,hi]at hs
 ·intro k o ho _
  have hi:k<ops.size:=by rw[<-hn];exact MA ho
  simp [Array.getD,hi]
 ·intro t
  have:lk dst V e (λi=>(Array.replicate ops.size false).getD i false) ds.length t=lk dst V e (λi=>(Array.replicate ops.size false).getD i false) 0 t:=
   bW ds.length (Nat.zero_le _) (λj _ hj _=>by simp [Array.getD])
  rw[this];rfl
 ·rw[e2,e3];exact R
end
section
variable {P:Program} {gl:Nat->Option PV} {nt:Nat} {M0:Mem} {h0:aA} {μ0:Mu} {h:aA} {μ:Mu} {e:List (Nat × AV)} {x0:Esc} {ops:Array Oper} {Q:Exit->Act->World->Prop} {ix:List Nat} {x y:Nat}
def mW:List Nat->Bool
 | []=>true
 | a::r=>!r.contains a&&mW r
theorem zcI:∀ {l:List Nat},mW l=true->l.Nodup
 | [],_=>List.nodup_nil
 | a::r,h=>by
  simp only[mW,Bool.and_eq_true,Bool.not_eq_true']at h;refine List.nodup_cons.2 ⟨λhm=>?_,zcI h.2⟩
  have:=h.1;simp [hm]at this
def GY (ops:Array Oper)(ix:List Nat)(x y i:Nat):Oper:=
 let o:=(ops[i]?).getD default
 ⟨o.dst,o.op,o.type,o.pos,((xE o++bif Nat.beq i y then [x] else []).map λk=>⟨ix.findIdx (Nat.beq k),.data⟩).toArray,o.guard⟩
def BE (ops:Array Oper)(ix:List Nat)(x y:Nat):Array Oper:=(ix.map (GY ops ix x y)).toArray
structure PermOk (ops:Array Oper) (ix:List Nat) (x y:Nat):Prop where
 len:ix.length=ops.size
 lt:∀i∈ix,i<ops.size
 all:∀i,i<ops.size->i∈ix
 nd:ix.Nodup
 gd:∀(i:Nat) (o:Oper),ops[i]?=some o->o.guard=none
 ed:∀(i:Nat) (o:Oper),ops[i]?=some o->∀k∈xE o,k<ops.size
 xl:x<ops.size
theorem PermOk.inv (H:PermOk ops ix x y){i:Nat}(hi:i<ops.size):ix.findIdx (Nat.beq i)<ops.size/\ix[ix.findIdx (Nat.beq i)]?=some i:=by
 have hm:=H.all i hi
 have hl:ix.findIdx (Nat.beq i)<ix.length:=List.findIdx_lt_length.2 ⟨i,hm,Nat.beq_refl i⟩
 refine⟨by rw[<-H.len];exact hl,?_⟩
 rw[List.getElem?_eq_getElem hl];have:=List.findIdx_getElem (w:=hl);exact congrArg some (Nat.eq_of_beq_eq_true this).symm
theorem z7F (H:PermOk ops ix x y){k i:Nat}(hk:ix[k]?=some i):∃o,ops[i]?=some o/\(BE ops ix x y)[k]?=some (GY ops ix x y i)/\GY ops ix x y i=⟨o.dst,o.op,o.type,o.pos,((xE o++bif Nat.beq i y then [x] else []).map λk=>⟨ix.findIdx (Nat.beq k),.data⟩).toArray,o.guard⟩:=by
 have hi:=H.lt i (List.mem_of_getElem? hk)
 refine⟨ops[i],Array.getElem?_eq_getElem hi,?_,?_⟩
 ·unfold BE
  simp [hk]
 ·unfold GY
  simp [Array.getElem?_eq_getElem hi]
def tZ (x y:Nat)(l:List Nat):Prop:=∀l1 l2,l=l1++y::l2->x∈l1
theorem zrE (H:PermOk ops ix x y){k i:Nat}(hk:ix[k]?=some i){K K':Act->World->Prop}{a:Act}{w:World}(hK:∀ a w,K a w->K' a w)(h:wpOp P (BE ops ix x y) Q k K a w):wpOp P ops Q i K' a w:=by
 obtain⟨o,h1,h2,h3⟩:=z7F H hk;have hg:=H.gd i o h1
 unfold wpOp at h ⊢;rw[h2]at h;rw[h1];rw[h3]at h;dsimp only at h ⊢;have e1:∀yl,Region.wanted o yl=true:=λyl=>by unfold Region.wanted;rw[hg]
 rw[if_pos (e1 _)];rw[if_pos (by unfold Region.wanted;dsimp only;rw[hg])]at h
 rcases h with h|h
 ·exact .inl (Oper.wp_mono hK h)
 ·exact .inr h
def VO (ops:Array Oper):Nat->Array Bool->List Nat->Prop
 | 0,_,l=>l=[]
 | _+1,listed,[]=>Region.ready .any ops listed=[]
 | n+1,listed,i::r=>i∈Region.ready .any ops listed/\VO ops n (listed.setIfInBounds i true) r
theorem zf9 (ops:Array Oper):∀(fuel t:Nat) (listed:Array Bool),VO ops fuel listed (Region.linearise.go .any ops fuel t listed []):=by
 intro fuel;induction fuel with
 | zero=>intro t listed;simp [Region.linearise.go,VO]
 | succ fuel ih=>
  intro t listed;have hgo:Region.linearise.go .any ops (fuel+1) t listed []=match (Region.ready .any ops listed)[t%(Region.ready .any ops listed).length]? with
   | some i=>i::Region.linearise.go .any ops fuel (t / (Region.ready .any ops listed).length) (listed.setIfInBounds i true) []
   | none=>[]:=by
   simp only[Region.linearise.go];change (match (Region.ready .any ops listed)[t%(Region.ready .any ops listed).length]? with
    | some i=>Region.linearise.go .any ops fuel (t / (Region.ready .any ops listed).length) (listed.setIfInBounds i true) [i]
    | none=>[].reverse)=_
   split
   ·rw[linearise_go_acc,List.reverse_singleton,List.singleton_append]
   ·rfl
  rw[hgo];cases hi:(Region.ready .any ops listed)[t%(Region.ready .any ops listed).length]? with
  | none=>
   show Region.ready .any ops listed=[]
   cases hr:Region.ready .any ops listed with
   | nil=>rfl
   | cons z zs=>
    rw[hr]at hi;have hlt:t%(z::zs).length<(z::zs).length:=Nat.mod_lt _ (by simp)
    simp at hi;simp at hlt;omega
  | some i=>exact⟨List.mem_of_getElem? hi,ih _ _⟩
theorem z9j:∀ (n:Nat)(listed:Array Bool)(l:List Nat),VO ops n listed l->∀i∈l,i<ops.size
 | 0,_,l,h,i,hi=>by rw[show l=[] from h]at hi;cases hi
 | n+1,listed,[],h,i,hi=>by cases hi
 | n+1,listed,j::r,h,i,hi=>by
  rcases List.mem_cons.1 hi with rfl|hi
  ·have:=h.1
   rw[mem_ready]at this;obtain⟨_,o,q2,_⟩:=this;exact(Array.getElem?_eq_some_iff.1 q2).1
  ·exact z9j n _ r h.2 i hi
theorem zvf {i:Nat}{K K':Act->World->Prop}{a:Act}{w:World}(hK:∀ a w,K a w->K' a w)(h:wpOp P ops Q i K a w):wpOp P ops Q i K' a w:=by
 unfold wpOp at h ⊢;split at h
 ·exact hK _ _ h
 ·split at h
  ·rename_i hw
   rw[if_pos hw];rcases h with h|h
   ·exact .inl (Oper.wp_mono hK h)
   ·exact .inr h
  ·rename_i hw
   rw[if_neg hw];exact hK _ _ h
theorem z9x:∀ (n:Nat)(listed:Array Bool)(l:List Nat)(a:Act)(w:World),VO ops n listed l->wpAny P .any ops Q n listed a w->wpOps P ops Q l a w
 | 0,_,l,a,w,h,hw=>by rw[show l=[] from h];exact hw.2
 | n+1,listed,[],a,w,h,hw=>hw.1 h
 | n+1,listed,i::r,a,w,h,hw=>by
  rw[wpOps_cons];exact zvf (λa w hw=>z9x n _ r a w h.2 hw) (hw.2 i h.1)
theorem z7G (H:PermOk ops ix x y):∀(l:List Nat) (a:Act) (w:World),(∀i∈l,i<ops.size)->wpOps P (BE ops ix x y) Q (l.map λi=>ix.findIdx (Nat.beq i)) a w->wpOps P ops Q l a w
 | [],_,_,_,h=>h
 | i::r,a,w,hl,h=>by
  rw[List.map_cons,wpOps_cons]at h;rw[wpOps_cons];exact zrE H (H.inv (hl i (List.mem_cons_self ..))).2 (λa w hw=>z7G H r a w (λj hj=>hl j (List.mem_cons_of_mem _ hj)) hw) h
theorem zcX (H:PermOk ops ix x y):∀(n:Nat) (listed listed':Array Bool) (l:List Nat),listed.size=ops.size->listed'.size=ops.size->(∀k i,ix[k]?=some i->listed'.getD k false=listed.getD i false) ->
 (listed.getD x false=true∨tZ x y l)->VO ops n listed l->VO (BE ops ix x y) n listed' (l.map λi=>ix.findIdx (Nat.beq i)):=by
 intro n;have hps:(BE ops ix x y).size=ops.size:=by unfold BE;simp [H.len]
 have dflt:∀(l:Array Bool),l.size=ops.size->∀i,i<ops.size->l.getD i true=l.getD i false:=λl hl i hi=>by simp [Array.getD,hl,hi]
 induction n with
 | zero=>intro listed listed' l _ _ _ _ h;rw[show l=[] from h];rfl
 | succ n ih=>
  intro listed listed' l hs hs' hL hB h;cases l with
  | nil=>
   have hnil:Region.ready .any ops listed=[]:=h
   show Region.ready .any (BE ops ix x y) listed'=[]
   rw[List.eq_nil_iff_forall_not_mem];intro k hk;rw[mem_ready]at hk;obtain⟨q1,o',q2,q3⟩:=hk;have hkl:k<ops.size:=by rw[<-hps];exact(Array.getElem?_eq_some_iff.1 q2).1
   obtain⟨i,hki⟩:∃i,ix[k]?=some i:=⟨_,List.getElem?_eq_getElem (by rw[H.len];exact hkl)⟩
   obtain⟨o,p1,p2,p3⟩:=z7F H hki;rw[p2]at q2;injection q2 with q2
   have hil:=H.lt i (List.mem_of_getElem? hki)
   have hm:i∈Region.ready .any ops listed:=by
    rw[mem_ready];refine⟨?_,o,p1,λed hed hbd=>?_⟩
    ·rw[dflt _ hs i hil,<-hL k i hki,<-dflt _ hs' k hkl];exact q1
    ·have hke:ed.on∈xE o:=List.mem_map.2 ⟨ed,List.mem_filter.2 ⟨by simpa using hed,hbd⟩,rfl⟩
     have hel:=H.ed i o p1 ed.on hke
     obtain⟨r1,r2⟩:=H.inv hel;have:=q3 ⟨ix.findIdx (Nat.beq ed.on),.data⟩ (by rw[<-q2,p3];simp;exact .inl ⟨_,hke,rfl⟩) rfl
     rw[hL _ _ r2]at this;exact this
   rw[hnil]at hm;cases hm
  | cons i r=>
   obtain⟨hir,hr⟩:=h;have hmr:=hir
   rw[mem_ready]at hmr;obtain⟨q1,o,q2,q3⟩:=hmr;have hil:i<ops.size:=(Array.getElem?_eq_some_iff.1 q2).1
   obtain⟨k1,k2⟩:=H.inv hil;rw[List.map_cons];generalize hk:ix.findIdx (Nat.beq i)=k at *;obtain⟨o1,p1,p2,p3⟩:=z7F H k2;rw[q2]at p1;injection p1 with p1
   subst p1;have hxl:i=y->listed.getD x false=true:=λhy=>by
    rcases hB with hB|hB
    ·exact hB
    ·have:=hB [] r (by rw[hy];rfl)
     cases this
   have hkr:k∈Region.ready .any (BE ops ix x y) listed':=by
    rw[mem_ready];refine⟨?_,_,p2,λed hed hbd=>?_⟩
    ·rw[dflt _ hs' k k1,hL k i k2,<-dflt _ hs i hil];exact q1
    ·rw[p3]at hed
     simp only[List.mem_toArray,List.mem_map,List.mem_append]at hed;obtain⟨j,hj,rfl⟩:=hed;rcases hj with hj|hj
     ·have hel:=H.ed i o q2 j hj
      obtain⟨r1,r2⟩:=H.inv hel;dsimp only;rw[hL _ _ r2];obtain⟨ed,he1,he2⟩:=List.mem_map.1 hj;obtain⟨he3,he4⟩:=List.mem_filter.1 he1;subst he2;exact q3 ed (by simpa using he3) he4
     ·cases hy:Nat.beq i y with
      | false=>rw[hy]at hj;cases hj
      | true=>
       rw[hy]at hj;simp only[cond_true,List.mem_singleton]at hj;subst hj;obtain⟨r1,r2⟩:=H.inv H.xl;dsimp only;rw[hL _ _ r2];exact hxl (Nat.eq_of_beq_eq_true hy)
   refine⟨hkr,ih _ _ r (by simp [hs]) (by simp [hs']) (λk' i' hk'=>?_) ?_ hr⟩
   ·by_cases hkk:k=k'
    ·subst hkk
     rw[k2]at hk';injection hk' with hk'
     subst hk';simp [Array.getD,hs,hs',hil,k1]
    ·have hii:i≠i':=λhii=>by
      subst hii;have a1:=List.getElem?_eq_some_iff.1 k2
      have a2:=List.getElem?_eq_some_iff.1 hk'
      obtain⟨b1,b2⟩:=a1;obtain⟨c1,c2⟩:=a2;exact hkk ((List.getElem_inj H.nd).1 (b2.trans c2.symm))
     rw[getD_set_ne false hkk,getD_set_ne false hii];exact hL k' i' hk'
   ·rcases hB with hB|hB
    ·exact .inl (getD_set_true hB)
    ·by_cases hxi:i=x
     ·subst hxi
      left;simp [Array.getD,hs,hil]
     ·right
      intro l1 l2 hl;have:=hB (i::l1) l2 (by rw[hl];rfl)
      rcases List.mem_cons.1 this with q|q
      ·exact absurd q.symm hxi
      ·exact q
theorem zfZ (x y:Nat)(hxy:x≠y)(l:List Nat):tZ x y l∨tZ y x l:=by
 induction l with
 | nil=>left;intro l1 l2 h;simp at h
 | cons z l ih=>
  by_cases hx:z=x
  ·subst hx
   left;intro l1 l2 h
   cases l1 with
   | nil=>simp at h;exact absurd h.1 hxy
   | cons q r=>simp at h;simp [h.1]
  ·by_cases hy:z=y
   ·subst hy
    right;intro l1 l2 h
    cases l1 with
    | nil=>simp at h;exact absurd h.1.symm hxy
    | cons q r=>simp at h;simp [h.1]
   ·rcases ih with ih|ih
    ·left
     intro l1 l2 h;cases l1 with
     | nil=>simp at h;exact absurd h.1 hy
     | cons q r=>simp at h;exact List.mem_cons_of_mem _ (ih r l2 h.2)
    ·right
     intro l1 l2 h;cases l1 with
     | nil=>simp at h;exact absurd h.1 hx
     | cons q r=>simp at h;exact List.mem_cons_of_mem _ (ih r l2 h.2)
def MR:ACode->List Nat×ACode
 | .block i b=>(i::(MR b).1,(MR b).2)
 | c=>([],c)
theorem z7E {C:Hd}:∀(c:ACode) (s:St) (K:Ex->St->Prop),AW C gl c s K->∃K':Ex->St->Prop,AW C gl (MR c).2 s K'/\∀st,K' .normal st->K .normal st
 | .block i b,s,K,H=>by
  unfold AW at H;obtain⟨K',h1,h2⟩:=z7E b s _ H;exact⟨K',h1,λst h=>h2 st h⟩
 | .skip,_,K,H=>⟨K,H,λ_ h=>h⟩
 | .reg _ _,_,K,H=>⟨K,H,λ_ h=>h⟩
 | .draw _ _,_,K,H=>⟨K,H,λ_ h=>h⟩
 | .seq _ _,_,K,H=>⟨K,H,λ_ h=>h⟩
 | .cond _ _ _,_,K,H=>⟨K,H,λ_ h=>h⟩
 | .condu _ _ _,_,K,H=>⟨K,H,λ_ h=>h⟩
 | .det _,_,K,H=>⟨K,H,λ_ h=>h⟩
 | .loop _,_,K,H=>⟨K,H,λ_ h=>h⟩
 | .scope _,_,K,H=>⟨K,H,λ_ h=>h⟩
 | .pr _ _,_,K,H=>⟨K,H,λ_ h=>h⟩
 | .exit _,_,K,H=>⟨K,H,λ_ h=>h⟩
 | .ret,_,K,H=>⟨K,H,λ_ h=>h⟩
 | .bad,_,K,H=>⟨K,H,λ_ h=>h⟩
def AT (ops:Array Oper)(x y:Nat)(ix:List Nat):Bool:=
 ix.length==ops.size&&ix.all (λi=>decide (i<ops.size))&&(List.range ops.size).all (λi=>ix.contains i)&&mW ix&&ops.toList.all (λo=>o.guard.isNone&&(xE o).all λk=>decide (k<ops.size))&&decide (x<ops.size)
theorem z9Q (h:AT ops x y ix=true):PermOk ops ix x y:=by
 unfold AT at h;simp only[Bool.and_eq_true,beq_iff_eq,List.all_eq_true,decide_eq_true_eq,Option.isNone_iff_eq_none]at h;obtain⟨⟨⟨⟨⟨h1,h2⟩,h3⟩,h4⟩,h5⟩,h6⟩:=h;refine⟨h1,h2,λi hi=>?_,zcI h4,λi o ho=>(h5 o ?_).1,λi o ho=>(h5 o ?_).2,h6⟩
 ·have:=h3 i (List.mem_range.2 hi)
  simpa using this
 ·exact Array.mem_toList_iff.2 (Array.mem_of_getElem? ho)
 ·exact Array.mem_toList_iff.2 (Array.mem_of_getElem? ho)
def II (P:Program)(nt:Nat):Nat->Array Oper->ACode->Bool
 | 0,_,_=>false
 | n+1,ops,c=>match c with
  | .draw ds _=>wT P nt ops ds
  | .condu t a b=>match t with
   | .c .anyb=>match MR a,MR b with
    | (x::y::ixA,ca),(y'::x'::ixB,cb)=>Nat.beq x x'&&Nat.beq y y' && !Nat.beq x y&&AT ops x y ixA&&AT ops y x ixB&&II P nt n (BE ops ixA x y) ca&&II P nt n (BE ops ixB y x) cb
    | _,_=>false
   | _=>false
  | _=>false
theorem z8p {C:Hd}(hC:∀ f a h K,C f a h K->aD P gl f a h K):∀(n:Nat) (ops:Array Oper) (c:ACode) (s:St) (K:Ex->St->Prop) (a:Act) (w:World),II P nt n ops c=true->AW C gl c s K->Rel gl nt M0 h0 μ0 s.env s.h s.esc a w μ ->
 (∀(keep:Option (List Nat)) e h x a w μ,K .normal ⟨IA keep e,h,x⟩->Rel gl nt M0 h0 μ0 e h x a w μ->Q .normal a w)->∀l,VO ops ops.size (Array.replicate ops.size false) l->wpOps P ops Q l a w
 | 0,ops,c,s,K,a,w,hc,_,_,_,_,_=>by cases hc
 | n+1,ops,c,s,K,a,w,hc,H,R,fin,l,hl=>by
  cases c;case draw ds keep=>
   unfold II at hc;unfold AW at H;exact z9x _ _ l a w hl (za7 hC (Q:=Q) hc H R (fin keep))
  case condu t c1 c2=>
   unfold II at hc;dsimp only at hc;split at hc
   ·split at hc
    ·rename_i x y ixA ca y' x' ixB cb pa pb
     simp only[Bool.and_eq_true,Bool.not_eq_true']at hc;obtain⟨⟨⟨⟨⟨⟨e1,e2⟩,e3⟩,e4⟩,e5⟩,e6⟩,e7⟩:=hc;have e1:=Nat.eq_of_beq_eq_true e1
     have e2:=Nat.eq_of_beq_eq_true e2
     subst e1;subst e2
     have hxy:x≠y:=λhh=>by rw[hh,Nat.beq_refl]at e3;cases e3
     unfold AW at H;simp only[Opd.ev]at H;obtain⟨KA,HA,fA⟩:=z7E c1 s K H.1;obtain⟨KB,HB,fB⟩:=z7E c2 s K H.2;rw[pa]at HA;rw[pb]at HB;have pA:=z9Q e4
     have pB:=z9Q e5
     have rep:∀(ix:List Nat) k i,ix[k]?=some i->(Array.replicate ops.size false).getD k false=(Array.replicate ops.size false).getD i false:=λix k i _=>by simp [Array.getD]
     have szA:(BE ops ixA x y).size=ops.size:=by unfold BE;simp [pA.len]
     have szB:(BE ops ixB y x).size=ops.size:=by unfold BE;simp [pB.len]
     have hlt:=z9j _ _ l hl
     rcases zfZ x y hxy l with hb|hb
     ·have hv:=zcX pA ops.size _ _ l (by simp) (by simp) (rep ixA) (.inr hb) hl
      have:=z8p hC n _ ca s KA a w e6 HA R (λkeep e h x a w μ hk R'=>fin keep e h x a w μ (fA _ hk) R') _ (by rw[szA];exact hv)
      exact z7G pA l a w hlt this
     ·have hv:=zcX pB ops.size _ _ l (by simp) (by simp) (rep ixB) (.inr hb) hl
      have:=z8p hC n _ cb s KB a w e7 HB R (λkeep e h x a w μ hk R'=>fin keep e h x a w μ (fB _ hk) R') _ (by rw[szB];exact hv)
      exact z7G pB l a w hlt this
    ·cases hc
   ·cases hc
  all_goals (unfold II at hc;cases hc)
theorem zuP (hm:P.follows .mixedOrders=true){C:Hd}(hC:∀ f a h K,C f a h K->aD P gl f a h K){n id:Nat}{c:ACode}{s:St}{K:Ex->St->Prop}{a:Act}{w:World}(hc:II P nt n ops c=true)(H:AW C gl c s K)
 (R:Rel gl nt M0 h0 μ0 s.env s.h s.esc a { w with drawn:=w.drawn+1 } μ) (fin:∀(keep:Option (List Nat)) e h x a w μ,K .normal ⟨IA keep e,h,x⟩->Rel gl nt M0 h0 μ0 e h x a w μ->Q .normal a w):(Code.region id ops true).wp P Q a w:=by
 refine wp_region_draw λt=>?_
 simp only[Region.schedule,hm,Bool.true_or,if_true];exact z8p hC n ops c s K a _ hc H R fin _ (zf9 ops ops.size t _)
def z9R (P:Program)(nt:Nat)(ops:Array Oper)(t:Opd)(a b:ACode):Bool:=II P nt 4 ops (.condu t a b)
end
section
variable {h h':aA} {μ μ':Mu} {w w':World} {P:Program} {M M':Mem}
variable {gl:Nat->Option PV} {nt:Nat} {M0:Mem} {h0:aA} {μ0:Mu} {e:List (Nat × AV)} {x:Esc} {a:Act}
theorem zry (H:HeapRel h μ w){id:Nat}{o:Obj}(ho:h[id]?=some o):o.top<=h.length:=by
 obtain⟨m,hm,hO⟩:=dI H ho;cases o with
 | box cs=>
  obtain⟨b,c,rfl,hb,hc⟩:=hO;exact z9G H hc
 | row sh xs fz=>simp [Obj.top]
 | amap es c=>
  obtain⟨b,n,ces,rfl,h1,h2,_,h3⟩:=hO;refine sJ (λj y hy=>?_)
  simp only[List.getElem?_map,Option.map_eq_some_iff]at hy;obtain⟨en,he,rfl⟩:=hy;have hj:j<ces.size:=by rw[h2];exact MA he
  exact(h3 j en ces[j] he (Array.getElem?_eq_getElem hj)).2.2.1.top_le
 | iter mm s seen l=>
  obtain⟨b,n,rfl,h1⟩:=hO;cases mm with
  | none=>simp [Obj.top]
  | some i=>
   obtain⟨bm,nm,es,c,h2,h3,h4⟩:=h1;simp only[Obj.top];exact MA h3
 | arow sh cs=>
  obtain⟨h1,h2⟩:=hO;cases m with
  | none=>subst h2;simp [Obj.top,AV.tops]
  | some m=>
   obtain⟨b,n⟩:=m;obtain⟨c,c1,c2,c3⟩:=h2;refine sJ (λj y hy=>?_)
   obtain⟨v,_,q⟩:=c3 j y hy;exact q.top_le
theorem z8n (H:HeapRel h μ w)(id:Nat):VG h id<=h.length:=by
 unfold VG;split
 ·exact zry H ‹_›
 ·omega
theorem zgx (y:Esc)(n:Nat):n<=DG y n:=by
 unfold DG;induction y generalizing n with
 | nil=>simp
 | cons p r ih=>
  simp only[List.foldl_cons];split
  ·exact Nat.le_trans (by omega) (ih _)
  ·exact ih _
theorem DT:∀ (k:Nat)(y:Esc)(n:Nat),n<=close k y n
 | 0,y,n=>Nat.le_refl _
 | k+1,y,n=>Nat.le_trans (zgx y n) (DT k y _)
theorem Evo.take {M'':Mem}(E:Evo M h μ M' h' μ'){n:Nat}(hn:h.length<=n)(L:M'.le M''):Evo M h μ M'' (h'.take n) (μ'.take n):=by
 refine⟨⟨λb o v hv=>L.c _ _ _ (E.le.c _ _ _ hv),λb o hv=>L.b _ _ (E.le.b _ _ hv),L.z.trans E.le.z,λb t h=>L.s _ _ (E.le.s _ _ h)⟩,by have:=E.len;simp;omega,λid o m h1 h2=>?_⟩
 obtain⟨o',m',h3,h4,h5⟩:=E.obj id o m h1 h2;have hi:id<n:=Nat.lt_of_lt_of_le (MA h1) hn
 exact⟨o',m',by rw[List.getElem?_take,if_pos hi];exact h3,by rw[List.getElem?_take,if_pos hi];exact h4,h5⟩
theorem z8j {hs:aA}{μs:Mu}{Ms:Mem}{es:Esc}(Hs:∀ id,VG hs id<=hs.length)(H:HeapRel h μ w)(E:Evo Ms hs μs (imm h μ w) h μ)(I:vA hs h es){n:Nat}(hn:hs.length<=n)(hc:YB es n=true) :
 HeapRel (h.take n) (μ.take n) w/\(imm h μ w).le (imm (h.take n) (μ.take n) w)/\Evo Ms hs μs (imm (h.take n) (μ.take n) w) (h.take n) (μ.take n)/\vA hs (h.take n) (es.filter λy=>decide (y.1<n)):=by
 have ht:∀id o,h[id]?=some o->id<n->o.top<=n:=by
  intro id o ho hi;have h1:=I id o ho
  have h2:=Hs id
  have h3:=zob hc hi
  omega
 obtain⟨H1,L⟩:=H.take n ht;refine⟨H1,L,E.take hn L,λid o ho=>?_⟩
 rw[List.getElem?_take]at ho;split at ho
 ·rename_i hi
  rw[zoc hi];exact I id o ho
 ·cases ho
theorem zfH (n:Nat)(e:List (Nat × AV))(t:Nat):bA (FG n e) t=if(bA e t).top<=n then bA e t else .und:=by
 induction e with
 | nil=>simp [FG,bA,AV.top]
 | cons y r ih=>
  simp only[FG,List.map_cons,bA]at ih ⊢;split
  ·rfl
  ·exact ih
theorem oT (keep:Option (List Nat))(e:List (Nat × AV))(t:Nat):bA (IA keep e) t=bA e t∨bA (IA keep e) t = .und:=by
 cases keep with
 | none=>exact .inl rfl
 | some l=>
  simp only[IA];induction l with
  | nil=>exact .inr rfl
  | cons k r ih=>
   simp only[List.map_cons,bA];split
   ·rename_i hk;subst hk;exact .inl rfl
   ·exact ih
theorem zuN {x0:Esc}{s:St}{hs:aA}{μs:Mu}{ws:World}{e0:List (Nat × AV)}{a0:Act}(R:Rel gl nt M0 h0 μ0 e0 hs x0 a0 ws μs)(R':Rel gl nt (imm hs μs ws) hs μs s.env s.h s.esc a w μ) :
 ∃μ',Rel gl nt M0 h0 μ0 (GE hs.length x0 s).env (GE hs.length x0 s).h (GE hs.length x0 s).esc a w μ':=by
 unfold GE;dsimp only;split
 ·rename_i hc
  have hn:=DT s.esc.length s.esc hs.length
  generalize close s.esc.length s.esc hs.length=n at hc hn;obtain⟨q1,q2,q3,q4⟩:=z8j (λid=>z8n R.heap id) R'.heap R'.evo R'.esc hn hc
  refine⟨μ.take n,q1,λt=>?_,R'.glob.mono q2,R.evo.trans q3,vA.trans R.esc q4,R'.size,R'.defers⟩
  dsimp only;rw[zfH];split
  ·exact(R'.env t).take q2 ‹_›
  ·exact .und _
 ·exact⟨μ,R'.heap,R'.env,R'.glob,R.evo.trans R'.evo,vA.trans R.esc R'.esc,R'.size,R'.defers⟩
theorem Rel.drew (R:Rel gl nt M0 h0 μ0 e h x a w μ)(n:Nat):Rel gl nt M0 h0 μ0 e h x a { w with drawn:=n } μ:=by
 obtain⟨h1,h2⟩:=R.heap.ext (WExt.drew w n);exact⟨h1,λt=>(R.env t).evo h2,R.glob.mono h2.le,R.evo.trans h2,R.esc,R.size,R.defers⟩
def IC (P:Program)(nt:Nat):ACode->Code->Bool
 | .skip,c=>match c with
  | .skip=>true
  | _=>false
 | .reg aops _,c=>match c with
  | .region _ ops false=>MH P nt ops aops 0
  | _=>false
 | .draw ds _,c=>match c with
  | .region _ ops true=>wT P nt ops ds
  | _=>false
 | .seq a b,c=>match c with
  | .seq a' b'=>IC P nt a a'&&IC P nt b b'
  | _=>false
 | .cond t a b,c=>match c with
  | .cond t' a' b'=>VA t t'&&IC P nt a a'&&IC P nt b b'
  | _=>false
 | .det b,c=>IC P nt b c
 | .condu t a b,c=>match c with
  | .cond t' a' b'=>VA t t'&&IC P nt a a'&&IC P nt b b'
  | .region _ ops true=>z9R P nt ops t a b
  | _=>false
 | .block i b,c=>match c with
  | .block i' b'=>i==i'&&IC P nt b b'
  | _=>false
 | .loop b,c=>match c with
  | .loop b'=>IC P nt b b'
  | _=>false
 | .scope b,c=>IC P nt b c
 | .pr _ b,c=>IC P nt b c
 | .exit i,c=>match c with
  | .exit i'=>i==i'
  | _=>false
 | .ret,c=>match c with
  | .ret=>true
  | _=>false
 | .bad,_=>true
def Ex.toExit:Ex->Exit
 | .normal=>.normal
 | .exit i=>.exit i
 | .ret=>.ret
theorem zfM {M:Mem}{h:aA}{μ:Mu}{x:Value}(R:RAV M h μ .anyb x):∃b,x = .bool b:=by
 cases R with|anyb b=>exact⟨b,rfl⟩
theorem VE (hm:P.follows .mixedOrders=true){C:Hd}(hC:∀ f a h K,C f a h K->aD P gl f a h K):∀(c:ACode) {k:Code},IC P nt c k=true->∀{s:St} {K:Ex->St->Prop} {M0:Mem} {h0:aA} {μ0:Mu} {a:Act} {w:World} {μ:Mu} {Q:Exit->Act->World->Prop},
 AW C gl c s K->Rel gl nt M0 h0 μ0 s.env s.h s.esc a w μ->(∀ex s' a' w' μ',K ex s'->Rel gl nt M0 h0 μ0 s'.env s'.h s'.esc a' w' μ'->Q ex.toExit a' w')->k.wp P Q a w
 | .skip,k,hc,s,K,M0,h0,μ0,a,w,μ,Q,H,R,hQ=>by
  simp only[IC]at hc;split at hc
  ·exact wp_skip (hQ .normal _ _ _ _ H R)
  ·cases hc
 | .reg aops keep,k,hc,s,K,M0,h0,μ0,a,w,μ,Q,H,R,hQ=>by
  simp only[IC]at hc;split at hc
  ·rename_i id ops
   refine wp_region ?_;have:=oJ hC aops 0 (Q:=Q) hc H R (λe h x a w μ hk R'=>hQ .normal ⟨IA keep e,h,x⟩ a w μ hk ⟨R'.heap,λt=>?_,R'.glob,R'.evo,R'.esc,R'.size,R'.defers⟩)
   ·rwa [Nat.sub_zero,<-List.range_eq_range']at this
   ·rcases oT keep e t with q|q
    ·rw[q];exact R'.env t
    ·rw[q];exact .und _
  ·cases hc
 | .draw ds keep,k,hc,s,K,M0,h0,μ0,a,w,μ,Q,H,R,hQ=>by
  simp only[IC]at hc;split at hc
  ·rename_i id ops
   refine wp_region_any hm ?_;exact za7 hC (Q:=Q) hc H (R.drew _) (λe h x a w μ hk R'=>hQ .normal ⟨IA keep e,h,x⟩ a w μ hk ⟨R'.heap,λt=>(by
    rcases oT keep e t with q|q
    ·rw[q];exact R'.env t
    ·rw[q];exact .und _),R'.glob,R'.evo,R'.esc,R'.size,R'.defers⟩)
  ·cases hc
 | .seq c1 c2,k,hc,s,K,M0,h0,μ0,a,w,μ,Q,H,R,hQ=>by
  simp only[IC]at hc;split at hc
  ·simp only[Bool.and_eq_true]at hc
   refine wp_seq (VE hm hC c1 hc.1 H R (λex s' a' w' μ' hk R'=>?_))
   cases ex with
   | normal=>exact VE hm hC c2 hc.2 hk R' hQ
   | exit i=>exact hQ (.exit i) _ _ _ _ hk R'
   | ret=>exact hQ .ret _ _ _ _ hk R'
  ·cases hc
 | .det c,k,hc,s,K,M0,h0,μ0,a,w,μ,Q,H,R,hQ=>by
  simp only[IC]at hc;exact VE hm hC c hc H R hQ
 | .condu t c1 c2,k,hc,s,K,M0,h0,μ0,a,w,μ,Q,H,R,hQ=>by
  simp only[IC]at hc;split at hc
  ·simp only[Bool.and_eq_true]at hc
   unfold AW at H;split at H
   ·rename_i b hb
    have ht:=R.opds _ _ hc.1.1
    rw[hb]at ht;refine wp_cond ht.p_bool ?_;cases b with
    | true=>exact VE hm hC c1 hc.1.2 H R hQ
    | false=>exact VE hm hC c2 hc.2 H R hQ
   ·rename_i hb
    have ht:=R.opds _ _ hc.1.1
    rw[hb]at ht;obtain⟨g1,g2⟩:=H;obtain⟨b,hb'⟩:=zfM ht;refine wp_cond hb' ?_;cases b with
    | true=>exact VE hm hC c1 hc.1.2 g1 R hQ
    | false=>exact VE hm hC c2 hc.2 g2 R hQ
   ·exact H.elim
  ·rename_i id ops
   unfold z9R at hc;exact zuP hm hC (Q:=Q) hc H (R.drew _) λkeep e h x a w μ hk R'=>hQ .normal ⟨IA keep e,h,x⟩ a w μ hk ⟨R'.heap,λt=>(by
    rcases oT keep e t with q|q
    ·rw[q];exact R'.env t
    ·rw[q];exact .und _),R'.glob,R'.evo,R'.esc,R'.size,R'.defers⟩
  ·cases hc
 | .cond t c1 c2,k,hc,s,K,M0,h0,μ0,a,w,μ,Q,H,R,hQ=>by
  simp only[IC]at hc;split at hc
  ·simp only[Bool.and_eq_true]at hc
   unfold AW at H;split at H
   ·rename_i b hb
    have ht:=R.opds _ _ hc.1.1
    rw[hb]at ht;refine wp_cond ht.p_bool ?_;cases b with
    | true=>exact VE hm hC c1 hc.1.2 H R hQ
    | false=>exact VE hm hC c2 hc.2 H R hQ
   ·exact H.elim
  ·cases hc
 | .block i c,k,hc,s,K,M0,h0,μ0,a,w,μ,Q,H,R,hQ=>by
  simp only[IC]at hc;split at hc
  ·simp only[Bool.and_eq_true,beq_iff_eq]at hc
   obtain⟨rfl,hc⟩:=hc;refine wp_block (VE hm hC c hc H R (λex s' a' w' μ' hk R'=>?_))
   cases ex with
   | normal=>exact hQ .normal _ _ _ _ hk R'
   | exit j=>
    simp only[Ex.toExit,Exit.inBlock];dsimp only at hk;split
    ·rename_i hj;rw[if_pos hj]at hk;exact hQ .normal _ _ _ _ hk R'
    ·rename_i hj;rw[if_neg hj]at hk;exact hQ (.exit j) _ _ _ _ hk R'
   | ret=>exact hQ .ret _ _ _ _ hk R'
  ·cases hc
 | .loop c,k,hc,s,K,M0,h0,μ0,a,w,μ,Q,H,R,hQ=>by
  simp only[IC]at hc;split at hc
  ·rename_i b'
   intro b k cs;have key:∀(s:St),ALoop (AW C gl c) K s->∀(a:Act) (w:World) (μ:Mu),Rel gl nt M0 h0 μ0 s.env s.h s.esc a w μ ->
    ∃e a' w',Q e a' w'/\Arrives P (lone (b.at a (.code b' :: .inLoop b'::k)) cs w) b k cs e a' w':=by
    intro s H;induction H with
    | mk s T hT hn he hr ih=>
     intro a w μ R;obtain⟨e,a1,w1,hq,harr⟩:=VE hm hC c hc (Q:=λe a' w'=>match e with
      | .normal=>∃s' μ',T .normal s'/\Rel gl nt M0 h0 μ0 s'.env s'.h s'.esc a' w' μ'
      | e=>Q e a' w') hT R (λex s' a' w' μ' hk R'=>by
       cases ex with
       | normal=>exact⟨s',μ',hk,R'⟩
       | exit i=>exact hQ (.exit i) _ _ _ _ (he _ _ hk) R'
       | ret=>exact hQ .ret _ _ _ _ (hr _ hk) R') b (.inLoop b'::k) cs
     cases e with
     | normal=>
      obtain⟨s',μ',hk,R'⟩:=hq;obtain⟨e2,a2,w2,hq2,harr2⟩:=ih s' hk a1 w1 μ' R';exact⟨e2,a2,w2,hq2,.of_steps (Steps.trans harr (.one step_inLoop)) harr2⟩
     | exit id=>exact⟨_,a1,w1,hq,.pass (x:=.inLoop b') rfl (λ_ _=>.inl (by simp)) harr⟩
     | goto l=>exact⟨_,a1,w1,hq,.pass (x:=.inLoop b') rfl (λ_ _=>.inl (by simp)) harr⟩
     | ret=>exact⟨_,a1,w1,hq,.pass (x:=.inLoop b') rfl (λ_ _=>.inl (by simp)) harr⟩
     | panic ch=>exact⟨_,a1,w1,hq,.pass (x:=.inLoop b') rfl (λ_ _=>.inl (by simp)) harr⟩
     | outgrown=>exact⟨_,a1,w1,hq,.pass (x:=.inLoop b') rfl (λ_ _=>.inl (by simp)) harr⟩
   obtain⟨e,a',w',hq,harr⟩:=key s H a w μ R;exact⟨e,a',w',hq,.of_steps (.one step_loop) harr⟩
  ·cases hc
 | .scope c,k,hc,s,K,M0,h0,μ0,a,w,μ,Q,H,R,hQ=>by
  simp only[IC]at hc;refine VE hm hC c hc (M0:=imm s.h μ w) (h0:=s.h) (μ0:=μ) H ⟨R.heap,R.env,R.glob,Evo.refl _ _ _,vA.refl _ _,R.size,R.defers⟩ (λex s' a' w' μ' hk R'=>?_)
  obtain⟨μ'',R''⟩:=zuN R R';exact hQ ex _ _ _ _ hk R''
 | .pr l c,k,hc,s,K,M0,h0,μ0,a,w,μ,Q,H,R,hQ=>by
  simp only[IC]at hc;refine VE hm hC c hc H ⟨R.heap,λt=>?_,R.glob,R.evo,R.esc,R.size,R.defers⟩ hQ
  dsimp only;rcases oT (some l) s.env t with q|q
  ·rw[q];exact R.env t
  ·rw[q];exact .und _
 | .exit i,k,hc,s,K,M0,h0,μ0,a,w,μ,Q,H,R,hQ=>by
  simp only[IC]at hc;split at hc
  ·simp only[beq_iff_eq]at hc
   subst hc;exact wp_exit (hQ (.exit i) _ _ _ _ H R)
  ·cases hc
 | .ret,k,hc,s,K,M0,h0,μ0,a,w,μ,Q,H,R,hQ=>by
  simp only[IC]at hc;split at hc
  ·exact wp_ret (hQ .ret _ _ _ _ H R)
  ·cases hc
 | .bad,k,hc,s,K,M0,h0,μ0,a,w,μ,Q,H,R,hQ=>H.elim
end
end Go.Am
