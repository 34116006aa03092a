/- Texts of the proof, laid together: SpBrd11, PBits, PBrd5, SpBrd12, SpBrd13, SpBrd15, SpFlt3, SpFlt4, SpFlt5, SpSeenB, SpArg, SpFlt6, SpSortO, SpGenF, SpBrd17, PPrtG, PCap, SpBrq1, PBrq, SpBrq2, SpBrq3, SpBrq4, SpSortJ, SpGenD, SpGenC, SpGenC2, SpGenC3, SpGenE1, SpGenE2, SpGenE3, SpGenE4, SpGenE5, SpGenE6, SpGenE7, SpGenE8. -/
import Derived.Test.YtddfpebjibeclaaGreatDoorlawCS8
set_option linter.all false
section
/- The levels of nets: the program's map,all nets. -/
open Go
set_option linter.all false
set_option maxRecDepth 100000
namespace Go.Am
variable {h:bA} {K:mA}
attribute [-go_sem] YA bB EB BB CQ xJ
theorem z7j {s:List Nat}{i:Nat}(hd:s.Nodup)(hni:i∉s):(s++[i]).Nodup:=by
 rw[List.nodup_append];exact⟨hd,by simp,fun a ha b hb=>by rw[List.mem_singleton]at hb;subst hb;intro e;subst e;exact hni ha⟩
theorem zrt {s:List Nat}{i n:Nat}(hd:s.Nodup)(hb:∀ j∈s,j<n)(hi:i<n)(hni:i∉s):s.length<n:=by
 have h2:=(z7j hd hni).length_le_of_subset (l₂:=List.range n) (fun x hx=>by
  rw[List.mem_range];rcases List.mem_append.1 hx with h|h
  ·exact hb x h
  ·rw[List.mem_singleton]at h;omega)
 simp at h2;omega
theorem zl1 {β:Type}{ks:List (Nm2 × β)}(hd:(rB ks).Nodup):∀{i:Nat} (hi:i<ks.length),AA ks[i].1 ks=some ks[i].2:=by
 induction ks with
 | nil=>intro i hi;simp at hi
 | cons e r ih=>
  intro i hi;rw[LG,List.nodup_cons]at hd;cases i with
  | zero=>simp [AA]
  | succ i=>
   have hi':i<r.length:=by simpa using hi
   have ne:¬r[i].1=e.1:=fun q=>hd.1 (by rw[←q];exact List.mem_map_of_mem (List.getElem_mem hi'))
   rw[List.getElem_cons_succ];unfold AA;rw[if_neg ne];exact ih hd.2 hi'
theorem zgT {b:Brd}{bits:List Nm2}{pl:List (Nat × Nat)}{v:Int}(h:vC b bits pl=some v):pl≠[]:=fun e=>by subst e;cases h
theorem zrx {n:Nm2}{M:List (Nm2 × Int)}{d:Option Int}(h:∀ v,d=some v→n∈rB M):rB (aE n M d)=rB M:=by
 cases d with
 | none=>rfl
 | some v=>unfold aE;rw[ZM,if_pos (h v rfl)]
theorem z82 {n m:Nm2}{M:List (Nm2 × Int)}{d:Option Int}:AA m (aE n M d)=if m=n then d.or (AA m M) else AA m M:=by
 cases d with
 | none=>
  show AA m M=_
  by_cases h:m=n
  ·rw[if_pos h];rfl
  ·rw[if_neg h]
 | some v=>
  show AA m (dB n v M)=_
  rw[TQ];by_cases h:m=n
  ·rw[if_pos h,if_pos h];rfl
  ·rw[if_neg h,if_neg h]
theorem z1L:∀ (X:Esc)(m:Nat),(∀y∈X,m≤y.1)→RC X m=m
 | [],m,_=>rfl
 | y::r,m,h=>by
  unfold RC;rw[List.foldl_cons,if_neg (by have:=h y (by simp);omega)]
  exact z1L r m fun z hz=>h z (by simp [hz])
theorem z2w:∀ (k:Nat)(X:Esc)(m:Nat),(∀y∈X,m≤y.1)→QB k X m=m
 | 0,X,m,_=>rfl
 | k+1,X,m,h=>by
  show QB k X (RC X m)=m
  rw[z1L X m h];exact z2w k X m h
theorem zqc {X:Esc}{id b:Nat}{P:mA}{H:bA}(hX:∀ y∈X,id+1≤y.1)(hb:b≤id)(hH:id<H.length):LC false b P (some [.mp id]) H X=P (.mp id) (H.take (id+1)) []:=by
 have ht:(AV.mp id).top=id+1:=rfl
 have hmx:max b (id+1)=id+1:=by omega
 have e:VA b H (kB [.mp id])=some (.mp id):=TN
 have e2:VA (id+1) H (kB [.mp id])=some (.mp id):=TN
 have c4:WB X (id+1)=true:=by
  unfold WB;rw[List.all_eq_true];intro y hy;have:=hX y hy;simp [this]
 have c5:X.filter (fun y=>decide (y.1<id+1))=[]:=by
  rw[List.filter_eq_nil_iff];intro y hy;have:=hX y hy;simp;omega
 unfold LC;dsimp only;rw[e];dsimp only;rw[ht,hmx,z2w _ _ _ hX,c4,if_pos rfl,e2];dsimp only;rw[c5];have:(id+1≤id+1)=True:=eq_true (Nat.le_refl _)
 rw[ht,this,true_and]
theorem zrb (b:Brd)(bits:List Nm2)(ho:BitsOk b bits)(hp:b.parts.length≤900)(hc:∀ p∈b.parts,p.cells.length≤1000)(hj:b.joins.length≤100000)(hu:b.pulls.length≤100000)(ht:twJ [] b.joins=false) :
 jA X OE [.p b.pv,nB bits] h K=K (.mp (h.length+1)) (h++[qA b,BA PV.str TA (oB b bits)]) []:=by
 refine IA ?_;rw[zfp rfl];obtain⟨xs,x1,x2,x3,x4,sn⟩:=JL (h:=h++[qA b,BA PV.str TA []]) b hj;have lb:(bits.map PV.str).length=bits.length:=List.length_map ..
 simp only[Brd.pv]at sn;simp only[IP,Brd.pv,go_sem,sn,lb];refine⟨_,_,_,⟨rfl,rfl,rfl⟩,?_⟩;have hb0:Obj.box [AV.p (PV.sl (some 2) (List.map Prt.pv b.parts)),AV.p (PV.sl (some 3) (List.map Jon.pv b.joins)),AV.p (PV.sl (some 2) (List.map Pul.pv b.pulls))]=qA b:=rfl
 have hm0:Obj.amap [] 0=BA PV.str TA []:=rfl
 rw[hb0,hm0,sn];simp only[go_sem];have nn:(tA b).length≤100000:=by omega
 have xg:∀k (hk:k<(tA b).length),xs[k]?=some (.str (tA b)[k]):=fun k hk=>by
  have:=congrArg (fun l=>l[k]?) x2
  simp only[win,List.drop_zero,List.getElem?_take,hk,if_true,List.getElem?_map,List.getElem?_eq_getElem hk,Option.map_some]at this;exact this
 have up:=fun(M:List (Nm2×Int)) (n:Nm2) (v:Int) (t:bA)=>JI (kk:=(none,[2])) (h:=h++qA b::BA PV.str TA M::t) (k:=n) (val:=TA) (id:=h.length+1) (l:=M) eG (by simp) fG (v:=v) rfl
 simp only[TA,TB,AV.top,Nat.not_lt_zero,if_false]at up;refine UA (fun k:Nat=>⟨[(1,nB bits),(2,.ref h.length 0),(5,.mp (h.length+1)),(20,.own (h.length+3) b.joins.length 0 (tA b).length),(21,AI (tA b).length),(22,AI k)],H4 h b xs (oF ((tA b).take k)),[]⟩) (fun k=>k≤(tA b).length) (fun k=>(tA b).length-k) 0 rfl (by omega) ?_
 intro k hk;rcases Nat.lt_or_ge k (tA b).length with hlt|hge
 ·have g:=xg k hlt
  have w2:IntKind.i64.wrap ((k:Int)+1)=((k+1:Nat):Int):=JA _ (by omega) (by omega)
  have tk:(tA b).take (k+1)=(tA b).take k++[(tA b)[k]]:=List.take_succ_eq_append_getElem hlt
  have kj:k<b.joins.length:=by omega
  generalize (tA b)[k]=n at *;generalize hM:oF ((tA b).take k)=M at *;have us:dB n 2 M=oF ((tA b).take (k+1)):=by rw[tk,zn0,hM]
  generalize hb:qA b=bo at *;simp only[H4,hb,go_sem,hlt,g,x1,x3,kj,up,w2];refine⟨k+1,?_,by omega,by omega⟩
  rw[us]
 ·have e:k=(tA b).length:=by omega
  subst e;rw[List.take_length];simp only[H4,go_sem,Nat.lt_irrefl,qA];have ln:(b.pulls.map Pul.pv).length=b.pulls.length:=List.length_map ..
  refine UA (fun k:Nat=>⟨[(1,nB bits),(2,.ref h.length 0),(5,.mp (h.length+1)),(30,.p (.sl (some 2) (b.pulls.map Pul.pv))),(31,AI b.pulls.length),(32,AI k)],H4 h b xs (pF (oF (tA b)) (b.pulls.take k)),[]⟩) (fun k=>k≤b.pulls.length) (fun k=>b.pulls.length-k) 0 (by unfold H4 pF;rfl) (by omega) ?_
  intro k hk;rcases Nat.lt_or_ge k b.pulls.length with hlt|hge
  ·have g:=ZA Pul.pv hlt
   have c1:QA (some 2) 0 b.pulls[k].pv=some b.pulls[k].pv:=rfl
   have w2:IntKind.i64.wrap ((k:Int)+1)=((k+1:Nat):Int):=JA _ (by omega) (by omega)
   have tk:b.pulls.take (k+1)=b.pulls.take k++[b.pulls[k]]:=List.take_succ_eq_append_getElem hlt
   generalize b.pulls[k]=p at *;generalize hM:pF (oF (tA b)) (b.pulls.take k)=M at *;have us:dB p.net p.level M=pF (oF (tA b)) (b.pulls.take (k+1)):=by rw[tk,zn1,hM]
   generalize hb:qA b=bo at *;simp only[Pul.pv]at g c1;simp only[H4,hb,go_sem,hlt,g,c1,up,w2,ln];refine⟨k+1,?_,by omega,by omega⟩
   rw[us]
  ·have e:k=b.pulls.length:=by omega
   subst e;rw[List.take_length];simp only[go_sem,Nat.lt_irrefl,H4,qA];show jA X UF [.p b.pv,AI 2] (H4 h b xs (qF b)) _
   refine z8o b 2 hp hc hj ht ?_;intro H X C mid hC hG hmid hpre hX;have l4:(H4 h b xs (qF b)).length=h.length+4:=by unfold H4;simp
   rw[l4]at hmid;rw[znL hC.mp];have mh:=hC.hi
   have hB:H[h.length]?=some (qA b):=by rw[hpre _ (by rw[l4];omega)];unfold H4;simp
   have hM:H[h.length+1]?=some (BA PV.str TA (qF b)):=by rw[hpre _ (by rw[l4];omega)];unfold H4;simp
   have hS0:H.set (h.length+1) (BA PV.str TA (qF b))=H:=by
    refine List.ext_getElem? fun j=>?_
    by_cases hj:h.length+1=j
    ·subst hj;rw[List.getElem?_set_self (by omega),hM]
    ·rw[List.getElem?_set_ne hj]
   simp only[wK];have hP:∀n,(∃i,∃hi:i<C.length,C[i].1=n)∨grp (wB b 2 b.parts.length) n=[]:=fun n=>by
    have:=hG n;by_cases hg:grp (wB b 2 b.parts.length) n=[]
    ·exact .inr hg
    ·rw[if_neg hg]at this
     obtain⟨v,hv,_⟩:=Option.map_eq_some_iff.1 this;obtain⟨i,hi,e⟩:=List.mem_iff_getElem.1 (II hv);exact .inl ⟨i,hi,by rw[e]⟩
   refine UA (fun t:List Nat×List (Nm2×Int)×List (Nat×AV)=>⟨t.2.2,H.set (h.length+1) (BA PV.str TA t.2.1)++[.iter (some mid) C.length t.1 C.length],[]++X⟩)
    (fun t=>(aA t.2.2 1=nB bits∧aA t.2.2 2 = .ref h.length 0∧aA t.2.2 5 = .mp (h.length+1)∧aA t.2.2 44 = .it H.length)∧t.1.Nodup∧(∀i∈t.1,i<C.length)∧rB t.2.1=rB (qF b)∧(∀n,(∃i∈t.1,(C[i]?).map Prod.fst=some n)→AA n t.2.1=(vC b bits (grp (wB b 2 b.parts.length) n)).or (AA n (qF b)))∧∀n,¬(∃i∈t.1,(C[i]?).map Prod.fst=some n)→AA n t.2.1=AA n (qF b)) (fun t=>C.length-t.1.length) ([],qF b,[(1,nB bits),(2,.ref h.length 0),(5,.mp (h.length+1)),(44,.it H.length)]) (by rw[hS0]) ⟨⟨rfl,rfl,rfl,rfl⟩,List.nodup_nil,by simp,rfl,by simp,by simp⟩ ?_
   rintro⟨seen,M,env⟩ ⟨⟨v1,v2,v5,v44⟩,i1,i2,i3,i4,i5⟩
   dsimp only at v1 v2 v5 v44 i1 i2 i3 i4 i5 ⊢;have lh:(H.set (h.length+1) (BA PV.str TA M)).length=H.length:=by simp
   have gj:∀s,(H.set (h.length+1) (BA PV.str TA M)++[.iter (some mid) C.length s C.length])[H.length]?=some (.iter (some mid) C.length s C.length):=fun s=>by
    rw[List.getElem?_append_right (by omega),lh,Nat.sub_self];rfl
   have gm:∀s,(H.set (h.length+1) (BA PV.str TA M)++[.iter (some mid) C.length s C.length])[mid]?=some (BA PV.str pD C):=fun s=>by
    rw[List.getElem?_append_left (by omega),List.getElem?_set_ne (by omega)];exact hC.mp
   simp only[go_sem];rw[CQ];simp only[xJ,v1,v2,v5,v44,go_sem];have hset:∀(x o:Obj),(H.set (h.length+1) (BA PV.str TA M)++[x]).set H.length o=H.set (h.length+1) (BA PV.str TA M)++[o]:=fun x o=>by
    rw[List.set_append_right _ _ (by omega),lh,Nat.sub_self];rfl
   have htk:∀(M:List (Nm2×Int)) (x:Obj),(H.set (h.length+1) (BA PV.str TA M)++[x]).take (H.length+1)=H.set (h.length+1) (BA PV.str TA M)++[x]:=fun M x=>List.take_of_length_le (by simp)
   have a1:h.length+1≤H.length+1:=by omega
   have a2:h.length+1+1≤H.length+1:=by omega
   have a3:h.length≤H.length:=by omega
   have a4:h.length+1≤H.length:=by omega
   have lha:∀(x:Obj),(H.set (h.length+1) (BA PV.str TA M)++[x]).length=H.length+1:=fun x=>by simp
   refine zoc (gj seen) (gm seen) (fun hend=>?_) (fun i hi hs=>?_)
   ·simp only[go_sem,hset,htk,lha,a1,a2,a3,a4]
    rw[zqc (fun y hy=>by rw[(hX y hy).1];omega) (by omega) (by simp;omega)]
    refine⟨rfl,?_,rfl⟩;have hMM:M=oB b bits:=by
     refine z7b ?_ ?_ ?_
     ·rw[i3];unfold oB;rw[zmh (fun n v=>(vC b bits (grp (wB b 2 b.parts.length) n)).getD v)]
     ·rw[i3];exact zn3 b
     ·intro n hn
      unfold oB;rw[z62 (fun n v=>(vC b bits (grp (wB b 2 b.parts.length) n)).getD v)]
      rw[i3]at hn;have hs:=z61.2 hn
      obtain⟨v,hv⟩:=Option.isSome_iff_exists.1 hs;rw[hv];by_cases hx:∃i∈seen,(C[i]?).map Prod.fst=some n
      ·rw[i4 n hx,hv]
       cases vC b bits (grp (wB b 2 b.parts.length) n) <;> rfl
      ·rw[i5 n hx,hv]
       rcases hP n with⟨i,hi,e⟩|e
       ·exact absurd ⟨i,hend i hi,by rw[List.getElem?_eq_getElem hi];simp [e]⟩ hx
       ·rw[e];rfl
    rw[←hMM];refine List.ext_getElem? fun j=>?_
    rw[List.getElem?_take];by_cases hj:j<h.length+1+1
    ·rw[if_pos hj,List.getElem?_append_left (by simp;omega)]
     rcases Nat.lt_trichotomy j h.length with q|q|q
     ·rw[List.getElem?_set_ne (by omega),hpre j (by rw[l4];omega)]
      unfold H4;rw[List.getElem?_append_left q,List.getElem?_append_left q]
     ·subst q
      rw[List.getElem?_set_ne (by omega),hB];simp;rfl
     ·have:j=h.length+1:=by omega
      subst this;rw[List.getElem?_set_self (by omega)];simp
    ·rw[if_neg hj,List.getElem?_eq_none (by simp;omega)]
   ·have hl:seen.length<C.length:=zrt i1 i2 hi hs
    have hr:=hC.rw C[i] (List.getElem_mem hi)
    simp only[hset];rw[show BB (AV.it H.length) (H.set (h.length+1) (BA PV.str TA M)++[.iter (some mid) C.length (seen++[i]) C.length])=_ from znD (gj (seen++[i])) (gm (seen++[i])) hi]
    have hgr:=hG C[i].1
    generalize hCi:C[i]=e at *;obtain⟨n,rid,pl⟩:=e;dsimp only at hr hgr ⊢;have hpl:grp (wB b 2 b.parts.length) n=pl:=by
     have hgm:AA n C=some (rid,pl):=by
      have:=zl1 hC.kn hi;rw[hCi]at this;exact this
     rw[hgm]at hgr;by_cases hz:grp (wB b 2 b.parts.length) n=[]
     ·rw[if_pos hz]at hgr;simp at hgr
     ·rw[if_neg hz]at hgr
      simp only[Option.map_some,Option.some.injEq]at hgr;exact hgr.symm
    simp only[go_sem,pD];have hmem:∀p∈pl,(n,p)∈wB b 2 b.parts.length:=fun p hp=>by rw[←hpl]at hp;exact WQ hp
    have hgl:pl.length≤1000000:=by
     have h1:=VQ (wB b 2 b.parts.length) n
     have h2:=iN b 2 b.parts.length (Nat.le_refl _) hc
     rw[hpl]at h1;omega
    have hkn:∀j (hj:j<C.length),C[j].1=n→j=i:=fun j hj e=>by
     have hn:=hC.kn
     have e1:(rB C)[j]'(by simpa [rB] using hj)=(rB C)[i]'(by simpa [rB] using hi):=by
      simp only[rB,List.getElem_map,hCi,e]
     exact(List.getElem_inj hn).1 e1
    refine zra (K:=wA 6 _) b bits ho (T:=.iter (some mid) C.length (seen++[i]) C.length) (n:=n) (M:=M) (X0:=[]) (fun p hp=>?_) hgl hB (by omega) hr.2 ?_
    ·obtain⟨q1,q2,_⟩:=jN (Nat.le_refl _) (hmem p hp)
     exact⟨q1,q2⟩
    intro z;have htk2:∀(M:List (Nm2×Int)) (x:Obj),((H.set (h.length+1) (BA PV.str TA M)++[x]).take (H.length+1))=H.set (h.length+1) (BA PV.str TA M)++[x]:=htk
    have lhb:∀(M:List (Nm2×Int)) (x:Obj),(H.set (h.length+1) (BA PV.str TA M)++[x]).length=H.length+1:=fun M x=>by simp
    have lhc:∀(M:List (Nm2×Int)),(H.set (h.length+1) (BA PV.str TA M)).length=H.length:=fun M=>by simp
    simp only[go_sem,htk2,lhb,lhc,a1,a2,a3,a4];have hkb:∀v,vC b bits pl=some v→n∈rB M:=fun v hv=>by
     rw[i3];obtain⟨p,hp⟩:=List.exists_mem_of_ne_nil _ (zgT hv);obtain⟨_,_,_,q⟩:=jN (Nat.le_refl _) (hmem p hp);refine zn2 ?_;unfold tA;exact zgD (fun x y h=>by simpa [eqN] using h) q
    refine⟨(seen++[i],aE n M (vC b bits pl),_),rfl,⟨⟨rfl,rfl,rfl,rfl⟩,z7j i1 hs,?_,?_,?_,?_⟩,by simp;omega⟩
    ·intro j hj
     rcases List.mem_append.1 hj with q|q
     ·exact i2 j q
     ·rw[List.mem_singleton]at q;omega
    ·dsimp only
     rw[zrx hkb,i3]
    ·rintro m ⟨j,hj,e⟩
     dsimp only;rw[z82];by_cases hm:m=n
     ·subst hm
      rw[if_pos rfl,hpl];congr 1
      refine i5 m ?_;rintro⟨j',hj',e'⟩
      have jl:=i2 j' hj'
      rw[List.getElem?_eq_getElem jl]at e';have:=hkn j' jl (by simpa using e')
      subst this;exact hs hj'
     ·rw[if_neg hm]
      rcases List.mem_append.1 hj with q|q
      ·exact i4 m ⟨j,q,e⟩
      ·rw[List.mem_singleton]at q
       subst q;rw[List.getElem?_eq_getElem hi,hCi]at e;exact absurd (by simpa using e.symm) hm
    ·intro m hx
     dsimp only at hx ⊢;rw[z82];have hm:¬m=n:=fun q=>hx ⟨i,by simp,by rw[List.getElem?_eq_getElem hi,hCi,q];rfl⟩
     rw[if_neg hm];exact i5 m fun⟨j,hj,e⟩=>hx ⟨j,by simp [hj],e⟩
end Go.Am
end
section
/- Numbers asv sets of bits;rows of a test asv numbers. -/
set_option linter.all false
namespace Go.Am
theorem zeI {c:UInt8}{r:List UInt8}(h:vD (c::r)=true):(c=48∨c=49)∧vD r=true:=by
 unfold vD at *;rw[List.all_cons,Bool.and_eq_true]at h;refine⟨?_,h.2⟩;have:=h.1;unfold z6E at this;simpa [List.contains_cons] using this
end Go.Am
end
section
/- Boards,plainly: what a right board and right bits are. -/
set_option linter.all false
namespace Go.Am
structure BrdR (b:Brd):Prop where
 p:b.parts.length≤40
 c:∀p∈b.parts,p.cells.length≤200
 t:∀p∈b.parts,∀c∈p.cells,c.ctl<p.cells.length
 j:b.joins.length≤1000
 w:twJ [] b.joins=false
theorem zg5 {l:List Cel}{c:Cel}(hc:c∈l)(h:mC l c=0):c.ctl<l.length:=by
 have hl:0<l.length:=List.length_pos_of_mem hc
 unfold mC at h;by_cases h5:c.ctl = -1
 ·omega
 ·by_cases h6:inB 0 c.ctl (l.length-1)=true
  ·unfold inB at h6
   simp only[Bool.and_eq_true,decide_eq_true_eq]at h6;omega
  ·have h6':inB 0 c.ctl (l.length-1)=false:=by simpa using h6
   rw[h6',decide_eq_false h5]at h;unfold xB at h;exfalso;revert h
   generalize inB 1 c.kind 4=b1;generalize aC c=b2;generalize PB c.pin=b3;generalize decide (c.kind=2)=b4;generalize decide (EE l c.ctl=3)=b7;generalize inB 0 c.off 1=b8;generalize decide (c.off=0)=b9;generalize decide (c.pin=[])=bp;cases b1 <;> cases b2 <;> cases b3 <;> cases b4 <;> cases b7 <;> cases b8 <;> cases b9 <;> cases bp <;> decide
theorem UH {b:Brd}(h:fD b=0):BrdR b:=by
 unfold fD at h;by_cases h1:(40:Int)<b.parts.length
 ·rw[if_pos h1]at h;cases h
 rw[if_neg h1]at h;by_cases h2:DC none b.parts=0
 ·rw[if_neg (by simp [h2])]at h
  by_cases h3:DE b=0
  ·have hp:=(MN b.parts none h2).2.2
   unfold DE at h3;by_cases j1:(1000:Int)<b.joins.length
   ·rw[if_pos j1]at h3;cases h3
   rw[if_neg j1]at h3;have hcl:∀p∈b.parts,p.cells.length≤200∧∀c∈p.cells,c.ctl<p.cells.length:=fun p hp'=>by
    have hc:=(hp p hp').2
    unfold jD at hc;by_cases c1:(200:Int)<p.cells.length
    ·rw[if_pos c1]at hc;cases hc
    rw[if_neg c1]at hc;by_cases c2:nD (mC p.cells) p.cells=0
    ·exact⟨by omega,fun c hc=>zg5 hc (sK c2 c hc)⟩
    ·rw[if_pos c2]at hc;exact absurd hc c2
   refine⟨by omega,fun p hp'=>(hcl p hp').1,fun p hp'=>(hcl p hp').2,by omega,?_⟩
   by_cases j2:zD b none b.joins=0
   ·rw[if_neg (by simp [j2])]at h3
    cases ht:twJ [] b.joins with
    | false=>rfl
    | true=>rw[ht,if_pos rfl]at h3;cases h3
   ·rw[if_pos j2]at h3;exact absurd h3 j2
  ·rw[if_pos h3]at h;exact absurd h h3
 ·rw[if_pos h2]at h;exact absurd h h2
def okB (s:Nm2)(p:Prt):Bool:=decide (s.length=p.cells.length)&&vD s
def RH (b:Brd)(bits:List Nm2):Bool:=(bits.zip b.parts).all fun e=>okB e.1 e.2
def cC (b:Brd)(bits:List Nm2):Int:=if fD b≠0 then fD b else if bits.length≠b.parts.length then 3 else if RH b bits=true then 0 else 3
theorem rU {b:Brd}{bits:List Nm2}{k:Nat}(h1:k<bits.length)(h2:k<b.parts.length)(h:okB bits[k] b.parts[k]=false):RH b bits=false:=by
 unfold RH;rw[List.all_eq_false];refine⟨(bits[k],b.parts[k]),?_,by simp [h]⟩
 rw[List.mem_iff_getElem];exact⟨k,by simp;omega,by simp⟩
theorem sU {b:Brd}{bits:List Nm2}(h:∀ k (h1:k<bits.length) (h2:k<b.parts.length),okB bits[k] b.parts[k]=true):RH b bits=true:=by
 unfold RH;rw[List.all_eq_true];intro e he;obtain⟨k,hk,rfl⟩:=List.mem_iff_getElem.1 he;rw[List.length_zip]at hk;simp only[List.getElem_zip];exact h k (by omega) (by omega)
theorem zeJ {s:Nm2}(h:vD s=true):∀z∈s,z=48∨z=49:=by
 induction s with
 | nil=>intro z hz;cases hz
 | cons c r ih=>
  intro z hz;have:=zeI h;rcases List.mem_cons.1 hz with e|hz
  ·rw[e];exact this.1
  ·exact ih this.2 z hz
theorem OF {b:Brd}{bits:List Nm2}(h:cC b bits=0):fD b=0∧bits.length=b.parts.length∧RH b bits=true:=by
 unfold cC at h;by_cases h1:fD b=0
 ·rw[if_neg (by simp [h1])]at h
  by_cases h2:bits.length=b.parts.length
  ·rw[if_neg (by simp [h2])]at h
   refine⟨h1,h2,?_⟩;cases h3:RH b bits with
   | true=>rfl
   | false=>rw[h3,if_neg (by simp)]at h;cases h
  ·rw[if_pos h2]at h;cases h
 ·rw[if_pos h1]at h;exact absurd h h1
end Go.Am
end
section
/- Bits of a board: the program's check. -/
open Go
set_option linter.all false
set_option maxRecDepth 100000
namespace Go.Am
variable {h:bA} {K:mA}
attribute [-go_sem] YA bB EB BB
theorem aF {b:Brd}{bits:List Nm2}(h:cC b bits=0):BitsOk b bits:=by
 obtain⟨h1,h2,h3⟩:=OF h;refine⟨h2,fun i hi=>?_,(UH h1).t⟩
 have hi':i<bits.length:=by omega
 have ok:okB bits[i] b.parts[i]=true:=by
  cases hc:okB bits[i] b.parts[i]with
  | true=>rfl
  | false=>have:=rU hi' hi hc;rw[h3]at this;cases this
 unfold okB at ok;simp only[Bool.and_eq_true,decide_eq_true_eq]at ok;exact⟨bits[i],List.getElem?_eq_getElem hi',ok.1,zeJ ok.2⟩
structure BitsL (bits:List Nm2):Prop where
 n:bits.length≤100000
 l:∀s∈bits,s.length≤1000000
theorem yS (b:Brd)(bits:List Nm2)(ho:BrdOk b)(hb:BitsL bits):jA X AE [.p b.pv,nB bits] h K=K (AI (cC b bits)) h []:=by
 refine IA ?_;rw[zeZ rfl];have ln:(b.parts.map Prt.pv).length=b.parts.length:=List.length_map ..
 have lb:(bits.map PV.str).length=bits.length:=List.length_map ..
 have ck:=fun hh K=>z8e (h:=hh) (K:=K) b ho
 simp only[Brd.pv]at ck;unfold cC;have hn:=hb.n
 by_cases h1:fD b=0
 ·rw[if_neg (by simp [h1])]
  by_cases h2:bits.length=b.parts.length
  ·rw[if_neg (by simp [h2])]
   have h2':((bits.length:Int)=b.parts.length)=True:=eq_true (by omega)
   simp only[uJ,Brd.pv,go_sem,ck,h1,ln,lb,h2'];refine UA (fun k:Nat=>⟨[(2,.ref h.length 0),(19,nB bits),(20,AI bits.length),(21,AI k)],h++[qA b],[]⟩) (fun k=>k≤bits.length∧∀j (j1:j<bits.length) (j2:j<b.parts.length),j<k→okB bits[j] b.parts[j]=true) (fun k=>bits.length-k) 0 rfl ⟨by omega,fun j _ _ hj=>absurd hj (by omega)⟩ ?_
   rintro k ⟨hk,hpre⟩
   rcases Nat.lt_or_ge k bits.length with hlt|hge
   ·have hlt2:k<b.parts.length:=by omega
    have g1:=ZA PV.str hlt
    have g2:=ZA Prt.pv hlt2
    have hs:bits[k].length≤1000000:=hb.l _ (List.getElem_mem hlt)
    have w2:IntKind.i64.wrap ((k:Int)+1)=((k+1:Nat):Int):=JA _ (by omega) (by omega)
    have ihk:=hpre
    have okd:okB bits[k] b.parts[k]=(decide (bits[k].length=b.parts[k].cells.length)&&vD bits[k]):=rfl
    have bad:=fun h=>rU (b:=b) (bits:=bits) hlt hlt2 h
    have nxt:okB bits[k] b.parts[k]=true→∀j (j1:j<bits.length) (j2:j<b.parts.length),j<k+1→okB bits[j] b.parts[j]=true:=fun h j j1 j2 hj=>by
     by_cases e:j=k
     ·subst e;exact h
     ·exact hpre j j1 j2 (by omega)
    generalize okB bits[k] b.parts[k]=ok at *;generalize bits[k]=s at *;generalize b.parts[k]=p at *;have lc:(p.cells.map Cel.pv).length=p.cells.length:=List.length_map ..
    have sB:=fun hh K=>zqy (h:=hh) (K:=K) s hs
    simp only[Prt.pv]at g2;by_cases hle:s.length=p.cells.length
    ·have e1:((s.length:Int)=p.cells.length)=True:=eq_true (by omega)
     rw[decide_eq_true hle,Bool.true_and]at okd;cases hB:vD s with
     | true=>
      simp only[qA,go_sem,hlt,hlt2,g1,g2,w2,ln,lb,lc,e1,sB,hB];exact⟨k+1,rfl,⟨hlt,nxt (by rw[okd,hB])⟩,by omega⟩
     | false=>
      rw[bad (by rw[okd,hB])]
      simp only[qA,go_sem,hlt,hlt2,g1,g2,w2,ln,lb,lc,e1,sB,hB]
    ·have e1:((s.length:Int)=p.cells.length)=False:=eq_false (by omega)
     rw[decide_eq_false hle,Bool.false_and]at okd;rw[bad okd];simp only[qA,go_sem,hlt,hlt2,g1,g2,w2,ln,lb,lc,e1]
   ·have e:k=bits.length:=by omega
    subst e;rw[sU fun j j1 j2=>hpre j j1 j2 j1]
    simp only[go_sem,Nat.lt_irrefl]
  ·rw[if_pos h2]
   have h2':((bits.length:Int)=b.parts.length)=False:=eq_false (by omega)
   simp only[uJ,Brd.pv,go_sem,ck,h1,ln,lb,h2']
 ·rw[if_pos h1]
  simp only[uJ,Brd.pv,go_sem,ck,h1,ln,lb]
end Go.Am
end
section
/- Levels: the program. -/
open Go
set_option linter.all false
set_option maxRecDepth 100000
namespace Go.Am
variable {h:bA} {K:mA}
attribute [-go_sem] YA bB EB BB
theorem SY {b:Brd}{bits:List Nm2}(ho:BrdOk b)(hf:cC b bits=0) :
 jA X OE [.p b.pv,nB bits] h K=K (.mp (h.length+1)) (h++[qA b,BA PV.str TA (oB b bits)]) []:=by
 have R:=UH (OF hf).1
 exact zrb b bits (aF hf) (by have:=R.p;omega) (fun p hp=>by have:=R.c p hp;omega) (by have:=R.j;omega) (by have:=ho.p;omega) R.w
def BD (b:Brd)(bits:List Nm2):List Int:=(tA b).map fun n=>(AA n (oB b bits)).getD 0
def cR (b:Brd)(bits:List Nm2):List Int×Int:=if cC b bits≠0 then([],cC b bits) else(BD b bits,0)
theorem zq6 (b:Brd)(bits:List Nm2)(ho:BrdOk b)(hb:BitsL bits):jA X mH [.p b.pv,nB bits] h K=K (.tup [.p (.sl none ((cR b bits).1.map eI)),AI (cR b bits).2]) h []:=by
 refine IA ?_;rw[zfd rfl];have ck:=fun hh K=>yS (h:=hh) (K:=K) b bits ho hb
 simp only[Brd.pv]at ck;unfold cR;by_cases h1:cC b bits=0
 ·rw[if_neg (by simp [h1])]
  have lv:=fun hh K=>SY (h:=hh) (K:=K) ho h1
  simp only[Brd.pv]at lv;simp only[mM,Brd.pv,go_sem,ck,h1,lv];have R:=UH (OF h1).1
  have hj:=R.j
  obtain⟨xs,x1,x2,x3,x4,sn⟩:=JL (h:=h++[qA b,qA b,BA PV.str TA (oB b bits),Obj.row none [] 0]) b (by omega)
  simp only[Brd.pv]at sn;have hb0:Obj.box [AV.p (PV.sl (some 2) (List.map Prt.pv b.parts)),AV.p (PV.sl (some 3) (List.map Jon.pv b.joins)),AV.p (PV.sl (some 2) (List.map Pul.pv b.pulls))]=qA b:=rfl
  rw[hb0,sn];simp only[go_sem];have xg:∀k (hk:k<(tA b).length),xs[k]?=some (.str (tA b)[k]):=fun k hk=>by
   have:=congrArg (fun l=>l[k]?) x2
   simp only[win,List.drop_zero,List.getElem?_take,hk,if_true,List.getElem?_map,List.getElem?_eq_getElem hk,Option.map_some]at this;exact this
  have lk:=fun(n:Nm2) (t:bA)=>rF (kk:=(none,[2])) (h:=h++qA b::qA b::BA PV.str TA (oB b bits)::t) (id:=h.length+2) (k:=n) (val:=TA) (l:=oB b bits) eG (by simp) fG (ok:=false) (z:=AI 0)
  simp only[cond_false]at lk;refine UA (fun k:Nat=>⟨[(7,.mp (h.length+2)),(8,.own (h.length+3) k 0 k),(21,.own (h.length+5) b.joins.length 0 (tA b).length),(22,AI (tA b).length),(23,AI k)],h++[qA b,qA b,BA PV.str TA (oB b bits),Obj.row none (((BD b bits).take k).map eI) 0,qA b,.row none xs 0],[]⟩) (fun k=>k≤(tA b).length) (fun k=>(tA b).length-k) 0 rfl (by omega) ?_
  intro k hk;have ll:(BD b bits).length=(tA b).length:=List.length_map ..
  rcases Nat.lt_or_ge k (tA b).length with hlt|hge
  ·have g:=xg k hlt
   have w2:IntKind.i64.wrap ((k:Int)+1)=((k+1:Nat):Int):=JA _ (by omega) (by omega)
   have kj:k<b.joins.length:=by omega
   have tk:(BD b bits).take (k+1)=(BD b bits).take k++[(AA (tA b)[k] (oB b bits)).getD 0]:=by
    rw[List.take_succ_eq_append_getElem (by omega)];simp [BD]
   have tl:(((BD b bits).take k).map eI).length=k:=by simp;omega
   have gv:((AA (tA b)[k] (oB b bits)).map TA).getD (AI 0)=AI ((AA (tA b)[k] (oB b bits)).getD 0):=by
    cases AA (tA b)[k] (oB b bits) <;> rfl
   have lkn:=lk (tA b)[k]
   rw[gv]at lkn;generalize (AA (tA b)[k] (oB b bits)).getD 0=v at *;generalize (tA b)[k]=n at *;generalize hrow:((BD b bits).take k).map eI=row at *;generalize BA PV.str TA (oB b bits)=mo at *;generalize hbb:qA b=bo at *;have km:k+1≤XA:=by unfold XA;omega
   simp only[go_sem,hlt,g,x1,x3,kj,lkn,w2,tl,km];refine⟨k+1,?_,by omega,by omega⟩
   rw[tk,List.map_append,hrow];rfl
  ·have e:k=(tA b).length:=by omega
   subst e;rw[List.take_of_length_le (by omega)]
   have wf:win ((BD b bits).map eI) 0 (tA b).length=(BD b bits).map eI:=HF (by simp [ll])
   simp only[go_sem,Nat.lt_irrefl,ll,wf]
 ·rw[if_pos h1]
  simp only[mM,Brd.pv,go_sem,ck,h1]
end Go.Am
end
section
/- Captured: the program. -/
open Go
set_option linter.all false
set_option maxRecDepth 100000
namespace Go.Am
variable {h:bA} {K:mA}
attribute [-go_sem] YA bB EB BB
def KE (b:Brd)(M:List (Nm2 × Int))(key:Nm2)(c:Cel)(z:UInt8):UInt8:=
 if c.kind≠1 then z else match tF b key c.pin with
  | some n=>if(AA n M).getD 0≠1∧(AA n M).getD 0≠2 then 48 else 49
  | none=>49
def ZB (b:Brd)(M:List (Nm2 × Int))(p:Prt)(s:Nm2):Nm2:=(p.cells.zip s).map fun e=>KE b M p.key e.1 e.2
def SB (b:Brd)(bits:List Nm2):List Nm2:=(b.parts.zip bits).map fun e=>ZB b (oB b bits) e.1 e.2
def capP (b:Brd)(bits:List Nm2):List Nm2×Int:=if cC b bits≠0 then([],cC b bits) else(SB b bits,0)
def H6 (h:bA)(b:Brd)(M:List (Nm2 × Int))(rows:List PV)(t:bA):bA:=h++qA b::qA b::BA PV.str TA M::qA b::BA spP zC (rC b.joins) :: .row none rows 0::t
def iD (b:Brd)(M:List (Nm2 × Int))(p:Prt)(s:Nm2)(k:Nat):List PV:=((ZB b M p s).take k++s.drop k).map fun z=>PV.int .u8 z.toNat
theorem zg1 {b:Brd}{M:List (Nm2 × Int)}{p:Prt}{s:Nm2}{k:Nat}(hk:k<p.cells.length)(hs:s.length=p.cells.length):(iD b M p s k).set k (PV.int .u8 (KE b M p.key p.cells[k] (s[k]'(by omega))).toNat)=iD b M p s (k+1):=by
 have hc:(ZB b M p s).length=p.cells.length:=by simp [ZB,hs]
 have hk':k<s.length:=by omega
 have e1:(ZB b M p s).take (k+1)=(ZB b M p s).take k++[KE b M p.key p.cells[k] (s[k]'hk')]:=by
  rw[List.take_succ_eq_append_getElem (by omega)]
  simp [ZB]
 have e2:s.drop k=s[k]::s.drop (k+1):=List.drop_eq_getElem_cons hk'
 unfold iD;rw[e1,e2,List.map_append,List.map_append,List.map_append,List.set_append_right _ _ (by simp;omega)]
 have:k-(List.map (fun z:UInt8=>PV.int .u8 z.toNat) ((ZB b M p s).take k)).length=0:=by simp;omega
 rw[this];simp only[List.map_cons,List.set_cons_zero,List.append_assoc,List.cons_append,List.nil_append,List.map_nil]
theorem zg0 {b:Brd}{M:List (Nm2 × Int)}{p:Prt}{s:Nm2}{k:Nat}(hk:k<s.length)(hs:s.length=p.cells.length):(iD b M p s k).set k (PV.int .u8 (s[k]).toNat)=iD b M p s k:=by
 have hc:(ZB b M p s).length=p.cells.length:=by simp [ZB,hs]
 have e2:s.drop k=s[k]::s.drop (k+1):=List.drop_eq_getElem_cons hk
 unfold iD;rw[e2,List.map_append,List.set_append_right _ _ (by simp;omega)]
 have:k-(List.map (fun z:UInt8=>PV.int .u8 z.toNat) ((ZB b M p s).take k)).length=0:=by simp;omega
 rw[this];simp only[List.map_cons,List.set_cons_zero]
theorem zgz {b:Brd}{M:List (Nm2 × Int)}{p:Prt}{s:Nm2}{k:Nat}(hk:k<s.length)(hs:s.length=p.cells.length):(iD b M p s k)[k]?=some (PV.int .u8 (s[k]).toNat):=by
 have hc:(ZB b M p s).length=p.cells.length:=by simp [ZB,hs]
 have e2:s.drop k=s[k]::s.drop (k+1):=List.drop_eq_getElem_cons hk
 unfold iD;rw[e2,List.map_append,List.getElem?_append_right (by simp;omega)]
 have:k-(List.map (fun z:UInt8=>PV.int .u8 z.toNat) ((ZB b M p s).take k)).length=0:=by simp;omega
 rw[this];rfl
attribute [-go_sem] z47 xP
theorem zqG {K:Ex→St→Prop}(b:Brd)(bits:List Nm2){M:List (Nm2 × Int)}{rows:List PV}{p:Prt}{s:Nm2}{i m:Nat}(hs:s.length=p.cells.length)(hl:p.cells.length≤1000)
 (fin:∀z,K (.exit 2) ⟨[(1,nB bits),(7,.mp (h.length+2)),(8,.mp (h.length+4)),(9,.own (h.length+5) m 0 m),(11,.ref (h.length+6) 0),(12,.own (h.length+7) s.length 0 s.length),(29,aD b.parts),(30,AI b.parts.length),(31,AI i),(42,dE p.cells),(43,AI p.cells.length),(44,AI p.cells.length),z],H6 h b M rows [p.bx,.row none ((ZB b M p s).map fun z=>PV.int .u8 z.toNat) 0],[]⟩) :
 FA (jA X) X.gl (.scope EK) K [(1,nB bits),(7,.mp (h.length+2)),(8,.mp (h.length+4)),(9,.own (h.length+5) m 0 m),(11,.ref (h.length+6) 0),(12,.own (h.length+7) s.length 0 s.length),(29,aD b.parts),(30,AI b.parts.length),(31,AI i),(42,dE p.cells),(43,AI p.cells.length),(44,AI 0)] (H6 h b M rows [p.bx,.row none (iD b M p s 0) 0]) []:=by
 refine UA (fun k:Nat=>⟨[(1,nB bits),(7,.mp (h.length+2)),(8,.mp (h.length+4)),(9,.own (h.length+5) m 0 m),(11,.ref (h.length+6) 0),(12,.own (h.length+7) s.length 0 s.length),(29,aD b.parts),(30,AI b.parts.length),(31,AI i),(42,dE p.cells),(43,AI p.cells.length),(44,AI k)],H6 h b M rows [p.bx,.row none (iD b M p s k) 0],[]⟩) (fun k=>k≤p.cells.length) (fun k=>p.cells.length-k) 0 rfl (by omega) ?_
 intro k hk;have ln:(p.cells.map Cel.pv).length=p.cells.length:=List.length_map ..
 have hc:(ZB b M p s).length=p.cells.length:=by simp [ZB,hs]
 rcases Nat.lt_or_ge k p.cells.length with hlt|hge
 ·have g:=ZA Cel.pv hlt
  have w2:IntKind.i64.wrap ((k:Int)+1)=((k+1:Nat):Int):=JA _ (by omega) (by omega)
  have c1:QA (some 4) 0 p.cells[k].pv=some p.cells[k].pv:=rfl
  have st:=zg1 (b:=b) (M:=M) hlt hs
  have sk:=zg0 (b:=b) (M:=M) (p:=p) (k:=k) (s:=s) (by omega) hs
  have rl:(iD b M p s k).length=s.length:=by simp [iD,hc];omega
  have kl:k<s.length:=by omega
  have rk:=zgz (b:=b) (M:=M) (p:=p) kl hs
  unfold KE at st;have lkM:=fun(n:Nm2) (t:bA)=>rF (kk:=(none,[2])) (h:=h++qA b::qA b::BA PV.str TA M::t) (id:=h.length+2) (k:=n) (val:=TA) (l:=M) eG (by simp) fG (ok:=false) (z:=AI 0)
  have lkN:=fun(q:Nm2×Nm2) (mo:Obj) (t:bA)=>rF (kk:=(some 2,[2,2])) (h:=h++qA b::qA b::mo::qA b::BA spP zC (rC b.joins)::t) (id:=h.length+4) (k:=q) (val:=zC) (l:=rC b.joins) WM (by simp) XM (ok:=true) (z:=.p (.str []))
  simp only[cond_false,cond_true]at lkM lkN;have gvM:∀n,((AA n M).map TA).getD (AI 0)=AI ((AA n M).getD 0):=fun n=>by cases AA n M <;> rfl
  generalize hcc:p.cells[k]=c at *;generalize hR1:iD b M p s (k+1)=R1 at *;generalize hR:iD b M p s k=R at *;have rk2:∀v,(R.set k v)[k]?=some v:=fun v=>by rw[List.getElem?_set_self (by omega)]
  simp only[Cel.pv,eI]at g c1;simp only[H6];by_cases hkind:c.kind=1
  ·rw[if_neg (by simp [hkind])]at st
   have hkp:=eq_true hkind
   have lkn:=lkN (p.key,c.pin)
   have gN:AA (p.key,c.pin) (rC b.joins)=tF b p.key c.pin:=SQ _ _ _
   rw[gN]at lkn;simp only[spP]at lkn;cases hn:tF b p.key c.pin with
   | none=>
    rw[hn]at st lkn;have e49:(R.set k (.int .u8 49))=R1:=st
    generalize BA PV.str TA M=mo at *;generalize BA spP zC (rC b.joins)=no at *;generalize qA b=bo at *;simp only[H6,Prt.bx,go_sem,hlt,g,c1,w2,ln,hkp,lkn,Option.map_none,Option.getD_none,Option.isSome_none,rl,kl,rk,rk2,e49];exact⟨k+1,by rw[hR1],by omega,by omega⟩
   | some n=>
    rw[hn]at st lkn;dsimp only at st;have lm:=lkM n
    rw[gvM n]at lm;generalize (AA n M).getD 0=v at *;generalize BA PV.str TA M=mo at *;generalize BA spP zC (rC b.joins)=no at *;generalize qA b=bo at *;have rl2:(R.set k (.int .u8 49)).length=s.length:=by simp [rl]
    have ss:(R.set k (.int .u8 49)).set k (.int .u8 48)=R.set k (.int .u8 48):=List.set_set ..
    by_cases v1:v=1
    ·rw[if_neg (fun x=>x.1 v1)]at st
     have e49:(R.set k (.int .u8 49))=R1:=st
     have v1':=eq_true v1
     simp only[H6,Prt.bx,go_sem,hlt,g,c1,w2,ln,hkp,lkn,lm,Option.map_some,Option.getD_some,Option.isSome_some,zC,rl,rl2,kl,rk,rk2,v1'];refine⟨k+1,?_,by omega,by omega⟩
     rw[e49,hR1]
    ·by_cases v2:v=2
     ·rw[if_neg (fun x=>x.2 v2)]at st
      have e49:(R.set k (.int .u8 49))=R1:=st
      have v2':=eq_true v2
      simp only[H6,Prt.bx,go_sem,hlt,g,c1,w2,ln,hkp,lkn,lm,Option.map_some,Option.getD_some,Option.isSome_some,zC,rl,rl2,kl,rk,rk2,v1,v2'];refine⟨k+1,?_,by omega,by omega⟩
      rw[e49,hR1]
     ·rw[if_pos ⟨v1,v2⟩]at st
      have e48:(R.set k (.int .u8 48))=R1:=st
      simp only[H6,Prt.bx,go_sem,hlt,g,c1,w2,ln,hkp,lkn,lm,Option.map_some,Option.getD_some,Option.isSome_some,zC,rl,rl2,kl,rk,rk2,v1,v2,ss];refine⟨k+1,?_,by omega,by omega⟩
      rw[e48,hR1]
  ·rw[if_pos hkind,sk]at st
   generalize BA PV.str TA M=mo at *;generalize BA spP zC (rC b.joins)=no at *;generalize qA b=bo at *;simp only[H6,Prt.bx,go_sem,hlt,g,c1,w2,ln,hkind,rl,kl];refine⟨k+1,?_,by omega,by omega⟩
   rw[st,hR1]
 ·have e:k=p.cells.length:=by omega
  subst e;have:iD b M p s p.cells.length=(ZB b M p s).map fun z=>PV.int .u8 z.toNat:=by
   unfold iD;rw[List.take_of_length_le (by omega),List.drop_eq_nil_of_le (by omega),List.append_nil]
  rw[this];simp only[H6,go_sem,Nat.lt_irrefl];exact fin _
end Go.Am
end
section
/- Lists of faults: what is wrong with them,both ways. -/
open Go
set_option linter.all false
namespace Go.Am
variable {h:bA} {K:mA}
end Go.Am
end
section
/- Rows of a test asv numbers. -/
open Go
set_option linter.all false
namespace Go.Am
variable {h:bA} {K:mA}
end Go.Am
end
section
/- Faults on rows: what the program makes of them. -/
open Go
set_option linter.all false
namespace Go.Am
variable {h:bA} {K:mA}
theorem zry {h t:bA}{id:Nat}(hid:id<h.length)(o:Obj):(h.set id o++t)[id]?=some o:=by
 rw[List.getElem?_append_left (by simpa using hid)];exact pG hid
theorem zrz {h t:bA}{id:Nat}(hid:id<h.length)(o o':Obj):(h.set id o++t).set id o'=h.set id o'++t:=by
 rw[List.set_append_left _ _ (by simpa using hid),List.set_set]
end Go.Am
end
section
/- What the receivers of a net captured: the program. -/
open Go
set_option linter.all false
set_option maxRecDepth 100000
namespace Go.Am
variable {h:bA} {K:mA}
attribute [-go_sem] YA bB EB BB
def MD (bits:List Nm2)(pl:List (Nat × Nat)):Nm2:=pl.map fun p=>(bits.getD p.1 []).getD p.2 0
theorem z8z {K:Ex→St→Prop}{H:bA}{X0:Esc}{oid:Nat}{v26:AV}{pl:List (Nat × Nat)}{bits:List Nm2}(ho:oid<H.length)(hpl:pl.length≤1000000)(hv:∀ o t,Shows (some 2) v26 (pl.map plP) (H.set oid o++t))(hvt:v26.top≤H.length)(hO:H[oid]?=some (.row none [] 0))(hb:∀ p∈pl,∃ s z,bits[p.1]?=some s∧s[p.2]?=some z)
 (fin:∀z,K (.exit 0) ⟨[(1,nB bits),(9,.own oid pl.length 0 pl.length),(26,v26),(27,AI pl.length),(28,AI pl.length),z],H.set oid (.row none (iB (MD bits pl)) 0),X0⟩) :
 FA (jA X) X.gl (.scope OI) K [(1,nB bits),(9,.own oid 0 0 0),(26,v26),(27,AI pl.length),(28,AI 0)] H X0:=by
 refine UA (fun k:Nat=>⟨[(1,nB bits),(9,.own oid k 0 k),(26,v26),(27,AI pl.length),(28,AI k)],H.set oid (.row none (iB (MD bits (pl.take k))) 0),X0⟩) (fun k=>k≤pl.length) (fun k=>pl.length-k) 0 (by simp [MD,iB,qG hO]) (by omega) ?_
 intro k hk;have e1:(oid+1≤H.length)=True:=eq_true ho
 have eO:(oid≤H.length)=True:=eq_true (by omega)
 have ls:∀o:Obj,(H.set oid o).length=H.length:=fun o=>List.length_set
 rcases Nat.lt_or_ge k pl.length with hlt|hge
 ·have w2:IntKind.i64.wrap ((k:Int)+1)=((k+1:Nat):Int):=JA _ (by omega) (by omega)
  obtain⟨s,z,b1,b2⟩:=hb _ (List.getElem_mem hlt);have hk2:k<(pl.map plP).length:=by simpa using hlt
  have SH:=fun o=>(hv o []).get k hk2
  simp only[List.append_nil]at SH;obtain⟨ad,a1,a2⟩:=SH (.row none (iB (MD bits (pl.take k))) 0);rw[List.getElem_map]at a2;have sn:MD bits (pl.take (k+1))=MD bits (pl.take k)++[z]:=by
   unfold MD;rw[List.take_succ_eq_append_getElem hlt,List.map_append];simp only[List.map_cons,List.map_nil];rw[List.getD_eq_getElem?_getD (l:=bits),b1,Option.getD_some,List.getD_eq_getElem?_getD,b2,Option.getD_some]
  have lS:(iB (MD bits (pl.take k))).length=k:=by simp [iB,MD];omega
  generalize hS:iB (MD bits (pl.take k))=S at *;have bS:iB (MD bits (pl.take (k+1)))=S++[.int .u8 z.toNat]:=by rw[sn,←hS];simp [iB]
  have gO:∀(o:Obj) t,(H.set oid o++t)[oid]?=some o:=fun o t=>zry ho o
  have sO:∀(o o':Obj) t,(H.set oid o++t).set oid o'=H.set oid o'++t:=fun o o' t=>zrz ho o o'
  have gb:(bits.map PV.str)[pl[k].1]?=some (.str s):=by rw[List.getElem?_map,b1];rfl
  generalize pl[k]=q at *;obtain⟨q1,q2⟩:=q;dsimp only at b2 gb;simp only[plP,eI]at a2;have km:k+1≤XA:=by unfold XA;omega
  simp only[go_sem,hlt,w2,a1,a2,gb,b2,gO,sO,lS,km,e1,eO,hvt,ls];refine⟨k+1,?_,hlt,by omega⟩
  rw[bS]
 ·have e:k=pl.length:=by omega
  subst e;rw[List.take_length];simp only[go_sem,Nat.lt_irrefl,ls,e1,hvt];exact fin _
theorem zpY {b:Nat}{P:mA}{v u:PV}{H:bA}{X:Esc}(hX:∀ y∈X,b≤y.1):LC false b P (some [.p v,.p u]) H X=P (.tup [.p v,.p u]) (H.take b) []:=by
 have e:∀n,VA n H (kB [.p v,.p u])=some (.tup [.p v,.p u]):=fun n=>rfl
 have t0:(AV.tup [.p v,.p u]).top=0:=by simp [AV.top,AV.tops]
 have hc:WB X b=true:=by
  unfold WB;rw[List.all_eq_true];intro y hy;simp [hX y hy]
 have hf:X.filter (fun y=>decide (y.1<b))=[]:=by
  rw[List.filter_eq_nil_iff];intro y hy;have:=hX y hy;simp;omega
 unfold LC;dsimp only;rw[e];dsimp only;rw[t0,Nat.max_eq_left (Nat.zero_le _),z2v hX,if_pos hc,e,hf];dsimp only;rw[t0];simp
theorem z88:∀ s:List UInt8,FF (iB s)=some s
 | []=>rfl
 | c::r=>by
  have ih:=z88 r
  unfold iB at ih ⊢;rw[List.map_cons];unfold FF;rw[ih];have:((c.toNat:Int))<256:=by have:=c.toNat_lt;omega
  rw[if_pos ⟨by omega,this⟩]
  simp
def ES (b:Brd)(bits:List Nm2)(n:Nm2):Nm2:=MD bits (grp (wB b 1 b.parts.length) n)
attribute [-go_sem] fW AP
theorem zqC {b:Brd}{bits:List Nm2}(ho:BrdOk b)(hb:BitsL bits)(hf:cC b bits=0){n:Nm2}(hn:n∈tA b):jA X MJ [.p b.pv,nB bits,AS n] h K=K (.tup [AS (ES b bits n),AI 0]) h []:=by
 refine IA ?_;rw[zff rfl];have ck:=fun hh K=>yS (h:=hh) (K:=K) b bits ho hb
 rw[hf]at ck;have hj:=ho.j.l
 obtain⟨xs,x1,x2,x3,x4,sn⟩:=JL (h:=h++[qA b]) b (by omega)
 have R:=UH (OF hf).1
 simp only[Brd.pv]at ck sn;have hB:Obj.box [AV.p (PV.sl (some 2) (b.parts.map Prt.pv)),AV.p (PV.sl (some 3) (b.joins.map Jon.pv)),AV.p (PV.sl (some 2) (b.pulls.map Pul.pv))]=qA b:=rfl
 simp only[zP,Brd.pv,go_sem,↓ck,ck];rw[hB,sn];have SH:∀h':bA,h'=h++[qA b]++[qA b,.row none xs 0]→Shows none (.own ((h++[qA b]).length+1) b.joins.length 0 (tA b).length) ((tA b).map PV.str) h':=fun h' e=>by
  subst e;have:=KL (h:=h++[qA b]++[qA b,.row none xs 0]) (id:=(h++[qA b]).length+1) (off:=0) (len:=(tA b).length) (fz:=0) x4 (by rw[List.getElem?_append_right (by omega)];simp) (by omega)
  rw[x1,x2]at this;exact this
 have CT:=fun K=>pO (K:=K) (tA b) SH n (by omega)
 have hc:(tA b).contains n=true:=by simpa using hn
 rw[hc]at CT;rw[CT];simp only[go_sem];have lB:ldB (some 3) 0 (some (qA b))=some (.p b.pv):=rfl
 rw[lB,mN];have BO:=aF hf
 refine z8o b 1 (by have:=R.p;omega) (fun p hp=>by have:=R.c p hp;omega) (by omega) R.w fun H E M mid C G hmid hpre hX=>?_
 simp only[List.length_append,List.length_cons,List.length_nil,Nat.zero_add]at hmid hpre;have hO:H[h.length+3]?=some (.row none [] 0):=by
  rw[hpre (h.length+3) (by omega),List.getElem?_append_right (by omega),show h.length+3-h.length=3 by omega];rfl
 have hpl:(grp (wB b 1 b.parts.length) n).length≤1000000:=by
  have h1:=VQ (wB b 1 b.parts.length) n
  have h2:=iN b 1 b.parts.length (Nat.le_refl _) fun p hp=>by have:=R.c p hp;omega
  have:b.parts.length*1000≤40*1000:=Nat.mul_le_mul (by have:=R.p;omega) (Nat.le_refl _)
  omega
 have pls:∀p∈grp (wB b 1 b.parts.length) n,∃s z,bits[p.1]?=some s∧s[p.2]?=some z:=fun p hp=>by
  obtain⟨q1,q2,_⟩:=jN (Nat.le_refl _) (WQ hp);dsimp only at q1 q2;obtain⟨s,b1,b2,_⟩:=BO.l p.1 q1;exact⟨s,s[p.2]'(by omega),b1,List.getElem?_eq_getElem _⟩
 have mh:=C.hi
 have oh:h.length+3<H.length:=by omega
 have lk:=rF (kk:=(none,[2])) (h:=H) (k:=n) (val:=pD) eG C.mp fG (ok:=false) (z:=.sl0 (some 2))
 simp only[cond_false]at lk;rw[lk];have Gn:=G n
 have X1:∀y∈E,h.length≤y.1:=fun y hy=>by have:=(hX y hy).1;omega
 have tk:∀o:Obj,(H.set (h.length+3) o).take h.length=h:=fun o=>by
  apply List.ext_getElem?
  intro j;rw[List.getElem?_take];split
  ·rename_i hj
   rw[List.getElem?_set_ne (by omega),hpre j (by omega),List.getElem?_append_left hj]
  ·rename_i hj
   rw[List.getElem?_eq_none (by omega)]
 have gO:∀o:Obj,(H.set (h.length+3) o)[h.length+3]?=some o:=fun o=>List.getElem?_set_self oh
 have last:∀(env:List (Nat×AV)) (S:Nm2),aA env 9 = .own (h.length+3) S.length 0 S.length→NW (jA X) X.gl pN ⟨env,H.set (h.length+3) (.row none (iB S) 0),E⟩ (xA [.t 6,.t 7] false h.length fun v1 h1 x1=>v1=AV.tup [AS S,AI 0]∧h1=h∧x1=[]):=fun env S e9=>by
  rw[fW];have lS:(iB S).length=S.length:=by simp [iB]
  have toB:FF (iB S)=some S:=z88 S
  have wS:win (iB S) 0 S.length=iB S:=HF lS
  simp only[AP,e9,go_sem,gO,lS,wS,toB];rw[zpY X1,tk];exact⟨rfl,rfl,rfl⟩
 unfold ES;cases hg:AA n M with
 | none=>
  rw[hg]at Gn;have hp0:grp (wB b 1 b.parts.length) n=[]:=by
   by_cases hz:grp (wB b 1 b.parts.length) n=[]
   ·exact hz
   ·rw[if_neg hz]at Gn;cases Gn
  rw[hp0];have l0:yA (.sl0 (some 2))=some (AI 0):=rfl
  simp only[Option.map_none,Option.getD_none,mN,l0];refine z8z (K:=wA 0 _) (H:=H) (pl:=[]) (v26:=.sl0 (some 2)) oh (by simp) (fun o t=>⟨rfl,fun k hk=>by simp at hk⟩) (by simp [AV.top]) hO (fun p hp=>by cases hp) fun z=>?_
  simp only[go_sem];exact last _ [] rfl
 | some v=>
  obtain⟨rid,pl⟩:=v;rw[hg]at Gn;have hp0:grp (wB b 1 b.parts.length) n=pl:=by
   by_cases hz:grp (wB b 1 b.parts.length) n=[]
   ·rw[if_pos hz]at Gn;cases Gn
   ·rw[if_neg hz]at Gn;exact(Option.some.inj Gn).symm
  rw[hp0]at hpl pls ⊢;obtain⟨r1,r2⟩:=C.rw _ (II hg);dsimp only at r1 r2;have rl:=yB r2
  have lr:(pl.map plP).length=pl.length:=List.length_map ..
  have l0:yA (pD (rid,pl))=some (AI pl.length):=rfl
  simp only[Option.map_some,Option.getD_some,mN,l0];refine z8z (K:=wA 0 _) (H:=H) (pl:=pl) (v26:=pD (rid,pl)) oh hpl (fun o t=>?_) (by simp [AV.top,pD];omega) hO pls fun z=>?_
  ·have:=z83 (sh:=some 2) (id:=rid) (fz:=0) (xs:=pl.map plP) (h:=H.set (h.length+3) o++t) (fun x hx=>by obtain⟨e,_,rfl⟩:=List.mem_map.1 hx;rfl) (by
    rw[List.getElem?_append_left (by rw[List.length_set];omega),List.getElem?_set_ne (by omega)];exact r2)
   rw[lr]at this;exact this
  ·simp only[go_sem]
   have lS:(MD bits pl).length=pl.length:=by simp [MD]
   exact last _ (MD bits pl) (by rw[lS];rfl)
end Go.Am
end
section
/- Rows that are handed tov a function: it sees their values. -/
open Go
namespace Go.Am
end Go.Am
end
section
/- Responses,asv the program computes them. -/
open Go
set_option linter.all false
namespace Go.Am
variable {h:bA} {K:mA}
end Go.Am
end
section
/- Sorting the middle of a row: printed by program. -/
open Go
set_option linter.unusedSimpArgs false
namespace Go.Am
attribute [-go_sem] PV.cells splice
variable {h:bA} {K:mA}
end Go.Am
end
section
/- What is drawn: orders,tests. -/
open Go
set_option linter.all false
namespace Go.Am
variable {L:List Int} {a:Int} {h l:bA} {id:Nat} {K:mA}
def GenK (f:Nat)(args:List AV)(L:List Int)(a:Int)(sh:Sh)(Q:List PV→Int→Prop):Prop:=∀(h:bA) (id:Nat),h[id]?=some (DA L a)→∃xs a2,Q xs a2∧∀K:mA,jA X f (.ref id 0::args) h K=K (.own h.length xs.length 0 xs.length) (h.set id (DA L a2)++[.row sh xs 0]) []
theorem GenK.of {f:Nat}{args:List AV}{L:List Int}{a:Int}{sh:Sh}{Q:List PV→Int→Prop}(H:∀ (h:bA) (id:Nat),id<h.length→jA X f (.ref id 0::args) (h.set id (DA L a)) fun v1 h1 x1=>∃ xs a2,Q xs a2∧v1 = .own h.length xs.length 0 xs.length∧h1=h.set id (DA L a2)++[.row sh xs 0]∧x1=[]):GenK f args L a sh Q:=by
 intro h id hh;have hid:=yB hh
 have k:=H h id hid
 rw[qG hh]at k;obtain⟨v,h',x,⟨xs,a2,q,e0,e1,e2⟩,r⟩:=jA.one VL k;subst e0;subst e1;subst e2
 exact⟨xs,a2,q,r⟩
end Go.Am
end
section
/- Quiet bits of a part: the program. -/
open Go
set_option linter.all false
set_option maxRecDepth 100000
namespace Go.Am
variable {h:bA} {K:mA}
attribute [-go_sem] YA bB EB BB fX aX
end Go.Am
end
section
/- What a right part's outputs are. -/
open Go
set_option linter.all false
set_option maxRecDepth 100000
namespace Go.Am
theorem z1Z {l:List Cel}{c:Cel}(h:mC l c=0)(hk:c.kind=2):(c.off=0∨c.off=1)∧(0≤c.ctl→EE l c.ctl=3):=by
 unfold mC at h;rw[decide_eq_true hk]at h;have g1:inB 0 c.off 1=true∨inB 0 c.off 1=false:=by cases inB 0 c.off 1 <;> simp
 have g2:decide (EE l c.ctl=3)=true∨decide (EE l c.ctl=3)=false:=by cases decide (EE l c.ctl=3) <;> simp
 have g3:decide (c.ctl = -1)=true∨decide (c.ctl = -1)=false:=by cases decide (c.ctl = -1) <;> simp
 refine⟨?_,fun h0=>?_⟩
 ·rcases g1 with e|e
  ·unfold inB at e;simp only[Bool.and_eq_true,decide_eq_true_eq]at e;omega
  ·rw[e]at h
   exfalso;revert h
   generalize inB 1 c.kind 4=b1;generalize aC c=b2;generalize PB c.pin=b3;generalize decide (EE l c.ctl=3)=b7;generalize decide (c.ctl = -1)=b5;generalize inB 0 c.ctl (l.length-1)=b6;generalize decide (c.off=0)=b9;generalize decide (c.pin=[])=bp;unfold xB;cases b1 <;> cases b2 <;> cases b3 <;> cases b5 <;> cases b6 <;> cases b7 <;> cases b9 <;> cases bp <;> decide
 ·have e5:decide (c.ctl = -1)=false:=decide_eq_false (by omega)
  rcases g2 with e|e
  ·simpa using e
  ·rw[e,e5]at h
   exfalso;revert h
   generalize inB 1 c.kind 4=b1;generalize aC c=b2;generalize PB c.pin=b3;generalize inB 0 c.off 1=b8;generalize inB 0 c.ctl (l.length-1)=b6;generalize decide (c.off=0)=b9;generalize decide (c.pin=[])=bp;unfold xB;cases b1 <;> cases b2 <;> cases b3 <;> cases b6 <;> cases b8 <;> cases b9 <;> cases bp <;> decide
structure PrtG (p:Prt):Prop where
 o:∀c∈p.cells,c.kind=2→c.off=0∨c.off=1
 k:∀c∈p.cells,c.kind=2→0≤c.ctl→EE p.cells c.ctl=3
theorem zp2 {b:Brd}(h:fD b=0):∀p∈b.parts,PrtG p:=fun p hp=>by
 unfold fD at h;by_cases h1:(40:Int)<b.parts.length
 ·rw[if_pos h1]at h;cases h
 rw[if_neg h1]at h;by_cases h2:DC none b.parts=0
 ·have hc:=((MN b.parts none h2).2.2 p hp).2
  unfold jD at hc;by_cases c1:(200:Int)<p.cells.length
  ·rw[if_pos c1]at hc;cases hc
  rw[if_neg c1]at hc;by_cases c2:nD (mC p.cells) p.cells=0
  ·exact⟨fun c hc hk=>(z1Z (sK c2 c hc) hk).1,fun c hc hk=>(z1Z (sK c2 c hc) hk).2⟩
  ·rw[if_pos c2]at hc;exact absurd hc c2
 ·rw[if_pos h2]at h;exact absurd h h2
end Go.Am
end
section
/- What is captured is seen,plainly. -/
set_option linter.all false
set_option maxRecDepth 100000
namespace Go.Am
theorem aM {b:Brd}{M:List (Nm2 × Int)}{p:Prt}{s:Nm2}(h:s.length=p.cells.length):(ZB b M p s).length=p.cells.length:=by simp [ZB,h]
theorem VH {b:Brd}{bits:List Nm2}(h:bits.length=b.parts.length):(SB b bits).length=b.parts.length:=by unfold SB;simp [h]
theorem nJ {b:Brd}{bits:List Nm2}{i:Nat}(hi:i<b.parts.length){s:Nm2}(hs:bits[i]?=some s):(SB b bits)[i]?=some (ZB b (oB b bits) b.parts[i] s):=by
 obtain⟨h1,h2⟩:=List.getElem?_eq_some_iff.1 hs;unfold SB;rw[List.getElem?_map,List.getElem?_eq_getElem (by rw[List.length_zip];omega),Option.map_some,List.getElem_zip]
 simp only[h2]
theorem ZL {b:Brd}{M:List (Nm2 × Int)}{p:Prt}{s:Nm2}{k:Nat}(hk:k<p.cells.length)(hs:s.length=p.cells.length):(ZB b M p s)[k]?=some (KE b M p.key p.cells[k] (s[k]'(by omega))):=by
 unfold ZB;rw[List.getElem?_map,List.getElem?_eq_getElem (by rw[List.length_zip];omega),Option.map_some,List.getElem_zip]
theorem zgx {b:Brd}{M:List (Nm2 × Int)}{key:Nm2}{c:Cel}{z:UInt8}(hz:z=48∨z=49):KE b M key c z=48∨KE b M key c z=49:=by
 unfold KE;split
 ·exact hz
 ·split
  ·split <;> simp
  ·simp
theorem zeK {s:Nm2}(h:∀ z∈s,z=48∨z=49):vD s=true:=by
 induction s with
 | nil=>rfl
 | cons c r ih=>
  have h1:=h c (by simp)
  have h2:=ih fun z hz=>h z (by simp [hz])
  unfold vD at h2 ⊢;rw[List.all_cons,h2];rcases h1 with e|e <;> subst e <;> rfl
theorem xU {b:Brd}{bits:List Nm2}(hf:cC b bits=0):cC b (SB b bits)=0:=by
 have O:=aF hf
 have h0:=(OF hf).1
 have ln:=VH O.n
 unfold cC;rw[if_neg (by simp [h0]),if_neg (by simp [ln]),if_pos]
 refine sU fun k h1 h2=>?_
 obtain⟨s,s1,s2,s3⟩:=O.l k h2;have g:=nJ h2 s1
 rw[List.getElem?_eq_getElem h1]at g;have g:=Option.some.inj g
 unfold okB;rw[g,aM s2];simp only[decide_true,Bool.true_and];refine zeK fun z hz=>?_
 obtain⟨j,hj,rfl⟩:=List.mem_iff_getElem.1 hz;rw[aM s2]at hj;have:=ZL (b:=b) (M:=oB b bits) hj s2;rw[List.getElem?_eq_getElem (by rw[aM s2];exact hj)]at this
 rw[Option.some.inj this];exact zgx (s3 _ (List.getElem_mem _))
theorem z1X {b:Brd}{bits:List Nm2}(hf:cC b bits=0){i:Nat}(hi:i<b.parts.length){k:Nat}(hk:k<b.parts[i].cells.length)(h1:b.parts[i].cells[k].kind≠1){s t:Nm2}(hs:bits[i]?=some s)(ht:(SB b bits)[i]?=some t):NF t k=NF s k:=by
 have O:=aF hf
 obtain⟨s',s1,s2,_⟩:=O.l i hi;rw[hs]at s1;have e:=Option.some.inj s1
 subst e;rw[nJ hi hs]at ht;have e:=Option.some.inj ht
 subst e;have g:=ZL (b:=b) (M:=oB b bits) hk s2
 unfold NF;rw[List.getD_eq_getElem?_getD,g,List.getD_eq_getElem?_getD,List.getElem?_eq_getElem (by omega)]
 simp only[Option.getD_some];unfold KE;rw[if_pos h1]
theorem zg3 {b:Brd}{bits:List Nm2}(hf:cC b bits=0){n:Nm2}:vC b (SB b bits) (grp (wB b 2 b.parts.length) n)=vC b bits (grp (wB b 2 b.parts.length) n):=by
 have O:=aF hf
 have PG:=zp2 (OF hf).1
 have mem:∀p∈grp (wB b 2 b.parts.length) n,∃(hp:p.1<b.parts.length) (hc:p.2<b.parts[p.1].cells.length),b.parts[p.1].cells[p.2].kind=2:=fun p hp=>by
  obtain⟨q1,q2,q3,_⟩:=jN (Nat.le_refl _) (WQ hp);exact⟨q1,q2,q3⟩
 generalize grp (wB b 2 b.parts.length) n=l at mem;unfold vC;generalize (none:Option Int)=d;induction l generalizing d with
 | nil=>rfl
 | cons p r ih=>
  rw[List.foldl_cons,List.foldl_cons];have e:gI b (SB b bits) d p=gI b bits d p:=by
   obtain⟨h1,h2,h3⟩:=mem p (by simp)
   obtain⟨s,s1,s2,_⟩:=O.l p.1 h1;have g:=nJ h1 s1
   have gc:(b.parts[p.1]?).bind (fun x=>x.cells[p.2]?)=some b.parts[p.1].cells[p.2]:=by rw[List.getElem?_eq_getElem h1];simp [h2]
   have b2:=z1X hf h1 h2 (by rw[h3];decide) s1 g
   unfold gI;rw[gc,g,s1];dsimp only;rw[b2];by_cases hc:0≤b.parts[p.1].cells[p.2].ctl
   ·have hm:=List.getElem_mem h2
    have k3:=(PG _ (List.getElem_mem h1)).k _ hm h3 hc
    have cl:=O.c _ (List.getElem_mem h1) _ hm
    have cn:(b.parts[p.1].cells[p.2].ctl).toNat<b.parts[p.1].cells.length:=by omega
    unfold EE at k3;rw[List.getElem?_eq_getElem cn]at k3;have k3:b.parts[p.1].cells[(b.parts[p.1].cells[p.2].ctl).toNat].kind=3:=k3
    rw[z1X hf h1 cn (by rw[k3];decide) s1 g]
   ·rw[if_neg fun e=>hc e.1,if_neg fun e=>hc e.1]
  rw[e];exact ih (fun q hq=>mem q (by simp [hq])) _
theorem zg4 {b:Brd}{bits:List Nm2}(hf:cC b bits=0):oB b (SB b bits)=oB b bits:=by
 unfold oB;refine List.map_congr_left fun e _=>?_
 rw[zg3 hf]
theorem zg2 {b:Brd}{bits:List Nm2}(hf:cC b bits=0):SB b (SB b bits)=SB b bits:=by
 have O:=aF hf
 have O2:=aF (xU hf)
 apply List.ext_getElem?
 intro i;by_cases hi:i<b.parts.length
 ·obtain⟨s,s1,s2,_⟩:=O.l i hi
  have g:=nJ hi s1
  rw[nJ hi g,g,zg4 hf];congr 1
  have cl:=aM (b:=b) (M:=oB b bits) s2
  apply List.ext_getElem?
  intro k;by_cases hk:k<b.parts[i].cells.length
  ·have e:=ZL (b:=b) (M:=oB b bits) hk s2
   rw[ZL hk cl,e];congr 1
   have e2:(ZB b (oB b bits) b.parts[i] s)[k]'(by omega)=KE b (oB b bits) b.parts[i].key b.parts[i].cells[k] (s[k]'(by omega)):=by
    rw[List.getElem?_eq_getElem (by omega)]at e
    exact Option.some.inj e
   rw[e2];unfold KE;by_cases h1:b.parts[i].cells[k].kind≠1
   ·rw[if_pos h1,if_pos h1]
   ·rw[if_neg h1,if_neg h1]
  ·rw[List.getElem?_eq_none (by rw[aM cl];omega),List.getElem?_eq_none (by omega)]
 ·rw[List.getElem?_eq_none (by rw[VH O2.n];omega),List.getElem?_eq_none (by rw[VH O.n];omega)]
theorem z7z {b:Brd}{kind:Int}:∀{i:Nat},i≤b.parts.length→∀{e},e∈wB b kind i→∃(hp:e.2.1<b.parts.length) (hc:e.2.2<b.parts[e.2.1].cells.length),b.parts[e.2.1].cells[e.2.2].kind=kind∧tF b b.parts[e.2.1].key b.parts[e.2.1].cells[e.2.2].pin=some e.1
 | 0,_,e,h=>by simp [wB]at h
 | i+1,hi,e,h=>by
  rw[mR (by omega)]at h
  rcases List.mem_append.1 h with h|h
  ·exact z7z (by omega) h
  ·unfold inL at h
   obtain⟨ck,hck,hon⟩:=List.mem_filterMap.1 h;obtain⟨c,k⟩:=ck;have hz:=List.mem_zipIdx hck
   simp only[Nat.zero_add,Nat.sub_zero]at hz;obtain⟨_,z2,z3⟩:=hz;have z2:k<b.parts[i].cells.length:=by simpa using z2
   have z3:c=b.parts[i].cells[k]:=by simpa using z3
   unfold xG at hon;dsimp only at hon;by_cases hkd:c.kind=kind
   ·rw[if_pos hkd]at hon
    cases hn:tF b b.parts[i].key c.pin with
    | none=>rw[hn]at hon;cases hon
    | some m=>
     rw[hn]at hon;have he:=Option.some.inj hon
     subst he;dsimp only;refine⟨by omega,z2,?_⟩
     rw[←z3];exact⟨hkd,hn⟩
   ·rw[if_neg hkd]at hon;cases hon
def xK (b:Brd)(bits:List Nm2)(n:Nm2):Int:=(AA n (oB b bits)).getD 0
theorem zru {b:Brd}{bits:List Nm2}(hf:cC b bits=0)(n:Nm2):ES b (SB b bits) n=List.replicate (grp (wB b 1 b.parts.length) n).length (if xK b bits n=1∨xK b bits n=2 then 49 else 48):=by
 have O:=aF hf
 unfold ES MD;rw[List.eq_replicate_iff];refine⟨by simp,fun z hz=>?_⟩
 obtain⟨p,hp,rfl⟩:=List.mem_map.1 hz;obtain⟨h1,h2,h3,h4⟩:=z7z (Nat.le_refl _) (WQ hp);dsimp only at h1 h2 h3 h4;obtain⟨s,s1,s2,_⟩:=O.l p.1 h1;have g:=nJ h1 s1
 have gk:=ZL (b:=b) (M:=oB b bits) h2 s2
 rw[List.getD_eq_getElem?_getD (l:=SB b bits),g,Option.getD_some,List.getD_eq_getElem?_getD,gk,Option.getD_some];unfold KE;rw[if_neg (by simp [h3]),h4]
 dsimp only;unfold xK;by_cases hq:(AA n (oB b bits)).getD 0=1∨(AA n (oB b bits)).getD 0=2
 ·rw[if_pos hq,if_neg fun e=>by rcases hq with q|q;exact e.1 q;exact e.2 q]
 ·rw[if_neg hq,if_pos ⟨fun q=>hq (.inl q),fun q=>hq (.inr q)⟩]
end Go.Am
end
section
/- The reference: comparing,a board's fault. -/
open Go
set_option linter.all false
set_option maxRecDepth 100000
namespace Go.Am
variable {h:bA} {K:mA}
attribute [-go_sem] YA bB EB BB
theorem z8f (x y:Jon):jA X uH [.p (.sl none [.str x.net,.str x.part,.str x.pin]),.p (.sl none [.str y.net,.str y.part,.str y.pin])] h K=K (AI (zB x y)) h []:=by
 refine IA ?_;rw[zfW rfl];have c1:=fun hh K=>RY (h:=hh) (K:=K) x.net y.net
 have c2:=fun hh K=>RY (h:=hh) (K:=K) x.part y.part
 have c3:=fun hh K=>RY (h:=hh) (K:=K) x.pin y.pin
 unfold zB;simp only[kQ,go_sem];refine UA (fun k:Nat=>⟨[(0,.p (.sl none [.str x.net,.str x.part,.str x.pin])),(1,.p (.sl none [.str y.net,.str y.part,.str y.pin])),(9,.p (.sl none [.str x.net,.str x.part,.str x.pin])),(10,AI 3),(11,AI k)],h,[]⟩) (fun k=>k≤3∧(0<k→vA x.net y.net=0)∧(1<k→vA x.part y.part=0)∧(2<k→vA x.pin y.pin=0)) (fun k=>3-k) 0 rfl ⟨by omega,by omega,by omega,by omega⟩ ?_
 rintro k ⟨hk,k1,k2,k3⟩
 have hk':k=0∨k=1∨k=2∨k=3:=by omega
 rcases hk' with rfl|rfl|rfl|rfl
 ·by_cases h1:vA x.net y.net=0
  ·simp only[go_sem,c1,h1]
   exact⟨1,rfl,⟨by omega,by omega,by omega⟩,by omega⟩
  ·simp only[go_sem,c1,h1]
 ·have h1:=k1 (by omega)
  by_cases h2:vA x.part y.part=0
  ·simp only[go_sem,c2,h1,h2]
   exact⟨2,rfl,⟨by omega,by omega⟩,by omega⟩
  ·simp only[go_sem,c2,h1,h2]
 ·have h1:=k1 (by omega)
  have h2:=k2 (by omega)
  by_cases h3:vA x.pin y.pin=0
  ·simp only[go_sem,c3,h1,h2,h3]
   exact⟨3,rfl,by omega,by omega⟩
  ·simp only[go_sem,c3,h1,h2,h3]
 ·have h1:=k1 (by omega)
  have h2:=k2 (by omega)
  have h3:=k3 (by omega)
  simp only[go_sem,h1,h2,h3]
theorem zq7 (b:Brd)(hl:b.joins.length≤12)(hsrt:UB ltS (b.joins.map Jon.net)=b.joins.map Jon.net):∃xs:List PV,xs.length=b.joins.length∧win xs 0 (tA b).length=(tA b).map PV.str∧(tA b).length≤b.joins.length∧bC none xs ∧
 ∀K:mA,jA X GG [.p b.pv] h K=K (.own (h.length+1) b.joins.length 0 (tA b).length) (h++[qA b,.row none xs 0]) []:=by
 have nl:(b.joins.map Jon.net).length=b.joins.length:=List.length_map ..
 obtain⟨xs,x1,x2,x3,x4,C⟩:=OY (h:=h++[qA b,.row none ((b.joins.map Jon.net).map PV.str) 0]) (b.joins.map Jon.net) (h.length+1) (by simp;omega) (by simp)
 rw[nl]at C x1 x3;have es:∀o,(h++[qA b,.row none ((b.joins.map Jon.net).map PV.str) 0]).set (h.length+1) o=h++[qA b,o]:=fun o=>by rw[List.set_append_right _ _ (by omega)];simp
 rw[es]at C;have S:=fun K=>z8n (h:=h++[qA b,.row none ((b.joins.map Jon.net).map PV.str) 0]) (K:=K) (h.length+1) (b.joins.map Jon.net) (by simpa using hl) (by simp)
 rw[hsrt,es,nl]at S;refine⟨xs,x1,x2,x3,x4,fun K=>IA ?_⟩
 rw[z1S];have ln:(b.joins.map Jon.pv).length=b.joins.length:=List.length_map ..
 simp only[wM,Brd.pv,go_sem,ln];refine UA (fun k:Nat=>⟨[(3,.own (h.length+1) k 0 k),(7,.p (.sl (some 3) (b.joins.map Jon.pv))),(8,AI b.joins.length),(9,AI k)],h++[qA b,.row none (((b.joins.map Jon.net).take k).map PV.str) 0],[]⟩) (fun k=>k≤b.joins.length) (fun k=>b.joins.length-k) 0 (by simp;rfl) (by omega) ?_
 intro k hk;unfold qA;rcases Nat.lt_or_ge k b.joins.length with hlt|hge
 ·have g:=ZA Jon.pv hlt
  have c1:QA (some 3) 0 b.joins[k].pv=some b.joins[k].pv:=rfl
  have w2:IntKind.i64.wrap ((k:Int)+1)=((k+1:Nat):Int):=JA _ (by omega) (by omega)
  have hn:k<(b.joins.map Jon.net).length:=by simpa using hlt
  have tk:(b.joins.map Jon.net).take (k+1)=(b.joins.map Jon.net).take k++[b.joins[k].net]:=by rw[List.take_succ_eq_append_getElem hn];simp
  have tl:(((b.joins.map Jon.net).take k).map PV.str).length=k:=by simp;omega
  have hm:k+1≤XA:=by unfold XA;omega
  generalize b.joins[k]=x at *;simp only[Jon.pv]at g c1;simp only[go_sem,hlt,g,c1,w2,tl,hm];refine⟨k+1,?_,by omega,by omega⟩
  rw[tk];simp
 ·have e:k=b.joins.length:=by omega
  subst e;have t0:(b.joins.map Jon.net).take b.joins.length=b.joins.map Jon.net:=List.take_of_length_le (by simp)
  unfold qA at C S;unfold tA;rw[t0];generalize (b.joins.map Jon.net).map PV.str=us at *;simp only[go_sem,Nat.lt_irrefl,↓S,S,↓C,C];exact List.take_of_length_le (by simp;omega)
end Go.Am
end
section
/- The reference's board fault,plainly. -/
set_option linter.all false
namespace Go.Am
theorem z2x {x:Nm2}(h:x≠[]):¬vA x []≤0:=by
 cases x with
 | nil=>exact absurd rfl h
 | cons a r=>unfold vA;decide
def EI (l:List Pul):Nm2:=((l.getLast?).map Pul.net).getD []
def DI (l:List Prt):Nm2:=((l.getLast?).map Prt.key).getD []
theorem z6O {s:Nm2}(h:PB s=true):s≠[]:=fun e=>by subst e;revert h;decide
theorem zlW (x y:Jon):(zB x y≤0)↔(0≤zB y x):=by
 have n1:=LE x.net y.net
 have n2:=LE x.part y.part
 have n3:=LE x.pin y.pin
 unfold zB;by_cases h1:vA x.net y.net=0
 ·have h1':vA y.net x.net=0:=by omega
  by_cases h2:vA x.part y.part=0
  ·have h2':vA y.part x.part=0:=by omega
   simp only[h1,h1',h2,h2',ne_eq,not_true_eq_false,if_false];omega
  ·have h2':¬vA y.part x.part=0:=by omega
   simp only[h1,h1',h2,h2',ne_eq,not_true_eq_false,not_false_eq_true,if_false,if_true];omega
 ·have h1':¬vA y.net x.net=0:=by omega
  simp only[h1,h1',ne_eq,not_false_eq_true,if_true];omega
theorem zp3 {b:Brd}(h:DC none b.parts=0):∀p∈b.parts,∀c∈p.cells,KD c=aC c:=fun p hp c hc=>by
 have hf:=((MN b.parts none h).2.2 p hp).2
 unfold jD at hf;by_cases c1:(200:Int)<p.cells.length
 ·rw[if_pos c1]at hf;cases hf
 rw[if_neg c1]at hf;by_cases c2:nD (mC p.cells) p.cells=0
 ·exact z1Y (sK c2 c hc)
 ·rw[if_pos c2]at hf;exact absurd hf c2
end Go.Am
end
section
/- The reference: a board's fault. -/
open Go
set_option linter.all false
set_option maxRecDepth 100000
namespace Go.Am
variable {h:bA} {K:mA}
attribute [-go_sem] YA bB EB BB
attribute [-go_sem] EJ fH FJ gH GJ iH
theorem zqt {K:Ex→St→Prop}(b:Brd)(ho:BrdOk b)(hsrt:UB ltS (b.joins.map Jon.net)=b.joins.map Jon.net)(hne:∀ n∈tA b,n≠[])(env:List (Nat × AV))(b1:aA env 1 = .ref h.length 0)(v:Int)
 (hv:(if(100:Int)<(tA b).length then 2 else xF (tA b) none b.pulls)=v)
 (fin:∀H,K .ret ⟨[(2,AI v)],h++H,[]⟩) :
 NW (jA X) X.gl OR ⟨env,h++[qA b],[]⟩ K:=by
 rw[EJ];have ln:(b.pulls.map Pul.pv).length=b.pulls.length:=List.length_map ..
 have hl:=ho.p
 have j12:=ho.j.l
 obtain⟨xs,x1,x2,x3,x4,NM⟩:=zq7 (h:=h++[qA b]) b j12 hsrt;simp only[Brd.pv]at NM;unfold qA at NM ⊢;have h100:¬(100:Int)<(tA b).length:=by omega
 rw[if_neg h100]at hv;simp only[fH,b1,go_sem,↓NM,NM,h100,ln];refine UA (fun k:Nat=>⟨[(3,AS (EI (b.pulls.take k))),(11,.own (h.length+1+1) b.joins.length 0 (tA b).length),(126,.p (.sl (some 2) (b.pulls.map Pul.pv))),(127,AI b.pulls.length),(128,AI k)],h++[qA b,qA b,.row none xs 0],[]⟩) (fun k=>k≤b.pulls.length∧xF (tA b) (b.pulls.take k).getLast? (b.pulls.drop k)=v) (fun k=>b.pulls.length-k) 0 (by first|rfl|skip) ⟨by omega,hv⟩ ?_
 rintro k ⟨hk,hp⟩
 have SH:∀T:bA,Shows none (.own (h.length+1+1) b.joins.length 0 (tA b).length) ((tA b).map PV.str) (h++qA b::qA b :: .row none xs 0::T):=fun T=>by
  have:=KL (h:=h++qA b::qA b :: .row none xs 0::T) (id:=h.length+1+1) (off:=0) (len:=(tA b).length) (fz:=0) x4 (by rw[List.getElem?_append_right (by omega),show h.length+1+1-h.length=2 by omega];rfl) (by omega)
  rw[x1,x2]at this;exact this
 have CT:=fun(T:bA) (s:List UInt8) K=>pO (h:=h++qA b::qA b :: .row none xs 0::T) (K:=K) (tA b) (fun h' e=>by rw[e];exact SH T) s (by omega)
 unfold qA at CT ⊢;rcases Nat.lt_or_ge k b.pulls.length with hlt|hge
 ·have g:=ZA Pul.pv hlt
  have c1:QA (some 2) 0 b.pulls[k].pv=some b.pulls[k].pv:=rfl
  have w2:IntKind.i64.wrap ((k:Int)+1)=((k+1:Nat):Int):=JA _ (by omega) (by omega)
  rw[List.drop_eq_getElem_cons hlt,z79]at hp;have lg:(b.pulls.take (k+1)).getLast?=some b.pulls[k]:=by rw[iG (by omega),List.getElem?_eq_getElem hlt]
  have ln2:EI (b.pulls.take (k+1))=b.pulls[k].net:=by unfold EI;rw[lg];rfl
  generalize hxx:b.pulls[k]=x at *;have CX:=fun T K=>CT T x.net K
  have OB:=fun h K=>BS (h:=h) (K:=K) x.level 0 1
  simp only[Pul.pv,eI]at g c1;cases hcn:(tA b).contains x.net with
  | false=>
   rw[hcn,if_pos rfl]at hp;rw[hcn]at CX;subst hp;simp only[go_sem,hlt,g,c1,↓CX,CX];exact fin _
  | true=>
   have xne:x.net≠[]:=hne _ (by simpa using hcn)
   rw[hcn,if_neg (by simp)]at hp
   rw[hcn]at CX;cases hlv:inB 0 x.level 1 with
   | false=>
    rw[hlv,if_pos rfl]at hp;rw[hlv]at OB;subst hp;simp only[go_sem,hlt,g,c1,↓CX,CX,↓OB,OB];exact fin _
   | true=>
    rw[hlv,if_neg (by simp)]at hp
    rw[hlv]at OB;replace hp:(if decide (vA x.net (EI (b.pulls.take k))≤0)=true then 7 else xF (tA b) (some x) (b.pulls.drop (k+1)))=v:=by
     unfold EI;cases hgl:(b.pulls.take k).getLast? with
     | none=>
      rw[hgl]at hp;rw[show decide (vA x.net ((Option.map Pul.net none).getD [])≤0)=false from decide_eq_false (z2x xne)]
      exact hp
     | some q=>rw[hgl]at hp;exact hp
    have le:=bR x.net (EI (b.pulls.take k))
    generalize EI (b.pulls.take k)=la at *;by_cases hc:vA x.net la≤0
    ·rw[if_pos (by simp [hc])]at hp
     subst hp;simp only[go_sem,hlt,g,c1,↓CX,CX,↓OB,OB,le,hc];exact fin _
    ·rw[if_neg (by simp [hc])]at hp
     simp only[go_sem,hlt,g,c1,↓CX,CX,↓OB,OB,le,hc,w2];refine⟨k+1,?_,⟨by omega,?_⟩,by omega⟩
     ·rw[ln2]
     ·rw[lg];exact hp
 ·have e:k=b.pulls.length:=by omega
  subst e;rw[List.drop_length]at hp;have z:v=0:=hp.symm
  subst z;simp only[go_sem,Nat.lt_irrefl];exact fin _
end Go.Am
end
section
/- The reference: a board's fault,joins. -/
open Go
set_option linter.all false
set_option maxRecDepth 100000
namespace Go.Am
variable {h:bA} {K:mA}
attribute [-go_sem] YA bB EB BB
attribute [-go_sem] EJ fH FJ gH GJ iH
def vK (x:Jon):Obj:=.box [AS x.net,AS x.part,AS x.pin]
def hZ:PV→Jon
 | .agg [.str a,.str b,.str c]=>⟨a,b,c⟩
 | _=>⟨[],[],[]⟩
theorem zsu (x:Jon):hZ x.pv=x:=rfl
theorem zmd {l:List Jon}:bC (some 3) (l.map Jon.pv):=fun x hx=>by obtain⟨e,_,rfl⟩:=List.mem_map.1 hx;rfl
theorem zqr (x y:Jon)(id:Nat)(hc:h[id]?=some (vK x)):jA X sI [.p y.pv,.ref id 0] h K=K (AB (ZC x y)) h []:=by
 refine IA ?_;rw[zfJ rfl];have hl:=yB hc
 have hc2:∀t,(h++t)[id]?=some (vK x):=fun t=>by rw[List.getElem?_append_left hl];exact hc
 unfold vK at hc hc2;unfold ZC;by_cases h1:y.part=x.part
 ·have h1p:=eq_true h1
  simp only[fQ,Jon.pv,go_sem,hc,hc2,h1p]
 ·simp only[fQ,Jon.pv,go_sem,hc,hc2,h1]
theorem zqu {K:Ex→St→Prop}(b:Brd)(ho:BrdOk b)(hsrt:UB ltS (b.joins.map Jon.net)=b.joins.map Jon.net)(hne:∀ n∈tA b,n≠[])(env:List (Nat × AV))(b1:aA env 1 = .ref h.length 0)(v:Int)
 (hv:(if twJ [] b.joins=true then 6 else if(100:Int)<(tA b).length then 2 else xF (tA b) none b.pulls)=v)
 (fin:∀H,K .ret ⟨[(2,AI v)],h++H,[]⟩) :
 NW (jA X) X.gl PR ⟨env,h++[qA b],[]⟩ K:=by
 rw[FJ];have ln:(b.joins.map Jon.pv).length=b.joins.length:=List.length_map ..
 have j12:=ho.j.l
 unfold qA;simp only[gH,b1,go_sem,ln];refine UA (fun k:Nat=>⟨[(1,.ref h.length 0),(106,.p (.sl (some 3) (b.joins.map Jon.pv))),(107,AI b.joins.length),(108,AI k)],h++[qA b],[]⟩) (fun k=>k≤b.joins.length∧twJ (b.joins.take k) (b.joins.drop k)=twJ [] b.joins) (fun k=>b.joins.length-k) 0 rfl ⟨by omega,rfl⟩ ?_
 rintro k ⟨hk,hp⟩
 rcases Nat.lt_or_ge k b.joins.length with hlt|hge
 ·have g:=ZA Jon.pv hlt
  have c1:QA (some 3) 0 b.joins[k].pv=some b.joins[k].pv:=rfl
  have w2:IntKind.i64.wrap ((k:Int)+1)=((k+1:Nat):Int):=JA _ (by omega) (by omega)
  rw[List.drop_eq_getElem_cons hlt,eZ]at hp;have tk:b.joins.take (k+1)=b.joins.take k++[b.joins[k]]:=List.take_succ_eq_append_getElem hlt
  rw[←tk]at hp;have hw:win (b.joins.map Jon.pv) 0 k=(b.joins.take k).map Jon.pv:=by simp [win,List.map_take]
  have hkl:k≤b.joins.length:=hk
  generalize hcc:b.joins[k]=c at *;have tells:∀o:Obj,jE sI [.ref (h.length+1) 0] (fun y=>ZC c (hZ y)) ((b.joins.take k).map Jon.pv) (h++[o,vK c]):=fun o y hy K=>by
   obtain⟨d,_,rfl⟩:=List.mem_map.1 hy;dsimp only;rw[zsu];exact zqr c d (h.length+1) (by simp)
  have CF:=fun(o:Obj) K=>z9q (h:=h++[o,vK c]) (K:=K) (tells o) zmd (by simp;omega)
  have ea:((b.joins.take k).map Jon.pv).any (fun y=>ZC c (hZ y))=(b.joins.take k).any (ZC c):=by rw[List.any_map];rfl
  simp only[ea]at CF;unfold vK at CF;simp only[Jon.pv]at g c1;cases ha:(b.joins.take k).any (ZC c) with
  | true=>
   rw[ha,if_pos rfl]at hp;rw[ha]at CF;rw[←hp,if_pos rfl]at hv;subst hv;simp only[qA,go_sem,hlt,g,c1,w2,ln,hkl,hw,↓CF,CF];exact fin _
  | false=>
   rw[ha,if_neg (by simp)]at hp
   rw[ha]at CF;simp only[qA,go_sem,hlt,g,c1,w2,ln,hkl,hw,↓CF,CF];exact⟨k+1,rfl,⟨by omega,hp⟩,by omega⟩
 ·have e:k=b.joins.length:=by omega
  subst e;rw[List.drop_length]at hp;have hz:twJ [] b.joins=false:=hp.symm
  rw[hz,if_neg (by simp)]at hv
  simp only[go_sem,Nat.lt_irrefl];exact zqt b ho hsrt hne _ rfl v hv fin
end Go.Am
end
section
/- The reference: a board's fault,whole. -/
open Go
set_option linter.all false
set_option maxRecDepth 100000
namespace Go.Am
variable {h:bA} {K:mA}
attribute [-go_sem] YA bB EB BB
attribute [-go_sem] EJ fH FJ gH GJ iH
theorem z6K {α:Type}(lt:α→α→Bool){l:List α}(hp:l.Pairwise (fun a b=>lt b a=false)):UB lt l=l:=by
 have key:∀(l r:List α),(∀x∈l,∀y∈r,lt x y=false)→l.Pairwise (fun a b=>lt b a=false)→l.foldl (fun r x=>dC lt x r) r=l.reverse++r:=by
  intro l;induction l with
  | nil=>intro r _ _;rfl
  | cons x l ih=>
   intro r h1 h2;rw[List.pairwise_cons]at h2;have hi:dC lt x r=x::r:=by
    cases r with
    | nil=>rfl
    | cons y r=>unfold dC;rw[h1 x (by simp) y (by simp)];rfl
   rw[List.foldl_cons,hi,ih _ (fun a ha y hy=>?_) h2.2,List.reverse_cons,List.append_assoc]
   ·rfl
   ·rcases List.mem_cons.1 hy with e|hy
    ·rw[e];exact h2.1 a ha
    ·exact h1 a (by simp [ha]) y hy
 have:=key l [] (by simp) hp
 rw[List.append_nil]at this;show(yD lt l).reverse=l
 unfold yD;rw[this,List.reverse_reverse]
theorem zlX {x q:Jon}(h:¬ zB x q≤0):vA q.net x.net≤0:=by
 have n1:=LE x.net q.net
 unfold zB at h;by_cases h1:vA x.net q.net=0
 ·omega
 ·rw[if_pos h1]at h;omega
theorem RW (b:Brd):∀(l:List Jon) (p:Option Jon),zD b p l=0→(∀q,p=some q→∀x∈l,vA q.net x.net≤0)∧l.Pairwise (fun x y=>vA x.net y.net≤0)∧∀x∈l,PB x.net=true
 | [],p,_=>⟨fun _ _ _ h=>(by cases h),List.Pairwise.nil,fun _ h=>(by cases h)⟩
 | x::r,p,h=>by
  rw[QW]at h;cases hk:PB x.net with
  | false=>rw[hk,if_pos rfl]at h;cases h
  | true=>
   rw[hk,if_neg (by simp)]at h
   cases hpn:NG b x.part x.pin with
   | false=>rw[hpn,if_pos rfl]at h;cases h
   | true=>
    rw[hpn,if_neg (by simp)]at h
    have px:(∀q,p=some q→vA q.net x.net≤0)∧zD b (some x) r=0:=by
     cases p with
     | none=>exact⟨fun _ h=>(by cases h),by rw[if_neg (by simp)]at h;exact h⟩
     | some q=>
      by_cases hc:zB x q≤0
      ·rw[if_pos (by simp [hc])]at h;cases h
      ·rw[if_neg (by simp [hc])]at h
       exact⟨fun q' e=>by cases e;exact zlX hc,h⟩
    obtain⟨i1,i2,i3⟩:=RW b r (some x) px.2;have i1':=i1 x rfl
    refine⟨fun q hq y hy=>?_,List.pairwise_cons.2 ⟨i1',i2⟩,fun y hy=>?_⟩
    ·rcases List.mem_cons.1 hy with e|hy
     ·rw[e];exact px.1 q hq
     ·exact KU (px.1 q hq) (i1' y hy)
    ·rcases List.mem_cons.1 hy with e|hy
     ·rw[e];exact hk
     ·exact i3 y hy
theorem zmc {b:Brd}(h:zD b none b.joins=0):UB ltS (b.joins.map Jon.net)=b.joins.map Jon.net:=by
 refine z6K _ ?_;rw[List.pairwise_map];refine(RW b _ none h).2.1.imp fun {x y} q=>?_
 have:=LE x.net y.net;unfold ltS;simp;omega
theorem zma {b:Brd}(h:zD b none b.joins=0):∀n∈tA b,n≠[]:=fun n hn=>by
 unfold tA at hn;obtain⟨x,hx,rfl⟩:=List.mem_map.1 (zgC hn);exact z6O ((RW b _ none h).2.2 x hx)
end Go.Am
end
section
/- Joins sorted by a comparison: printed by program. -/
open Go
set_option linter.unusedSimpArgs false
namespace Go.Am
attribute [-go_sem] PV.cells splice
variable {h:bA} {K:mA}
theorem zlL (id n:Nat)(l tl:List PV)(hn:n=l.length+tl.length)(hs:bC (some 3) l)(hl:l.length≤1000)(hh:h[id]?=some (.row (some 3) (l++tl) 0)){g:Nat}{caps:List AV}{c:PV→PV→Int}(hc:Cmps g caps c l id h) :
 jA X lK [.own id n 0 l.length,AI 0,AI l.length,.fn g caps] h K=K (.tup []) (h.set id (.row (some 3) (UB (ltC c) l++tl) 0)) []:=by
 refine IA ?_;rw[zgk];have hid:=yB hh
 have hst:∀o,(h.set id o)[id]?=some o:=fun o=>pG hid
 simp only[vQ,go_sem,show IntKind.i64.wrap 1=1 from rfl]
 refine UA (fun i:Nat=>⟨[(0,.own id n 0 l.length),(1,AI 0),(2,AI l.length),(3,.fn g caps),(8,AI i)],h.set id (.row (some 3) ((yD (ltC c) (l.take i)).reverse++(l.drop i++tl)) 0),[]⟩) (fun i=>1≤i∧(i≤l.length∨i=1)) (fun i=>l.length-i) 1 ?_ (by simp) ?_
 ·have:(yD (ltC c) (l.take 1)).reverse++(l.drop 1++tl)=l++tl:=by cases l <;> rfl
  rw[this,qG hh];rfl
 rintro i ⟨hi1,hi2⟩
 rcases Nat.lt_or_ge i l.length with hlt|hge
 ·simp only[go_sem,hlt]
  have hxl:l[i]∈l:=List.getElem_mem hlt
  generalize hx:l[i]=x at *;generalize hR:yD (ltC c) (l.take i)=R;have hRl:R.length=i:=by rw[←hR,z6F];simp;omega
  have hRm:∀z∈R,z∈l:=fun z hz=>List.mem_of_mem_take ((ZQ (ltC c) (l.take i)).mem_iff.1 (by rw[hR];exact hz))
  have hdrop:l.drop i=x::l.drop (i+1):=by rw[←hx];exact List.drop_eq_getElem_cons hlt
  have hnext:yD (ltC c) (l.take (i+1))=dC (ltC c) x R:=by rw[z6I _ _ _ hlt,hR,hx]
  refine UA (fun t:List PV×List PV=>⟨[(0,.own id n 0 l.length),(1,AI 0),(2,AI l.length),(3,.fn g caps),(8,AI i),(9,AI t.1.length)],h.set id (.row (some 3) (t.1.reverse++x::t.2) 0),[]⟩)
   (fun t=>∃B,R=B++t.1∧t.2=B.reverse++(l.drop (i+1)++tl)∧∀b∈B,ltC c x b=true) (fun t=>t.1.length) (R,l.drop (i+1)++tl) (by rw[hdrop,hRl];rfl) ⟨[],rfl,rfl,by simp⟩ ?_
  rintro⟨A,C⟩ ⟨B,q1,q2,q3⟩
  dsimp only at q1 q2 q3;have hlen:(A.reverse++x::C).length=n:=by
   have:R.length=B.length+A.length:=by rw[q1];simp
   rw[q2];simp;omega
  have hBA:B.length+A.length<l.length:=by
   have:R.length=B.length+A.length:=by rw[q1];simp
   omega
  have hln:l.length≤n:=by omega
  have w1:IntKind.i64.wrap ((i:Int)+1)=((i+1:Nat):Int):=JA _ (by omega) (by omega)
  cases A with
  | nil=>
   have hd:dC (ltC c) x R=B++[x]:=by rw[q1];exact YQ (ltC c) x [] B q3 (fun y r h=>by cases h)
   simp only[go_sem,Int.lt_irrefl,w1];refine⟨i+1,?_,by omega,by omega⟩
   simp only[hnext,hd,q2,List.reverse_append,List.reverse_nil,List.nil_append,List.reverse_cons,List.append_assoc,List.cons_append]
  | cons y A=>
   have hyl:y∈l:=hRm y (by rw[q1];simp)
   have g1:=z6B (y::A) C x
   have g2:=z6C A C x y
   have sw:=z6D A C x y
   simp only[List.length_cons]at hBA;generalize hrow:(y::A).reverse++x::C=row at *;simp only[List.length_cons]at g1;have w2:IntKind.i64.wrap (((A.length+1:Nat):Int)-1)=(A.length:Int):=by rw[JA _ (by omega) (by omega)];omega
   have p1:(0:Int)<((A.length+1:Nat):Int):=by omega
   have b1:A.length+1<l.length:=by omega
   have b2:A.length<l.length:=by omega
   have cx:=EF (hs x hxl)
   have cy:=EF (hs y hyl)
   have hcc:=fun o K=>hc o x hxl y hyl K
   by_cases hxy:c x y<0
   ·have g3:(row.set (A.length+1) y)[A.length]?=some y:=by rw[List.getElem?_set_ne (by omega),g2]
    have lx:=ML (hs x hxl)
    have ly:=ML (hs y hyl)
    have sx:=LL (hs x hxl)
    have sy:=LL (hs y hyl)
    simp only[lA]at lx ly;have t1:=fun i xs h1=>NL (hs x hxl) (hs y hyl) id i 0 xs h1
    have t2:=fun i xs h1=>NL (hs y hyl) (hs x hxl) id i 0 xs h1
    simp only[go_sem,hst,p1,hlen,g1,g2,g3,w2,b1,b2,hln,cx,cy,hcc,hxy,lx,ly,sx,sy,t1,t2,sw];refine⟨(A,y::C),rfl,⟨B++[y],by simp [q1],by simp [q2],fun b hb=>?_⟩,by simp⟩
    rw[List.mem_append,List.mem_singleton]at hb;rcases hb with hb|rfl
    ·exact q3 b hb
    ·simpa [ltC] using hxy
   ·have hd:dC (ltC c) x R=B++x::y::A:=by rw[q1];exact YQ (ltC c) x (y::A) B q3 (fun z r h=>by cases h;simpa [ltC] using hxy)
    simp only[go_sem,hst,p1,hlen,g1,g2,w2,b1,b2,hln,cx,cy,hcc,hxy,w1];refine⟨i+1,?_,by omega,by omega⟩
    simp only[hnext,hd,←hrow,q2,List.reverse_append,List.reverse_cons,List.append_assoc,List.cons_append,List.nil_append]
 ·have hge':¬i<l.length:=by omega
  have e1:l.take i=l:=List.take_of_length_le hge
  have e2:l.drop i=[]:=List.drop_of_length_le hge
  simp only[go_sem,hge',e1,e2];rfl
theorem zcY (id:Nat)(l:List PV)(hs:bC (some 3) l)(hl:l.length≤12)(hh:h[id]?=some (.row (some 3) l 0)){g:Nat}{caps:List AV}{c:PV→PV→Int}(hc:Cmps g caps c l id h) :
 jA X xI [.own id l.length 0 l.length,.fn g caps] h K=K (.tup []) (h.set id (.row (some 3) (UB (ltC c) l) 0)) []:=by
 refine IA ?_;rw[zgi];have w0:IntKind.u64.wrap (l.length:Int)=l.length:=gZ _ (by omega) (by omega)
 obtain⟨m,hm⟩:=z6S (l.length:Int) (by omega) (by omega)
 have is:=fun K=>zlL (h:=h) (K:=K) id l.length l [] rfl hs (by omega) (by rw[List.append_nil];exact hh) hc
 simp only[List.append_nil]at is;have key:∀K:mA,jA X bG [.own id l.length 0 l.length,AI 0,AI l.length,AI m,.fn g caps] h K=K (.tup []) (h.set id (.row (some 3) (UB (ltC c) l) 0)) []:=by
  intro K;refine IA ?_;rw[zgm];simp only[xQ,go_sem];refine UA (fun _:Unit=>⟨[(0,.own id l.length 0 l.length),(1,AI 0),(2,AI l.length),(3,AI m),(4,.fn g caps),(10,AB true),(11,AB true)],h,[]⟩) (fun _=>True) (fun _=>0) () rfl trivial ?_
  intro _ _;have w1:IntKind.i64.wrap ((l.length:Int)-0)=l.length:=by rw[JA _ (by omega) (by omega)];omega
  have b1:((l.length:Int)≤12):=by omega
  simp only[go_sem,w1,b1,is]
 simp only[MV,go_sem,w0,hm,key]
end Go.Am
end
section
/- What is drawn: the order of joins. -/
open Go
set_option linter.all false
set_option maxRecDepth 100000
namespace Go.Am
variable {h:bA} {K:mA}
theorem zqh (x y:Jon):jA X rH [.p x.pv,.p y.pv] h K=K (AI (zB x y)) h []:=by
 refine IA ?_;rw[zf6 rfl];have C:=fun hh K=>z8f (h:=hh) (K:=K) x y
 simp only[rV,Jon.pv,go_sem,↓C,C]
theorem zlZ {x y z:Jon}(h1:zB x y≤0)(h2:zB y z≤0):vA x.net z.net≤0:=by
 have a1:vA x.net y.net≤0:=by
  unfold zB at h1;by_cases e:vA x.net y.net=0
  ·omega
  ·rw[if_pos e]at h1;exact h1
 have a2:vA y.net z.net≤0:=by
  unfold zB at h2;by_cases e:vA y.net z.net=0
  ·omega
  ·rw[if_pos e]at h2;exact h2
 exact KU a1 a2
theorem z6N (x y:Jon):zB y x = - zB x y:=by
 have n1:=LE x.net y.net
 have n2:=LE x.part y.part
 have n3:=LE x.pin y.pin
 unfold zB;by_cases h1:vA x.net y.net=0
 ·have h1':vA y.net x.net=0:=by omega
  by_cases h2:vA x.part y.part=0
  ·have h2':vA y.part x.part=0:=by omega
   simp only[h1,h1',h2,h2',ne_eq,not_true_eq_false,if_false];omega
  ·have h2':¬vA y.part x.part=0:=by omega
   simp only[h1,h1',h2,h2',ne_eq,not_true_eq_false,not_false_eq_true,if_false,if_true];omega
 ·have h1':¬vA y.net x.net=0:=by omega
  simp only[h1,h1',ne_eq,not_false_eq_true,if_true];omega
theorem zlY {x y z:Jon}(h1:zB x y≤0)(h2:zB y z≤0):zB x z≤0:=by
 unfold zB at h1 h2 ⊢;by_cases a1:vA x.net y.net=0
 ·have e1:=QF a1
  simp only[a1,ne_eq,not_true_eq_false,if_false]at h1;rw[e1];by_cases a2:vA y.net z.net=0
  ·simp only[a2,ne_eq,not_true_eq_false,if_false]at h2 ⊢
   by_cases b1:vA x.part y.part=0
   ·have f1:=QF b1
    simp only[b1,ne_eq,not_true_eq_false,if_false]at h1;rw[f1];by_cases b2:vA y.part z.part=0
    ·simp only[b2,ne_eq,not_true_eq_false,if_false]at h2 ⊢
     exact KU h1 h2
    ·simp only[b2,ne_eq,not_false_eq_true,if_true]at h2 ⊢
     exact h2
   ·simp only[b1,ne_eq,not_false_eq_true,if_true]at h1
    by_cases b2:vA y.part z.part=0
    ·rw[←QF b2]
     simp only[b1,ne_eq,not_false_eq_true,if_true];exact h1
    ·simp only[b2,ne_eq,not_false_eq_true,if_true]at h2
     have:=rJ (a:=x.part) (b:=y.part) (c:=z.part) (by omega) (by omega)
     rw[if_pos (by omega)];omega
  ·simp only[a2,ne_eq,not_false_eq_true,if_true]at h2 ⊢
   exact h2
 ·simp only[a1,ne_eq,not_false_eq_true,if_true]at h1
  by_cases a2:vA y.net z.net=0
  ·rw[←QF a2]
   simp only[a1,ne_eq,not_false_eq_true,if_true];exact h1
  ·simp only[a2,ne_eq,not_false_eq_true,if_true]at h2
   have:=rJ (a:=x.net) (b:=y.net) (c:=z.net) (by omega) (by omega)
   rw[if_pos (by omega)];omega
theorem ordJ:Ordr zB:=⟨fun a b=>z6N a b,fun a b d h1 h2=>zlY h1 h2⟩
def unJ2:PV→Jon
 | .agg [.str a,.str b,.str c]=>⟨a,b,c⟩
 | _=>⟨[],[],[]⟩
theorem zme {l:List Jon}:bC (some 3) (l.map Jon.pv):=fun x hx=>by obtain⟨e,_,rfl⟩:=List.mem_map.1 hx;rfl
theorem zqD (id:Nat)(l:List Jon)(hl:l.length≤12)(hh:h[id]?=some (.row (some 3) (l.map Jon.pv) 0)) :
 jA X xI [.own id l.length 0 l.length,.fn rH []] h K=K (.tup []) (h.set id (.row (some 3) ((UB (ltO zB) l).map Jon.pv) 0)) []:=by
 have hc:Cmps rH [] (fun a b=>zB (unJ2 a) (unJ2 b)) (l.map Jon.pv) id h:=by
  intro o x hx y hy K';obtain⟨a,_,rfl⟩:=List.mem_map.1 hx;obtain⟨b,_,rfl⟩:=List.mem_map.1 hy;exact zqh a b
 have S:=zcY (h:=h) (K:=K) id (l.map Jon.pv) zme (by simpa using hl) hh hc
 have e:UB (ltC fun a b=>zB (unJ2 a) (unJ2 b)) (l.map Jon.pv)=(UB (ltO zB) l).map Jon.pv:=z6J Jon.pv (fun a b=>rfl) l
 rw[e]at S;simpa using S
theorem zmb (l:List Jon):UB ltS ((UB (ltO zB) l).map Jon.net)=(UB (ltO zB) l).map Jon.net:=by
 refine z6K _ ?_;rw[List.pairwise_map];refine(zlU ordJ.weak l).imp fun {x y} q=>?_
 have q':¬zB y x<0:=by simpa [ltO] using q
 have n1:=z6N x y
 have:=zlZ (x:=x) (y:=y) (z:=y) (by omega) (by rw[ordJ.refl];exact Int.le_refl 0)
 have n2:=LE x.net y.net
 unfold ltS;simp;omega
end Go.Am
end
section
/- What is drawn: the cells of a part. -/
open Go
set_option linter.all false
set_option maxRecDepth 100000
namespace Go.Am
variable {h:bA} {K:mA} {L:List Int}
attribute [-go_sem] YA bB EB BB
def YD (k:Nat):Nm2:=[112,UInt8.ofNat (97+k%4)]
def lC (c:Cel):Prop:=c.pin=[]∨∃i:Nat,i<4∧c.pin=YD i
theorem zp8 {k:Nat}(hk:k≤6):eA .rem (.p (.int .i64 (k:Int))) (.p (.int .i64 4))=some (.p (.int .i64 ((k%4:Nat):Int))):=by
 have:k=0∨k=1∨k=2∨k=3∨k=4∨k=5∨k=6:=by omega
 rcases this with rfl|rfl|rfl|rfl|rfl|rfl|rfl <;> rfl
theorem zp9 {k:Nat}(hk:k≤6):eA .add (.p (.int .i64 97)) (.p (.int .i64 ((k%4:Nat):Int)))=some (.p (.int .i64 ((97+k%4:Nat):Int))):=by
 have:k=0∨k=1∨k=2∨k=3∨k=4∨k=5∨k=6:=by omega
 rcases this with rfl|rfl|rfl|rfl|rfl|rfl|rfl <;> rfl
theorem zpA {k:Nat}(hk:k≤6):XC .i32 (.p (.int .i64 ((97+k%4:Nat):Int)))=some (.p (.int .i32 ((97+k%4:Nat):Int))):=by
 have:k=0∨k=1∨k=2∨k=3∨k=4∨k=5∨k=6:=by omega
 rcases this with rfl|rfl|rfl|rfl|rfl|rfl|rfl <;> rfl
theorem zpB {k:Nat}(hk:k≤6)(h:bA):uF .r2s (.p (.int .i32 ((97+k%4:Nat):Int))) h=some (.p (.str [UInt8.ofNat (97+k%4)]),h,[]):=by
 have:k=0∨k=1∨k=2∨k=3∨k=4∨k=5∨k=6:=by omega
 rcases this with rfl|rfl|rfl|rfl|rfl|rfl|rfl <;> rfl
theorem zqP {K:Ex→St→Prop}{id:Nat}(hid:id<h.length){a0:Int}{n:Nat}(hn:n≤6)(hp:sA 1000 a0)
 (fin:∀(l:List Cel) (a:Int) (z:Nat×AV),l.length=n→(∀c∈l,lC c)→a=a0+n→K (.exit 0) ⟨[(0,.ref id 0),(3,.own h.length l.length 0 l.length),(14,AI n),(15,AI n),z],h.set id (DA L a)++[.row (some 4) (l.map Cel.pv) 0],[]⟩) :
 FA (jA X) X.gl (.scope RI) K [(0,.ref id 0),(3,.own h.length 0 0 0),(14,AI n),(15,AI 0)] (h.set id (DA L a0)++[.row (some 4) [] 0]) []:=by
 refine UA (fun t:Nat×List Cel=>⟨[(0,.ref id 0),(3,.own h.length t.2.length 0 t.2.length),(14,AI n),(15,AI t.1)],h.set id (DA L (a0+t.1))++[.row (some 4) (t.2.map Cel.pv) 0],[]⟩) (fun t=>t.1≤n∧t.2.length=t.1∧∀c∈t.2,lC c) (fun t=>n-t.1) (0,[]) (by simp) ⟨by omega,rfl,by simp⟩ ?_
 rintro⟨k,l⟩ ⟨hk,hll,hl⟩
 dsimp only at hk hll hl ⊢;have i1:id≤h.length:=by omega
 rcases Nat.lt_or_ge k n with hlt|hge
 ·have w2:IntKind.i64.wrap ((k:Int)+1)=((k+1:Nat):Int):=JA _ (by omega) (by omega)
  have pk:sA 0 (a0+k):=by unfold sA at *;omega
  have e1:=zp8 (k:=k) (by omega)
  have e2:=zp9 (k:=k) (by omega)
  have e3:=zpA (k:=k) (by omega)
  have e4:=zpB (k:=k) (by omega)
  have el:(l.map Cel.pv).length=l.length:=List.length_map ..
  have km:l.length+1≤XA:=by unfold XA;omega
  have ea:a0+((k+1:Nat):Int)=a0+k+1:=by omega
  have dp:lC ⟨1,YD k,-1,0⟩∧lC ⟨2,YD k,-1,0⟩∧lC ⟨3,[],-1,0⟩:=by
   have hp:∃i:Nat,i<4∧YD k=YD i:=⟨k%4,by omega,by unfold YD;rw[Nat.mod_mod]⟩
   exact⟨.inr hp,.inr hp,.inl rfl⟩
  have nx:∀c,lC c→∀x∈l++[c],lC x:=fun c hc x hx=>by
   rcases List.mem_append.1 hx with q|q
   ·exact hl x q
   ·rw[List.mem_singleton]at q;rw[q];exact hc
  obtain⟨b1,b2⟩:=FE L (a0+k) 5 (by omega) (by omega)
  have hv:EA L (a0+k) 5=0∨EA L (a0+k) 5=1∨EA L (a0+k) 5=2∨EA L (a0+k) 5=3∨EA L (a0+k) 5=4:=by omega
  rcases hv with v|v|v|v|v
  ·simp only[go_sem,hlt,w2,↓e1,e1,↓e2,e2,↓e3,e3,↓e4,e4,hid,pk,v,el,km,i1]
   rw[if_pos (by decide)]
   refine⟨(k+1,l++[⟨1,YD k,-1,0⟩]),?_,⟨hlt,by simp [hll],nx _ dp.1⟩,by dsimp only;omega⟩
   dsimp only;rw[ea,List.length_append,List.map_append];rfl
  ·simp only[go_sem,hlt,w2,↓e1,e1,↓e2,e2,↓e3,e3,↓e4,e4,hid,pk,v,el,km,i1]
   rw[if_pos (by decide)]
   refine⟨(k+1,l++[⟨1,YD k,-1,0⟩]),?_,⟨hlt,by simp [hll],nx _ dp.1⟩,by dsimp only;omega⟩
   dsimp only;rw[ea,List.length_append,List.map_append];rfl
  ·simp only[go_sem,hlt,w2,↓e1,e1,↓e2,e2,↓e3,e3,↓e4,e4,hid,pk,v,el,km,i1]
   rw[if_pos (by decide)]
   refine⟨(k+1,l++[⟨2,YD k,-1,0⟩]),?_,⟨hlt,by simp [hll],nx _ dp.2.1⟩,by dsimp only;omega⟩
   dsimp only;rw[ea,List.length_append,List.map_append];rfl
  ·simp only[go_sem,hlt,w2,↓e1,e1,↓e2,e2,↓e3,e3,↓e4,e4,hid,pk,v,el,km,i1]
   rw[if_pos (by decide)]
   refine⟨(k+1,l++[⟨3,[],-1,0⟩]),?_,⟨hlt,by simp [hll],nx _ dp.2.2⟩,by dsimp only;omega⟩
   dsimp only;rw[ea,List.length_append,List.map_append];rfl
  ·simp only[go_sem,hlt,w2,↓e1,e1,↓e2,e2,↓e3,e3,↓e4,e4,hid,pk,v,el,km,i1]
   rw[if_pos (by decide)]
   refine⟨(k+1,l++[⟨2,YD k,-1,0⟩]),?_,⟨hlt,by simp [hll],nx _ dp.2.1⟩,by dsimp only;omega⟩
   dsimp only;rw[ea,List.length_append,List.map_append];rfl
 ·have e:k=n:=by omega
  subst e;simp only[go_sem,Nat.lt_irrefl,i1];exact fin l _ _ hll hl rfl
end Go.Am
end
section
/- What is drawn: the cells of a part,their control cells. -/
open Go
set_option linter.all false
set_option maxRecDepth 100000
namespace Go.Am
variable {h:bA} {K:mA} {L:List Int}
attribute [-go_sem] YA bB EB BB
theorem zqQ {K:Ex→St→Prop}{id:Nat}(hid:id<h.length){a0:Int}{l0:List Cel}(hn:l0.length≤6)(hp:sA 1000 a0)(hl0:∀ c∈l0,lC c)
 (fin:∀(l:List Cel) (a:Int) (z:Nat×AV),l.length=l0.length→(∀c∈l,lC c)→a0≤a→a≤a0+3*l0.length→K (.exit 3) ⟨[(0,.ref id 0),(3,.own h.length l0.length 0 l0.length),(54,AI l0.length),(55,AI l0.length),z],h.set id (DA L a)++[.row (some 4) (l.map Cel.pv) 0],[]⟩) :
 FA (jA X) X.gl fL K [(0,.ref id 0),(3,.own h.length l0.length 0 l0.length),(54,AI l0.length),(55,AI 0)] (h.set id (DA L a0)++[.row (some 4) (l0.map Cel.pv) 0]) []:=by
 refine UA (fun t:Nat×List Cel×Int=>⟨[(0,.ref id 0),(3,.own h.length l0.length 0 l0.length),(54,AI l0.length),(55,AI t.1)],h.set id (DA L t.2.2)++[.row (some 4) (t.2.1.map Cel.pv) 0],[]⟩) (fun t=>t.1≤l0.length∧t.2.1.length=l0.length∧(∀c∈t.2.1,lC c)∧a0≤t.2.2∧t.2.2≤a0+3*t.1) (fun t=>l0.length-t.1) (0,l0,a0) rfl ⟨by omega,rfl,hl0,by dsimp only;omega,by dsimp only;omega⟩ ?_
 rintro⟨k,l,a⟩ ⟨hk,hll,hl,ha1,ha2⟩
 dsimp only at hk hll hl ha1 ha2 ⊢;have i1:id≤h.length:=by omega
 rcases Nat.lt_or_ge k l0.length with hlt|hge
 ·have w2:IntKind.i64.wrap ((k:Int)+1)=((k+1:Nat):Int):=JA _ (by omega) (by omega)
  have p0:sA 0 a:=by unfold sA at *;omega
  have p1:sA 0 (a+1):=by unfold sA at *;omega
  have p2:sA 0 (a+1+1):=by unfold sA at *;omega
  have el:(l.map Cel.pv).length=l0.length:=by simp [hll]
  have kl:k<l.length:=by omega
  have g:=ZA Cel.pv kl
  have cD:=hl _ (List.getElem_mem kl)
  have c0:QA none 0 l[k].pv=some (.int .i64 l[k].kind):=rfl
  by_cases hkind:l[k].kind=2
  ·have hkp:=eq_true hkind
   by_cases f:EA L a 2=0
   ·have f':=eq_true f
    obtain⟨n1,n2⟩:=FE L (a+1) l0.length (by omega) (by omega)
    have e4:=sF (k:=.i64) n1
    have jl:(EA L (a+1) l0.length).toNat<l.length:=by omega
    have jl0:(EA L (a+1) l0.length).toNat<l0.length:=by omega
    have gj:=ZA Cel.pv jl
    have cj:QA none 0 l[(EA L (a+1) l0.length).toNat].pv=some (.int .i64 l[(EA L (a+1) l0.length).toNat].kind):=rfl
    by_cases hj:l[(EA L (a+1) l0.length).toNat].kind=3
    ·have hj':=eq_true hj
     have g2:(l.map Cel.pv)[k]?=some (.agg [.int .i64 l[k].kind,.str l[k].pin,.int .i64 l[k].ctl,.int .i64 l[k].off]):=g
     have c2:QA none 0 (.agg [.int .i64 l[k].kind,.str l[k].pin,.int .i64 l[k].ctl,.int .i64 l[k].off])=some (.int .i64 l[k].kind):=rfl
     have g3:∀x,((l.map Cel.pv).set k x)[k]?=some x:=fun x=>by rw[List.getElem?_set_self (by omega)]
     have el3:∀x,((l.map Cel.pv).set k x).length=l0.length:=fun x=>by simp [hll]
     have ss:∀x y,((l.map Cel.pv).set k x).set k y=(l.map Cel.pv).set k y:=fun x y=>List.set_set ..
     have sp2:∀(a b c d x:PV),splice [a,b,c,d] 2 [x]=[a,b,x,d]:=fun _ _ _ _ _=>rfl
     have sp3:∀(a b c d x:PV),splice [a,b,c,d] 3 [x]=[a,b,c,x]:=fun _ _ _ _ _=>rfl
     have hset:∀(o o':Obj),(h.set id (DA L (a+1+1+1))++[o]).set h.length o'=h.set id (DA L (a+1+1+1))++[o']:=fun o o'=>by rw[List.set_append_right _ _ (by simp)];simp
     have nc:lC ⟨l[k].kind,l[k].pin,EA L (a+1) l0.length,EA L (a+1+1) 2⟩:=cD
     have mp:(l.map Cel.pv).set k (.agg [.int .i64 l[k].kind,.str l[k].pin,.int .i64 (EA L (a+1) l0.length),.int .i64 (EA L (a+1+1) 2)])=(l.set k ⟨l[k].kind,l[k].pin,EA L (a+1) l0.length,EA L (a+1+1) 2⟩).map Cel.pv:=by rw[List.map_set];rfl
     have mm:∀c∈l.set k ⟨l[k].kind,l[k].pin,EA L (a+1) l0.length,EA L (a+1+1) 2⟩,lC c:=fun c hc=>by
      rcases List.mem_or_eq_of_mem_set hc with q|q
      ·exact hl c q
      ·rw[q];exact nc
     simp only[go_sem,hlt,w2,hid,p0,p1,p2,el,g2,c2,hkp,f',e4,jl0,gj,cj,hj',g3,el3,ss,sp2,sp3,hset];refine⟨(k+1,l.set k ⟨l[k].kind,l[k].pin,EA L (a+1) l0.length,EA L (a+1+1) 2⟩,a+1+1+1),?_,⟨hlt,by simp [hll],mm,by dsimp only;omega,by dsimp only;omega⟩,by dsimp only;omega⟩
     dsimp only;rw[←mp]
    ·simp only[go_sem,hlt,w2,hid,p0,p1,p2,el,g,c0,hkp,f',e4,jl0,gj,cj,hj]
     refine⟨(k+1,l,a+1+1),rfl,⟨hlt,hll,hl,by dsimp only;omega,by dsimp only;omega⟩,by dsimp only;omega⟩
   ·simp only[go_sem,hlt,w2,hid,p0,p1,el,g,c0,hkp,f]
    refine⟨(k+1,l,a+1),rfl,⟨hlt,hll,hl,by dsimp only;omega,by dsimp only;omega⟩,by dsimp only;omega⟩
  ·simp only[go_sem,hlt,w2,hid,p0,el,g,c0,hkind]
   refine⟨(k+1,l,a),rfl,⟨hlt,hll,hl,by dsimp only;omega,by dsimp only;omega⟩,by dsimp only;omega⟩
 ·have e:k=l0.length:=by omega
  subst e;simp only[go_sem,Nat.lt_irrefl];exact fin l a _ hll hl ha1 (by omega)
end Go.Am
end
section
/- What is drawn: the cells of a part,none twice. -/
open Go
set_option linter.all false
set_option maxRecDepth 100000
namespace Go.Am
variable {h:bA} {K:mA} {L:List Int}
attribute [-go_sem] YA bB EB BB
theorem z9p {v:AV}{g:Nat}{caps:List AV}{p:PV→Bool}{xs:List PV}(hv:Shows (some 4) v xs h)(hp:jE g caps p xs h)(hl:xs.length≤1000000000) :
 jA X JD [v,.fn g caps] h K=K (AB (xs.any p)) h []:=by
 refine IA ?_;rw[z1T];have vi:=fun K=>AZ (h:=h) (K:=K) hv hp hl
 simp only[mQ,go_sem,vi,MW]
theorem zqJ (c d:Cel)(id:Nat)(hc:h[id]?=some c.bx):jA X rI [.p d.pv,.ref id 0] h K=K (AB (QC c d)) h []:=by
 refine IA ?_;rw[zfF rfl];have hl:=yB hc
 have hc2:∀t,(h++t)[id]?=some c.bx:=fun t=>by rw[List.getElem?_append_left hl];exact hc
 unfold Cel.bx at hc hc2;unfold QC;by_cases h1:d.kind=c.kind
 ·have h1p:=eq_true h1
  simp only[dQ,Cel.pv,eI,go_sem,hc,hc2,h1p]
 ·simp only[dQ,Cel.pv,eI,go_sem,hc,hc2,h1]
theorem zqR {K:Ex→St→Prop}{l:List Cel}(hn:l.length≤7)(hl:∀ c∈l,lC c)
 (fin:∀(m:List Cel) (z:Nat×AV),m.length=l.length→(∀c∈m,lC c)→K (.exit 5) ⟨[(3,.own h.length l.length 0 l.length),(9,.own (h.length+1) m.length 0 m.length),(96,.own h.length l.length 0 l.length),(97,AI l.length),(98,AI l.length),z],h++[.row (some 4) (l.map Cel.pv) 0,.row (some 4) (m.map Cel.pv) 0],[]⟩) :
 FA (jA X) X.gl (.scope gL) K [(3,.own h.length l.length 0 l.length),(9,.own (h.length+1) 0 0 0),(96,.own h.length l.length 0 l.length),(97,AI l.length),(98,AI 0)] (h++[.row (some 4) (l.map Cel.pv) 0,.row (some 4) [] 0]) []:=by
 refine UA (fun t:Nat×List Cel=>⟨[(3,.own h.length l.length 0 l.length),(9,.own (h.length+1) t.2.length 0 t.2.length),(96,.own h.length l.length 0 l.length),(97,AI l.length),(98,AI t.1)],h++[.row (some 4) (l.map Cel.pv) 0,.row (some 4) (t.2.map Cel.pv) 0],[]⟩) (fun t=>t.1≤l.length∧t.2.length=t.1∧∀c∈t.2,lC c) (fun t=>l.length-t.1) (0,[]) rfl ⟨by omega,rfl,by simp⟩ ?_
 rintro⟨k,m⟩ ⟨hk,hmm,hm⟩
 dsimp only at hk hmm hm ⊢;have el:(l.map Cel.pv).length=l.length:=List.length_map ..
 have em:(m.map Cel.pv).length=m.length:=List.length_map ..
 rcases Nat.lt_or_ge k l.length with hlt|hge
 ·have w2:IntKind.i64.wrap ((k:Int)+1)=((k+1:Nat):Int):=JA _ (by omega) (by omega)
  have g:=ZA Cel.pv hlt
  have c1:QA (some 4) 0 l[k].pv=some l[k].pv:=rfl
  have km:m.length+1≤XA:=by unfold XA;omega
  have cD:=hl _ (List.getElem_mem hlt)
  have hw:win (l.map Cel.pv) 0 k=(l.take k).map Cel.pv:=by simp [win,List.map_take]
  generalize hcc:l[k]=c at *;have tells:jE rI [.ref (h.length+2) 0] (fun y=>QC c (cE y)) ((l.take k).map Cel.pv) (h++[.row (some 4) (l.map Cel.pv) 0,.row (some 4) (m.map Cel.pv) 0,c.bx]):=fun y hy K=>by
   obtain⟨d,_,rfl⟩:=List.mem_map.1 hy;dsimp only;rw[lO];exact zqJ c d (h.length+2) (by simp)
  have SH:Shows (some 4) (.own h.length l.length 0 k) ((l.take k).map Cel.pv) (h++[.row (some 4) (l.map Cel.pv) 0,.row (some 4) (m.map Cel.pv) 0,c.bx]):=by
   have:=KL (h:=h++[.row (some 4) (l.map Cel.pv) 0,.row (some 4) (m.map Cel.pv) 0,c.bx]) (id:=h.length) (off:=0) (len:=k) (fz:=0) (dM (l:=l)) (by simp) (by simp;omega)
   rw[el,hw]at this;exact this
  have CF:=fun K=>z9p (K:=K) SH tells (by simp;omega)
  have ea:((l.take k).map Cel.pv).any (fun y=>QC c (cE y))=(l.take k).any (QC c):=by rw[List.any_map];rfl
  simp only[ea]at CF;unfold Cel.bx at CF;simp only[Cel.pv,eI]at g c1;have nx:∀c,lC c→∀x∈m++[c],lC x:=fun c hc x hx=>by
   rcases List.mem_append.1 hx with q|q
   ·exact hm x q
   ·rw[List.mem_singleton]at q;rw[q];exact hc
  by_cases hpin:c.pin=[]
  ·have hp':=eq_true hpin
   have he:decide (c.pin=[])=true:=decide_eq_true hpin
   simp only[go_sem,hlt,g,c1,w2,el,em,he,km];refine⟨(k+1,m++[c]),?_,⟨hlt,by simp [hmm],nx c cD⟩,by dsimp only;omega⟩
   dsimp only;rw[List.length_append,List.map_append];rfl
  ·have he:decide (c.pin=[])=false:=decide_eq_false hpin
   cases ha:(l.take k).any (QC c) with
   | true=>
    rw[ha]at CF;simp only[go_sem,hlt,g,c1,w2,el,em,he,km,hk,↓CF,CF];refine⟨(k+1,m++[⟨4,[],-1,0⟩]),?_,⟨hlt,by simp [hmm],nx _ (.inl rfl)⟩,by dsimp only;omega⟩
    dsimp only;rw[List.length_append,List.map_append];rfl
   | false=>
    rw[ha]at CF;simp only[go_sem,hlt,g,c1,w2,el,em,he,km,hk,↓CF,CF];refine⟨(k+1,m++[c]),?_,⟨hlt,by simp [hmm],nx c cD⟩,by dsimp only;omega⟩
    dsimp only;rw[List.length_append,List.map_append];rfl
 ·have e:k=l.length:=by omega
  subst e;simp only[go_sem,Nat.lt_irrefl];exact fin m _ hmm hm
attribute [-go_sem] lW tM mW BJ nW uM
theorem zqO {K:Ex→St→Prop}{l:List Cel}(hn:l.length≤7)(hl:∀ c∈l,lC c)(env:List (Nat × AV))(e3:aA env 3 = .own h.length l.length 0 l.length)
 (fin:∀(m:List Cel),m.length=l.length→(∀c∈m,lC c)→K .ret ⟨[(2,.own (h.length+1) m.length 0 m.length)],h++[.row (some 4) (l.map Cel.pv) 0,.row (some 4) (m.map Cel.pv) 0],[]⟩) :
 NW (jA X) X.gl LR ⟨env,h++[.row (some 4) (l.map Cel.pv) 0],[]⟩ K:=by
 rw[lW];simp only[tM,e3,go_sem];refine zqR (K:=wA 5 _) hn hl fun m z hm hd=>?_
 simp only[go_sem];exact fin m hm hd
def bM:Cel:=⟨4,[],-1,0⟩
set_option maxHeartbeats 1000000 in
theorem zly {a:Int}(hp:sA 3000 a){id:Nat}(hid:id<h.length):∃(l m:List Cel) (a2:Int),m.length≤7∧l.length≤7∧(∀c∈m,lC c)∧a≤a2∧a2≤a+30∧∀K:mA,jA X qI [.ref id 0] (h.set id (DA L a)) K=K (.own (h.length+1) m.length 0 m.length) (h.set id (DA L a2)++[.row (some 4) (l.map Cel.pv) 0,.row (some 4) (m.map Cel.pv) 0]) []:=by
 have key:jA X qI [.ref id 0] (h.set id (DA L a)) fun v h1 x1=>∃(l m:List Cel) (a2:Int),(m.length≤7∧l.length≤7∧(∀c∈m,lC c)∧a≤a2∧a2≤a+30)∧v = .own (h.length+1) m.length 0 m.length∧h1=h.set id (DA L a2)++[.row (some 4) (l.map Cel.pv) 0,.row (some 4) (m.map Cel.pv) 0]∧x1=[]:=by
  rw[zfE rfl];have p0:sA 0 a:=by unfold sA at *;omega
  have i1:id≤h.length:=by omega
  obtain⟨r1,r2⟩:=zY L a (u:=0) (v:=6) (by omega) (by omega)
  simp only[cQ,go_sem,hid,p0];obtain⟨n,hn⟩:=Int.eq_ofNat_of_zero_le r1;rw[hn]at r2 ⊢;refine zqP (K:=wA 0 _) hid (by omega) (a0:=a+1) (by unfold sA at *;omega) fun l a1 z hl hd ha=>?_
  simp only[go_sem];rw[nW];simp only[uM,go_sem];refine zqQ (K:=wA 3 _) hid (by omega) (by unfold sA at *;omega) hd fun l2 a2 z2 hl2 hd2 h1 h2=>?_
  simp only[go_sem];rw[mW];have p2:sA 0 a2:=by unfold sA at *;omega
  have k10:=fun(K:Ex→St→Prop) (l:List Cel) (hn:l.length≤7) (hl:∀c∈l,lC c) env=>zqO (h:=h.set id (DA L (a2+1))) (K:=K) hn hl env
  simp only[List.length_set]at k10;have el2:(l2.map Cel.pv).length=l2.length:=List.length_map ..
  by_cases f:EA L a2 6=0
  ·have f':=eq_true f
   have km:l2.length+1≤XA:=by unfold XA;omega
   simp only[BJ,←hl2,go_sem,hid,p2,f',el2,km];have hm4:List.map Cel.pv l2++[PV.agg [PV.int IntKind.i64 4,PV.str [],PV.int IntKind.i64 (-1),PV.int IntKind.i64 0]]=(l2++[bM]).map Cel.pv:=by rw[List.map_append];rfl
   rw[hm4];have e3x:aA [(3,AV.own h.length (l2.length+1) 0 (l2.length+1))] 3 = .own h.length (l2++[bM]).length 0 (l2++[bM]).length:=by rw[List.length_append];rfl
   refine k10 _ (l2++[bM]) (by simp;omega) (fun c hc=>?_) _ e3x fun m hm hd=>?_
   ·rcases List.mem_append.1 hc with q|q
    ·exact hd2 c q
    ·rw[List.mem_singleton]at q;rw[q];exact .inl rfl
   simp only[go_sem];rw[show max h.length (h.length+1+1)=h.length+2 by omega,List.take_of_length_le (by simp)]
   refine⟨l2++[bM],m,a2+1,⟨?_,?_,hd,by omega,by omega⟩,rfl,rfl⟩
   ·rw[hm];simp;omega
   ·simp;omega
  ·simp only[BJ,←hl2,go_sem,hid,p2,f]
   refine k10 _ l2 (by omega) hd2 _ rfl fun m hm hd=>?_
   simp only[go_sem];rw[show max h.length (h.length+1+1)=h.length+2 by omega,List.take_of_length_le (by simp)]
   exact⟨l2,m,a2+1,⟨by omega,by omega,hd,by omega,by omega⟩,rfl,rfl⟩
 obtain⟨v,h',x,⟨l,m,a2,q,e0,e1,e2⟩,r⟩:=jA.one VL key;subst e0 e1 e2;exact⟨l,m,a2,q.1,q.2.1,q.2.2.1,q.2.2.2.1,q.2.2.2.2,r⟩
end Go.Am
end
section
/- What is drawn: pairs looked through,and the nets' names of a board in memory. -/
open Go
set_option linter.all false
set_option maxRecDepth 100000
namespace Go.Am
variable {h:bA} {K:mA} {L:List Int}
attribute [-go_sem] YA bB EB BB
def prV (e:Nm2 × Nm2):PV:=.agg [.str e.1,.str e.2]
theorem zpE {P:List (Nm2 × Nm2)}:bC (some 2) (P.map prV):=fun x hx=>by obtain⟨n,_,rfl⟩:=List.mem_map.1 hx;rfl
theorem zq4 {v:AV}(P:List (Nm2 × Nm2))(q:Nm2 × Nm2)(hv:∀ t,Shows (some 2) v (P.map prV) (h++t))(hl:P.length≤1000000):jA X kK [v,.p (prV q)] h K=K (AI (if P.findIdx (fun x=>decide (x=q))<P.length then(P.findIdx (fun x=>decide (x=q)):Int) else -1)) h []:=by
 refine IA ?_;rw[zgg];obtain⟨q1,q2⟩:=q;have SH:=hv [.box [AS q1,AS q2]]
 have vl:=SH.len
 have el:(P.map prV).length=P.length:=List.length_map ..
 rw[el]at vl;simp only[tQ,go_sem,prV,vl];refine UA (fun k:Nat=>⟨[(0,v),(3,.ref h.length 0),(7,AI P.length),(8,AI k)],h++[.box [AS q1,AS q2]],[]⟩) (fun k=>k≤P.length∧∀i (hi:i<P.length),i<k→P[i]≠(q1,q2)) (fun k=>P.length-k) 0 rfl ⟨by omega,fun i _ hi=>by omega⟩ ?_
 rintro k ⟨hk,hp⟩
 rcases Nat.lt_or_ge k P.length with hlt|hge
 ·obtain⟨a,ha,hb⟩:=SH.get k (by omega)
  rw[List.getElem_map]at hb;simp only[prV]at hb;have w2:IntKind.i64.wrap ((k:Int)+1)=((k+1:Nat):Int):=JA _ (by omega) (by omega)
  by_cases he:P[k]=(q1,q2)
  ·have e1:P.findIdx (fun x=>decide (x=(q1,q2)))=k:=by
    rw[List.findIdx_eq hlt];exact⟨by simpa using he,fun j hj=>by simpa using hp j (by omega) hj⟩
   have a1:(P[k]).1=q1:=by rw[he]
   have a2:(P[k]).2=q2:=by rw[he]
   simp only[go_sem,hlt,ha,hb,w2,a1,a2,e1]
  ·have hc:¬(q1=(P[k]).1∧q2=(P[k]).2):=fun⟨c1,c2⟩=>he (by rw[c1,c2])
   simp only[go_sem,hlt,ha,hb,w2];rw[if_neg (by simpa using hc)]
   exact⟨k+1,rfl,⟨by omega,fun i hi hik=>by
    rcases Nat.lt_or_ge i k with hh|hh
    ·exact hp i hi hh
    ·have:i=k:=by omega
     subst this;exact he⟩,by omega⟩
 ·have e1:k=P.length:=by omega
  subst e1;have e2:¬P.findIdx (fun x=>decide (x=(q1,q2)))<P.length:=by
   intro hh;have:=List.findIdx_getElem (p:=fun x=>decide (x=(q1,q2))) (xs:=P) (w:=hh)
   exact hp _ hh hh (by simpa using this)
  simp only[go_sem,Nat.lt_irrefl,e2]
theorem zq2 {v:AV}(P:List (Nm2 × Nm2))(q:Nm2 × Nm2)(hv:∀ t,Shows (some 2) v (P.map prV) (h++t))(hl:P.length≤1000000):jA X cK [v,.p (prV q)] h K=K (AB (decide (q∈P))) h []:=by
 refine IA ?_;rw[zfY];have S:=fun o K=>zq4 (h:=h++[o]) (K:=K) P q (fun t=>by rw[List.append_assoc];exact hv _) hl
 obtain⟨q1,q2⟩:=q;simp only[prV]at S;simp only[JV,go_sem,prV,↓S,S];by_cases hm:(q1,q2)∈P
 ·have:P.findIdx (fun x=>decide (x=(q1,q2)))<P.length:=List.findIdx_lt_length_of_exists ⟨_,hm,by simp⟩
  simp [this,hm]
 ·have:¬P.findIdx (fun x=>decide (x=(q1,q2)))<P.length:=by
   intro hh;have h2:=List.findIdx_getElem (p:=fun x=>decide (x=(q1,q2))) (xs:=P) (w:=hh)
   apply hm
   have h3:P[P.findIdx (fun x=>decide (x=(q1,q2)))]=(q1,q2):=by simpa using h2
   rw[←h3];exact List.getElem_mem hh
  simp [this,hm]
def AK (l:List Jon):List Nm2:=XB eqN (l.map Jon.net)
theorem zq8 (l:List Jon){jid pid g t qid m:Nat}(hj:h[jid]?=some (.row (some 3) (l.map Jon.pv) 0))(hl:l.length≤12)(hsrt:UB ltS (l.map Jon.net)=l.map Jon.net):∃xs:List PV,xs.length=l.length∧win xs 0 (AK l).length=(AK l).map PV.str∧(AK l).length≤l.length∧bC none xs ∧
 ∀K:mA,jA X GG [.agg [.bt 3 t pid g,.own jid l.length 0 l.length,.own qid m 0 m]] h K=K (.own (h.length+1) l.length 0 (AK l).length) (h++[.box [.bt 3 t pid g,.own jid l.length 0 l.length,.own qid m 0 m],.row none xs 0]) []:=by
 have nl:(l.map Jon.net).length=l.length:=List.length_map ..
 generalize hB:(Obj.box [.bt 3 t pid g,.own jid l.length 0 l.length,.own qid m 0 m])=B;obtain⟨xs,x1,x2,x3,x4,C⟩:=OY (h:=h++[B,.row none ((l.map Jon.net).map PV.str) 0]) (l.map Jon.net) (h.length+1) (by simp;omega) (by simp)
 rw[nl]at C x1 x3;have es:∀o,(h++[B,.row none ((l.map Jon.net).map PV.str) 0]).set (h.length+1) o=h++[B,o]:=fun o=>by rw[List.set_append_right _ _ (by omega)];simp
 rw[es]at C;have S:=fun K=>z8n (h:=h++[B,.row none ((l.map Jon.net).map PV.str) 0]) (K:=K) (h.length+1) (l.map Jon.net) (by simpa using hl) (by simp)
 rw[hsrt,es,nl]at S;refine⟨xs,x1,x2,x3,x4,fun K=>IA ?_⟩
 rw[z1S];have ln:(l.map Jon.pv).length=l.length:=List.length_map ..
 simp only[wM,go_sem,ln];subst hB;have jl:=yB hj
 have hj2:∀t,(h++t)[jid]?=some (.row (some 3) (l.map Jon.pv) 0):=fun t=>by rw[List.getElem?_append_left jl];exact hj
 refine UA (fun k:Nat=>⟨[(3,.own (h.length+1) k 0 k),(7,.own jid l.length 0 l.length),(8,AI l.length),(9,AI k)],h++[.box [.bt 3 t pid g,.own jid l.length 0 l.length,.own qid m 0 m],.row none (((l.map Jon.net).take k).map PV.str) 0],[]⟩) (fun k=>k≤l.length) (fun k=>l.length-k) 0 (by simp) (by omega) ?_
 intro k hk;rcases Nat.lt_or_ge k l.length with hlt|hge
 ·have g:=ZA Jon.pv hlt
  have c1:QA (some 3) 0 l[k].pv=some l[k].pv:=rfl
  have w2:IntKind.i64.wrap ((k:Int)+1)=((k+1:Nat):Int):=JA _ (by omega) (by omega)
  have hn:k<(l.map Jon.net).length:=by simpa using hlt
  have tk:(l.map Jon.net).take (k+1)=(l.map Jon.net).take k++[l[k].net]:=by rw[List.take_succ_eq_append_getElem hn];simp
  have tl:(((l.map Jon.net).take k).map PV.str).length=k:=by simp;omega
  have hm:k+1≤XA:=by unfold XA;omega
  have j1:jid≤h.length+1:=by omega
  generalize l[k]=x at *;simp only[Jon.pv]at g c1;simp only[go_sem,hlt,hj2,ln,g,c1,w2,tl,hm,j1];refine⟨k+1,?_,by omega,by omega⟩
  rw[tk];simp
 ·have e:k=l.length:=by omega
  subst e;have t0:(l.map Jon.net).take l.length=l.map Jon.net:=List.take_of_length_le (by simp)
  unfold AK;rw[t0];generalize (l.map Jon.net).map PV.str=us at *;simp only[go_sem,Nat.lt_irrefl,↓S,S,↓C,C];exact List.take_of_length_le (by simp;omega)
end Go.Am
end
section
/- What is drawn: the parts of a board. -/
open Go
set_option linter.all false
set_option maxRecDepth 100000
namespace Go.Am
variable {h:bA} {K:mA} {L:List Int}
attribute [-go_sem] YA bB EB BB
def IB:List (Nat × Prt)→List AV
 | []=>[]
 | e::r=>AS e.2.key :: .own e.1 e.2.cells.length 0 e.2.cells.length::IB r
theorem z2a:∀ (M N:List (Nat × Prt)),IB (M++N)=IB M++IB N
 | [],_=>rfl
 | e::r,N=>by show _::_::IB (r++N)=_;rw[z2a r N];rfl
theorem oJ:∀ M:List (Nat×Prt),(IB M).length=M.length*2
 | []=>rfl
 | e::r=>by show(IB r).length+1+1=_;rw[oJ r,List.length_cons];omega
def BH (B:Nat)(cs:List AV)(g:Nat)(jr pr:Obj)(J P:AV)(R:bA):bA:=
 .arow (some 2) [] :: .row (some 3) [] 0 :: .row (some 2) [] 0 :: .box [.bt 3 3 B 0,.own (B+1) 0 0 0,.own (B+2) 0 0 0] :: .arow (some 2) cs::jr::pr :: .box [.bt 3 3 (B+4) g,J,P]::R
section
variable {B g:Nat} {cs:List AV} {jr pr:Obj} {J P:AV} {R:bA}
theorem iJ {t:bA}:BH B cs g jr pr J P R++t=BH B cs g jr pr J P (R++t):=rfl
theorem ZE:(BH B cs g jr pr J P R).length=R.length+8:=rfl
theorem bh_4:(BH B cs g jr pr J P R)[4]?=some (.arow (some 2) cs):=rfl
theorem bh_5:(BH B cs g jr pr J P R)[5]?=some jr:=rfl
theorem bh_6:(BH B cs g jr pr J P R)[6]?=some pr:=rfl
theorem PD:(BH B cs g jr pr J P R)[7]?=some (.box [.bt 3 3 (B+4) g,J,P]):=rfl
theorem bh_R {n:Nat}:(BH B cs g jr pr J P R)[n+8]?=R[n]?:=rfl
theorem z1B {cs2:List AV}:(BH B cs g jr pr J P R).set 4 (.arow (some 2) cs2)=BH B cs2 g jr pr J P R:=rfl
theorem uU {o:Obj}:(BH B cs g jr pr J P R).set 5 o=BH B cs g o pr J P R:=rfl
theorem z1C {o:Obj}:(BH B cs g jr pr J P R).set 6 o=BH B cs g jr o J P R:=rfl
theorem vU {g2:Nat}{J2 P2:AV}:(BH B cs g jr pr J P R).set 7 (.box [.bt 3 3 (B+4) g2,J2,P2])=BH B cs g2 jr pr J2 P2 R:=rfl
theorem dD {n:Nat}:(BH B cs g jr pr J P R).take (n+8)=BH B cs g jr pr J P (R.take n):=rfl
end
structure MI (lo:Nat) (R:bA) (M:List (Nat × Prt)):Prop where
 rw:∀e∈M,∃n,e.1=lo+n∧R[n]?=some (.row (some 4) (e.2.cells.map Cel.pv) 0)
 nd:(M.map fun e=>e.1).Nodup
theorem MI.app {lo:Nat}{R T:bA}{M:List (Nat × Prt)}(C:MI lo R M):MI lo (R++T) M:=by
 refine⟨fun e he=>?_,C.nd⟩
 obtain⟨n,h1,h2⟩:=C.rw e he;exact⟨n,h1,by rw[List.getElem?_append_left (yB h2)];exact h2⟩
theorem MI.new {lo:Nat}{R:bA}{M:List (Nat × Prt)}{o:Obj}{p:Prt}(C:MI lo R M):MI lo (R++[o,.row (some 4) (p.cells.map Cel.pv) 0]) (M++[(lo+(R.length+1),p)]):=by
 refine⟨fun e he=>?_,?_⟩
 ·rcases List.mem_append.1 he with q|q
  ·exact(C.app (T:=_)).rw e q
  ·rw[List.mem_singleton]at q
   subst q;exact⟨R.length+1,rfl,by rw[List.getElem?_append_right (by omega)];simp⟩
 ·rw[List.map_append,List.nodup_append]
  refine⟨C.nd,by simp,fun a ha b hb=>?_⟩
  obtain⟨e,he,rfl⟩:=List.mem_map.1 ha;obtain⟨n,h1,h2⟩:=C.rw e he;have:=yB h2;simp at hb;omega
def gG:List Nm2:=[[117],[118],[119]]
structure PartsD (M:List (Nat × Prt)) (k:Nat):Prop where
 k:(M.map fun e=>e.2.key).Sublist (gG.take k)
 c:∀e∈M,e.2.cells.length≤7∧∀c∈e.2.cells,lC c
theorem PartsD.len {M:List (Nat × Prt)}{k:Nat}(D:PartsD M k):M.length≤k:=by
 have:=D.k.length_le;rw[List.length_map,List.length_take]at this;omega
abbrev ZW:AV:=.p (.sl none [.str [117],.str [118],.str [119]])
set_option maxHeartbeats 1000000 in
theorem zqn {K:Ex→St→Prop}{id:Nat}(hid:id<h.length){a0:Int}(hp:sA 10000 a0){J P:AV}{jr pr:Obj}
 (fin:∀(M:List (Nat×Prt)) (R:bA) (X:Esc) (a:Int) (z:Nat×AV),MI (h.length+8) R M→PartsD M 3→(∀y∈X,y.1=h.length+4)→a0≤a→a≤a0+120→K (.exit 0) ⟨[(0,.ref id 0),(2,.ref (h.length+3) 0),(3,.ref (h.length+7) 0),(16,ZW),(17,AI 3),(18,AI 3),z],h.set id (DA L a)++BH h.length (IB M) M.length jr pr J P R,X⟩) :
 FA (jA X) X.gl (.scope QI) K [(0,.ref id 0),(2,.ref (h.length+3) 0),(3,.ref (h.length+7) 0),(16,ZW),(17,AI 3),(18,AI 0)] (h.set id (DA L a0)++BH h.length [] 0 jr pr J P []) []:=by
 refine UA (fun t:Nat×List (Nat×Prt)×bA×Esc×Int=>⟨[(0,.ref id 0),(2,.ref (h.length+3) 0),(3,.ref (h.length+7) 0),(16,ZW),(17,AI 3),(18,AI t.1)],h.set id (DA L t.2.2.2.2)++BH h.length (IB t.2.1) t.2.1.length jr pr J P t.2.2.1,t.2.2.2.1⟩)
  (fun t=>t.1≤3∧MI (h.length+8) t.2.2.1 t.2.1∧PartsD t.2.1 t.1∧(∀y∈t.2.2.2.1,y.1=h.length+4)∧a0≤t.2.2.2.2∧t.2.2.2.2≤a0+40*t.1) (fun t=>3-t.1) (0,[],[],[],a0) rfl ⟨by omega,⟨fun e he=>(by cases he),List.nodup_nil⟩,⟨List.nil_sublist _,fun e he=>(by cases he)⟩,fun y hy=>(by cases hy),by dsimp only;omega,by dsimp only;omega⟩ ?_
 rintro⟨k,M,R,E,a⟩ ⟨hk,hM,hD,hE,ha1,ha2⟩
 dsimp only at hk hM hD hE ha1 ha2 ⊢;have i1:id≤h.length:=by omega
 have bl:=fun(cs:List AV) (g:Nat)=>ZE (B:=h.length) (cs:=cs) (g:=g) (jr:=jr) (pr:=pr) (J:=J) (P:=P) (R:=R)
 rcases Nat.lt_or_ge k 3 with hlt|hge
 ·have w2:IntKind.i64.wrap ((k:Int)+1)=((k+1:Nat):Int):=JA _ (by omega) (by omega)
  have p0:sA 0 a:=by unfold sA at *;omega
  have gk:[PV.str [117],PV.str [118],PV.str [119]][k]?=some (PV.str (gG.getD k [])):=by
   have:k=0∨k=1∨k=2:=by omega
   rcases this with e|e|e <;> subst e <;> rfl
  have tk:gG.take (k+1)=gG.take k++[gG.getD k []]:=by
   have:k=0∨k=1∨k=2:=by omega
   rcases this with e|e|e <;> subst e <;> rfl
  generalize gG.getD k []=ky at gk tk;obtain⟨l,m,a2,m7,l7,mD,g1,g2,GC⟩:=zly (L:=L) (a:=a+1) (h:=h++BH h.length (IB M) M.length jr pr J P R) (id:=id) (by unfold sA at *;omega) (by simp;omega)
  rw[FS hid,FS hid]at GC;rw[List.length_append,bl]at GC;have k3:((k:Int)<3)=True:=eq_true (by omega)
  have c0:(id+1≤h.length+(R.length+8))=True:=eq_true (by omega)
  have c2:(h.length+3+1≤h.length+(R.length+8))=True:=eq_true (by omega)
  have c3:(h.length+7+1≤h.length+(R.length+8))=True:=eq_true (by omega)
  have tR:R.take R.length=R:=List.take_length
  by_cases f:EA L a 6=0
  ·have f':=eq_true f
   simp only[go_sem,hlt,k3,w2,gk,hid,p0,f',bl,c0,c2,c3,dD,tR];refine⟨(k+1,M,R,E,a+1),rfl,⟨hlt,hM,⟨?_,hD.c⟩,hE,by dsimp only;omega,by dsimp only;omega⟩,by dsimp only;omega⟩
   dsimp only;rw[tk];exact hD.k.trans (List.sublist_append_left ..)
  ·have gA:∀(cs:List AV) (g:Nat) (o1 o2 o3:Obj),(BH h.length cs g jr pr J P (R++[o1,o2,o3]))[R.length+8+2]?=some o3:=fun cs g o1 o2 o3=>by
    rw[show R.length+8+2=(R.length+2)+8 by omega,bh_R,tU];rfl
   have bl2:∀(cs:List AV) (g:Nat) (o1 o2:Obj),(BH h.length cs g jr pr J P (R++[o1,o2])).length=R.length+8+2:=fun cs g o1 o2=>by rw[ZE];simp
   have lM:=oJ M
   have gM:M.length+1≤XA:=by have:=hD.len;unfold XA;omega
   simp only[go_sem,hlt,k3,w2,gk,hid,p0,f,↓GC,GC,bl,PD,bh_4,iJ,bl2,gA,z1B,vU,lM,gM];have eS:TB (h.length+7) (AV.bt 3 3 (h.length+4) (M.length+1))=[]:=if_neg (by simp [AV.top])
   have eD:decide (h.length+4<h.length+(R.length+8)+1+1)=true:=decide_eq_true (by omega)
   rw[eS,eD,List.nil_append,cond_true,zsq (by omega),show max (h.length+(R.length+8)) (h.length+(R.length+8)+1+1)=h.length+((R.length+2)+8) by omega,z8v,dD]
   rw[show(R++[Obj.row (some 4) (List.map Cel.pv l) 0,Obj.row (some 4) (List.map Cel.pv m) 0,Obj.arow (some 2) [AV.p (PV.str ky),AV.own (h.length+(R.length+8)+1) m.length 0 m.length]]).take (R.length+2)=R++[Obj.row (some 4) (List.map Cel.pv l) 0,Obj.row (some 4) (List.map Cel.pv m) 0] from by rw[List.take_length_add_append];rfl]
   have cM:IB M++[AV.p (PV.str ky),AV.own (h.length+(R.length+8)+1) m.length 0 m.length]=IB (M++[(h.length+8+(R.length+1),⟨ky,m⟩)]):=by
    rw[z2a,show h.length+8+(R.length+1)=h.length+(R.length+8)+1 by omega];rfl
   rw[cM];have c0':id+1≤h.length+(R.length+2+8):=by omega
   have c2':h.length+3+1≤h.length+(R.length+2+8):=by omega
   have c3':h.length+7+1≤h.length+(R.length+2+8):=by omega
   simp only[z2q,z2r,z8B,z8A,c0',c2',c3',if_true,Nat.zero_le];refine⟨(k+1,M++[(h.length+8+(R.length+1),⟨ky,m⟩)],R++[Obj.row (some 4) (List.map Cel.pv l) 0,Obj.row (some 4) (List.map Cel.pv m) 0],(h.length+4,h.length+(R.length+8)+1+1)::E,a2),?_,⟨hlt,hM.new (p:=⟨ky,m⟩),⟨?_,fun e he=>?_⟩,fun y hy=>?_,by dsimp only;omega,by dsimp only;omega⟩,by dsimp only;omega⟩
   ·dsimp only
    rw[List.length_append];rfl
   ·dsimp only
    rw[tk,List.map_append];exact hD.k.append (List.Sublist.refl _)
   ·rcases List.mem_append.1 he with q|q
    ·exact hD.c e q
    ·rw[List.mem_singleton]at q;subst q;exact⟨m7,mD⟩
   ·rcases List.mem_cons.1 hy with q|q
    ·subst q;rfl
    ·exact hE y q
 ·have e:k=3:=by omega
  subst e;have c0:(id+1≤h.length+(R.length+8))=True:=eq_true (by omega)
  have c2:(h.length+3+1≤h.length+(R.length+8))=True:=eq_true (by omega)
  have c3:(h.length+7+1≤h.length+(R.length+8))=True:=eq_true (by omega)
  have tR:R.take R.length=R:=List.take_length
  simp only[go_sem,Nat.lt_irrefl,i1,bl,c0,c2,c3,dD,tR];exact fin M R E a _ hM hD hE ha1 (by omega)
end Go.Am
end
section
/- What is drawn: the pins of a board's parts. -/
open Go
set_option linter.all false
set_option maxRecDepth 100000
namespace Go.Am
variable {K:mA} {L:List Int}
attribute [-go_sem] YA bB EB BB
def iC (key:Nm2)(P:List (Nm2 × Nm2))(c:Cel):List (Nm2×Nm2):=if c.pin=[] then P else if(key,c.pin)∈P then P else P++[(key,c.pin)]
theorem zeg (key:Nm2)(P:List (Nm2 × Nm2))(c:Cel):(iC key P c).length≤P.length+1:=by
 unfold iC;split
 ·omega
 ·split
  ·omega
  ·simp
theorem qU (key:Nm2):∀(l:List Cel) (P:List (Nm2×Nm2)),(l.foldl (iC key) P).length≤P.length+l.length
 | [],P=>by simp
 | c::r,P=>by
  have:=qU key r (iC key P c);have:=zeg key P c;rw[List.foldl_cons,List.length_cons];omega
set_option maxHeartbeats 1000000 in
theorem zqo {K:Ex→St→Prop}{G:bA}{v0 v2 v3 v36:AV}(t0:v0.top≤G.length)(t2:v2.top≤G.length)(t3:v3.top≤G.length)(t36:v36.top≤G.length){i g rid:Nat}{key:Nm2}{l:List Cel}{P:List (Nm2 × Nm2)}(hl:l.length≤1000)(hP:P.length≤10000)
 (hr:G[rid]?=some (.row (some 4) (l.map Cel.pv) 0))
 (fin:∀z,K (.exit 4) ⟨[(0,v0),(2,v2),(3,v3),(6,.own G.length (l.foldl (iC key) P).length 0 (l.foldl (iC key) P).length),(8,.ref (G.length+1) 0),(36,v36),(37,AI g),(38,AI i),(43,.own rid l.length 0 l.length),(44,AI l.length),(45,AI l.length),z],G++[.row (some 2) ((l.foldl (iC key) P).map prV) 0,.box [AS key,.own rid l.length 0 l.length]],[]⟩) :
 FA (jA X) X.gl (.scope YK) K [(0,v0),(2,v2),(3,v3),(6,.own G.length P.length 0 P.length),(8,.ref (G.length+1) 0),(36,v36),(37,AI g),(38,AI i),(43,.own rid l.length 0 l.length),(44,AI l.length),(45,AI 0)] (G++[.row (some 2) (P.map prV) 0,.box [AS key,.own rid l.length 0 l.length]]) []:=by
 refine UA (fun k:Nat=>⟨[(0,v0),(2,v2),(3,v3),(6,.own G.length ((l.take k).foldl (iC key) P).length 0 ((l.take k).foldl (iC key) P).length),(8,.ref (G.length+1) 0),(36,v36),(37,AI g),(38,AI i),(43,.own rid l.length 0 l.length),(44,AI l.length),(45,AI k)],G++[.row (some 2) (((l.take k).foldl (iC key) P).map prV) 0,.box [AS key,.own rid l.length 0 l.length]],[]⟩) (fun k=>k≤l.length) (fun k=>l.length-k) 0 rfl (by omega) ?_
 intro k hk;have rl:=yB hr
 have hr2:∀t,(G++t)[rid]?=some (.row (some 4) (l.map Cel.pv) 0):=fun t=>by rw[List.getElem?_append_left rl];exact hr
 have el:(l.map Cel.pv).length=l.length:=List.length_map ..
 have e0:(v0.top≤G.length+2)=True:=eq_true (by omega)
 have e2:(v2.top≤G.length+2)=True:=eq_true (by omega)
 have e3:(v3.top≤G.length+2)=True:=eq_true (by omega)
 have e36:(v36.top≤G.length+2)=True:=eq_true (by omega)
 have er:(rid+1≤G.length+2)=True:=eq_true (by omega)
 have er2:(rid≤G.length+1)=True:=eq_true (by omega)
 rcases Nat.lt_or_ge k l.length with hlt|hge
 ·have gg:=ZA Cel.pv hlt
  have c1:QA (some 4) 0 l[k].pv=some l[k].pv:=rfl
  have w2:IntKind.i64.wrap ((k:Int)+1)=((k+1:Nat):Int):=JA _ (by omega) (by omega)
  have tk:(l.take (k+1)).foldl (iC key) P=iC key ((l.take k).foldl (iC key) P) l[k]:=by rw[List.take_succ_eq_append_getElem hlt,List.foldl_append];rfl
  have lQ:=qU key (l.take k) P
  rw[List.length_take]at lQ;generalize l[k]=c at *;generalize (l.take k).foldl (iC key) P=Q at *;have eQ:(Q.map prV).length=Q.length:=List.length_map ..
  have km:Q.length+1≤XA:=by unfold XA;omega
  have CP:=fun(bs:bA) K=>zq2 (h:=G++([.row (some 2) (Q.map prV) 0,.box [AS key,.own rid l.length 0 l.length]]++bs)) (K:=K) (v:=.own G.length Q.length 0 Q.length) Q (key,c.pin) (fun t=>by
   have:=z83 (sh:=some 2) (id:=G.length) (fz:=0) (xs:=Q.map prV) (h:=(G++([.row (some 2) (Q.map prV) 0,.box [AS key,.own rid l.length 0 l.length]]++bs))++t) zpE (by rw[List.append_assoc,List.getElem?_append_right (by omega)];simp)
   rw[eQ]at this;exact this) (by omega)
  simp only[prV,List.cons_append,List.nil_append]at CP;simp only[Cel.pv,eI]at gg c1;by_cases hp:c.pin=[]
  ·have he:decide (c.pin=[])=true:=decide_eq_true hp
   have ea:iC key Q c=Q:=by unfold iC;rw[if_pos hp]
   simp only[go_sem,hlt,gg,c1,w2,el,he,hr2,e0,e2,e3,e36,er,er2];refine⟨k+1,?_,hlt,by omega⟩
   rw[tk,ea]
  ·have he:decide (c.pin=[])=false:=decide_eq_false hp
   by_cases hm:(key,c.pin)∈Q
   ·have hd:decide ((key,c.pin)∈Q)=true:=decide_eq_true hm
    have ea:iC key Q c=Q:=by unfold iC;rw[if_neg hp,if_pos hm]
    simp only[hd]at CP;simp only[go_sem,hlt,gg,c1,w2,el,he,hr2,↓CP,CP,e0,e2,e3,e36,er,er2];refine⟨k+1,?_,hlt,by omega⟩
    rw[tk,ea]
   ·have hd:decide ((key,c.pin)∈Q)=false:=decide_eq_false hm
    have ea:iC key Q c=Q++[(key,c.pin)]:=by unfold iC;rw[if_neg hp,if_neg hm]
    simp only[hd]at CP;simp only[go_sem,hlt,gg,c1,w2,el,he,hr2,↓CP,CP,e0,e2,e3,e36,er,er2,eQ,km];refine⟨k+1,?_,hlt,by omega⟩
    rw[tk,ea,List.length_append,List.map_append];rfl
 ·have e:k=l.length:=by omega
  subst e;rw[List.take_length];simp only[go_sem,Nat.lt_irrefl,e0,e2,e3,e36,er,er2];exact fin _
def rE (M:List (Nat × Prt)):List (Nm2×Nm2):=M.foldl (fun Q e=>e.2.cells.foldl (iC e.2.key) Q) []
theorem z75 {M:List (Nat × Prt)}{i:Nat}(hi:i<M.length):rE (M.take (i+1))=M[i].2.cells.foldl (iC M[i].2.key) (rE (M.take i)):=by
 unfold rE;rw[List.take_succ_eq_append_getElem hi,List.foldl_append];rfl
theorem z74 {M:List (Nat × Prt)}(hc:∀ e∈M,e.2.cells.length≤7):∀i,i≤M.length→(rE (M.take i)).length≤7*i
 | 0,_=>by simp [rE]
 | i+1,hi=>by
  have ih:=z74 hc i (by omega)
  have h1:=hc _ (List.getElem_mem (show i<M.length by omega))
  have h2:=qU M[i].2.key M[i].2.cells (rE (M.take i))
  rw[z75 (by omega)];omega
theorem z2b:∀ (M:List (Nat × Prt))(i:Nat),(IB M).drop (i*2)=IB (M.drop i)
 | M,0=>by simp
 | [],i+1=>by simp [IB]
 | e::r,i+1=>by
  rw[show(i+1)*2=(i*2)+1+1 by omega]
  show List.drop (i*2) (IB r)=_
  rw[z2b r i,List.drop_succ_cons]
theorem zg6 {M:List (Nat × Prt)}{i:Nat}(hi:i<M.length):((IB M).drop (i*2)).take 2=[AS M[i].2.key,.own M[i].1 M[i].2.cells.length 0 M[i].2.cells.length]:=by
 rw[z2b,List.drop_eq_getElem_cons hi];rfl
attribute [-go_sem] z49 WP
set_option maxHeartbeats 1000000 in
theorem zqp {K:Ex→St→Prop}{G:bA}{v0 v2 v3:AV}(t0:v0.top≤G.length)(t2:v2.top≤G.length)(t3:v3.top≤G.length){E:Esc}{B:Nat}{M:List (Nat × Prt)}(hM:M.length≤3)(hc:∀ e∈M,e.2.cells.length≤7)
 (hb:G[B]?=some (.arow (some 2) (IB M))) (hr:∀e∈M,G[e.1]?=some (.row (some 4) (e.2.cells.map Cel.pv) 0))
 (fin:∀z,K (.exit 2) ⟨[(0,v0),(2,v2),(3,v3),(6,.own G.length (rE M).length 0 (rE M).length),(36,.bt 3 3 B M.length),(37,AI M.length),(38,AI M.length),z],G++[.row (some 2) ((rE M).map prV) 0],E⟩) :
 FA (jA X) X.gl (.scope ZK) K [(0,v0),(2,v2),(3,v3),(6,.own G.length 0 0 0),(36,.bt 3 3 B M.length),(37,AI M.length),(38,AI 0)] (G++[.row (some 2) [] 0]) E:=by
 refine UA (fun k:Nat=>⟨[(0,v0),(2,v2),(3,v3),(6,.own G.length (rE (M.take k)).length 0 (rE (M.take k)).length),(36,.bt 3 3 B M.length),(37,AI M.length),(38,AI k)],G++[.row (some 2) ((rE (M.take k)).map prV) 0],E⟩) (fun k=>k≤M.length) (fun k=>M.length-k) 0 rfl (by omega) ?_
 intro k hk;have bl:=yB hb
 have hb2:∀t,(G++t)[B]?=some (.arow (some 2) (IB M)):=fun t=>by rw[List.getElem?_append_left bl];exact hb
 have cl:=oJ M
 have e0:(v0.top≤G.length+1)=True:=eq_true (by omega)
 have e2:(v2.top≤G.length+1)=True:=eq_true (by omega)
 have e3:(v3.top≤G.length+1)=True:=eq_true (by omega)
 have eB:(B≤G.length)=True:=eq_true (by omega)
 have eB2:(B+1≤G.length+1)=True:=eq_true (by omega)
 have tB:AV.top (.bt 3 3 B M.length)=B+1:=rfl
 rcases Nat.lt_or_ge k M.length with hlt|hge
 ·have gg:=zg6 hlt
  have g2:(k*2+2≤M.length*2)=True:=eq_true (by omega)
  have w2:IntKind.i64.wrap ((k:Int)+1)=((k+1:Nat):Int):=JA _ (by omega) (by omega)
  have tk:=z75 hlt
  have lQ:=z74 hc k (by omega)
  have l7:=hc _ (List.getElem_mem hlt)
  have re:=hr _ (List.getElem_mem hlt)
  generalize M[k]=e at *;generalize rE (M.take k)=Q at *;obtain⟨rid,key,l⟩:=e;dsimp only at *;have rl:=yB re
  have er:(rid≤G.length)=True:=eq_true (by omega)
  have eE:TB (G.length+1) (AV.agg [AS key,.own rid l.length 0 l.length])=[]:=if_neg (by simp [AV.top,AV.tops];omega)
  simp only[go_sem,hlt,gg,g2,w2,hb2,cl,e0,e2,e3,eB,eB2,tB,er,eE];refine zqo (K:=wA 4 _) (P:=Q) t0 t2 t3 (by rw[tB];omega) (by omega) (by omega) re fun z=>?_
  simp only[go_sem,w2,e0,e2,e3,eB,eB2,tB,er];refine⟨k+1,?_,hlt,by omega⟩
  rw[tk]
 ·have e:k=M.length:=by omega
  subst e;rw[List.take_length];simp only[go_sem,Nat.lt_irrefl,e0,e2,e3,eB,eB2,tB];exact fin _
end Go.Am
end
section
/- What is drawn: the joins of a board. -/
open Go
set_option linter.all false
set_option maxRecDepth 100000
namespace Go.Am
variable {h:bA} {K:mA} {L:List Int}
attribute [-go_sem] YA bB EB BB
def BK:List Nm2:=[[110,49],[110,49],[110,50],[110,51]]
def qO (l:List Jon):Prop:=∀j∈l,j.net∈BK
set_option maxHeartbeats 1000000 in
theorem zqq {K:Ex→St→Prop}{E:Esc}{id:Nat}(hid:id<h.length){a0:Int}(hp:sA 1000 a0){v2 P:AV}{pr:Obj}{cs:List AV}{g n:Nat}{R:bA}{Q:List (Nm2 × Nm2)}(t2:v2.top≤h.length+8)(hQ:Q.length≤100)(hR:R[n]?=some (.row (some 2) (Q.map prV) 0))
 (fin:∀(l:List Jon) (a:Int) (z:Nat×AV),l.length≤Q.length→qO l→a0≤a→a≤a0+2*Q.length→K (.exit 6) ⟨[(0,.ref id 0),(2,v2),(3,.ref (h.length+7) 0),(69,.own (h.length+(n+8)) Q.length 0 Q.length),(70,AI Q.length),(71,AI Q.length),z],h.set id (DA L a)++BH h.length cs g (.row (some 3) (l.map Jon.pv) 0) pr (.own (h.length+5) l.length 0 l.length) P R,E⟩) :
 FA (jA X) X.gl (.scope aL) K [(0,.ref id 0),(2,v2),(3,.ref (h.length+7) 0),(69,.own (h.length+(n+8)) Q.length 0 Q.length),(70,AI Q.length),(71,AI 0)] (h.set id (DA L a0)++BH h.length cs g (.row (some 3) [] 0) pr (.own (h.length+5) 0 0 0) P R) E:=by
 refine UA (fun t:Nat×List Jon×Int=>⟨[(0,.ref id 0),(2,v2),(3,.ref (h.length+7) 0),(69,.own (h.length+(n+8)) Q.length 0 Q.length),(70,AI Q.length),(71,AI t.1)],h.set id (DA L t.2.2)++BH h.length cs g (.row (some 3) (t.2.1.map Jon.pv) 0) pr (.own (h.length+5) t.2.1.length 0 t.2.1.length) P R,E⟩)
  (fun t=>t.1≤Q.length∧t.2.1.length≤t.1∧qO t.2.1∧a0≤t.2.2∧t.2.2≤a0+2*t.1) (fun t=>Q.length-t.1) (0,[],a0) rfl ⟨by omega,Nat.le_refl _,fun e he=>(by cases he),by dsimp only;omega,by dsimp only;omega⟩ ?_
 rintro⟨k,l,a⟩ ⟨hk,hl,hD,ha1,ha2⟩
 dsimp only at hk hl hD ha1 ha2 ⊢;have nl:=yB hR
 have eQ:(Q.map prV).length=Q.length:=List.length_map ..
 have bl:=fun(jr:Obj) (J:AV)=>ZE (B:=h.length) (cs:=cs) (g:=g) (jr:=jr) (pr:=pr) (J:=J) (P:=P) (R:=R)
 have c0:(id+1≤h.length+(R.length+8))=True:=eq_true (by omega)
 have c2:(v2.top≤h.length+(R.length+8))=True:=eq_true (by omega)
 have c3:(h.length+7+1≤h.length+(R.length+8))=True:=eq_true (by omega)
 have c4:(h.length+(n+8)+1≤h.length+(R.length+8))=True:=eq_true (by omega)
 have tR:R.take R.length=R:=List.take_length
 rcases Nat.lt_or_ge k Q.length with hlt|hge
 ·have gg:=ZA prV hlt
  have c1:QA (some 2) 0 (prV Q[k])=some (prV Q[k]):=rfl
  have w2:IntKind.i64.wrap ((k:Int)+1)=((k+1:Nat):Int):=JA _ (by omega) (by omega)
  have p0:sA 0 a:=by unfold sA at *;omega
  have p1:sA 0 (a+1):=by unfold sA at *;omega
  generalize Q[k]=q at gg c1;obtain⟨q1,q2⟩:=q;simp only[prV]at gg c1;have hR1:∀(jr:Obj) (J:AV),(BH h.length cs g jr pr J P R)[n+8]?=some (.row (some 2) (Q.map prV) 0):=fun jr J=>hR
  have gX:∀(jr:Obj) (J:AV) (o:Obj),(BH h.length cs g jr pr J P (R++[o]))[R.length+8]?=some o:=fun jr J o=>by rw[bh_R,z12];rfl
  have sX:∀(jr:Obj) (J:AV) (o o2:Obj),(BH h.length cs g jr pr J P (R++[o])).set (R.length+8) o2=BH h.length cs g jr pr J P (R++[o2]):=fun jr J o o2=>by
   show BH h.length cs g jr pr J P ((R++[o]).set R.length o2)=_
   rw[z14];rfl
  have S:=fun l K=>nG (L:=L) (h:=h) (l:=l) (K:=K) hid p1 (xs:=[.str [110,49],.str [110,49],.str [110,50],.str [110,51]]) rfl (by simp) (by simp)
  simp only[List.map_cons,List.map_nil,unS]at S;have pm:=DL (l:=BK) (L:=L) (a:=a+1) (by simp [BK]) (by simp [BK])
  unfold BK at pm;generalize gC [[110,49],[110,49],[110,50],[110,51]] L (a+1)=nt at *;have ej:(l.map Jon.pv).length=l.length:=List.length_map ..
  have km:l.length+1≤XA:=by unfold XA;omega
  by_cases f:EA L a 5=0
  ·have f':=eq_true f
   simp only[go_sem,hlt,w2,gg,c1,hR1,eQ,hid,p0,f',bl,iJ,gX,sX,c0,c2,c3,c4,dD,tR];exact⟨(k+1,l,a+1),rfl,⟨hlt,by dsimp only;omega,hD,by dsimp only;omega,by dsimp only;omega⟩,by dsimp only;omega⟩
  ·have eE:TB (h.length+7) (AV.own (h.length+5) (l.length+1) 0 (l.length+1))=[]:=if_neg (by simp [AV.top])
   have tR2:∀o,(R++[o]).take R.length=R:=fun o=>List.take_left
   simp only[go_sem,hlt,w2,gg,c1,hR1,eQ,hid,p0,f,bl,iJ,gX,sX,↓S,S,PD,bh_5,uU,vU,ej,km,c0,c2,c3,c4,dD,tR,tR2,eE];refine⟨(k+1,l++[⟨nt,q1,q2⟩],a+1+1),?_,⟨hlt,by dsimp only;rw[List.length_append,List.length_singleton];omega,?_,by dsimp only;omega,by dsimp only;omega⟩,by dsimp only;omega⟩
   ·dsimp only
    rw[List.length_append,List.map_append];rfl
   ·intro j hj
    rcases List.mem_append.1 hj with z|z
    ·exact hD j z
    ·rw[List.mem_singleton]at z;subst z;exact pm
 ·have e:k=Q.length:=by omega
  subst e;simp only[go_sem,Nat.lt_irrefl,bl,c0,c2,c3,c4,dD,tR];exact fin l a _ hl hD ha1 ha2
end Go.Am
end
section
/- What is drawn: the pulls of a board. -/
open Go
set_option linter.all false
set_option maxRecDepth 100000
namespace Go.Am
variable {h:bA} {K:mA} {L:List Int}
attribute [-go_sem] YA bB EB BB
set_option maxHeartbeats 1000000 in
theorem zqi {K:Ex→St→Prop}{E:Esc}{id:Nat}(hid:id<h.length){a0:Int}(hp:sA 1000 a0){v2 J:AV}{jr:Obj}{cs:List AV}{g n:Nat}{R:bA}{xs:List PV}{N:List Nm2}(t2:v2.top≤h.length+8)(hQ:N.length≤100)(hN:N.length≤xs.length)(hw:win xs 0 N.length=N.map PV.str)(hR:R[n]?=some (.row none xs 0))
 (fin:∀(l:List Pul) (a:Int) (z:Nat×AV),l.length≤N.length→a0≤a→a≤a0+2*N.length→K (.exit 8) ⟨[(0,.ref id 0),(2,v2),(3,.ref (h.length+7) 0),(96,.own (h.length+(n+8)) xs.length 0 N.length),(97,AI N.length),(98,AI N.length),z],h.set id (DA L a)++BH h.length cs g jr (.row (some 2) (l.map Pul.pv) 0) J (.own (h.length+6) l.length 0 l.length) R,E⟩) :
 FA (jA X) X.gl (.scope XK) K [(0,.ref id 0),(2,v2),(3,.ref (h.length+7) 0),(96,.own (h.length+(n+8)) xs.length 0 N.length),(97,AI N.length),(98,AI 0)] (h.set id (DA L a0)++BH h.length cs g jr (.row (some 2) [] 0) J (.own (h.length+6) 0 0 0) R) E:=by
 refine UA (fun t:Nat×List Pul×Int=>⟨[(0,.ref id 0),(2,v2),(3,.ref (h.length+7) 0),(96,.own (h.length+(n+8)) xs.length 0 N.length),(97,AI N.length),(98,AI t.1)],h.set id (DA L t.2.2)++BH h.length cs g jr (.row (some 2) (t.2.1.map Pul.pv) 0) J (.own (h.length+6) t.2.1.length 0 t.2.1.length) R,E⟩)
  (fun t=>t.1≤N.length∧t.2.1.length≤t.1∧a0≤t.2.2∧t.2.2≤a0+2*t.1) (fun t=>N.length-t.1) (0,[],a0) rfl ⟨by omega,Nat.le_refl _,by dsimp only;omega,by dsimp only;omega⟩ ?_
 rintro⟨k,l,a⟩ ⟨hk,hl,ha1,ha2⟩
 dsimp only at hk hl ha1 ha2 ⊢;have nl:=yB hR
 have bl:=fun(pr:Obj) (P:AV)=>ZE (B:=h.length) (cs:=cs) (g:=g) (jr:=jr) (pr:=pr) (J:=J) (P:=P) (R:=R)
 have c0:(id+1≤h.length+(R.length+8))=True:=eq_true (by omega)
 have c2:(v2.top≤h.length+(R.length+8))=True:=eq_true (by omega)
 have c3:(h.length+7+1≤h.length+(R.length+8))=True:=eq_true (by omega)
 have c4:(h.length+(n+8)+1≤h.length+(R.length+8))=True:=eq_true (by omega)
 have tR:R.take R.length=R:=List.take_length
 have hN':(N.length≤xs.length)=True:=eq_true hN
 rcases Nat.lt_or_ge k N.length with hlt|hge
 ·have gg:xs[k]?=some (.str N[k]):=by
   have h1:(win xs 0 N.length)[k]?=(N.map PV.str)[k]?:=by rw[hw]
   unfold win at h1;rw[List.drop_zero,List.getElem?_take_of_lt hlt,ZA PV.str hlt]at h1;exact h1
  have w2:IntKind.i64.wrap ((k:Int)+1)=((k+1:Nat):Int):=JA _ (by omega) (by omega)
  have p0:sA 0 a:=by unfold sA at *;omega
  have p1:sA 0 (a+1):=by unfold sA at *;omega
  generalize N[k]=q at gg;have hR1:∀(pr:Obj) (P:AV),(BH h.length cs g jr pr J P R)[n+8]?=some (.row none xs 0):=fun pr P=>hR
  have ej:(l.map Pul.pv).length=l.length:=List.length_map ..
  have km:l.length+1≤XA:=by unfold XA;omega
  have eE:TB (h.length+7) (AV.own (h.length+6) (l.length+1) 0 (l.length+1))=[]:=if_neg (by simp [AV.top])
  by_cases f:EA L a 4=0
  ·have f':=eq_true f
   simp only[go_sem,hlt,w2,gg,hN',hR1,hid,p0,p1,f',bl,PD,bh_6,z1C,vU,ej,km,c0,c2,c3,c4,dD,tR,eE];refine⟨(k+1,l++[⟨q,EA L (a+1) 2⟩],a+1+1),?_,⟨hlt,by dsimp only;rw[List.length_append,List.length_singleton];omega,by dsimp only;omega,by dsimp only;omega⟩,by dsimp only;omega⟩
   dsimp only;rw[List.length_append,List.map_append];rfl
  ·simp only[go_sem,hlt,w2,gg,hN',hR1,hid,p0,f,bl,c0,c2,c3,c4,dD,tR]
   exact⟨(k+1,l,a+1),rfl,⟨hlt,by dsimp only;omega,by dsimp only;omega,by dsimp only;omega⟩,by dsimp only;omega⟩
 ·have e:k=N.length:=by omega
  subst e;simp only[go_sem,Nat.lt_irrefl,bl,c0,c2,c3,c4,dD,tR];exact fin l a _ hl ha1 ha2
end Go.Am
end
section
/- What is drawn: one thing of a board made odd. -/
open Go
set_option linter.all false
set_option maxRecDepth 100000
namespace Go.Am
variable {h:bA} {K:mA} {L:List Int}
attribute [-go_sem] YA bB EB BB
abbrev BHJ (B:Nat)(M:List (Nat × Prt))(jl:List Jon)(pl:List Pul)(R:bA):bA:=BH B (IB M) M.length (.row (some 3) (jl.map Jon.pv) 0) (.row (some 2) (pl.map Pul.pv) 0) (.own (B+5) jl.length 0 jl.length) (.own (B+6) pl.length 0 pl.length) R
structure PartsE (M:List (Nat × Prt)):Prop where
 n:M.length≤3
 e:∀e∈M,e.2.key.length≤10∧e.2.cells.length≤7∧∀c∈e.2.cells,c.pin.length≤10
def IE (l:List Jon):Prop:=∀j∈l,j.net.length≤10
def eJ (lo:Nat)(M:List (Nat × Prt))(jl:List Jon)(pl:List Pul)(R:bA)(a:Int)(M':List (Nat × Prt))(jl':List Jon)(pl':List Pul)(R':bA)(a2:Int):Prop:=
 MI lo R' M'∧R'.length=R.length∧PartsE M'∧IE jl'∧jl'.length=jl.length∧pl'.length=pl.length∧M'.length=M.length∧a≤a2∧a2≤a+20
theorem z2e:∀ (M:List (Nat × Prt))(i:Nat)(hi:i<M.length)(s:Nm2),splice (IB M) (i*2) [AS s]=IB (M.set i (M[i].1,⟨s,M[i].2.cells⟩))
 | e::r,0,_,s=>rfl
 | e::r,i+1,hi,s=>by
  have ih:=z2e r i (by simpa using hi) s
  rw[show(i+1)*2=(i*2)+1+1 by omega]
  unfold splice at ih ⊢;show AS e.2.key::AV.own e.1 e.2.cells.length 0 e.2.cells.length::((IB r).take (i*2)++[AS s]++(IB r).drop (i*2+1))=_
  rw[show(IB r).take (i*2)++[AS s]++(IB r).drop (i*2+1)=_ from ih]
  rfl
theorem uY {l:List Nm2}{a:Int}{n:Nat}(h0:0<l.length)(h1:l.length<100)(hl:∀ s∈l,s.length≤n):(gC l L a).length≤n:=hl _ (DL h0 (by omega))
theorem WW {α β:Type}(f:α→β):∀(M:List α) (i:Nat) (hi:i<M.length) (x:α),f x=f M[i]→(M.set i x).map f=M.map f
 | e::r,0,_,x,h=>by show f x::r.map f=_;rw[h];rfl
 | e::r,i+1,hi,x,h=>by
  show f e::(r.set i x).map f=_
  rw[WW f r i (by simpa using hi) x h];rfl
theorem MI.setKey {lo i:Nat}{R:bA}{M:List (Nat × Prt)}{s:Nm2}(C:MI lo R M)(hi:i<M.length):MI lo R (M.set i (M[i].1,⟨s,M[i].2.cells⟩)):=by
 refine⟨fun e he=>?_,?_⟩
 ·rcases List.mem_or_eq_of_mem_set he with q|q
  ·exact C.rw e q
  ·have:=C.rw _ (List.getElem_mem hi)
   subst q;exact this
 ·rw[WW (fun e:Nat×Prt=>e.1) M i hi (M[i].1,⟨s,M[i].2.cells⟩) rfl];exact C.nd
set_option maxHeartbeats 2000000 in
theorem zrl {id:Nat}(hid:id<h.length){a:Int}(hp:sA 1000 a){M:List (Nat × Prt)}{jl:List Jon}{pl:List Pul}{R:bA}(hM:MI (h.length+8) R M)(hE:PartsE M)(hJ:IE jl)(f:EA L a 6=0) :
 jA X mF [.ref id 0,.ref (h.length+7) 0] (h.set id (DA L a)++BHJ h.length M jl pl R) fun v h1 x1=>∃M' jl' pl' R' a2,eJ (h.length+8) M jl pl R a M' jl' pl' R' a2∧v = .tup []∧h1=h.set id (DA L a2)++BHJ h.length M' jl' pl' R'∧x1=[]:=by
 rw[jP rfl];have bl:=fun(cs:List AV) (g:Nat) (jr pr:Obj) (J P:AV)=>ZE (B:=h.length) (cs:=cs) (g:=g) (jr:=jr) (pr:=pr) (J:=J) (P:=P) (R:=R)
 have p0:sA 0 a:=by unfold sA at *;omega
 have p1:sA 0 (a+1):=by unfold sA at *;omega
 have p2:sA 0 (a+1+1):=by unfold sA at *;omega
 have c0:(id+1≤h.length+(R.length+8))=True:=eq_true (by omega)
 have c3:(h.length+7+1≤h.length+(R.length+8))=True:=eq_true (by omega)
 have tR:R.take R.length=R:=List.take_length
 rcases Nat.eq_zero_or_pos M.length with m0|m0
 ·have m0':((0:Int)<M.length)=False:=eq_false (by omega)
  simp only[jF,go_sem,hid,p0,f,m0',bl,PD,c0,c3,dD,tR];refine⟨M,jl,pl,R,a+1,⟨hM,rfl,hE,hJ,rfl,rfl,rfl,by omega,by omega⟩,rfl⟩
 ·have m0':((0:Int)<M.length)=True:=eq_true (by omega)
  obtain⟨n1,n2⟩:=FE L (a+1) M.length (by omega) (by have:=hE.n;omega)
  have e4:=sF (k:=.i64) n1
  have il:(EA L (a+1) M.length).toNat<M.length:=by omega
  have S:=fun l K=>nG (L:=L) (h:=h) (l:=l) (K:=K) hid p2 (xs:=[.str [],.str [65],.str [117],.str [122,122]]) rfl (by simp) (by simp)
  simp only[List.map_cons,List.map_nil,unS]at S;have ks:=z2e M _ il (gC [[],[65],[117],[122,122]] L (a+1+1))
  simp only[splice,List.length_singleton,List.append_assoc,List.singleton_append]at ks;have cl:=oJ M
  have MK:=hM.setKey (s:=gC [[],[65],[117],[122,122]] L (a+1+1)) il
  have pl10:=uY (L:=L) (a:=a+1+1) (l:=[[],[65],[117],[122,122]]) (n:=10) (by simp) (by simp) (by simp)
  generalize gC [[],[65],[117],[122,122]] L (a+1+1)=s at *;have hE':PartsE (M.set (EA L (a+1) M.length).toNat (M[(EA L (a+1) M.length).toNat].1,⟨s,M[(EA L (a+1) M.length).toNat].2.cells⟩)):=by
   refine⟨by rw[List.length_set];exact hE.n,fun e he=>?_⟩
   rcases List.mem_or_eq_of_mem_set he with q|q
   ·exact hE.e e q
   ·subst q
    exact⟨pl10,(hE.e _ (List.getElem_mem il)).2⟩
  simp only[jF,go_sem,hid,p0,p1,f,m0',e4,il,↓S,S,bl,PD,bh_4,z1B,cl,c0,c3,dD,tR];rw[if_pos (by omega),ks]
  refine⟨M.set (EA L (a+1) M.length).toNat (M[(EA L (a+1) M.length).toNat].1,⟨s,M[(EA L (a+1) M.length).toNat].2.cells⟩),jl,pl,R,a+1+1+1,⟨MK,rfl,hE',hJ,rfl,rfl,List.length_set,by omega,by omega⟩,?_⟩
  rw[BHJ,List.length_set]
end Go.Am
end
section
/- What is drawn: a join or a pull made odd. -/
open Go
set_option linter.all false
set_option maxRecDepth 100000
namespace Go.Am
variable {h:bA} {K:mA} {L:List Int}
attribute [-go_sem] YA bB EB BB
set_option maxHeartbeats 2000000 in
theorem zrm {id:Nat}(hid:id<h.length){a:Int}(hp:sA 1000 a){M:List (Nat × Prt)}{jl:List Jon}{pl:List Pul}{R:bA}(hM:MI (h.length+8) R M)(hE:PartsE M)(hJ:IE jl)(hjl:jl.length≤100)(f:EA L a 6=1) :
 jA X mF [.ref id 0,.ref (h.length+7) 0] (h.set id (DA L a)++BHJ h.length M jl pl R) fun v h1 x1=>∃M' jl' pl' R' a2,eJ (h.length+8) M jl pl R a M' jl' pl' R' a2∧v = .tup []∧h1=h.set id (DA L a2)++BHJ h.length M' jl' pl' R'∧x1=[]:=by
 rw[jP rfl];have bl:=fun(cs:List AV) (g:Nat) (jr pr:Obj) (J P:AV)=>ZE (B:=h.length) (cs:=cs) (g:=g) (jr:=jr) (pr:=pr) (J:=J) (P:=P) (R:=R)
 have p0:sA 0 a:=by unfold sA at *;omega
 have p1:sA 0 (a+1):=by unfold sA at *;omega
 have p2:sA 0 (a+1+1):=by unfold sA at *;omega
 have p3:sA 0 (a+1+1+1):=by unfold sA at *;omega
 have p4:sA 0 (a+1+1+1+1):=by unfold sA at *;omega
 have c0:(id+1≤h.length+(R.length+8))=True:=eq_true (by omega)
 have c3:(h.length+7+1≤h.length+(R.length+8))=True:=eq_true (by omega)
 have tR:R.take R.length=R:=List.take_length
 rcases Nat.eq_zero_or_pos jl.length with m0|m0
 ·have m0':((0:Int)<jl.length)=False:=eq_false (by omega)
  simp only[jF,go_sem,hid,p0,f,m0',bl,PD,c0,c3,dD,tR];exact⟨M,jl,pl,R,a+1,⟨hM,rfl,hE,hJ,rfl,rfl,rfl,by omega,by omega⟩,rfl⟩
 ·have m0':((0:Int)<jl.length)=True:=eq_true (by omega)
  obtain⟨n1,n2⟩:=FE L (a+1) jl.length (by omega) (by omega)
  have e4:=sF (k:=.i64) n1
  have il:(EA L (a+1) jl.length).toNat<jl.length:=by omega
  have g:=ZA Jon.pv il
  have jn:=hJ _ (List.getElem_mem il)
  generalize hi:(EA L (a+1) jl.length).toNat=i at *;generalize hj:jl[i]=j at *;have S1:=fun l K=>nG (L:=L) (h:=h) (l:=l) (K:=K) hid p2 (xs:=[.str j.net,.str [],.str [110,49]]) rfl (by simp) (by simp)
  have S2:=fun l K=>nG (L:=L) (h:=h) (l:=l) (K:=K) hid p3 (xs:=[.str j.part,.str [122,122],.str [117]]) rfl (by simp) (by simp)
  have S3:=fun l K=>nG (L:=L) (h:=h) (l:=l) (K:=K) hid p4 (xs:=[.str j.pin,.str [112,122],.str []]) rfl (by simp) (by simp)
  simp only[List.map_cons,List.map_nil,unS]at S1 S2 S3;have l10:=uY (L:=L) (a:=a+1+1) (l:=[j.net,[],[110,49]]) (n:=10) (by simp) (by simp) (by simp;omega)
  generalize gC [j.net,[],[110,49]] L (a+1+1)=s1 at *;generalize gC [j.part,[122,122],[117]] L (a+1+1+1)=s2 at *;generalize gC [j.pin,[112,122],[]] L (a+1+1+1+1)=s3 at *;simp only[Jon.pv]at g;have el:(jl.map Jon.pv).length=jl.length:=List.length_map ..
  have el3:∀x,((jl.map Jon.pv).set i x).length=jl.length:=fun x=>by simp
  have g3:∀x,((jl.map Jon.pv).set i x)[i]?=some x:=fun x=>by rw[List.getElem?_set_self (by omega)]
  have ss:∀x y,((jl.map Jon.pv).set i x).set i y=(jl.map Jon.pv).set i y:=fun x y=>List.set_set ..
  have sp0:∀(a b c x:PV),splice [a,b,c] 0 [x]=[x,b,c]:=fun _ _ _ _=>rfl
  have sp1:∀(a b c x:PV),splice [a,b,c] 1 [x]=[a,x,c]:=fun _ _ _ _=>rfl
  have sp2:∀(a b c x:PV),splice [a,b,c] 2 [x]=[a,b,x]:=fun _ _ _ _=>rfl
  have mp:(jl.map Jon.pv).set i (.agg [.str s1,.str s2,.str s3])=(jl.set i ⟨s1,s2,s3⟩).map Jon.pv:=by rw[List.map_set];rfl
  have hJ':IE (jl.set i ⟨s1,s2,s3⟩):=fun x hx=>by
   rcases List.mem_or_eq_of_mem_set hx with q|q
   ·exact hJ x q
   ·subst q;exact l10
  simp only[jF,go_sem,hid,p0,p1,f,m0',e4,hi,il,g,el,el3,g3,ss,sp0,sp1,sp2,↓S1,S1,↓S2,S2,↓S3,S3,bl,PD,bh_5,uU,c0,c3,dD,tR,mp];exact⟨M,jl.set i ⟨s1,s2,s3⟩,pl,R,a+1+1+1+1+1,⟨hM,rfl,hE,hJ',List.length_set,rfl,rfl,by omega,by omega⟩,by rw[BHJ,List.length_set]⟩
theorem zrn {id:Nat}(hid:id<h.length){a:Int}(hp:sA 1000 a){M:List (Nat × Prt)}{jl:List Jon}{pl:List Pul}{R:bA}(hM:MI (h.length+8) R M)(hE:PartsE M)(hJ:IE jl)(hpl:pl.length≤100)(f:EA L a 6=2) :
 jA X mF [.ref id 0,.ref (h.length+7) 0] (h.set id (DA L a)++BHJ h.length M jl pl R) fun v h1 x1=>∃M' jl' pl' R' a2,eJ (h.length+8) M jl pl R a M' jl' pl' R' a2∧v = .tup []∧h1=h.set id (DA L a2)++BHJ h.length M' jl' pl' R'∧x1=[]:=by
 rw[jP rfl];have bl:=fun(cs:List AV) (g:Nat) (jr pr:Obj) (J P:AV)=>ZE (B:=h.length) (cs:=cs) (g:=g) (jr:=jr) (pr:=pr) (J:=J) (P:=P) (R:=R)
 have p0:sA 0 a:=by unfold sA at *;omega
 have p1:sA 0 (a+1):=by unfold sA at *;omega
 have p2:sA 0 (a+1+1):=by unfold sA at *;omega
 have c0:(id+1≤h.length+(R.length+8))=True:=eq_true (by omega)
 have c3:(h.length+7+1≤h.length+(R.length+8))=True:=eq_true (by omega)
 have tR:R.take R.length=R:=List.take_length
 rcases Nat.eq_zero_or_pos pl.length with m0|m0
 ·have m0':((0:Int)<pl.length)=False:=eq_false (by omega)
  simp only[jF,go_sem,hid,p0,f,m0',bl,PD,c0,c3,dD,tR];exact⟨M,jl,pl,R,a+1,⟨hM,rfl,hE,hJ,rfl,rfl,rfl,by omega,by omega⟩,rfl⟩
 ·have m0':((0:Int)<pl.length)=True:=eq_true (by omega)
  obtain⟨n1,n2⟩:=FE L (a+1) pl.length (by omega) (by omega)
  have e4:=sF (k:=.i64) n1
  have il:(EA L (a+1) pl.length).toNat<pl.length:=by omega
  have g:=ZA Pul.pv il
  generalize hi:(EA L (a+1) pl.length).toNat=i at *;generalize hj:pl[i]=j at *;have S1:=fun l K=>nG (L:=L) (h:=h) (l:=l) (K:=K) hid p2 (xs:=[.str j.net,.str [122,122],.str [110,49]]) rfl (by simp) (by simp)
  simp only[List.map_cons,List.map_nil,unS]at S1;generalize gC [j.net,[122,122],[110,49]] L (a+1+1)=s1 at *;obtain⟨w,a2,w1,w2,w3,w4,O⟩:=g_Odd (L:=L) (a:=a+1+1+1) (by unfold sA at *;omega) 0 1 (by omega) (by omega) (by omega)
  have S2:=fun l K=>O.app (h:=h) (id:=id) (l:=l) (K:=K) hid
  simp only[Pul.pv,eI]at g;have el:(pl.map Pul.pv).length=pl.length:=List.length_map ..
  have el3:∀x,((pl.map Pul.pv).set i x).length=pl.length:=fun x=>by simp
  have g3:∀x,((pl.map Pul.pv).set i x)[i]?=some x:=fun x=>by rw[List.getElem?_set_self (by omega)]
  have ss:∀x y,((pl.map Pul.pv).set i x).set i y=(pl.map Pul.pv).set i y:=fun x y=>List.set_set ..
  have sp0:∀(a b x:PV),splice [a,b] 0 [x]=[x,b]:=fun _ _ _=>rfl
  have sp1:∀(a b x:PV),splice [a,b] 1 [x]=[a,x]:=fun _ _ _=>rfl
  have mp:(pl.map Pul.pv).set i (.agg [.str s1,.int .i64 w])=(pl.set i ⟨s1,w⟩).map Pul.pv:=by rw[List.map_set];rfl
  simp only[jF,go_sem,hid,p0,p1,f,m0',e4,hi,il,g,el,el3,g3,ss,sp0,sp1,↓S1,S1,↓S2,S2,bl,PD,bh_6,z1C,c0,c3,dD,tR,mp];exact⟨M,jl,pl.set i ⟨s1,w⟩,R,a2,⟨hM,rfl,hE,hJ,rfl,List.length_set,rfl,by omega,by omega⟩,by rw[BHJ,List.length_set]⟩
end Go.Am
end
section
/- What is drawn: a cell made odd. -/
open Go
set_option linter.all false
set_option maxRecDepth 100000
namespace Go.Am
variable {h:bA} {K:mA} {L:List Int}
attribute [-go_sem] YA bB EB BB
theorem bh_sR {B g:Nat}{cs:List AV}{jr pr:Obj}{J P:AV}{R:bA}{n:Nat}{o:Obj}:(BH B cs g jr pr J P R).set (n+8) o=BH B cs g jr pr J P (R.set n o):=rfl
theorem z2c:∀ (M:List (Nat × Prt))(i:Nat)(hi:i<M.length),(IB M)[i*2+1]?=some (.own M[i].1 M[i].2.cells.length 0 M[i].2.cells.length)
 | e::r,0,_=>rfl
 | e::r,i+1,hi=>by
  rw[show(i+1)*2+1=(i*2+1)+1+1 by omega]
  exact z2c r i (by simpa using hi)
theorem z2d:∀ (M:List (Nat × Prt))(i:Nat)(hi:i<M.length)(l:List Cel),l.length=M[i].2.cells.length→IB (M.set i (M[i].1,⟨M[i].2.key,l⟩))=IB M
 | e::r,0,_,l,hl=>by
  show AS e.2.key::AV.own e.1 l.length 0 l.length::IB r=_
  rw[show l.length=e.2.cells.length from hl];rfl
 | e::r,i+1,hi,l,hl=>by
  show AS e.2.key::AV.own e.1 e.2.cells.length 0 e.2.cells.length::IB (r.set i _)=_
  rw[show IB (r.set i ((e::r)[i+1].1,⟨(e::r)[i+1].2.key,l⟩))=IB r from z2d r i (by simpa using hi) l hl];rfl
theorem MI.setC {lo i m:Nat}{R:bA}{M:List (Nat × Prt)}{l:List Cel}(C:MI lo R M)(hi:i<M.length)(hm:M[i].1=lo+m)(hR:m<R.length):MI lo (R.set m (.row (some 4) (l.map Cel.pv) 0)) (M.set i (M[i].1,⟨M[i].2.key,l⟩)):=by
 have nd:=C.nd
 refine⟨fun e he=>?_,?_⟩
 ·obtain⟨j,hj,rfl⟩:=List.mem_iff_getElem.1 he
  rw[List.length_set]at hj;rw[List.getElem_set];by_cases hij:i=j
  ·rw[if_pos hij]
   exact⟨m,hm,by rw[List.getElem?_set_self hR]⟩
  ·rw[if_neg hij]
   obtain⟨n,e1,e2⟩:=C.rw _ (List.getElem_mem hj);refine⟨n,e1,?_⟩;have pw:=List.pairwise_iff_getElem.1 nd
   have hne:M[j].1≠M[i].1:=by
    rcases Nat.lt_or_ge i j with q|q
    ·have:=pw i j (by simpa using hi) (by simpa using hj) q
     simpa using Ne.symm this
    ·have:=pw j i (by simpa using hj) (by simpa using hi) (by omega)
     simpa using this
   have:n≠m:=fun e=>hne (by rw[e1,hm,e])
   rw[List.getElem?_set_ne (by omega)];exact e2
 ·rw[WW (fun e:Nat×Prt=>e.1) M i hi (M[i].1,⟨M[i].2.key,l⟩) rfl];exact nd
set_option maxHeartbeats 4000000 in
theorem zro {id:Nat}(hid:id<h.length){a:Int}(hp:sA 1000 a){M:List (Nat × Prt)}{jl:List Jon}{pl:List Pul}{R:bA}(hM:MI (h.length+8) R M)(hE:PartsE M)(hJ:IE jl)(f0:¬ EA L a 6=0)(f1:¬ EA L a 6=1)(f2:¬ EA L a 6=2) :
 jA X mF [.ref id 0,.ref (h.length+7) 0] (h.set id (DA L a)++BHJ h.length M jl pl R) fun v h1 x1=>∃M' jl' pl' R' a2,eJ (h.length+8) M jl pl R a M' jl' pl' R' a2∧v = .tup []∧h1=h.set id (DA L a2)++BHJ h.length M' jl' pl' R'∧x1=[]:=by
 rw[jP rfl];have bl:=fun(cs:List AV) (g:Nat) (jr pr:Obj) (J P:AV) (R:bA)=>ZE (B:=h.length) (cs:=cs) (g:=g) (jr:=jr) (pr:=pr) (J:=J) (P:=P) (R:=R)
 have p0:sA 0 a:=by unfold sA at *;omega
 have p1:sA 0 (a+1):=by unfold sA at *;omega
 have p2:sA 0 (a+1+1):=by unfold sA at *;omega
 have p3:sA 0 (a+1+1+1):=by unfold sA at *;omega
 have p4:sA 0 (a+1+1+1+1):=by unfold sA at *;omega
 have p5:sA 0 (a+1+1+1+1+1):=by unfold sA at *;omega
 have p6:sA 0 (a+1+1+1+1+1+1):=by unfold sA at *;omega
 have c0:(id+1≤h.length+(R.length+8))=True:=eq_true (by omega)
 have c3:(h.length+7+1≤h.length+(R.length+8))=True:=eq_true (by omega)
 have tR:R.take R.length=R:=List.take_length
 rcases Nat.eq_zero_or_pos M.length with m0|m0
 ·have m0':((M.length:Int)=0)=True:=eq_true (by omega)
  simp (config:={maxSteps:=1000000}) only[jF,go_sem,hid,p0,f0,f1,f2,m0',bl,PD,c0,c3,dD,tR];exact⟨M,jl,pl,R,a+1,⟨hM,rfl,hE,hJ,rfl,rfl,rfl,by omega,by omega⟩,rfl⟩
 ·have m0':((M.length:Int)=0)=False:=eq_false (by omega)
  obtain⟨n1,n2⟩:=FE L (a+1) M.length (by omega) (by have:=hE.n;omega)
  have e4:=sF (k:=.i64) n1
  have il:(EA L (a+1) M.length).toNat<M.length:=by omega
  have cl:=oJ M
  have gr:=z2c M _ il
  obtain⟨m,m1,m2⟩:=hM.rw _ (List.getElem_mem il);have sC:=z2d M _ il
  have MC:=fun l=>hM.setC (l:=l) il m1 (yB m2)
  have eE:=hE.e _ (List.getElem_mem il)
  generalize hi:(EA L (a+1) M.length).toNat=i at *;rw[m1,show h.length+8+m=h.length+(m+8) by omega]at gr
  generalize hl:M[i].2.cells=l at *;have hi2:(i*2+1<M.length*2)=True:=eq_true (by omega)
  rcases Nat.eq_zero_or_pos l.length with q0|q0
  ·have q0':((0:Int)<l.length)=False:=eq_false (by omega)
   simp (config:={maxSteps:=10000000}) only[jF,go_sem,hid,p0,p1,f0,f1,f2,m0',e4,hi,il,gr,cl,q0',bl,PD,bh_4,c0,c3,dD,tR];exact⟨M,jl,pl,R,a+1+1,⟨hM,rfl,hE,hJ,rfl,rfl,rfl,by omega,by omega⟩,rfl⟩
  ·have q0':((0:Int)<l.length)=True:=eq_true (by omega)
   obtain⟨n3,n4⟩:=FE L (a+1+1) l.length (by omega) (by omega)
   have e5:=sF (k:=.i64) n3
   have kl:(EA L (a+1+1) l.length).toNat<l.length:=by omega
   have g:=ZA Cel.pv kl
   have pn:=eE.2.2 _ (List.getElem_mem kl)
   generalize hk:(EA L (a+1+1) l.length).toNat=k at *;generalize hc:l[k]=c at *;have S1:=fun t K=>WN (L:=L) (h:=h) (l:=t) (K:=K) hid p3 (xs:=[eI c.kind,eI c.kind,eI 0,eI 5,eI 3]) rfl (by simp) (by simp)
   have S2:=fun t K=>nG (L:=L) (h:=h) (l:=t) (K:=K) hid p4 (xs:=[.str c.pin,.str c.pin,.str [],.str [112,97],.str [65]]) rfl (by simp) (by simp)
   have S3:=fun t K=>WN (L:=L) (h:=h) (l:=t) (K:=K) hid p5 (xs:=[eI c.ctl,eI c.ctl,eI (-1),eI (-2),eI 0,eI 99,eI 1099511627776]) rfl (by simp) (by simp)
   have S4:=fun t K=>WN (L:=L) (h:=h) (l:=t) (K:=K) hid p6 (xs:=[eI c.off,eI c.off,eI 0,eI 1,eI 2,eI (-1)]) rfl (by simp) (by simp)
   simp only[List.map_cons,List.map_nil,unS,unI,eI]at S1 S2 S3 S4;have l10:=uY (L:=L) (a:=a+1+1+1+1) (l:=[c.pin,c.pin,[],[112,97],[65]]) (n:=10) (by simp) (by simp) (by simp;omega)
   generalize wF [c.kind,c.kind,0,5,3] L (a+1+1+1)=s1 at *;generalize gC [c.pin,c.pin,[],[112,97],[65]] L (a+1+1+1+1)=s2 at *;generalize wF [c.ctl,c.ctl,-1,-2,0,99,1099511627776] L (a+1+1+1+1+1)=s3 at *;generalize wF [c.off,c.off,0,1,2,-1] L (a+1+1+1+1+1+1)=s4 at *;simp only[Cel.pv,eI]at g;have el:(l.map Cel.pv).length=l.length:=List.length_map ..
   have el3:∀x,((l.map Cel.pv).set k x).length=l.length:=fun x=>by simp
   have g3:∀x,((l.map Cel.pv).set k x)[k]?=some x:=fun x=>by rw[List.getElem?_set_self (by omega)]
   have ss:∀x y,((l.map Cel.pv).set k x).set k y=(l.map Cel.pv).set k y:=fun x y=>List.set_set ..
   have sp0:∀(a b c d x:PV),splice [a,b,c,d] 0 [x]=[x,b,c,d]:=fun _ _ _ _ _=>rfl
   have sp1:∀(a b c d x:PV),splice [a,b,c,d] 1 [x]=[a,x,c,d]:=fun _ _ _ _ _=>rfl
   have sp2:∀(a b c d x:PV),splice [a,b,c,d] 2 [x]=[a,b,x,d]:=fun _ _ _ _ _=>rfl
   have sp3:∀(a b c d x:PV),splice [a,b,c,d] 3 [x]=[a,b,c,x]:=fun _ _ _ _ _=>rfl
   have mp:(l.map Cel.pv).set k (.agg [.int .i64 s1,.str s2,.int .i64 s3,.int .i64 s4])=(l.set k ⟨s1,s2,s3,s4⟩).map Cel.pv:=by rw[List.map_set];rfl
   have ml:=yB m2
   have r2:∀o:Obj,(R.set m o)[m]?=some o:=fun o=>List.getElem?_set_self ml
   have r3:∀o o':Obj,(R.set m o).set m o'=R.set m o':=fun o o'=>List.set_set ..
   have r4:∀o:Obj,(R.set m o).length=R.length:=fun o=>List.length_set
   have tR2:∀o:Obj,(R.set m o).take R.length=R.set m o:=fun o=>List.take_of_length_le (by simp)
   simp (config:={maxSteps:=10000000}) only[jF,go_sem,hid,p0,p1,p2,f0,f1,f2,m0',e4,hi,il,gr,cl,q0',e5,hk,kl,g,el,el3,g3,ss,sp0,sp1,sp2,sp3,↓S1,S1,↓S2,S2,↓S3,S3,↓S4,S4,bl,PD,bh_4,bh_R,bh_sR,m2,r2,r3,r4,tR2,c0,c3,dD,tR,mp];have lc:(l.set k ⟨s1,s2,s3,s4⟩).length=l.length:=List.length_set
   have hE':PartsE (M.set i (M[i].1,⟨M[i].2.key,l.set k ⟨s1,s2,s3,s4⟩⟩)):=by
    refine⟨by rw[List.length_set];exact hE.n,fun e he=>?_⟩
    rcases List.mem_or_eq_of_mem_set he with q|q
    ·exact hE.e e q
    ·subst q
     refine⟨eE.1,by rw[lc];exact eE.2.1,fun x hx=>?_⟩
     rcases List.mem_or_eq_of_mem_set hx with q|q
     ·exact eE.2.2 x q
     ·subst q;exact l10
   refine⟨M.set i (M[i].1,⟨M[i].2.key,l.set k ⟨s1,s2,s3,s4⟩⟩),jl,pl,R.set m (.row (some 4) ((l.set k ⟨s1,s2,s3,s4⟩).map Cel.pv) 0),a+1+1+1+1+1+1+1,⟨MC _,List.length_set,hE',hJ,rfl,rfl,List.length_set,by omega,by omega⟩,?_⟩
   rw[BHJ,sC _ lc,List.length_set]
theorem zrk {id:Nat}(hid:id<h.length){a:Int}(hp:sA 1000 a){M:List (Nat × Prt)}{jl:List Jon}{pl:List Pul}{R:bA}(hM:MI (h.length+8) R M)(hE:PartsE M)(hJ:IE jl)(hjl:jl.length≤100)(hpl:pl.length≤100) :
 ∃M' jl' pl' R' a2,eJ (h.length+8) M jl pl R a M' jl' pl' R' a2∧∀K:mA,jA X mF [.ref id 0,.ref (h.length+7) 0] (h.set id (DA L a)++BHJ h.length M jl pl R) K=K (.tup []) (h.set id (DA L a2)++BHJ h.length M' jl' pl' R') []:=by
 have key:jA X mF [.ref id 0,.ref (h.length+7) 0] (h.set id (DA L a)++BHJ h.length M jl pl R) fun v h1 x1=>∃M' jl' pl' R' a2,eJ (h.length+8) M jl pl R a M' jl' pl' R' a2∧v = .tup []∧h1=h.set id (DA L a2)++BHJ h.length M' jl' pl' R'∧x1=[]:=by
  by_cases f0:EA L a 6=0
  ·exact zrl hid hp hM hE hJ f0
  ·by_cases f1:EA L a 6=1
   ·exact zrm hid hp hM hE hJ hjl f1
   ·by_cases f2:EA L a 6=2
    ·exact zrn hid hp hM hE hJ hpl f2
    ·exact zro hid hp hM hE hJ f0 f1 f2
 obtain⟨v,h1,x1,⟨M',jl',pl',R',a2,q,e1,e2,e3⟩,r⟩:=jA.one VL key;subst e1 e2 e3;exact⟨M',jl',pl',R',a2,q,r⟩
end Go.Am
end
