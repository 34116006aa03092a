import Derived.Test.YthofcepomhnpdaaGreatlawST8
set_option linter.all false
set_option maxRecDepth 100000
set_option maxHeartbeats 0
namespace Go.Am
section
variable {h:aA} {K:jA}
attribute [-go_sem] UA ZA ZB WB
theorem zcB {p:Nat}(hp:2<=p){n:Nat}(hn:n<=1)(h1:1<=n):n%p≠0:=by
 have:n=1:=by omega
 subst this;rw[Nat.mod_eq_of_lt (by omega)];omega
theorem zbc {k p n:Nat}(h1:1<n)(hm:n%p=0)(hd:LD k p n=true):∃k',k=k'+1/\LD k' p (n / p)=true/\UB k p n=p::UB k' p (n / p):=by
 cases k with
 | zero=>simp [LD]at hd;omega
 | succ k'=>
  refine⟨k',rfl,?_,?_⟩
  ·unfold LD at hd
   simpa [hm,show ¬n<=1 by omega] using hd
  ·rw[UB,if_neg (by omega),if_pos hm]
theorem zbb {k p n:Nat}(h1:1<n)(hm:n%p≠0)(hd:LD k p n=true):∃k',k=k'+1/\LD k' (p+1) n=true/\UB k p n=UB k' (p+1) n:=by
 cases k with
 | zero=>simp [LD]at hd;omega
 | succ k'=>
  refine⟨k',rfl,?_,?_⟩
  ·unfold LD at hd
   simpa [hm,show ¬n<=1 by omega] using hd
  ·rw[UB,if_neg (by omega),if_neg hm]
theorem YI {k p n:Nat}(h1:n<=1):UB k p n=[]/\LD k p n=true:=by
 cases k with
 | zero=>exact⟨rfl,by simp [LD,h1]⟩
 | succ k'=>exact⟨by rw[UB,if_pos h1],by unfold LD;simp [h1]⟩
theorem zez (n p:Nat):(n:Int).tmod p=(n%p:Nat):=by rw[Int.tmod_eq_emod_of_nonneg (by omega)];rfl
theorem oZ (m:Nat)(h:m<9223372036854775808):IntKind.i64.wrap (m:Int)=m:=rA _ (by omega) (by omega)
theorem zey (n p:Nat):(n:Int).tdiv p=(n / p:Nat):=by rw[Int.tdiv_eq_ediv_of_nonneg (by omega)];rfl
theorem zdO (n:Nat)(b:Int)(ks:List (Int × Int))(m id:Nat)(hn:n<=12)(hb:b=1∨b = -1)(hk:∀ q:Nat,-100<=EB ks q/\EB ks q<=100)
 (hm:h[m]?=some (.box [.mp id])) (hid:h[id]?=some (lA AA zA ks)) :
 gA X SL [AI n,AI b,.ref m 0] h K=K (.tup []) (h.set id (lA AA zA (QE b ks n))) []:=by
 refine sA ?_;have hne:m≠id:=by intro e;subst e;rw[hm]at hid;exact absurd hid (by simp [lA])
 have hlt:id<h.length:=(List.getElem?_eq_some_iff.1 hid).1
 have hmm:∀o,(h.set id o)[m]?=some (.box [.mp id]):=λo=>by rw[List.getElem?_set_ne (λe=>hne e.symm)];exact hm
 have hii:∀o,(h.set id o)[id]?=some o:=λo=>by rw[List.getElem?_set_self hlt]
 have hss:∀o o',(h.set id o).set id o'=h.set id o':=λo o'=>List.set_set ..
 rw[zg6 rfl];have hd0:=(DM ⟨n,by omega⟩).1
 generalize hR:QE b ks n=R;have h0:h=h.set id (lA AA zA ks):=by
  apply List.ext_getElem?
  intro i;by_cases hi:i=id
  ·subst hi;rw[hii];exact hid
  ·rw[List.getElem?_set_ne (λe=>hi e.symm)]
 simp only[ST,go_sem];refine DA (λt:Nat×Nat×Nat×List (Int×Int)=>⟨[(0,AI t.2.2.1),(1,AI b),(2,.ref m 0),(5,AI t.2.1)],h.set id (lA AA zA t.2.2.2),[]⟩)
  (λt=>2<=t.2.1/\t.2.1+t.1<=40/\t.2.2.1<=12/\LD t.1 t.2.1 t.2.2.1=true/\(UB t.1 t.2.1 t.2.2.1).foldl (SE b) t.2.2.2=R/\∀q:Nat,-140+(t.1:Int)<=EB t.2.2.2 q/\EB t.2.2.2 q<=140-(t.1:Int))
  (λt=>if t.2.2.1<=1 then 0 else t.1+1) (20,2,n,ks) (by dsimp only;rw[<-h0];rfl) ⟨by dsimp only;omega,by dsimp only;omega,hn,hd0,hR,λq=>by have:=hk q;dsimp only;omega⟩ ?_
 rintro⟨k,p,n,ms⟩ ⟨i1,i2,i3,i4,i5,i6⟩
 dsimp only at i1 i2 i3 i4 i5 i6 ⊢;by_cases hn1:n<=1
 ·have hf:=(YI (k:=k) (p:=p) hn1).1
  rw[hf]at i5;have i5:ms=R:=i5
  have hg:¬(1:Int)<n:=by omega
  simp only[go_sem,hg];rw[i5]
 ·have hg:(1:Int)<n:=by omega
  simp only[go_sem,hg];refine DA (λt:Nat×Nat×List (Int×Int)=>⟨[(0,AI t.2.1),(1,AI b),(2,.ref m 0),(5,AI p)],h.set id (lA AA zA t.2.2),[]⟩)
   (λt=>t.1<=k/\(t.1=k->t.2.1=n)/\1<=t.2.1/\t.2.1<=12/\LD t.1 p t.2.1=true/\(UB t.1 p t.2.1).foldl (SE b) t.2.2=R/\∀q:Nat,-140+(t.1:Int)<=EB t.2.2 q/\EB t.2.2 q<=140-(t.1:Int))
   (λt=>t.1) (k,n,ms) rfl ⟨Nat.le_refl _,λ_=>rfl,by dsimp only;omega,i3,i4,i5,i6⟩ ?_
  rintro⟨k1,n1,m1⟩ ⟨j1,j2,j3,j4,j5,j6,j7⟩
  dsimp only at j1 j2 j3 j4 j5 j6 j7 ⊢;have p0:((p:Int)=0)=False:=by simp only[eq_iff_iff,iff_false];omega
  have lk:=λ(hp:aA) (hh:hp[id]?=some (lA AA zA m1))=>cW (b:=(p:Int)) hh
  have up:=λ(hp:aA) (v:Int) (hh:hp[id]?=some (lA AA zA m1))=>lP (b:=(p:Int)) (v:=v) hh
  have tm:=zez n1 p
  have td:=zey n1 p
  have wm:IntKind.i64.wrap ((n1%p:Nat):Int)=((n1%p:Nat):Int):=oZ _ (Nat.lt_of_le_of_lt (Nat.mod_le n1 p) (by omega))
  have wd:IntKind.i64.wrap ((n1 / p:Nat):Int)=((n1 / p:Nat):Int):=oZ _ (Nat.lt_of_le_of_lt (Nat.div_le_self n1 p) (by omega))
  by_cases hz:n1%p=0
  ·have hn2:1<n1:=by
    rcases Nat.lt_or_ge 1 n1 with q|q
    ·exact q
    ·exact absurd hz (zcB i1 q j3)
   obtain⟨k2,e2,d2,f2⟩:=zbc hn2 hz j5;rw[f2]at j6;have hpw:=j7 p
   have wp:IntKind.i64.wrap ((iB (p:Int) m1).getD 0+b)=EB m1 p+b:=rA (EB m1 p+b) (by omega) (by omega)
   have ez:((n1%p:Nat):Int)=0:=by omega
   simp only[go_sem,p0,tm,td,wm,wd,ez,hmm,hii,hss,lk,up,wp];refine⟨(k2,n1 / p,SE b m1 p),rfl,⟨by dsimp only;omega,λe=>by dsimp only at e;omega,?_,?_,d2,j6,λq=>?_⟩,by dsimp only;omega⟩
   ·exact Nat.div_pos (Nat.le_of_dvd (by omega) (Nat.dvd_of_mod_eq_zero hz)) (by omega)
   ·have:=Nat.div_le_self n1 p;dsimp only;omega
   ·have:=j7 q
    rw[z7I];dsimp only;split <;> omega
  ·have hz2:¬(((n1%p:Nat):Int)=0):=by omega
   have wq:IntKind.i64.wrap ((p:Int)+1)=((p+1:Nat):Int):=rA _ (by omega) (by omega)
   simp only[go_sem,p0,tm,wm,hz2,wq];by_cases hn2:n1<=1
   ·refine⟨(k1,p+1,n1,m1),rfl,⟨by dsimp only;omega,?_,j4,(YI hn2).2,?_,j7⟩,?_⟩
    ·have:k1≠k:=λe=>by have:=j2 e;omega
     dsimp only;omega
    ·rw[(YI hn2).1]at j6
     dsimp only;rw[(YI hn2).1];exact j6
    ·dsimp only;rw[if_pos hn2,if_neg hn1];omega
   ·obtain⟨k2,e2,d2,f2⟩:=zbb (by omega) hz j5
    rw[f2]at j6;refine⟨(k2,p+1,n1,m1),rfl,⟨by dsimp only;omega,by dsimp only;omega,j4,d2,j6,λq=>?_⟩,?_⟩
    ·have:=j7 q;dsimp only;omega
    ·dsimp only;rw[if_neg hn2,if_neg hn1];omega
end
section
variable {h:aA} {K:jA}
attribute [-go_sem] UA ZA ZB WB
def frP (t:Nat × Nat):PV:=.agg [eI t.1,eI t.2]
abbrev AFr (l:List (Nat × Nat)):AV:=.p (.sl (some 2) (l.map frP))
def gC (t:Nat × Nat):Prop:=t.1<=t.2/\1<=t.2/\t.2<=12
def FB (l:List (Nat × Nat)):List (Int×Int):=l.foldl nT []
theorem z7K (l:List (Nat × Nat))(t:Nat × Nat):FB (l++[t])=nT (FB l) t:=by unfold FB;simp
theorem z7J (l:List (Nat × Nat))(q:Nat):EB (FB l) q=BA l q:=by
 refine TV (P:=λl=>EB (FB l) q=BA l q) rfl (λl t ih=>?_) l
 rw[z7K,zrH,ih,zew]
theorem z5u {b:Int}{ks:List (Int × Int)}{n:Nat}(hn:n<=12)(h:tD 12 ks):tD 12 (QE b ks n):=zcj _ ((DM ⟨n,by omega⟩).2) h
theorem zrI (l:List (Nat × Nat)):(∀t∈l,gC t)->tD 12 (FB l):=by
 refine TV (P:=λl=>(∀t∈l,gC t)->tD 12 (FB l)) (λ_=>⟨List.nodup_nil,by simp [FB,KC]⟩) (λl t ih hl=>?_) l
 have ht:=hl t (by simp)
 unfold gC at ht;rw[z7K];exact z5u (by omega) (z5u (by omega) (ih λt ht=>hl t (by simp [ht])))
def DE (l:List (Nat × Nat)):Int:=bC ((List.range' 2 11).map (BD λq=>- BA l q))
def mJ (l:List (Nat × Nat)):Int:=bC ((List.range' 2 11).map (BD (BA l)))
def kn (ks:List (Int × Int))(i:Nat):Nat:=((KC ks).getD i 0).toNat
theorem zck {ks:List (Int × Int)}{i:Nat}(hi:i<ks.length):kn ks i=ks[i].1.toNat:=by
 unfold kn KC;simp [List.getD_eq_getElem?_getD,hi]
theorem OM {ks:List (Int × Int)}(hk:tD 12 ks){i:Nat}(hi:i<ks.length):2<=kn ks i/\kn ks i<=12/\ks[i].1=kn ks i:=by
 have:=hk.2 ks[i].1 (List.mem_map.2 ⟨_,List.getElem_mem hi,rfl⟩);rw[zck hi];omega
theorem zpx {ks:List (Int × Int)}(hk:tD 12 ks){i j:Nat}(hi:i<ks.length)(hj:j<ks.length)(e:kn ks i=kn ks j):i=j:=by
 have a:=(OM hk hi).2.2
 have b:=(OM hk hj).2.2
 have c:(KC ks)[i]'(by simpa [KC] using hi)=(KC ks)[j]'(by simpa [KC] using hj):=by
  unfold KC;rw[List.getElem_map,List.getElem_map,a,b,e]
 exact(List.getElem_inj hk.1).1 c
theorem zcl {ks:List (Int × Int)}(hk:tD 12 ks){s:List Nat}(hd:s.Nodup)(hb:∀ i∈s,i<ks.length):(s.map (kn ks)).Nodup:=by
 unfold List.Nodup;rw[List.pairwise_map];exact List.Pairwise.imp_of_mem (λha hb2 hne e=>hne (zpx hk (hb _ ha) (hb _ hb2) e)) hd
theorem zoR {ks:List (Int × Int)}(hd:(KC ks).Nodup):∀{i:Nat} (hi:i<ks.length),iB ks[i].1 ks=some ks[i].2:=by
 induction ks with
 | nil=>intro i hi;simp at hi
 | cons e r ih=>
  rw[ZV,List.nodup_cons]at hd;intro i hi;cases i with
  | zero=>simp [iB]
  | succ i=>
   simp only[List.getElem_cons_succ];have hi2:i<r.length:=by simpa using hi
   unfold iB;rw[if_neg,ih hd.2 hi2];intro e2;exact hd.1 (e2 ▸ List.mem_map.2 ⟨_,List.getElem_mem hi2,rfl⟩)
def IG (S:Nat->Int)(ks:List (Int × Int))(s:List Nat):Int:=bC ((s.map (kn ks)).map (BD S))
theorem za5 (S:Nat->Int)(ks:List (Int × Int))(s:List Nat)(i:Nat):IG S ks (s++[i])=IG S ks s*BD S (kn ks i):=by
 unfold IG;rw[List.map_append,List.map_append,KY];congr 1
 exact Int.one_mul _
theorem za3 {S:Nat->Int}{ks:List (Int × Int)}(hS:∀ q,S q<=3*nC q)(hk:tD 12 ks){s:List Nat}(hd:s.Nodup)(hb:∀ i∈s,i<ks.length):1<=IG S ks s/\IG S ks s<=1000000000000000:=by
 have hq:∀q∈s.map (kn ks),2<=q/\q<=12:=λq hq=>by
  obtain⟨i,hi,rfl⟩:=List.mem_map.1 hq;have:=OM hk (hb i hi);omega
 exact⟨yO λq h=>z1o (by have:=hq q h;omega),zdd hS (zcl hk hd hb) hq⟩
theorem za4 {S:Nat->Int}{ks:List (Int × Int)}(hk:tD 12 ks)(hS:∀ q:Nat,EB ks q=0->S q=0){s:List Nat}(hp:s.Perm (List.range ks.length)):IG S ks s=bC ((List.range' 2 11).map (BD S)):=by
 unfold IG;rw[SR ((hp.map (kn ks)).map (BD S))];symm
 refine zda (zcl hk List.nodup_range λi hi=>List.mem_range.1 hi) List.nodup_range' (λq hq=>?_) λq hq hn=>?_
 ·obtain⟨i,hi,rfl⟩:=List.mem_map.1 hq
  have:=OM hk (List.mem_range.1 hi);rw[List.mem_range'_1];omega
 ·have:EB ks q=0:=by
   unfold EB;cases hg:iB (q:Int) ks with
   | none=>rfl
   | some v=>
    have hm:=zbN.1 (by rw[hg];rfl:(iB (q:Int) ks).isSome=true)
    obtain⟨e,he,e2⟩:=List.mem_map.1 hm;obtain⟨i,hi,rfl⟩:=List.mem_iff_getElem.1 he;exact absurd (List.mem_map.2 ⟨i,List.mem_range.2 hi,by rw[zck hi,e2];rfl⟩) hn
  unfold BD;rw[hS q this];rfl
theorem z56 (q:Nat):nC q<=3:=by unfold nC;split <;> (try omega);split <;> (try omega);split <;> (try omega);split <;> (try omega);split <;> omega
def Sml (l:List (Nat × Nat)):Prop:=l.length<=3∨(l.length<=4/\∀t∈l,t.2<=4)
def QG (q:Nat):Nat:=if q=2 then 2 else if q=3 then 1 else 0
theorem ziI:∀ n:Fin 5,∀q:Fin 13,(UB 20 2 n.val).count q.val<=QG q.val:=by decide +kernel
theorem zah {n:Nat}(hn:n<=4)(q:Nat):(UB 20 2 n).count q<=QG q:=by
 by_cases hq:q<=12
 ·exact ziI ⟨n,by omega⟩ ⟨q,by omega⟩
 ·have h:=(DM ⟨n,by omega⟩).2
  rw[List.count_eq_zero.2 (λhm=>by have:=(h q hm).2;omega)]
  omega
theorem zuz {l:List (Nat × Nat)}(h:∀ t∈l,t.1<=4/\t.2<=4)(q:Nat) : - (QG q*l.length:Int)<=BA l q/\BA l q<=QG q*l.length:=by
 induction l with
 | nil=>simp [BA]
 | cons t l ih=>
  have i:=ih λt ht=>h t (by simp [ht])
  have a:=zah (h t (by simp)).1 q
  have b:=zah (h t (by simp)).2 q
  have e:BA (t::l) q=iD t q+BA l q:=by unfold BA;simp
  have n:iD t q=((UB 20 2 t.1).count q:Int)-(UB 20 2 t.2).count q:=rfl
  rw[e,List.length_cons];have:((QG q:Int)*((l.length+1:Nat):Int))=QG q*l.length+QG q:=by rw[Int.natCast_add,Int.mul_add];omega
  omega
theorem z8i {l:List (Nat × Nat)}(hl:∀ t∈l,gC t)(h3:Sml l)(q:Nat) : - (3*nC q:Int)<=BA l q/\BA l q<=3*nC q:=by
 rcases h3 with h3|⟨h3,h4⟩
 ·have a:=zeu (l:=l) (λt ht=>by have:=hl t ht;unfold gC at this;omega) q
  have h5:nC q*l.length<=nC q*3:=Nat.mul_le_mul (Nat.le_refl _) h3
  omega
 ·have a:=zuz (l:=l) (λt ht=>by have:=hl t ht;have:=h4 t ht;unfold gC at *;omega) q
  have h5:QG q*l.length<=QG q*4:=Nat.mul_le_mul (Nat.le_refl _) h3
  have h6:QG q*4<=3*nC q:=by
   unfold QG nC;by_cases e2:q=2
   ·simp [e2]
   ·by_cases e3:q=3
    ·simp [e3]
    ·simp [e2,e3]
  omega
theorem dZ {l:List (Nat × Nat)}(hl:∀ t∈l,gC t)(h3:Sml l)(q:Nat) : -9<=BA l q/\BA l q<=9:=by
 have a:=z8i hl h3 q
 have b:=z56 q
 omega
theorem zel {l:List (Nat × Nat)}(h:Sml l)(k:Nat):Sml (l.take k):=by
 have:(l.take k).length<=l.length:=by rw[List.length_take];omega
 rcases h with h|⟨h,h4⟩
 ·exact .inl (by omega)
 ·exact .inr ⟨by omega,λt ht=>h4 t (List.mem_of_mem_take ht)⟩
theorem nW {s:List Nat}{i:Nat}(hd:s.Nodup)(hni:i∉s):(s++[i]).Nodup:=by
 rw[List.nodup_append];exact⟨hd,by simp,λa ha b hb=>by rw[List.mem_singleton]at hb;subst hb;intro e;subst e;exact hni ha⟩
theorem pT {s:List Nat}{i n:Nat}(hb:∀ j∈s,j<n)(hi:i<n):∀j∈s++[i],j<n:=λx hx=>by
 rcases List.mem_append.1 hx with hx|hx
 ·exact hb x hx
 ·rw[List.mem_singleton]at hx;rw[hx];exact hi
theorem z8d {s:List Nat}{i n:Nat}(hd:s.Nodup)(hb:∀ j∈s,j<n)(hi:i<n)(hni:i∉s):s.length<n:=by
 have h2:=(nW hd hni).length_le_of_subset (l₂:=List.range n) (λx hx=>List.mem_range.2 (pT hb hi x hx))
 simp at h2;omega
theorem JY {D:Int}{p c j:Nat}(hD:1<=D)(hp:2<=p)(hj:j<c)(hB:D*(p:Int)^c<=1000000000000000) :
 1<=D*(p:Int)^j/\D*(p:Int)^j<=1000000000000000/\D*(p:Int)^j*p=D*(p:Int)^(j+1)/\D*(p:Int)^(j+1)<=1000000000000000/\1<=D*(p:Int)^(j+1)/\D*(p:Int)^j<=(1000000000000000:Int).tdiv p:=by
 have e:D*(p:Int)^j*p=D*(p:Int)^(j+1):=by rw[Int.pow_succ,Int.mul_assoc]
 have h1:(p:Int)^(j+1)<=(p:Int)^c:=by exact_mod_cast Nat.pow_le_pow_right (by omega) (by omega)
 have h2:D*(p:Int)^(j+1)<=D*(p:Int)^c:=Int.mul_le_mul_of_nonneg_left h1 (by omega)
 have h3:∀k:Nat,1<=D*(p:Int)^k:=λk=>by
  have:(0:Int)<(p:Int)^k:=Int.pow_pos (by omega)
  have:=Int.mul_pos (by omega:0<D) this
  omega
 have h4:=h3 j
 have h5:D*(p:Int)^j<=D*(p:Int)^j*p:=by
  have:=Int.mul_le_mul_of_nonneg_left (by omega:(1:Int)<=p) (by omega:0<=D*(p:Int)^j)
  rw[Int.mul_one]at this;exact this
 refine⟨h4,by omega,e,by omega,h3 _,?_⟩
 rw[Int.tdiv_eq_ediv_of_nonneg (by omega)]
 exact(Int.le_ediv_iff_mul_le (by omega)).2 (by omega)
theorem zsI (l:List (Nat × Nat))(hl:∀ t∈l,gC t)(h3:Sml l) :
 gA X YJ [AFr l] h K=K (.tup [.p (.agg (if l.any (λt=>t.1==0) then [eI 0,eI 1] else [eI (mJ l),eI (DE l)])),AB true]) h []:=by
 refine sA ?_;rw[zg5 rfl];simp only[RT];refine⟨_,_,_,⟨rfl,rfl,rfl⟩,?_⟩;have ee:dC (h.length+2) (.mp (h.length+1))=[]:=by simp [dC,AV.top]
 simp only[go_sem,ee];refine DA (λk:Nat=>⟨[(2,.ref h.length 0),(4,.ref (h.length+2) 0),(5,.fn SL [.ref (h.length+2) 0]),(15,AFr l),(16,AI l.length),(17,AI k)],h++[.box [AI 0,AI 0],lA AA zA (FB (l.take k)),.box [.mp (h.length+1)]],[]⟩)
  (λk=>k<=l.length/\∀t∈l.take k,t.1≠0) (λk=>l.length-k) 0 (by simp;rfl) ⟨by omega,by simp⟩ ?_
 rintro k ⟨hk,hz⟩
 rcases Nat.lt_or_ge k l.length with hlt|hge
 ·have hg:=sB frP hlt
  have hmem:=List.getElem_mem hlt
  have hfr:=hl _ hmem
  have hsn:=z7K (l.take k) l[k]
  have htk:=List.take_succ_eq_append_getElem hlt
  rw[<-htk]at hsn;have htl:∀t∈l.take k,gC t:=λt ht=>hl t (List.mem_of_mem_take ht)
  have hsm:=λq=>dZ htl (zel h3 k) q
  generalize hc:l[k]=c at *;obtain⟨n,m⟩:=c;have hfr2:=hfr
  unfold gC at hfr2;dsimp only at hfr2;have cx:NA (some 2) 0 (frP (n,m))=some (frP (n,m)):=rfl
  simp only[frP]at hg cx;have hl4:l.length<=4:=by rcases h3 with h3|⟨h3,_⟩ <;> omega
  have w2:IntKind.i64.wrap ((k:Int)+1)=((k+1:Nat):Int):=rA _ (by omega) (by omega)
  by_cases hn0:n=0
  ·subst hn0
   have ha:l.any (λt=>t.1==0)=true:=List.any_eq_true.2 ⟨_,hmem,rfl⟩
   have i0:((0:Nat):Int)=0:=rfl
   simp only[i0]at hg cx;simp only[go_sem,hlt,hg,cx,ha];done
  ·have hn1:¬((n:Int)=0):=by omega
   have e0:∀(a b o o':Obj) (f:Obj),(h++[a,o,b,f]).set (h.length+1) o'=h++[a,o',b,f]:=λa b o o' f=>by rw[List.set_append_right _ _ (by omega)];simp
   have c1:=λK=>zdO (h:=h++[.box [AI 0,AI 0],lA AA zA (FB (l.take k)),.box [.mp (h.length+1)],.box [AI n,AI m]]) (K:=K) n 1 (FB (l.take k)) (h.length+2) (h.length+1) (by omega) (.inl rfl) (λq=>by rw[z7J];have:=hsm q;omega) (by simp) (by simp)
   have c2:=λK=>zdO (h:=h++[.box [AI 0,AI 0],lA AA zA (QE 1 (FB (l.take k)) n),.box [.mp (h.length+1)],.box [AI n,AI m]]) (K:=K) m (-1) (QE 1 (FB (l.take k)) n) (h.length+2) (h.length+1) (by omega) (.inr rfl) (λq=>by
    unfold QE;rw[OR,z7J];have:=hsm q;have h2:=CP (show n<=12 by omega) q;have h3:=z56 q;omega) (by simp) (by simp)
   simp only[e0]at c1 c2;simp only[go_sem,hlt,hg,cx,hn1,c1,c2,w2];refine⟨k+1,by rw[hsn];rfl,⟨by omega,λt ht=>?_⟩,by omega⟩
   rw[htk]at ht;rcases List.mem_append.1 ht with q|q
   ·exact hz t q
   ·rw[List.mem_singleton]at q;subst q;exact hn0
 ·have ek:k=l.length:=by omega
  subst ek;rw[List.take_length]at *;have hany:l.any (λt=>t.1==0)=false:=by
   rw[Bool.eq_false_iff];intro hh;obtain⟨t,ht,e⟩:=List.any_eq_true.1 hh;exact hz t ht (by simpa using e)
  have hks:=zrI l hl
  have hpg:=z7J l
  have hsm:=λq=>z8i hl h3 q
  have hS1:∀q,(λq=>- BA l q) q<=3*nC q:=λq=>by have:=hsm q;dsimp only;omega
  have hS2:∀q,BA l q<=3*nC q:=λq=>(hsm q).2
  have hZ1:∀q:Nat,EB (FB l) q=0->(λq=>- BA l q) q=0:=λq hq=>by rw[hpg]at hq;dsimp only;omega
  have hZ2:∀q:Nat,EB (FB l) q=0->BA l q=0:=λq hq=>by rw[hpg]at hq;exact hq
  have hF1:=λs=>@za4 (λq=>- BA l q) (FB l) hks hZ1 s
  have hF2:=λs=>@za4 (BA l) (FB l) hks hZ2 s
  have hB1:=λs=>@za3 (λq=>- BA l q) (FB l) hS1 hks s
  have hB2:=λs=>@za3 (BA l) (FB l) hS2 hks s
  have hN1:=za5 (λq=>- BA l q) (FB l)
  have hN2:=za5 (BA l) (FB l)
  have hval:∀i (hi:i<(FB l).length),(FB l)[i].2=BA l (kn (FB l) i):=λi hi=>by
   have a:=zoR hks.1 hi
   have b:=(OM hks hi).2.2
   rw[b]at a;have c:=hpg (kn (FB l) i)
   unfold EB at c;rw[a]at c;exact c
  have hkey:∀i (hi:i<(FB l).length),2<=kn (FB l) i/\kn (FB l) i<=12/\(FB l)[i].1=kn (FB l) i:=λi hi=>OM hks hi
  have hsm9:=λq=>dZ hl h3 q
  change (∀s:List Nat,s.Perm (List.range (FB l).length)->IG (λq=>- BA l q) (FB l) s=DE l) at hF1
  change (∀s:List Nat,s.Perm (List.range (FB l).length)->IG (BA l) (FB l) s=mJ l) at hF2
  clear hZ1 hZ2 hS1 hS2 hpg hks;generalize hD1:IG (λq=>- BA l q) (FB l)=D1 at *
  generalize hD2:IG (BA l) (FB l)=D2 at *;generalize hkn:kn (FB l)=kq at *;generalize hks:FB l=ks at *;have mr:=RM (h:=h++[.box [AI 0,AI 0],lA AA zA ks,.box [.mp (h.length+1)],.box [AI 1,AI 1]]) (id:=h.length+1) (key:=AA) (val:=zA) (l:=ks) (by simp)
  have e4:(h++[.box [AI 0,AI 0],lA AA zA ks,.box [.mp (h.length+1)],.box [AI 1,AI 1]]).length=h.length+4:=by simp
  rw[e4]at mr;simp only[go_sem,Nat.lt_irrefl,mr];have D10:D1 []=1:=by rw[<-hD1];rfl
  have D20:D2 []=1:=by rw[<-hD2];rfl
  clear hD1 hD2 hks hkn;refine DA (λt:List Nat×Option (Nat×Int×Nat)=>⟨match t.2 with
   | none=>[(2,.ref h.length 0),(4,.ref (h.length+2) 0),(8,.ref (h.length+3) 0),(36,.it (h.length+4))]
   | some x=>[(2,.ref h.length 0),(4,.ref (h.length+2) 0),(8,.ref (h.length+3) 0),(9,AI x.1),(36,.it (h.length+4)),(43,AI (-x.2.1)),(44,AI x.2.2),(45,AB false)],
   h++[.box [AI 0,AI 0],lA AA zA ks,.box [.mp (h.length+1)],.box [AI 1,AI (D1 t.1)],.iter (some (h.length+1)) ks.length t.1 ks.length],[]⟩)
   (λt=>t.1.Nodup/\∀i∈t.1,i<ks.length) (λt=>ks.length-t.1.length) ([],none) (by dsimp only;rw[D10]) ⟨List.nodup_nil,by simp⟩ ?_
  rintro⟨s,e⟩ ⟨hd,hb⟩
  dsimp only at hd hb ⊢;rcases e with _|⟨x1,x2,x3⟩
  all_goals dsimp only
  all_goals simp only[go_sem]
  all_goals
   have eI:∀(a b c f o o':Obj),(h++[a,b,c,f,o]).set (h.length+4) o'=h++[a,b,c,f,o']:=λa b c f o o'=>by rw[List.set_append_right _ _ (by omega)];simp
   refine JK (key:=AA) (val:=zA) (l:=ks) (m:=h.length+1) (seen:=s) (by simp) (by simp) ?_ ?_
   ·intro hall
    have hp:=bS hd hb hall
    rw[hF1 s hp,eI];have mr:=RM (h:=h++[.box [AI 0,AI 0],lA AA zA ks,.box [.mp (h.length+1)],.box [AI 1,AI (DE l)],.iter none 1 [] 0]) (id:=h.length+1) (key:=AA) (val:=zA) (l:=ks) (by simp)
    have e4:(h++[.box [AI 0,AI 0],lA AA zA ks,.box [.mp (h.length+1)],.box [AI 1,AI (DE l)],.iter none 1 [] 0]).length=h.length+5:=by simp
    rw[e4]at mr;simp only[go_sem,mr];refine DA (λt:List Nat×Option (Nat×Int×Nat)=>⟨match t.2 with
     | none=>[(2,.ref h.length 0),(8,.ref (h.length+3) 0),(59,.it (h.length+5))]
     | some x=>[(2,.ref h.length 0),(8,.ref (h.length+3) 0),(11,AI x.1),(59,.it (h.length+5)),(65,AI x.2.1),(66,AI x.2.2),(67,AB false)],
     h++[.box [AI 0,AI 0],lA AA zA ks,.box [.mp (h.length+1)],.box [AI (D2 t.1),AI (DE l)],.iter none 1 [] 0,.iter (some (h.length+1)) ks.length t.1 ks.length],[]⟩)
     (λt=>t.1.Nodup/\∀i∈t.1,i<ks.length) (λt=>ks.length-t.1.length) ([],none) (by dsimp only;rw[D20]) ⟨List.nodup_nil,by simp⟩ ?_
    clear s hd hb hall hp mr e4 eI;rintro⟨s,e⟩ ⟨hd,hb⟩
    dsimp only at hd hb ⊢;rcases e with _|⟨y1,y2,y3⟩
    all_goals dsimp only
    all_goals simp only[go_sem]
    all_goals
     have eI:∀(a b c f g o o':Obj),(h++[a,b,c,f,g,o]).set (h.length+5) o'=h++[a,b,c,f,g,o']:=λa b c f g o o'=>by rw[List.set_append_right _ _ (by omega)];simp
     refine JK (key:=AA) (val:=zA) (l:=ks) (m:=h.length+1) (seen:=s) (by simp) (by simp) ?_ ?_
     ·intro hall
      have hp:=bS hd hb hall
      rw[hF2 s hp,eI];simp only[go_sem];rw[hany];rfl
     ·intro i hi hni
      rw[eI];have me:=GK (h:=h++[.box [AI 0,AI 0],lA AA zA ks,.box [.mp (h.length+1)],.box [AI (D2 s),AI (DE l)],.iter none 1 [] 0,.iter (some (h.length+1)) ks.length (s++[i]) ks.length]) (j:=h.length+5) (m:=h.length+1) (key:=AA) (val:=zA) (l:=ks) (seen:=s) (i:=i) (by simp) (by simp) hi
      have hk3:=hkey i hi
      rw[hval i hi,hk3.2.2]at me;rw[hval i hi,hk3.2.2];have hsl:=z8d hd hb hi hni
      have hdn:=nW hd hni
      have hbn:=pT hb hi
      have b0:=hB2 s hd hb
      have b1:=hB2 _ hdn hbn
      have bn:=hN2 s i
      unfold BD at bn;have hv:=hsm9 (kq i)
      generalize kq i=p at *;generalize BA l p=v at *;have vne:∀x:Int,zA x=AI x:=λ_=>rfl
      have kne:∀x:Int,AA x=PV.int .i64 x:=λ_=>rfl
      simp only[kne,vne]at me ⊢;simp only[go_sem,me];refine DA (λj:Nat=>⟨[(2,.ref h.length 0),(8,.ref (h.length+3) 0),(11,AI p),(59,.it (h.length+5)),(65,AI v),(66,AI j)],h++[.box [AI 0,AI 0],lA AA zA ks,.box [.mp (h.length+1)],.box [AI (D2 s*(p:Int)^j),AI (DE l)],.iter none 1 [] 0,.iter (some (h.length+1)) ks.length (s++[i]) ks.length],[]⟩)
       (λj=>j<=v.toNat) (λj=>v.toNat-j) 0 (by rw[Int.pow_zero,Int.mul_one];rfl) (by omega) ?_
      intro j hj;by_cases hjc:j<v.toNat
      ·have hps:=JY (D:=D2 s) (p:=p) (c:=v.toNat) (j:=j) b0.1 hk3.1 hjc (by rw[<-bn];exact b1.2)
       obtain⟨g1,g2,g3,g4,g5,g6⟩:=hps;have hjv:((j:Int)<v)=True:=by simp only[eq_iff_iff,iff_true];omega
       have wm:IntKind.i64.wrap (D2 s*(p:Int)^(j+1))=D2 s*(p:Int)^(j+1):=rA _ (by omega) (by omega)
       have wj:IntKind.i64.wrap ((j:Int)+1)=((j+1:Nat):Int):=rA _ (by omega) (by omega)
       simp only[go_sem,hjv,g3,wm,wj];exact⟨j+1,rfl,by omega,by omega⟩
      ·have ej:j=v.toNat:=by omega
       have hjv:((j:Int)<v)=False:=by simp only[eq_iff_iff,iff_false];omega
       simp only[go_sem,hjv];rw[ej,<-bn];exact⟨(s++[i],some (p,v,v.toNat)),rfl,⟨hdn,hbn⟩,by dsimp only;simp;omega⟩
   ·intro i hi hni
    rw[eI];have me:=GK (h:=h++[.box [AI 0,AI 0],lA AA zA ks,.box [.mp (h.length+1)],.box [AI 1,AI (D1 s)],.iter (some (h.length+1)) ks.length (s++[i]) ks.length]) (j:=h.length+4) (m:=h.length+1) (key:=AA) (val:=zA) (l:=ks) (seen:=s) (i:=i) (by simp) (by simp) hi
    have hk3:=hkey i hi
    rw[hval i hi,hk3.2.2]at me;rw[hval i hi,hk3.2.2];have hsl:=z8d hd hb hi hni
    have hdn:=nW hd hni
    have hbn:=pT hb hi
    have b0:=hB1 s hd hb
    have b1:=hB1 _ hdn hbn
    have bn:=hN1 s i
    unfold BD at bn;dsimp only at bn;have hv:=hsm9 (kq i)
    generalize kq i=p at *;generalize BA l p=v at *;have wn:IntKind.i64.wrap (-v) = -v:=rA _ (by omega) (by omega)
    have vne:∀x:Int,zA x=AI x:=λ_=>rfl
    have kne:∀x:Int,AA x=PV.int .i64 x:=λ_=>rfl
    simp only[kne,vne]at me ⊢;simp only[go_sem,me,wn];refine DA (λj:Nat=>⟨[(2,.ref h.length 0),(4,.ref (h.length+2) 0),(8,.ref (h.length+3) 0),(9,AI p),(36,.it (h.length+4)),(43,AI (-v)),(44,AI j)],h++[.box [AI 0,AI 0],lA AA zA ks,.box [.mp (h.length+1)],.box [AI 1,AI (D1 s*(p:Int)^j)],.iter (some (h.length+1)) ks.length (s++[i]) ks.length],[]⟩)
     (λj=>j<=(-v).toNat) (λj=>(-v).toNat-j) 0 (by rw[Int.pow_zero,Int.mul_one];rfl) (by omega) ?_
    intro j hj;have p0:((p:Int)=0)=False:=by simp only[eq_iff_iff,iff_false];omega
    have wd:IntKind.i64.wrap ((1000000000000000:Int).tdiv p)=(1000000000000000:Int).tdiv p:=by
     have:=Int.tdiv_eq_ediv_of_nonneg (a:=1000000000000000) (b:=(p:Int)) (by omega)
     have h1:=Int.ediv_nonneg (show(0:Int)<=1000000000000000 by omega) (show(0:Int)<=p by omega)
     have h2:=Int.ediv_le_self (p:Int) (show(0:Int)<=1000000000000000 by omega)
     exact rA _ (by omega) (by omega)
    by_cases hjc:j<(-v).toNat
    ·have hps:=JY (D:=D1 s) (p:=p) (c:=(-v).toNat) (j:=j) b0.1 hk3.1 hjc (by rw[<-bn];exact b1.2)
     obtain⟨g1,g2,g3,g4,g5,g6⟩:=hps;have hjv:((j:Int) < -v)=True:=by simp only[eq_iff_iff,iff_true];omega
     have hno:((1000000000000000:Int).tdiv p<D1 s*(p:Int)^j)=False:=by simp only[eq_iff_iff,iff_false];omega
     have wm:IntKind.i64.wrap (D1 s*(p:Int)^(j+1))=D1 s*(p:Int)^(j+1):=rA _ (by omega) (by omega)
     have wj:IntKind.i64.wrap ((j:Int)+1)=((j+1:Nat):Int):=rA _ (by omega) (by omega)
     simp only[go_sem,hjv,p0,wd,hno,g3,wm,wj];exact⟨j+1,rfl,by omega,by omega⟩
    ·have ej:j=(-v).toNat:=by omega
     have hjv:((j:Int) < -v)=False:=by simp only[eq_iff_iff,iff_false];omega
     simp only[go_sem,hjv];rw[ej,<-bn];exact⟨(s++[i],some (p,v,(-v).toNat)),rfl,⟨hdn,hbn⟩,by dsimp only;simp;omega⟩
end
section
variable {h:aA} {K:jA}
attribute [-go_sem] UA ZA ZB WB
def WE (w:Bool)(t:Nat × Nat)(q:Nat)(i:Nat):Int:=if i=(bif w then 1 else 0) then(UB 20 2 t.1).count q else-((UB 20 2 t.2).count q:Int)
def EF (w:Bool)(t:Nat × Nat)(q:Nat)(s:List Nat):Int:=(s.map (WE w t q)).sum
theorem ziF (w:Bool)(t:Nat × Nat)(q:Nat)(s:List Nat)(i:Nat):EF w t q (s++[i])=EF w t q s+WE w t q i:=by unfold EF;simp
theorem ziE {w:Bool}{t:Nat × Nat}{q:Nat}{s:List Nat}(hp:s.Perm (List.range 2)):EF w t q s=iD t q:=by
 have h1:(s.map (WE w t q)).Perm ((List.range 2).map (WE w t q)):=hp.map _
 have h2:∀{a b:List Int},a.Perm b->a.sum=b.sum:=λh=>by
  induction h with
  | nil=>rfl
  | cons x _ ih=>simp [ih]
  | swap x y l=>simp;omega
  | trans _ _ h1 h2=>exact h1.trans h2
 unfold EF;rw[h2 h1];show [WE w t q 0,WE w t q 1].sum=_
 cases w <;> simp [WE,iD] <;> omega
theorem ziD {w:Bool}{n m q:Nat}(hn:n<=12)(hm:m<=12):∀{s:List Nat},s.length<=1 -> -3<=EF w (n,m) q s/\EF w (n,m) q s<=3
 | [],_=>by simp [EF]
 | [j],_=>by
  have a:=CP hn q
  have b:=CP hm q
  have c:=z56 q
  have e:EF w (n,m) q [j]=WE w (n,m) q j:=by simp [EF]
  rw[e];unfold WE;dsimp only;split <;> omega
 | _::_::_,h=>by simp at h
def bE (S:Nat->Int)(j:Nat):Int:=bC ((List.range' 2 j).map (BD S))
theorem zcZ (S:Nat->Int)(j:Nat):bE S (j+1)=bE S j*BD S (j+2):=by
 unfold bE;rw[List.range'_concat,List.map_append,KY];congr 1
 rw[show 2+1*j=j+2 by omega]
 exact Int.one_mul _
theorem z7L {S:Nat->Int}(hz:∀ q,12<q->S q=0){j:Nat}(hj:11<=j):bE S j=bE S 11:=by
 unfold bE;refine zda List.nodup_range' List.nodup_range' (λq hq=>?_) λq hq hn=>?_
 ·rw[List.mem_range'_1]at hq ⊢;omega
 ·rw[List.mem_range'_1]at hq hn
  unfold BD;rw[hz q (by omega)];rfl
theorem zcY {S:Nat->Int}(hS:∀ q,S q<=3*nC q)(hz:∀ q,12<q->S q=0)(j:Nat):1<=bE S j/\bE S j<=1000000000000000:=by
 have key:∀j,j<=11->1<=bE S j/\bE S j<=1000000000000000:=λj hj=>
  ⟨yO λq hq=>z1o (by rw[List.mem_range'_1]at hq;omega),zdd hS List.nodup_range' λq hq=>by rw[List.mem_range'_1]at hq;omega⟩
 rcases Nat.lt_or_ge j 11 with h|h
 ·exact key j (by omega)
 ·rw[z7L hz h];exact key 11 (by omega)
theorem zev {l:List (Nat × Nat)}(hl:∀ t∈l,gC t){q:Nat}(hq:12<q):BA l q=0:=by
 have:=zeu (l:=l) (λt ht=>by have:=hl t ht;unfold gC at this;omega) q
 have e:nC q=0:=by unfold nC;rw[if_neg (by omega),if_neg (by omega),if_neg (by omega),if_neg (by omega),if_neg (by omega)]
 rw[e]at this;simp at this;omega
variable {N:Nat}
attribute [-go_sem] z4B NI
theorem zde (l:List (Nat × Nat))(k n m:Nat)(ks:List (Int × Int))(L:List (Int × Int))(w:Bool)(hn1:1<=n/\n<=12)(hm1:1<=m/\m<=12)(hnm:n≠m)
 (hL:∀i (hi:i<L.length),∃(x:Nat) (b:Int),L[i].1=(x:Int)/\L[i].2=b/\1<=x/\x<=12/\(b=1∨b = -1)/\∀q,WE w (n,m) q i=b*((UB 20 2 x).count q:Nat)) (hl2:L.length=2)
 (hsm:∀q,-100<=BA (l.take k) q/\BA (l.take k) q<=100) (hks:tD 12 ks) (hpg:∀q:Nat,EB ks q=BA (l.take k) q) (K:Ex->St->Prop)
 (hKa:∀ms:List (Int×Int),tD 12 ms->(∀q:Nat,EB ms q=BA (l.take k) q+iD (n,m) q)->K .normal ⟨[(1,AI N),(4,.ref h.length 0),(6,.mp (h.length+1)),(8,.ref (h.length+2) 0),(17,AFr l),(18,AI l.length),(19,AI k),(33,.it (h.length+4)),(35,AB false)],h++[.box [AI 0,AI 0],lA AA zA ms,.box [AI n,AI m],lA AA zA L,.iter none 1 [] 0],[]⟩) :
 NI (gA X) X.gl NK (AI N) (.ref h.length 0) (.mp (h.length+1)) (.ref (h.length+2) 0) (AFr l) (AI l.length) (AI k) (.it (h.length+4)) (h++[.box [AI 0,AI 0],lA AA zA ks,.box [AI n,AI m],lA AA zA L,.iter (some (h.length+3)) L.length [] L.length]) [] K:=by
 have hnm2:¬((n:Int)=m):=by omega
 simp only[NI,go_sem];refine DA (λt:List Nat×List (Int×Int)×Option (Nat×Int×Nat)=>⟨match t.2.2 with
  | none=>[(1,AI N),(4,.ref h.length 0),(6,.mp (h.length+1)),(8,.ref (h.length+2) 0),(17,AFr l),(18,AI l.length),(19,AI k),(33,.it (h.length+4))]
  | some y=>[(1,AI N),(4,.ref h.length 0),(6,.mp (h.length+1)),(8,.ref (h.length+2) 0),(9,AI y.1),(10,AI y.2.1),(11,AI y.2.2),(17,AFr l),(18,AI l.length),(19,AI k),(33,.it (h.length+4)),(45,AB false)],
  h++[.box [AI 0,AI 0],lA AA zA t.2.1,.box [AI n,AI m],lA AA zA L,.iter (some (h.length+3)) L.length t.1 L.length],[]⟩)
  (λt=>t.1.Nodup/\(∀i∈t.1,i<L.length)/\tD 12 t.2.1/\∀q:Nat,EB t.2.1 q=BA (l.take k) q+EF w (n,m) q t.1) (λt=>L.length-t.1.length) ([],ks,none) rfl ⟨List.nodup_nil,by simp,hks,λq=>by dsimp only;rw[hpg q];simp [EF]⟩ ?_
 rintro⟨s,ms,e⟩ ⟨hd,hb,hms,hpm⟩
 dsimp only at hd hb hms hpm ⊢;rcases e with _|⟨y1,y2,y3⟩
 all_goals dsimp only
 all_goals simp only[go_sem]
 all_goals
  have eI:∀(a b c f o o':Obj),(h++[a,b,c,f,o]).set (h.length+4) o'=h++[a,b,c,f,o']:=λa b c f o o'=>by rw[List.set_append_right _ _ (by omega)];simp
  refine JK (key:=AA) (val:=zA) (l:=L) (m:=h.length+3) (seen:=s) (by simp) (by simp) ?_ ?_
  ·intro hall
   have hp:=bS hd hb hall
   rw[hl2]at hp;rw[eI];simp only[go_sem];exact hKa ms hms λq=>by rw[hpm q,ziE hp]
  ·intro i hi hni
   rw[eI];have me:=GK (h:=h++[.box [AI 0,AI 0],lA AA zA ms,.box [AI n,AI m],lA AA zA L,.iter (some (h.length+3)) L.length (s++[i]) L.length]) (j:=h.length+4) (m:=h.length+3) (key:=AA) (val:=zA) (l:=L) (seen:=s) (i:=i) (by simp) (by simp) hi
   obtain⟨x,b,ex,eb,hx1,hx2,hbb,hcc⟩:=hL i hi;rw[ex,eb]at me;rw[ex,eb];have hsl:=z8d hd hb hi hni
   have hdn:=nW hd hni
   have hbn:=pT hb hi
   have vne:∀x:Int,zA x=AI x:=λ_=>rfl
   have kne:∀x:Int,AA x=PV.int .i64 x:=λ_=>rfl
   simp only[kne,vne]at me ⊢;simp only[go_sem,me,hnm2];have hbd:=λq=>ziD (w:=w) (n:=n) (m:=m) (q:=q) (by omega) (by omega) (show s.length<=1 by omega)
   have hd0:=(DM ⟨x,by omega⟩).1
   have hRk:tD 12 (QE b ms x):=z5u hx2 hms
   have hRp:∀q:Nat,EB (QE b ms x) q=BA (l.take k) q+EF w (n,m) q (s++[i]):=λq=>by
    rw[ziF,hcc];unfold QE;rw[OR,hpm q];omega
   have hR:(UB 20 2 x).foldl (SE b) ms=QE b ms x:=rfl
   generalize QE b ms x=R at hR hRk hRp;have hmi:∀o,(h++[.box [AI 0,AI 0],o,.box [AI n,AI m],lA AA zA L,.iter (some (h.length+3)) L.length (s++[i]) L.length])[h.length+1]?=some o:=λo=>by simp
   have e1:∀(a o c f g o':Obj),(h++[a,o,c,f,g]).set (h.length+1) o'=h++[a,o',c,f,g]:=λa o c f g o'=>by rw[List.set_append_right _ _ (by omega)];simp
   refine DA (λt:Nat×Nat×Nat×List (Int×Int)=>⟨[(1,AI N),(4,.ref h.length 0),(6,.mp (h.length+1)),(8,.ref (h.length+2) 0),(9,AI t.2.2.1),(10,AI b),(11,AI t.2.1),(17,AFr l),(18,AI l.length),(19,AI k),(33,.it (h.length+4))],h++[.box [AI 0,AI 0],lA AA zA t.2.2.2,.box [AI n,AI m],lA AA zA L,.iter (some (h.length+3)) L.length (s++[i]) L.length],[]⟩)
    (λt=>2<=t.2.1/\t.2.1+t.1<=40/\t.2.2.1<=12/\LD t.1 t.2.1 t.2.2.1=true/\(UB t.1 t.2.1 t.2.2.1).foldl (SE b) t.2.2.2=R/\∀q:Nat,-140+(t.1:Int)<=EB t.2.2.2 q/\EB t.2.2.2 q<=140-(t.1:Int))
    (λt=>if t.2.2.1<=1 then 0 else t.1+1) (20,2,x,ms) rfl ⟨by dsimp only;omega,by dsimp only;omega,hx2,hd0,hR,λq=>by have h1:=hsm q;have h2:=hbd q;have h4:=hpm q;dsimp only;omega⟩ ?_
   rintro⟨k0,p,z,m0⟩ ⟨i1,i2,i3,i4,i5,i6⟩
   dsimp only at i1 i2 i3 i4 i5 i6 ⊢;by_cases hn1:z<=1
   ·have hf:=(YI (k:=k0) (p:=p) hn1).1
    rw[hf]at i5;have i5:m0=R:=i5
    have hg:¬(1:Int)<z:=by omega
    simp only[go_sem,hg];rw[i5];exact⟨(s++[i],R,some (z,b,p)),rfl,⟨hdn,hbn,hRk,hRp⟩,by dsimp only;simp;omega⟩
   ·have hg:(1:Int)<z:=by omega
    simp only[go_sem,hg];refine DA (λt:Nat×Nat×List (Int×Int)=>⟨[(1,AI N),(4,.ref h.length 0),(6,.mp (h.length+1)),(8,.ref (h.length+2) 0),(9,AI t.2.1),(10,AI b),(11,AI p),(17,AFr l),(18,AI l.length),(19,AI k),(33,.it (h.length+4))],h++[.box [AI 0,AI 0],lA AA zA t.2.2,.box [AI n,AI m],lA AA zA L,.iter (some (h.length+3)) L.length (s++[i]) L.length],[]⟩)
     (λt=>t.1<=k0/\(t.1=k0->t.2.1=z)/\1<=t.2.1/\t.2.1<=12/\LD t.1 p t.2.1=true/\(UB t.1 p t.2.1).foldl (SE b) t.2.2=R/\∀q:Nat,-140+(t.1:Int)<=EB t.2.2 q/\EB t.2.2 q<=140-(t.1:Int))
     (λt=>t.1) (k0,z,m0) rfl ⟨Nat.le_refl _,λ_=>rfl,by dsimp only;omega,i3,i4,i5,i6⟩ ?_
    rintro⟨k1,n1,m1⟩ ⟨j1,j2,j3,j4,j5,j6,j7⟩
    dsimp only at j1 j2 j3 j4 j5 j6 j7 ⊢;have p0:((p:Int)=0)=False:=by simp only[eq_iff_iff,iff_false];omega
    have lk:=λ(hp:aA) (hh:hp[h.length+1]?=some (lA AA zA m1))=>cW (b:=(p:Int)) hh
    have up:=λ(hp:aA) (v:Int) (hh:hp[h.length+1]?=some (lA AA zA m1))=>lP (b:=(p:Int)) (v:=v) hh
    have tm:=zez n1 p
    have td:=zey n1 p
    have wm:IntKind.i64.wrap ((n1%p:Nat):Int)=((n1%p:Nat):Int):=oZ _ (Nat.lt_of_le_of_lt (Nat.mod_le n1 p) (by omega))
    have wd:IntKind.i64.wrap ((n1 / p:Nat):Int)=((n1 / p:Nat):Int):=oZ _ (Nat.lt_of_le_of_lt (Nat.div_le_self n1 p) (by omega))
    by_cases hz0:n1%p=0
    ·have hn2:1<n1:=by
      rcases Nat.lt_or_ge 1 n1 with q|q
      ·exact q
      ·exact absurd hz0 (zcB i1 q j3)
     obtain⟨k2,e2,d2,f2⟩:=zbc hn2 hz0 j5;rw[f2]at j6;have hpw:=j7 p
     have wp:IntKind.i64.wrap ((iB (p:Int) m1).getD 0+b)=EB m1 p+b:=rA (EB m1 p+b) (by omega) (by omega)
     have ez:((n1%p:Nat):Int)=0:=by omega
     simp only[go_sem,p0,tm,td,wm,wd,ez,hmi,e1,lk,up,wp];refine⟨(k2,n1 / p,SE b m1 p),rfl,⟨by dsimp only;omega,λe=>by dsimp only at e;omega,?_,?_,d2,j6,λq=>?_⟩,by dsimp only;omega⟩
     ·exact Nat.div_pos (Nat.le_of_dvd (by omega) (Nat.dvd_of_mod_eq_zero hz0)) (by omega)
     ·have:=Nat.div_le_self n1 p;dsimp only;omega
     ·have:=j7 q
      rw[z7I];dsimp only;split <;> omega
    ·have hz2:¬(((n1%p:Nat):Int)=0):=by omega
     have wq:IntKind.i64.wrap ((p:Int)+1)=((p+1:Nat):Int):=rA _ (by omega) (by omega)
     simp only[go_sem,p0,tm,wm,hz2,wq];by_cases hn2:n1<=1
     ·refine⟨(k1,p+1,n1,m1),rfl,⟨by dsimp only;omega,?_,j4,(YI hn2).2,?_,j7⟩,?_⟩
      ·have:k1≠k0:=λe=>by have:=j2 e;omega
       dsimp only;omega
      ·rw[(YI hn2).1]at j6
       dsimp only;rw[(YI hn2).1];exact j6
      ·dsimp only;rw[if_pos hn2,if_neg hn1];omega
     ·obtain⟨k2,e2,d2,f2⟩:=zbb (by omega) hz0 j5
      rw[f2]at j6;refine⟨(k2,p+1,n1,m1),rfl,⟨by dsimp only;omega,by dsimp only;omega,j4,d2,j6,λq=>?_⟩,?_⟩
      ·have:=j7 q;dsimp only;omega
      ·dsimp only;rw[if_neg hn2,if_neg hn1];omega
theorem zdf (l:List (Nat × Nat))(k n:Nat)(ks:List (Int × Int))(v:Int)(K:Ex->St->Prop)
 (hKb:K .normal ⟨[(1,AI N),(4,.ref h.length 0),(6,.mp (h.length+1)),(8,.ref (h.length+2) 0),(9,AI n),(10,AI v),(17,AFr l),(18,AI l.length),(19,AI k),(33,.it (h.length+4)),(43,AB true)],h++[.box [AI 0,AI 0],lA AA zA ks,.box [AI n,AI n],lA AA zA [((n:Int),v)],.iter (some (h.length+3)) 1 [0] 1],[]⟩) :
 NI (gA X) X.gl NK (AI N) (.ref h.length 0) (.mp (h.length+1)) (.ref (h.length+2) 0) (AFr l) (AI l.length) (AI k) (.it (h.length+4)) (h++[.box [AI 0,AI 0],lA AA zA ks,.box [AI n,AI n],lA AA zA [((n:Int),v)],.iter (some (h.length+3)) 1 [] 1]) [] K:=by
 simp only[NI,go_sem];refine DA (λ_:Unit=>⟨[(1,AI N),(4,.ref h.length 0),(6,.mp (h.length+1)),(8,.ref (h.length+2) 0),(17,AFr l),(18,AI l.length),(19,AI k),(33,.it (h.length+4))],h++[.box [AI 0,AI 0],lA AA zA ks,.box [AI n,AI n],lA AA zA [((n:Int),v)],.iter (some (h.length+3)) 1 [] 1],[]⟩)
  (λ_=>True) (λ_=>1) () rfl trivial ?_
 intro _ _;simp only[go_sem];refine JK (key:=AA) (val:=zA) (l:=[((n:Int),v)]) (m:=h.length+3) (seen:=[]) (by simp) (by simp) (λhall=>absurd (hall 0 (by simp)) (by simp)) ?_
 intro i hi _;have ei:i=0:=by simp at hi;omega
 subst ei;have eI:∀(a b c f o o':Obj),(h++[a,b,c,f,o]).set (h.length+4) o'=h++[a,b,c,f,o']:=λa b c f o o'=>by rw[List.set_append_right _ _ (by omega)];simp
 rw[eI];have me:=GK (h:=h++[.box [AI 0,AI 0],lA AA zA ks,.box [AI n,AI n],lA AA zA [((n:Int),v)],.iter (some (h.length+3)) 1 ([]++[0]) 1]) (j:=h.length+4) (m:=h.length+3) (key:=AA) (val:=zA) (l:=[((n:Int),v)]) (seen:=[]) (i:=0) (by simp) (by simp) (by simp)
 rw[List.nil_append]at me;have vne:∀x:Int,zA x=AI x:=λ_=>rfl
 have kne:∀x:Int,AA x=PV.int .i64 x:=λ_=>rfl
 simp only[kne,vne,List.getElem_cons_zero]at me;simp only[kne,vne,List.getElem_cons_zero];simp only[go_sem,me];exact hKb
theorem ztj (N:Nat)(hN:20<=N/\N<=100000)(l:List (Nat × Nat))(hl:∀ t∈l,gC t)(h3:Sml l) :
 gA X jK [AFr l,AI N] h K=K (.tup [.p (.agg (if l.any (λt=>t.1==0) then [eI 0,eI 1] else [eI (mJ l),eI (DE l)])),AI 0]) h []:=by
 refine sA ?_;rw[zh1 rfl];simp only[LU];refine⟨_,_,_,⟨rfl,rfl,rfl⟩,?_⟩;simp only[go_sem];refine DA (λt:Nat×List (Int×Int)=>⟨[(1,AI N),(4,.ref h.length 0),(6,.mp (h.length+1)),(17,AFr l),(18,AI l.length),(19,AI t.1)],h++[.box [AI 0,AI 0],lA AA zA t.2],[]⟩)
  (λt=>t.1<=l.length/\(∀x∈l.take t.1,x.1≠0)/\tD 12 t.2/\∀q:Nat,EB t.2 q=BA (l.take t.1) q) (λt=>l.length-t.1) (0,[]) (by simp;rfl) ⟨by dsimp only;omega,by simp,⟨List.nodup_nil,by simp [KC]⟩,λq=>rfl⟩ ?_
 rintro⟨k,ks⟩ ⟨hk,hz,hks,hpg⟩
 dsimp only at hk hz hks hpg ⊢;rcases Nat.lt_or_ge k l.length with hlt|hge
 ·have hg:=sB frP hlt
  have hmem:=List.getElem_mem hlt
  have hfr:=hl _ hmem
  have htk:=List.take_succ_eq_append_getElem hlt
  have htl:∀t∈l.take k,gC t:=λt ht=>hl t (List.mem_of_mem_take ht)
  have hsm:=λq=>dZ htl (zel h3 k) q
  generalize hc:l[k]=c at *;obtain⟨n,m⟩:=c;have hfr2:=hfr
  unfold gC at hfr2;dsimp only at hfr2;have cx:NA (some 2) 0 (frP (n,m))=some (frP (n,m)):=rfl
  simp only[frP]at hg cx;have hl4:l.length<=4:=by rcases h3 with h3|⟨h3,_⟩ <;> omega
  have w2:IntKind.i64.wrap ((k:Int)+1)=((k+1:Nat):Int):=rA _ (by omega) (by omega)
  by_cases hn0:n=0
  ·subst hn0
   have ha:l.any (λt=>t.1==0)=true:=List.any_eq_true.2 ⟨_,hmem,rfl⟩
   have i0:((0:Nat):Int)=0:=rfl
   simp only[i0]at hg cx;simp only[go_sem,hlt,hg,cx,ha];done
  ·have hn1:¬((n:Int)=0):=by omega
   have u1:=λ(hp:aA) (hh:hp[h.length+3]?=some (lA AA zA []))=>lP (b:=(n:Int)) (v:=1) hh
   have u2:=λ(hp:aA) (hh:hp[h.length+3]?=some (lA AA zA [((n:Int),(1:Int))]))=>lP (b:=(m:Int)) (v:=-1) hh
   have u3:=λ(hp:aA) (hh:hp[h.length+3]?=some (lA AA zA []))=>lP (b:=(m:Int)) (v:=-1) hh
   have u4:=λ(hp:aA) (hh:hp[h.length+3]?=some (lA AA zA [((m:Int),(-1:Int))]))=>lP (b:=(n:Int)) (v:=1) hh
   have hmo:Obj.amap [] 0=lA AA zA []:=rfl
   have hm1:IB (n:Int) (1:Int) []=[((n:Int),(1:Int))]:=rfl
   have hm3:IB (m:Int) (-1:Int) []=[((m:Int),(-1:Int))]:=rfl
   rw[hm1]at u1;rw[hm3]at u3;have e3:∀(a b c o o':Obj),(h++[a,b,c,o]).set (h.length+3) o'=h++[a,b,c,o']:=λa b c o o'=>by rw[List.set_append_right _ _ (by omega)];simp
   have mr:=λ(L:List (Int×Int))=>RM (h:=h++[.box [AI 0,AI 0],lA AA zA ks,.box [AI n,AI m],lA AA zA L]) (id:=h.length+3) (key:=AA) (val:=zA) (l:=L) (by simp)
   have e4:∀L,(h++[.box [AI 0,AI 0],lA AA zA ks,.box [AI n,AI m],lA AA zA L]).length=h.length+4:=λL=>by simp
   simp only[e4]at mr;have e5:=@z4B
   simp only[go_sem,hmo,hlt,hg,cx,hn1,u1,u2,u3,u4,e3,mr];clear mr e4 u1 u2 u3 u4 hmo hm1 hm3;have out:∀(ms:List (Int×Int)) (J:List (Nat×AV)) (o3 o4 o5:Obj),tD 12 ms->(∀q:Nat,EB ms q=BA (l.take k) q+iD (n,m) q) ->
    ∃t:Nat×List (Int×Int),(⟨[(1,AI N),(4,.ref h.length 0),(6,.mp (h.length+1)),(17,AFr l),(18,AI l.length),(19,AI ((k+1:Nat):Int))],h++[.box [AI 0,AI 0],lA AA zA ms],[]⟩:St)=⟨[(1,AI N),(4,.ref h.length 0),(6,.mp (h.length+1)),(17,AFr l),(18,AI l.length),(19,AI t.1)],h++[.box [AI 0,AI 0],lA AA zA t.2],[]⟩ /\
     (t.1<=l.length/\(∀x∈l.take t.1,¬x.1=0)/\tD 12 t.2/\∀q:Nat,EB t.2 q=BA (l.take t.1) q)/\l.length-t.1<l.length-k:=λms J o3 o4 o5 h1 h2=>by
    refine⟨(k+1,ms),rfl,⟨by dsimp only;omega,λt ht=>?_,h1,λq=>?_⟩,by dsimp only;omega⟩
    ·dsimp only at ht
     rw[htk]at ht;rcases List.mem_append.1 ht with q|q
     ·exact hz t q
     ·rw[List.mem_singleton]at q;subst q;exact hn0
    ·dsimp only
     rw[htk,zew,h2 q]
   rw[e5,e5];simp only[bA,Nat.reduceEqDiff,if_true,if_false];by_cases hnm:n=m
   ·subst hnm
    have eA:IB (n:Int) (-1:Int) [((n:Int),(1:Int))]=[((n:Int),(-1:Int))]:=by simp [IB]
    have eB:IB (n:Int) (1:Int) [((n:Int),(-1:Int))]=[((n:Int),(1:Int))]:=by simp [IB]
    rw[eA,eB];have hk:∀q:Nat,EB ks q=BA (l.take k) q+iD (n,n) q:=λq=>by rw[zrp,hpg q];omega
    refine⟨zdf l k n ks (-1) _ ?_,zdf l k n ks 1 _ ?_⟩;all_goals
     simp only[go_sem,w2];exact out ks [] default default default hks hk
   ·have eA:IB (m:Int) (-1:Int) [((n:Int),(1:Int))]=[((n:Int),(1:Int)),((m:Int),(-1:Int))]:=by simp [IB];omega
    have eB:IB (n:Int) (1:Int) [((m:Int),(-1:Int))]=[((m:Int),(-1:Int)),((n:Int),(1:Int))]:=by simp [IB];omega
    rw[eA,eB];have hs100:∀q,-100<=BA (l.take k) q/\BA (l.take k) q<=100:=λq=>by have:=hsm q;omega
    refine⟨zde l k n m ks _ false (by omega) (by omega) hnm (λi hi=>?_) rfl hs100 hks hpg _ λms h1 h2=>?_,zde l k n m ks _ true (by omega) (by omega) hnm (λi hi=>?_) rfl hs100 hks hpg _ λms h1 h2=>?_⟩
    ·rcases(by simp at hi;omega:i=0∨i=1) with e|e
     ·subst e;exact⟨n,1,rfl,rfl,by omega,by omega,.inl rfl,λq=>by simp [WE]⟩
     ·subst e;exact⟨m,-1,rfl,rfl,by omega,by omega,.inr rfl,λq=>by simp [WE]⟩
    ·simp only[go_sem,w2]
     exact out ms [] default default default h1 h2
    ·rcases(by simp at hi;omega:i=0∨i=1) with e|e
     ·subst e;exact⟨m,-1,rfl,rfl,by omega,by omega,.inr rfl,λq=>by simp [WE]⟩
     ·subst e;exact⟨n,1,rfl,rfl,by omega,by omega,.inl rfl,λq=>by simp [WE]⟩
    ·simp only[go_sem,w2]
     exact out ms [] default default default h1 h2
 ·have ek:k=l.length:=by omega
  subst ek;rw[List.take_length]at hz hpg;have hany:l.any (λt=>t.1==0)=false:=by
   rw[Bool.eq_false_iff];intro hh;obtain⟨t,ht,e⟩:=List.any_eq_true.1 hh;exact hz t ht (by simpa using e)
  have hsm:=λq=>z8i hl h3 q
  have hS1:∀q,(λq=>- BA l q) q<=3*nC q:=λq=>by have:=hsm q;dsimp only;omega
  have hS2:∀q,BA l q<=3*nC q:=λq=>(hsm q).2
  have hZ1:∀q:Nat,12<q->(λq=>- BA l q) q=0:=λq hq=>by have:=zev hl hq;dsimp only;omega
  have hZ2:∀q:Nat,12<q->BA l q=0:=λq hq=>zev hl hq
  have hB1:=zcY hS1 hZ1
  have hB2:=zcY hS2 hZ2
  have hN1:=zcZ λq=>- BA l q
  have hN2:=zcZ (BA l)
  have hF1:bE (λq=>- BA l q) (N-1)=DE l:=z7L hZ1 (by omega)
  have hF2:bE (BA l) (N-1)=mJ l:=z7L hZ2 (by omega)
  have h01:bE (λq=>- BA l q) 0=1:=rfl
  have h02:bE (BA l) 0=1:=rfl
  have hsm9:=λq=>dZ hl h3 q
  generalize bE (λq=>- BA l q)=D1 at *
  generalize bE (BA l)=D2 at *;have hpg2:∀q:Nat,(iB (q:Int) ks).getD 0=BA l q:=hpg
  simp only[go_sem,Nat.lt_irrefl];refine DA (λp:Nat=>⟨[(1,AI N),(4,.ref h.length 0),(6,.mp (h.length+1)),(12,.ref (h.length+2) 0),(13,AI p)],h++[.box [AI 0,AI 0],lA AA zA ks,.box [AI 1,AI (D1 (p-2))]],[]⟩)
   (λp=>2<=p/\p<=(N+1)) (λp=>(N+1)-p) 2 (by simp [h01]) ⟨by omega,by omega⟩ ?_
  rintro p ⟨hp1,hp2⟩
  rcases Nat.lt_or_ge p (N+1) with hlt|hge2
  ·have c1:((p:Int)<=N)=True:=by simp only[eq_iff_iff,iff_true];omega
   have lk:=λ(hp:aA) (hh:hp[h.length+1]?=some (lA AA zA ks))=>cW (b:=(p:Int)) hh
   rw[hpg2 p]at lk;have b0:=hB1 (p-2)
   have b1:=hB1 (p-2+1)
   have bn:=hN1 (p-2)
   rw[show p-2+2=p by omega]at bn
   unfold BD at bn;dsimp only at bn;have hv:=hsm9 p
   generalize BA l p=v at *;simp only[go_sem,c1,lk];refine DA (λj:Nat=>⟨[(1,AI N),(4,.ref h.length 0),(6,.mp (h.length+1)),(12,.ref (h.length+2) 0),(13,AI p),(14,AI (v+j))],h++[.box [AI 0,AI 0],lA AA zA ks,.box [AI 1,AI (D1 (p-2)*(p:Int)^j)]],[]⟩)
    (λj=>j<=(-v).toNat) (λj=>(-v).toNat-j) 0 (by rw[Int.pow_zero,Int.mul_one];simp) (by omega) ?_
   intro j hj;by_cases hjc:j<(-v).toNat
   ·obtain⟨g1,g2,g3,g4,g5,g6⟩:=JY (D:=D1 (p-2)) (p:=p) (c:=(-v).toNat) (j:=j) b0.1 hp1 hjc (by rw[<-bn];exact b1.2)
    have hjv:(v+(j:Int)<0)=True:=by simp only[eq_iff_iff,iff_true];omega
    have hno:((1000000000000000:Int)<D1 (p-2)*(p:Int)^(j+1))=False:=by simp only[eq_iff_iff,iff_false];omega
    have wm:IntKind.i64.wrap (D1 (p-2)*(p:Int)^(j+1))=D1 (p-2)*(p:Int)^(j+1):=rA _ (by omega) (by omega)
    have wj:IntKind.i64.wrap (v+(j:Int)+1)=v+((j+1:Nat):Int):=by rw[rA _ (by omega) (by omega)];omega
    simp only[go_sem,hjv,g3,wm,hno,wj];exact⟨j+1,rfl,by omega,by omega⟩
   ·have ej:j=(-v).toNat:=by omega
    have hjv:(v+(j:Int)<0)=False:=by simp only[eq_iff_iff,iff_false];omega
    have wp:IntKind.i64.wrap ((p:Int)+1)=((p+1:Nat):Int):=rA _ (by omega) (by omega)
    simp only[go_sem,hjv,wp];rw[ej,<-bn];exact⟨p+1,by rw[show p+1-2=p-2+1 by omega],⟨by omega,by omega⟩,by omega⟩
  ·have ep:p=(N+1):=by omega
   subst ep;have c1:(((N+1:Nat):Int)<=N)=False:=by simp only[eq_iff_iff,iff_false];omega
   rw[show N+1-2=N-1 by omega,hF1]
   simp only[go_sem,c1];refine DA (λp:Nat=>⟨[(1,AI N),(4,.ref h.length 0),(6,.mp (h.length+1)),(12,.ref (h.length+2) 0),(15,AI p)],h++[.box [AI 0,AI 0],lA AA zA ks,.box [AI (D2 (p-2)),AI (DE l)]],[]⟩)
    (λp=>2<=p/\p<=(N+1)) (λp=>(N+1)-p) 2 (by simp [h02]) ⟨by omega,by omega⟩ ?_
   clear c1;rintro p ⟨hp1,hp2⟩
   rcases Nat.lt_or_ge p (N+1) with hlt|hge2
   ·have c1:((p:Int)<=N)=True:=by simp only[eq_iff_iff,iff_true];omega
    have lk:=λ(hp:aA) (hh:hp[h.length+1]?=some (lA AA zA ks))=>cW (b:=(p:Int)) hh
    rw[hpg2 p]at lk;have b0:=hB2 (p-2)
    have b1:=hB2 (p-2+1)
    have bn:=hN2 (p-2)
    rw[show p-2+2=p by omega]at bn
    unfold BD at bn;have hv:=hsm9 p
    generalize BA l p=v at *;simp only[go_sem,c1,lk];refine DA (λj:Nat=>⟨[(1,AI N),(4,.ref h.length 0),(6,.mp (h.length+1)),(12,.ref (h.length+2) 0),(15,AI p),(91,AI (max v 0)),(92,AI j)],h++[.box [AI 0,AI 0],lA AA zA ks,.box [AI (D2 (p-2)*(p:Int)^j),AI (DE l)]],[]⟩)
     (λj=>j<=v.toNat) (λj=>v.toNat-j) 0 (by rw[Int.pow_zero,Int.mul_one];rfl) (by omega) ?_
    intro j hj;by_cases hjc:j<v.toNat
    ·obtain⟨g1,g2,g3,g4,g5,g6⟩:=JY (D:=D2 (p-2)) (p:=p) (c:=v.toNat) (j:=j) b0.1 hp1 hjc (by rw[<-bn];exact b1.2)
     have hjv:((j:Int)<max v 0)=True:=by simp only[eq_iff_iff,iff_true];omega
     have wm:IntKind.i64.wrap (D2 (p-2)*(p:Int)^(j+1))=D2 (p-2)*(p:Int)^(j+1):=rA _ (by omega) (by omega)
     have wj:IntKind.i64.wrap ((j:Int)+1)=((j+1:Nat):Int):=rA _ (by omega) (by omega)
     simp only[go_sem,hjv,g3,wm,wj];exact⟨j+1,rfl,by omega,by omega⟩
    ·have ej:j=v.toNat:=by omega
     have hjv:((j:Int)<max v 0)=False:=by simp only[eq_iff_iff,iff_false];omega
     have wp:IntKind.i64.wrap ((p:Int)+1)=((p+1:Nat):Int):=rA _ (by omega) (by omega)
     simp only[go_sem,hjv,wp];rw[ej,<-bn];exact⟨p+1,by rw[show p+1-2=p-2+1 by omega],⟨by omega,by omega⟩,by omega⟩
   ·have ep:p=(N+1):=by omega
    subst ep;have c1:(((N+1:Nat):Int)<=N)=False:=by simp only[eq_iff_iff,iff_false];omega
    rw[show N+1-2=N-1 by omega,hF2]
    simp only[go_sem,c1];rw[hany];rfl
end
theorem zrx {a b:List (Nat × Nat)}(h:∀ q,BA a q=BA b q):mJ a=mJ b/\DE a=DE b:=by
 have e:BA a=BA b:=funext h
 unfold mJ DE;rw[e];exact⟨rfl,rfl⟩
theorem zex:∀ {l:List (Nat × Nat)},(∀t∈l,BZ t)->∀q,BA (l.map LC) q=BA l q
 | [],_,_=>rfl
 | t::l,h,q=>by
  have e1:BA (t::l) q=iD t q+BA l q:=by unfold BA;simp
  have e2:BA ((t::l).map LC) q=iD (LC t) q+BA (l.map LC) q:=by unfold BA;simp
  rw[e1,e2,zex (λt ht=>h t (by simp [ht])) q,zro (h t (by simp))]
theorem zqV {t:Nat × Nat}(h:gC t):((LC t).1==0)=(t.1==0):=by
 unfold gC at h;unfold LC;have hg:0<Nat.gcd t.1 t.2:=Nat.gcd_pos_of_pos_right _ (by omega)
 by_cases hz:t.1=0
 ·simp [hz]
 ·have:0<t.1 / Nat.gcd t.1 t.2:=Nat.div_pos (Nat.gcd_le_left _ (by omega)) hg
  have h1:¬t.1 / Nat.gcd t.1 t.2=0:=Nat.pos_iff_ne_zero.1 this
  rw[Bool.eq_iff_iff];simp only[beq_iff_eq];exact⟨λe=>absurd e h1,λe=>absurd e hz⟩
theorem zqW {t:Nat × Nat}(h:gC t):gC (LC t):=by
 unfold gC at h ⊢;unfold LC;have hg:0<Nat.gcd t.1 t.2:=Nat.gcd_pos_of_pos_right _ (by omega)
 have h1:0<t.2 / Nat.gcd t.1 t.2:=Nat.div_pos (Nat.gcd_le_right _ (by omega)) hg
 have h2:=Nat.div_le_self t.2 (Nat.gcd t.1 t.2)
 exact⟨Nat.div_le_div_right h.1,h1,by omega⟩
def QF (l:List (Nat × Nat)):Int×Int:=if l.any (λt=>t.1==0) then(0,1) else(mJ l,DE l)
theorem zrK {l:List (Nat × Nat)}(h:∀ t∈l,gC t):QF (l.map LC)=QF l:=by
 unfold QF;have e:(l.map LC).any (λt=>t.1==0)=l.any (λt=>t.1==0):=by
  induction l with
  | nil=>rfl
  | cons t l ih=>rw[List.map_cons,List.any_cons,List.any_cons,zqV (h t (by simp)),ih λt ht=>h t (by simp [ht])]
 rw[e];split
 ·rfl
 ·rename_i hz
  have hp:∀t∈l,BZ t:=λt ht=>by
   have a:=h t ht
   unfold gC at a;refine⟨?_,a.1,a.2.2⟩;rcases Nat.eq_zero_or_pos t.1 with q|q
   ·exact absurd (List.any_eq_true.2 ⟨t,ht,by simp [q]⟩) hz
   ·exact q
  have:=zrx (zex hp);rw[this.1,this.2]
section
variable {h:aA} {K:jA}
attribute [-go_sem] TA UA ZA CB ZB WB
theorem zrB {step:Nm}{seen:List Nm}{E:List EndP}{k:Nat}(hk:k<E.length):SB step seen (E.drop k)=if E[k].step≠step∨E[k].board∈seen then SB step seen (E.drop (k+1)) else
 ((SB step (E[k].board::seen) (E.drop (k+1))).1+(if E[k].pass then 1 else 0),(SB step (E[k].board::seen) (E.drop (k+1))).2+1):=by
 rw[List.drop_eq_getElem_cons hk];rfl
theorem RK (step:Nm):∀(seen:List Nm) (E:List EndP),(SB step seen E).1<=(SB step seen E).2/\(SB step seen E).2<=E.length
 | seen,[]=>⟨Nat.le_refl _,Nat.le_refl _⟩
 | seen,e::r=>by
  unfold SB;split
  ·have:=RK step seen r
   rw[List.length_cons];omega
  ·have:=RK step (e.board::seen) r
   rw[List.length_cons];dsimp only;split <;> omega
theorem zdQ (h:aA){q i:Nat}{a0 a1 a2 a3 a5 a6 a7:AV}(E:List EndP)(hq:h[q]?=some (.box [a0,a1,a2,a3,.own i E.length 0 E.length,a5,a6,a7]))(hi:h[i]?=some (.row (some 5) (E.map EndP.pv) 0))(hn:E.length<=1000)(step:Nm) :
 gA X xM [.ref q 0,AS step] h K=K (.tup [AI (SB step [] E).1,AI (SB step [] E).2]) h []:=by
 refine sA ?_;rw[zid rfl];have il2:i<=h.length:=by have:=(List.getElem?_eq_some_iff.1 hi).1;omega
 have ql:q<h.length:=(List.getElem?_eq_some_iff.1 hq).1
 have il:i<h.length:=(List.getElem?_eq_some_iff.1 hi).1
 have gq:∀l:aA,(h++l)[q]?=some (.box [a0,a1,a2,a3,.own i E.length 0 E.length,a5,a6,a7]):=λl=>by rw[List.getElem?_append_left ql,hq]
 have gi:∀l:aA,(h++l)[i]?=some (.row (some 5) (E.map EndP.pv) 0):=λl=>by rw[List.getElem?_append_left il,hi]
 simp only[oV,go_sem,gq];refine DA (λt:Nat×Nat×Nat×List (Nm×Bool)=>⟨[(1,AS step),(4,AI t.2.1),(5,AI t.2.2.1),(6,.mp h.length),(13,.own i E.length 0 E.length),(14,AI E.length),(15,AI t.1)],h++[lA PV.str lC t.2.2.2],[]⟩)
  (λt=>t.1<=E.length/\∃seen,(∀b,(iB b t.2.2.2).getD false=decide (b∈seen))/\(SB step [] E).1=t.2.1+(SB step seen (E.drop t.1)).1/\(SB step [] E).2=t.2.2.1+(SB step seen (E.drop t.1)).2) (λt=>E.length-t.1) (0,0,0,[]) rfl ⟨Nat.zero_le _,[],λb=>rfl,by simp,by simp⟩ ?_
 rintro⟨k,g,a,M⟩ ⟨hk,seen,hs,e1,e2⟩
 dsimp only at hk hs e1 e2 ⊢;have pl:=RK step [] E
 rcases Nat.lt_or_ge k E.length with hlt|hge
 ·rw[zrB hlt]at e1 e2
  have wk:IntKind.i64.wrap ((k:Int)+1)=((k+1:Nat):Int):=rA _ (by omega) (by omega)
  have hg:=sB EndP.pv hlt
  have hl:(E.map EndP.pv).length=E.length:=List.length_map ..
  have cx:NA (some 5) 0 (EndP.pv E[k])=some (EndP.pv E[k]):=rfl
  have fp:∀r:EndP,EndP.pv r = .agg [.str r.board,.str r.step,eI r.frm,eI r.til,.bool r.pass]:=λ_=>rfl
  generalize E[k]=r at *;have lk:=λ(hp:aA) (e:hp[h.length]?=some (lA PV.str lC M))=>qH (kk:=(none,[2])) (k:=r.board) PG e iF (ok:=false) (z:=lC false)
  have up:=λ(hp:aA) (e:hp[h.length]?=some (lA PV.str lC M))=>HK (kk:=(none,[2])) (k:=r.board) PG e iF (v:=true) (val:=lC) rfl
  have eg:((iB r.board M).map lC).getD (lC false)=AB (decide (r.board∈seen)):=by
   rw[<-hs r.board];cases iB r.board M <;> rfl
  have g0:∀o:Obj,(h++[lA PV.str lC M,o])[h.length]?=some (lA PV.str lC M):=λo=>by rw[List.getElem?_append_right (Nat.le_refl _)];simp
  have s0:∀o o':Obj,(h++[o,o']).set h.length=λz=>h++[z,o']:=λo o'=>by funext z;rw[List.set_append_right _ _ (Nat.le_refl _)];simp
  have lk2:=λo=>lk _ (g0 o)
  have up2:=λo=>up _ (g0 o)
  simp only[cond_false,eg,s0]at lk2 up2;have eb:dC h.length (lC true)=[]:=rfl
  rw[eb]at up2;simp only[lC]at lk2 up2;by_cases es:r.step=step
  ·by_cases em:r.board∈seen
   ·rw[if_pos (.inr em)]at e1 e2
    simp only[go_sem,il2,hlt,hg,hl,cx,fp,gi,splice,wk,eq_true es,lk2,em,decide_true];exact⟨(k+1,g,a,M),rfl,⟨by dsimp only;omega,seen,hs,e1,e2⟩,by dsimp only;omega⟩
   ·rw[if_neg (by simp [es,em])]at e1 e2
    dsimp only at e1 e2;have wa:IntKind.i64.wrap ((a:Int)+1)=((a+1:Nat):Int):=rA _ (by omega) (by omega)
    have wg:IntKind.i64.wrap ((g:Int)+1)=((g+1:Nat):Int):=rA _ (by omega) (by omega)
    have hs2:∀b,(iB b (IB r.board true M)).getD false=decide (b∈r.board::seen):=λb=>by
     rw[FM];by_cases hb:b=r.board
     ·simp [hb]
     ·rw[if_neg hb,hs b];simp [hb]
    cases ep:r.pass with
    | true=>
     rw[ep]at e1;simp only[go_sem,il2,hlt,hg,hl,cx,fp,gi,splice,wk,eq_true es,lk2,em,decide_false,up2,wa,wg,ep];exact⟨(k+1,g+1,a+1,IB r.board true M),rfl,⟨by dsimp only;omega,r.board::seen,hs2,by dsimp only;simp at e1;omega,by dsimp only;omega⟩,by dsimp only;omega⟩
    | false=>
     rw[ep]at e1;simp only[go_sem,il2,hlt,hg,hl,cx,fp,gi,splice,wk,eq_true es,lk2,em,decide_false,up2,wa,wg,ep];exact⟨(k+1,g,a+1,IB r.board true M),rfl,⟨by dsimp only;omega,r.board::seen,hs2,by dsimp only;simp at e1;omega,by dsimp only;omega⟩,by dsimp only;omega⟩
  ·rw[if_pos (.inl es)]at e1 e2
   simp only[go_sem,il2,hlt,hg,hl,cx,fp,gi,splice,wk,es];exact⟨(k+1,g,a,M),rfl,⟨by dsimp only;omega,seen,hs,e1,e2⟩,by dsimp only;omega⟩
 ·have ek:k=E.length:=by omega
  subst ek;rw[List.drop_length]at e1 e2;have z:SB step seen []=(0,0):=rfl
  rw[z]at e1 e2;dsimp only at e1 e2;simp only[Nat.add_zero]at e1 e2;rw[e1,e2];simp only[go_sem,Nat.lt_irrefl]
end
section
variable {h:aA} {K:jA}
attribute [-go_sem] TA UA ZA CB ZB WB
def PF (p:Nat × Nat):(Int×Int)×Int:=if p.2=0 then((0,0),8) else(low p.1 p.2,0)
def LR (steps:List Nm)(tries:Int)(l:List Ent)(step:Nm)(at_:Int):(Int×Int)×Int:=
 if iE steps tries l step at_≠0 then((0,0),iE steps tries l step at_) else PF (SB step [] (jB steps tries (upL l at_)).ends)
theorem MV (steps:List Nm)(tries:Int)(h0:steps≠[]){l:List Ent}(hl:∀ x∈l,x.site.length<=1000000):(jB steps tries l).ends.length<=l.length:=by
 exact(EM tries h0 hl).1.el
theorem zsF (steps:List Nm)(tries:Int)(l:List Ent)(O:StOk steps l)(step:Nm)(at_:Int) :
 gA X uK [gB steps tries,EA l,AS step,AI at_] h K=K (.tup [.p (.agg [eI (LR steps tries l step at_).1.1,eI (LR steps tries l step at_).1.2]),AI (LR steps tries l step at_).2]) h []:=by
 refine sA ?_;rw[zhT rfl];have q1:=λh K=>zdU (h:=h) (K:=K) steps tries l O step at_
 have q3:=λh K=>XO (h:=h) (K:=K) l at_ (by have:=O.l;omega)
 unfold LR;by_cases h0:iE steps tries l step at_=0
 case neg=>
  rw[if_pos h0];simp only[FL,go_sem,↓q1,q1,h0,splice];first|done|rfl
 rw[if_neg (by simp [h0])]
 have hst:steps≠[]:=by
  unfold iE at h0;by_cases h1:JC steps tries l at_=0
  ·exact nH h1
  ·rw[if_neg h1]at h0;exact absurd h0 h1
 have q4:=λh K=>TO (h:=h) (K:=K) steps tries O.n hst (upL l at_) (ED O at_).l
 have hen:=MV steps tries hst (l:=upL l at_) (λx hx=>((ED O at_).e x hx).s)
 have hn:=(ED O at_).l
 generalize jB steps tries (upL l at_)=F at *;obtain⟨g,hg⟩:∃g,h++[Obj.box [OA steps,AI tries],.box [AI 0,AI 0]]=g:=⟨_,rfl⟩;have gl:g.length=h.length+2:=by rw[<-hg];simp
 have q5:=λK=>q4 (h++[Obj.box [OA steps,AI tries],.box [AI 0,AI 0]]) K
 have q6:∀K,gA X ND [gB steps tries,EA (upL l at_)] (h++[Obj.box [OA steps,AI tries],.box [AI 0,AI 0]]) K=K (.ref (g.length+7) 0) (FS g (flB steps tries) steps tries F []) (NB g F.bs.length):=λK=>by rw[q5,hg]
 have ex:∀y∈NB g F.bs.length,h.length<=y.1:=λy hy=>by have:=(jH hy).1;omega
 have q7:=λK=>zdQ (K:=K) (FS g (flB steps tries) steps tries F []) F.ends qS z8G (by omega) step
 have pl:=RK step [] F.ends
 generalize SB step [] F.ends=p at *;obtain⟨a,b⟩:=p;dsimp only at pl q7;have sp:∀(o:Obj) ,(FS g (flB steps tries) steps tries F []).set (h.length+1) o=h++(.box [OA steps,AI tries]::o::(FS g (flB steps tries) steps tries F []).drop (h.length+2)):=λo=>by
  unfold FS FH;rw[<-hg];simp
 have gp:(FS g (flB steps tries) steps tries F [])[h.length+1]?=some (.box [AI 0,AI 0]):=by
  unfold FS FH;rw[<-hg];simp
 unfold PF;dsimp only;by_cases hb:b=0
 ·subst hb
  simp only[FL,go_sem,↓q1,q1,h0,↓q3,q3,↓q6,q6,↓q7,q7,sp,gp,splice];rw[sH (v:=.tup [.p (.agg [eI 0,eI 0]),AI 8]) ex (by simp [aB,cE,dB]) (by simp [AV.top,AV.tops])]
  exact⟨rfl,List.take_left ..,rfl⟩
 ·have hb2:¬((b:Int)=0):=by omega
  rw[if_neg hb];have qf:=λh K=>zs7 (h:=h) (K:=K) (a:Int) (b:Int) (by omega) (by omega)
  simp only[FL,go_sem,↓q1,q1,h0,↓q3,q3,↓q6,q6,↓q7,q7,hb2,↓qf,qf,sp,gp,splice];rw[sH (v:=.tup [.p (.agg [eI (low a b).1,eI (low a b).2]),AI 0]) ex (by simp [aB,cE,dB]) (by simp [AV.top,AV.tops])]
  exact⟨rfl,List.take_left ..,rfl⟩
end
section
variable {h:aA} {K:jA}
attribute [-go_sem] TA UA ZA CB ZB WB
theorem zsH (l:List (Nat × Nat))(hl:∀ t∈l,gC t)(h3:Sml l){id:Nat}(hh:h[id]?=some (.row (some 2) (l.map frP) 0)) :
 gA X YJ [.own id l.length 0 l.length] h K=K (.tup [.p (.agg [eI (QF l).1,eI (QF l).2]),AB true]) (frz h id l.length) []:=by
 have e:=z93 (X:=X) (f:=YJ) (F:=IS) (a:=[.own id l.length 0 l.length]) (vs:=[.sl (some 2) (l.map frP)]) (h:=h) (h1:=frz h id l.length) (P:=K) zeM rfl
  (by
   have:win (l.map frP) 0 l.length=l.map frP:=WG (by simp)
   simp [oA,pur,rd,hh,this]) rfl rfl zbz
 rw[e];refine(zsI l hl h3).trans ?_;unfold QF;split <;> rfl
theorem zti (N:Nat)(hN:20<=N/\N<=100000)(l:List (Nat × Nat))(hl:∀ t∈l,gC t)(h3:Sml l){id:Nat}(hh:h[id]?=some (.row (some 2) (l.map frP) 0)) :
 gA X jK [.own id l.length 0 l.length,AI N] h K=K (.tup [.p (.agg [eI (QF l).1,eI (QF l).2]),AI 0]) (frz h id l.length) []:=by
 have e:=z93 (X:=X) (f:=jK) (F:=NS) (a:=[.own id l.length 0 l.length,AI N]) (vs:=[.sl (some 2) (l.map frP),.int .i64 N]) (h:=h) (h1:=frz h id l.length) (P:=K) zeN rfl
  (by
   have:win (l.map frP) 0 l.length=l.map frP:=WG (by simp)
   simp [oA,pur,rd,hh,this]) rfl rfl zbz
 rw[e];refine(ztj N hN l hl h3).trans ?_;unfold QF;split <;> rfl
def xD (E:List EndP)(ss:List Nm):List (Nat×Nat):=ss.map λs=>SB s [] E
def HO (P:List (Nat × Nat)):(Int×Int)×Int:=if P.any (λt=>t.2==0) then((0,0),8) else(QF P,0)
def YR (steps:List Nm)(tries:Int)(l:List Ent)(at_:Int):(Int×Int)×Int:=
 if JC steps tries l at_≠0 then((0,0),JC steps tries l at_) else HO (xD (jB steps tries (upL l at_)).ends steps)
theorem zrA {E:List EndP}{ss:List Nm}(h4:∀ s,(SB s [] E).2<=4)(hl:ss.length<=4)(hz:∀ s∈ss,(SB s [] E).2≠0):(∀t∈xD E ss,gC t)/\Sml (xD E ss):=by
 refine⟨λt ht=>?_,.inr ⟨by unfold xD;rw[List.length_map];exact hl,λt ht=>?_⟩⟩
 ·obtain⟨s,hs,rfl⟩:=List.mem_map.1 ht
  have a:=h4 s
  have b:=hz s hs
  have c:=(RK s [] E).1
  unfold gC;omega
 ·obtain⟨s,hs,rfl⟩:=List.mem_map.1 ht
  exact h4 s
theorem zsJ (steps:List Nm)(tries:Int)(l:List Ent)(O:StOk steps l)(hs4:steps.length<=4)(at_:Int)(h4:JC steps tries l at_=0->∀ s,(SB s [] (jB steps tries (upL l at_)).ends).2<=4) :
 gA X vK [gB steps tries,EA l,AI at_] h K=K (.tup [.p (.agg [eI (YR steps tries l at_).1.1,eI (YR steps tries l at_).1.2]),AI (YR steps tries l at_).2]) h []:=by
 refine sA ?_;rw[zhU rfl];have q1:=λh K=>WY (h:=h) (K:=K) steps tries l O at_
 have q3:=λh K=>XO (h:=h) (K:=K) l at_ (by have:=O.l;omega)
 unfold YR;by_cases h0:JC steps tries l at_=0
 case neg=>
  rw[if_pos h0];simp only[VP,go_sem,↓q1,q1,h0,splice];first|done|rfl
 rw[if_neg (by simp [h0])]
 have h4:=h4 h0
 have hst:steps≠[]:=nH h0
 have q4:=λh K=>TO (h:=h) (K:=K) steps tries O.n hst (upL l at_) (ED O at_).l
 have hen:=MV steps tries hst (l:=upL l at_) (λx hx=>((ED O at_).e x hx).s)
 have hn:=(ED O at_).l
 generalize jB steps tries (upL l at_)=F at *;obtain⟨g,hg⟩:∃g,h++[Obj.box [OA steps,AI tries],.box [AI 0,AI 0]]=g:=⟨_,rfl⟩;have gl:g.length=h.length+2:=by rw[<-hg];simp
 have q5:=λK=>q4 (h++[Obj.box [OA steps,AI tries],.box [AI 0,AI 0]]) K
 have q6:∀K,gA X ND [gB steps tries,EA (upL l at_)] (h++[Obj.box [OA steps,AI tries],.box [AI 0,AI 0]]) K=K (.ref (g.length+7) 0) (FS g (flB steps tries) steps tries F []) (NB g F.bs.length):=λK=>by rw[q5,hg]
 have ex:∀y∈NB g F.bs.length,h.length<=y.1:=λy hy=>by have:=(jH hy).1;omega
 have q7:=λ(l2:aA) (step:Nm) K=>zdQ (K:=K) (FS g (flB steps tries) steps tries F l2) F.ends qS z8G (by omega) step
 have pl:=λstep=>RK step [] F.ends
 have sp:∀(o:Obj) (l2:aA),(FS g (flB steps tries) steps tries F l2).set (h.length+1) o=h++(.box [OA steps,AI tries]::o::(FS g (flB steps tries) steps tries F l2).drop (h.length+2)):=λo l2=>by
  unfold FS FH;rw[<-hg];simp
 have gp:∀l2:aA,(FS g (flB steps tries) steps tries F l2)[h.length+1]?=some (.box [AI 0,AI 0]):=λl2=>by
  unfold FS FH;rw[<-hg];simp
 have gp0:∀l2:aA,(FS g (flB steps tries) steps tries F l2)[h.length]?=some (.box [OA steps,AI tries]):=λl2=>by
  unfold FS FH;rw[<-hg];simp
 have gt0:=λl2=>zZ (h:=g) (fb:=flB steps tries) (steps:=steps) (tries:=tries) (S:=F) (l:=l2)
 have gt1:=λl2=>zfw (h:=g) (fb:=flB steps tries) (steps:=steps) (tries:=tries) (S:=F) (l:=l2) 1
 have st0:=λl2 o=>yZ (h:=g) (fb:=flB steps tries) (steps:=steps) (tries:=tries) (S:=F) (l:=l2) (o:=o) 0
 have st1:=λl2 o=>yZ (h:=g) (fb:=flB steps tries) (steps:=steps) (tries:=tries) (S:=F) (l:=l2) (o:=o) 1
 have tk1:=λl2=>z8I (h:=g) (fb:=flB steps tries) (steps:=steps) (tries:=tries) (S:=F) (l:=l2) 1
 simp only[Nat.add_zero]at st0;have f0:h.length+1+1<=g.length+(8+(xA F.bs).length+1):=by omega
 have f1:g.length+7+1<=g.length+(8+(xA F.bs).length+1):=by omega
 have lt2:∀l2:aA,h.length+1+1<=(FS g (flB steps tries) steps tries F l2).length:=λl2=>by rw[YG];omega
 have tkD:∀(o:Obj) (l2:aA),(h++(.box [OA steps,AI tries]::o::(FS g (flB steps tries) steps tries F l2).drop (h.length+2))).take (FS g (flB steps tries) steps tries F l2).length=h++(.box [OA steps,AI tries]::o::(FS g (flB steps tries) steps tries F l2).drop (h.length+2)):=λo l2=>List.take_of_length_le (by have:=lt2 l2;simp;omega)
 have f2:g.length+(8+(xA F.bs).length)+1<=g.length+(8+(xA F.bs).length+1):=by omega
 simp only[VP,go_sem,↓q1,q1,h0,↓q3,q3,↓q6,q6,YG,yS,gp0,List.length_nil,Nat.add_zero,List.nil_append];refine DA (λk:Nat=>⟨[(6,.ref (h.length+1) 0),(9,.ref (g.length+7) 0),(10,.own (g.length+(8+(xA F.bs).length)) k 0 k),(31,OA steps),(32,AI steps.length),(33,AI k)],FS g (flB steps tries) steps tries F [.row (some 2) ((xD F.ends (steps.take k)).map frP) 0],NB g F.bs.length⟩)
  (λk=>k<=steps.length/\∀s∈steps.take k,(SB s [] F.ends).2≠0) (λk=>steps.length-k) 0 rfl ⟨Nat.zero_le _,by simp⟩ ?_
 rintro k ⟨hk,hz⟩
 rcases Nat.lt_or_ge k steps.length with hlt|hge
 ·have hgr:=sB PV.str hlt
  have cw:∀v:List UInt8,NA none 0 (PV.str v)=some (PV.str v):=λ_=>rfl
  have wk:IntKind.i64.wrap ((k:Int)+1)=((k+1:Nat):Int):=rA _ (by omega) (by omega)
  have pk:=pl steps[k]
  have pn:xD F.ends (steps.take (k+1))=xD F.ends (steps.take k)++[SB steps[k] [] F.ends]:=by
   rw[List.take_succ_eq_append_getElem hlt];unfold xD;rw[List.map_append];rfl
  have hm:steps[k]∈steps:=List.getElem_mem hlt
  have htk:=List.take_succ_eq_append_getElem hlt
  have pll:((xD F.ends (steps.take k)).map frP).length=k:=by unfold xD;simp;omega
  have m1:k+1<=bB:=by unfold bB;omega
  generalize hs:steps[k]=s at *;have q8:=λl2 K=>q7 l2 s K
  generalize hp:SB s [] F.ends=p at *;obtain⟨a,b⟩:=p;dsimp only at pk q8;by_cases hb:b=0
  ·subst hb
   have ha:(xD F.ends steps).any (λt=>t.2==0)=true:=List.any_eq_true.2 ⟨(a,0),by unfold xD;exact List.mem_map.2 ⟨s,hm,hp⟩,rfl⟩
   unfold HO;rw[if_pos ha];simp only[go_sem,hlt,hgr,cw,↓q8,q8,sp,gp,splice,lt2,tkD];rw[sH (v:=.tup [.p (.agg [eI 0,eI 0]),AI 8]) ex (by simp [aB,cE,dB]) (by simp [AV.top,AV.tops])]
   exact⟨rfl,List.take_left ..,rfl⟩
  ·have hb2:¬((b:Int)=0):=by omega
   simp only[go_sem,hlt,hgr,cw,↓q8,q8,hb2,splice,gt0,st0,pll,m1,wk,YG,List.length_cons,List.length_nil,Nat.zero_add,f0,f1,f2,List.getElem?_cons_zero,List.set_cons_zero,tk1,List.take_succ_cons,List.take_zero];refine⟨k+1,?_,⟨by omega,λx hx=>?_⟩,by omega⟩
   ·rw[pn,List.map_append];rfl
   ·rw[htk]at hx
    rcases List.mem_append.1 hx with e|e
    ·exact hz x e
    ·rw[List.mem_singleton]at e;subst e;rw[hp];exact hb
 ·have ek:k=steps.length:=by omega
  subst ek;rw[List.take_length]at hz;rw[List.take_length];obtain⟨ok,sm⟩:=zrA h4 hs4 hz;have ha:(xD F.ends steps).any (λt=>t.2==0)=false:=by
   rw[Bool.eq_false_iff];intro e;obtain⟨t,ht,e2⟩:=List.any_eq_true.1 e;obtain⟨s,hs,rfl⟩:=List.mem_map.1 ht;exact hz s hs (by simpa using e2)
  unfold HO;rw[if_neg (by simp [ha])]
  have ppl:(xD F.ends steps).length=steps.length:=by unfold xD;rw[List.length_map]
  generalize xD F.ends steps=P at *;have PO:=λK=>zsH (h:=FS g (flB steps tries) steps tries F [.row (some 2) (P.map frP) 0]) (K:=K) P ok sm (id:=g.length+(8+(xA F.bs).length)) (by rw[gt0];rfl)
  have fz:frz (FS g (flB steps tries) steps tries F [.row (some 2) (P.map frP) 0]) (g.length+(8+(xA F.bs).length)) P.length=FS g (flB steps tries) steps tries F [.row (some 2) (P.map frP) P.length]:=by
   unfold frz;rw[gt0];simp only[List.getElem?_cons_zero];rw[st0];simp
  rw[fz,ppl]at PO;generalize QF P=r at *;obtain⟨r1,r2⟩:=r;dsimp only at PO;simp only[go_sem,Nat.lt_irrefl,YG,List.length_cons,List.length_nil,Nat.zero_add,f0,f2,tk1,List.take_succ_cons,List.take_zero,↓PO,PO,yS,List.cons_append,List.nil_append,gt1,st1,List.getElem?_cons_succ,List.getElem?_cons_zero,List.set_cons_succ,List.set_cons_zero,sp,gp,splice];rw[sH (v:=.tup [.p (.agg [eI r1,eI r2]),AI 0]) ex (by simp [aB,cE,dB]) (by simp [AV.top,AV.tops])]
  exact⟨rfl,List.take_left ..,rfl⟩
end
def tQ1 (steps:List Nm)(tries:Int)(step:Nm)(w:FlQ)(x:Ent):List Int:=
 if(doQ steps tries w x).2=0/\(x.kind=3∨x.kind=4)/\(zB w.bs x.board).step=step then [x.time-(zB w.bs x.board).since] else []
def VC (steps:List Nm)(tries:Int)(step:Nm)(l:List Ent):List Nat->AllQ->List Int
 | [],_=>[]
 | i::r,a=>tQ1 steps tries step a.w (l.getD i vD)++VC steps tries step l r (stQ steps tries a i (l.getD i vD))
theorem zbw (steps:List Nm)(tries:Int)(step:Nm)(l:List Ent)(i:Nat):∀(is:List Nat) (a:AllQ),VC steps tries step l (is++[i]) a=VC steps tries step l is a++tQ1 steps tries step (UC steps tries l is a).w (l.getD i vD)
 | [],a=>by simp [VC,UC]
 | j::r,a=>by
  have ih:=zbw steps tries step l i r (stQ steps tries a j (l.getD j vD))
  rw[List.cons_append];unfold VC;rw[ih,List.append_assoc];rfl
theorem zu4 (steps:List Nm)(tries:Int)(step:Nm)(w:FlQ)(x:Ent):(tQ1 steps tries step w x).length<=1:=by unfold tQ1;split <;> simp
theorem zbv (steps:List Nm)(tries:Int)(step:Nm)(l:List Ent):∀(is:List Nat) (a:AllQ),(VC steps tries step l is a).length<=is.length
 | [],a=>Nat.le_refl _
 | j::r,a=>by
  have ih:=zbv steps tries step l r (stQ steps tries a j (l.getD j vD))
  have:=zu4 steps tries step a.w (l.getD j vD);unfold VC;rw[List.length_append,List.length_cons];omega
theorem zu3 (steps:List Nm)(tries:Int)(step:Nm){p:FlP}{q:FlQ}(I:Inv p q)(x:Ent)(hw:EntW x)(h7:x.kind≠7):LB step (EC steps tries p x).1.ends=LB step p.ends++tQ1 steps tries step q x:=by
 obtain⟨e1,_⟩:=UV steps tries I x hw.b hw.s hw.t hw.k h7;unfold tQ1;rw[<-e1,<-I.bs];have key:∀R:FlP×Int,EC steps tries p x=R->LB step R.1.ends=LB step p.ends++if R.2=0/\(x.kind=3∨x.kind=4)/\(zB p.bs x.board).step=step then [x.time-(zB p.bs x.board).since] else []:=by
  intro R hR;by_cases k3:x.kind=3∨x.kind=4
  ·have k1:¬x.kind=1:=by omega
   have k2:¬x.kind=2:=by omega
   unfold EC at hR;rw[if_neg k1]at hR;cases hg:mA p.bs x.board with
   | none=>rw[hg]at hR;subst hR;simp
   | some b=>
    have es:zB p.bs x.board=b:=by unfold zB;rw[hg];rfl
    rw[hg]at hR;dsimp only at hR;rw[if_neg k2,if_pos k3]at hR;rw[es];by_cases c1:b.state≠2
    ·rw[if_pos c1]at hR;subst hR;simp
    ·rw[if_neg c1]at hR
     by_cases c2:b.site≠x.site
     ·rw[if_pos c2]at hR;subst hR;simp
     ·rw[if_neg c2]at hR
      subst hR;dsimp only;rw[z8l];congr 1
      by_cases c3:b.step=step
      ·rw[if_pos ⟨rfl,k3,c3⟩]
       unfold LB;dsimp only;rw[if_pos c3];rfl
      ·rw[if_neg (λh=>c3 h.2.2)]
       unfold LB;dsimp only;rw[if_neg c3];rfl
  ·rw[if_neg (λh=>k3 h.2.1),List.append_nil]
   have:R.1.ends=p.ends:=by
    rw[<-hR];unfold EC;repeat' split
    all_goals first|rfl|contradiction
   rw[this]
 exact key _ rfl
theorem zbu (steps:List Nm)(tries:Int)(step:Nm)(U:List Ent)(hw:∀ x∈U,EntW x):∀(m n:Nat) (p:AllP) (a:AllQ),n+m=U.length->Inv p.w a.w ->
 LB step (goP steps tries p n ((uC U).drop n)).w.ends=LB step p.w.ends++VC steps tries step U ((List.range' n m).filter λi=>(SA U).getD i false) a
 | 0,n,p,a,h,I=>by
  rw[List.drop_of_length_le (by rw[uH];omega)]
  show LB step p.w.ends=LB step p.w.ends++[]
  rw[List.append_nil]
 | m+1,n,p,a,h,I=>by
  have hn:n<U.length:=by omega
  have ih:=zbu steps tries step U hw m (n+1)
  have hc:n<(SA U).length:=by rw[UE];exact hn
  have cg:(SA U).getD n false=(SA U)[n]:=by rw[List.getD_eq_getElem?_getD,List.getElem?_eq_getElem hc];rfl
  have ug:U.getD n vD=U[n]:=by rw[List.getD_eq_getElem?_getD,List.getElem?_eq_getElem hn];rfl
  rw[List.drop_eq_getElem_cons (by rw[uH];exact hn),mS hn,List.range'_succ,List.filter_cons,cg]
  have ew:=hw _ (List.getElem_mem hn)
  unfold goP;cases (SA U)[n]with
  | false=>rw[if_pos (.inl rfl),if_neg (by simp)];exact ih p a (by omega) I
  | true=>
   rw[if_pos rfl];unfold VC;rw[ug];by_cases h7:U[n].kind=7
   ·rw[if_pos (.inr h7)]
    have e:doQ steps tries a.w U[n]=(a.w,0):=by unfold doQ;rw[if_pos h7]
    have e2:stQ steps tries a n U[n]=a:=by unfold stQ;rw[e];rfl
    have e3:tQ1 steps tries step a.w U[n]=[]:=by unfold tQ1;rw[if_neg (by rw[h7];simp)]
    rw[e2,e3,List.nil_append];exact ih p a (by omega) I
   ·rw[if_neg (by simp [h7])]
    obtain⟨e1,I2⟩:=UV steps tries I U[n] ew.b ew.s ew.t ew.k h7;have ta:=zu3 steps tries step I U[n] ew h7
    rw[<-List.append_assoc,<-ta];have key:∀(p2:AllP) (a2:AllQ),p2.w=(EC steps tries p.w U[n]).1->a2.w=(doQ steps tries a.w U[n]).1->LB step (goP steps tries p2 (n+1) ((uC U).drop (n+1))).w.ends=LB step (EC steps tries p.w U[n]).1.ends++VC steps tries step U ((List.range' (n+1) m).filter λi=>(SA U).getD i false) a2:=λp2 a2 h1 h2=>by
     rw[<-h1];exact ih p2 a2 (by omega) (by rw[h1,h2];exact I2)
    refine key _ _ ?_ ?_
    ·split <;> rfl
    ·unfold stQ;split <;> rfl
def fZ (steps:List Nm)(tries:Int)(l:List Ent)(step:Nm)(at_:Int):List Int:=VC steps tries step l (PD l at_) XB
theorem zuA (steps:List Nm)(tries:Int)(h0:steps≠[])(l:List Ent)(hf:∀ x∈l,TB x=0)(step:Nm)(at_:Int):fZ steps tries l step at_=LB step (jB steps tries (upL l at_)).ends:=by
 have sub:∀x∈upL l at_,TB x=0:=λx hx=>hf x ((List.take_sublist _ _).subset hx)
 obtain⟨p1,_,_⟩:=JQ steps tries h0 (uC (upL l at_)) IF 0 0 ⟨⟨[],[],[],[]⟩,[],[]⟩ (IQ steps) rfl rfl rfl;have t:=zbu steps tries step (upL l at_) (λx hx=>BV (sub x hx)) (upL l at_).length 0 ⟨⟨[],[],[],[]⟩,[],[]⟩ XB (by omega) inv0
 rw[List.drop_zero,<-z5i]at t;have e:(jB steps tries (upL l at_)).ends=(goP steps tries ⟨⟨[],[],[],[]⟩,[],[]⟩ 0 (uC (upL l at_))).w.ends:=congrArg FlP.ends p1
 rw[e,t];show _=[]++_
 rw[List.nil_append];unfold fZ;have:∀(is:List Nat) (a:AllQ),(∀i∈is,i<(upL l at_).length)->VC steps tries step l is a=VC steps tries step (upL l at_) is a:=by
  intro is;induction is with
  | nil=>intro a _;rfl
  | cons i r ih=>
   intro a h;have hi:=h i (List.mem_cons_self ..)
   have e:l.getD i vD=(upL l at_).getD i vD:=by
    rw[List.getD_eq_getElem?_getD,List.getD_eq_getElem?_getD,List.getElem?_eq_getElem hi,List.getElem?_eq_getElem (Nat.lt_of_lt_of_le hi (rI l at_)),iZ hi]
   unfold VC;rw[e,ih _ λj hj=>h j (List.mem_cons_of_mem _ hj)]
 exact this _ _ λi hi=>HM hi
theorem znM {S:Flo}{N:List Nm}(hb:∀ e∈S.bs,e.1.board∈N)(he:∀ e∈S.ends,e.board∈N)(steps:List Nm)(tries:Int)(x:Ent):∀e∈(S.act steps tries x).2.ends,e.board∈N:=by
 unfold Flo.act;split
 ·split
  ·exact he
  ·exact he
 ·rename_i i hi
  obtain⟨e,h1,h2,_⟩:=(dJ x.board S.bs).2 i hi;have hx:x.board∈N:=by rw[<-h2];exact hb e (List.mem_of_getElem? h1)
  split
  ·exact he
  ·split
   ·exact he
   ·unfold Flo.old Flo.startR Flo.finishR
    repeat' split
    all_goals first
     | exact he
     | (intro y hy;rcases List.mem_append.1 hy with h|h;exact he y h;rw[List.mem_singleton]at h;rw[h];exact hx)
theorem z4E (steps:List Nm)(tries:Int)(N:List Nm):∀(l:List (Ent×Bool)) (S:Flo) (i:Nat),BoI S N->(∀e∈S.ends,e.board∈N)->(∀y∈l,y.1.kind=1->y.1.board∈N)->∀e∈(Flo.go steps tries S i l).ends,e.board∈N
 | [],S,i,I,he,_=>he
 | (x,c)::r,S,i,I,he,hx=>by
  have e1:Flo.go steps tries S i ((x,c)::r)=if c=false∨x.kind=7 then Flo.go steps tries S (i+1) r else Flo.go steps tries (S.step steps tries i x) (i+1) r:=rfl
  rw[e1];have hr:=λy hy=>hx y (List.mem_cons_of_mem (x,c) hy)
  split
  ·exact z4E steps tries N r S (i+1) I he hr
  ·refine z4E steps tries N r _ (i+1) (z9B I steps tries i (hx (x,c) (List.mem_cons_self ..))) ?_ hr
   have:=znM I.nm he steps tries x;unfold Flo.step;split <;> exact this
theorem zo8 (steps:List Nm)(tries:Int)(N:List Nm){l:List Ent}(hl:∀ x∈l,x.kind=1->x.board∈N):∀e∈(jB steps tries l).ends,e.board∈N:=
 z4E steps tries N (uC l) IF 0 (boI0 N) (λe he=>by cases he) λy hy=>hl y.1 (List.of_mem_zip hy).1
theorem znN {N:List Nm}(hN:N.Nodup){E:List EndP}(h:∀ e∈E,e.board∈N)(step:Nm):(SB step [] E).2<=N.length:=by
 rw[(EY step hN E [] h).1];exact List.length_filter_le _ _
theorem ztS {bs:nB}(hu:(bs.map λe=>e.1.board).Nodup):cP (bs.map λe=>e.1.board)=FA (asA bs):=by
 have hk:(QB (asA bs)).Nodup:=by rw[LM];exact hu
 refine iS tR ((ztT hu).imp λ{a b} h=>zqY h) (z58 hk) λx=>?_
 unfold FA;rw[OG,LM];exact(List.mergeSort_perm _ _).mem_iff
def KK (bs:List (Nm × Sta))(a:Nm × Int × Bool)(k:Nm):Nm×Int×Bool:=
 if(zB bs k).state≠4/\(zB bs k).state≠5/\(a.2.2=false∨(zB bs k).since<a.2.1) then(k,(zB bs k).since,true) else a
def YC (bs:List (Nm × Sta))(ks:List Nm):Nm×Int×Bool:=ks.foldl (KK bs) ([],0,false)
theorem z5C (bs:List (Nm × Sta))(ks:List Nm)(k:Nm):YC bs (ks++[k])=KK bs (YC bs ks) k:=by unfold YC;rw[List.foldl_append];rfl
theorem zrz (bs:List (Nm × Sta))(ks:List Nm)(h0:[]∉ks):(YC bs ks).2.2=decide ((YC bs ks).1≠[]):=by
 revert h0
 refine TV (P:=λks=>[]∉ks->(YC bs ks).2.2=decide ((YC bs ks).1≠[])) (λ_=>rfl) (λks k ih h=>?_) ks
 have hk:k≠[]:=λe=>h (by simp [e])
 have:=ih (λe=>h (List.mem_append_left _ e))
 rw[z5C];unfold KK;split
 ·simp [hk]
 ·exact this
def aE (w:Nm->List Nm)(steps:List Nm):List (Nm×Nm):=steps.filterMap λs=>(w s).head?.map λk=>(s,k)
theorem zcH (w:Nm->List Nm)(ss:List Nm)(s:Nm):aE w (ss++[s])=aE w ss++(match w s with|[]=>[]|k::_=>[(s,k)]):=by
 unfold aE;rw[List.filterMap_append];congr 1
 cases h:w s with
 | nil=>simp [h]
 | cons k r=>simp [h]
theorem z59 (w:Nm->List Nm)(ss:List Nm):(aE w ss).length<=ss.length:=List.length_filterMap_le _ _
theorem zqT (n m:Nat):low (n:Int) (m:Int)=(((LC (n,m)).1:Int),((LC (n,m)).2:Int)):=by
 unfold low LC;rw[Int.gcd_natCast_natCast];rfl
def yD (N:List Nm)(runs:List RanQ)(ss:List Nm):List (Nat×Nat):=ss.map λs=>BC s N runs
def FO (P:List (Nat × Nat)):(Int×Int)×Int:=if P.any (λt=>t.2==0) then((0,0),8) else(QF (P.map LC),0)
theorem zsm {P:List (Nat × Nat)}(h:∀ t∈P,t.1<=t.2/\t.2<=12):FO P=HO P:=by
 unfold FO HO;cases ha:P.any (λt=>t.2==0) with
 | true=>rfl
 | false=>
  rw[if_neg (by simp),if_neg (by simp)]
  rw[zrK λt ht=>?_]
  have h1:=h t ht
  have h2:t.2≠0:=λe=>by rw[List.any_eq_false]at ha;exact ha t ht (by simp [e])
  unfold gC;omega
theorem ztR {P:List (Nat × Nat)}(h:Sml P):Sml (P.map LC):=by
 rcases h with h|⟨h,h4⟩
 ·exact .inl (by rw[List.length_map];exact h)
 ·refine .inr ⟨by rw[List.length_map];exact h,λt ht=>?_⟩
  obtain⟨y,hy,rfl⟩:=List.mem_map.1 ht;have:=h4 y hy;have:=Nat.div_le_self y.2 (Nat.gcd y.1 y.2);unfold LC;dsimp only;omega
theorem zrl {bs:nB}{i:Nat}{e:Ent × Sta}{s:Sta}(h:bs[i]?=some e):(bs.set i (e.1,s)).map (λe=>e.1.board)=bs.map λe=>e.1.board:=by
 apply List.ext_getElem?
 intro j;rw[List.getElem?_map,List.getElem?_map,List.getElem?_set];by_cases hj:i=j
 ·subst hj
  rw[if_pos rfl,h];have hl:i<bs.length:=(List.getElem?_eq_some_iff.1 h).1
  rw[if_pos hl];rfl
 ·rw[if_neg hj]
def EnI (S:Flo):Prop:=∀e∈S.ends,e.board∈S.bs.map λe=>e.1.board
theorem EnI.same {S S':Flo}(I:EnI S){i:Nat}{e:Ent × Sta}{s:Sta}(h:S.bs[i]?=some e)(h1:S'.bs=S.bs.set i (e.1,s))(h2:∀ y∈S'.ends,y∈S.ends∨y.board=e.1.board):EnI S':=by
 intro y hy;rw[h1,zrl h];rcases h2 y hy with q|q
 ·exact I y q
 ·rw[q];exact List.mem_map_of_mem (f:=λe:Ent×Sta=>e.1.board) (List.mem_of_getElem? h)
theorem znL {S:Flo}(I:EnI S)(steps:List Nm)(tries:Int)(x:Ent):EnI (S.act steps tries x).2:=by
 unfold Flo.act;split
 ·split
  ·intro e he
   have:=I e he;show e.board∈(S.bs++[_]).map _
   rw[List.map_append];exact List.mem_append_left _ this
  ·exact I
 ·rename_i i hi
  split
  ·exact I
  ·rename_i e he
   have hb:x.board=e.1.board:=by
    obtain⟨e2,h1,h2,_⟩:=(dJ x.board S.bs).2 i hi;rw[he]at h1;rw[<-h2,Option.some.inj h1]
   split
   ·exact I
   ·unfold Flo.old Flo.startR Flo.finishR
    repeat' split
    all_goals first
     | exact I
     | exact I.same he (s:=⟨2,x.time,e.2.step,x.site,e.2.failed⟩) rfl (λy hy=>.inl hy)
     | exact I.same he rfl (λy hy=>(List.mem_append.1 hy).imp id λh=>by rw[List.mem_singleton.1 h];exact hb)
     | exact I.same he rfl (λy hy=>.inl hy)
theorem z4D (steps:List Nm)(tries:Int):∀(l:List (Ent×Bool)) (S:Flo) (i:Nat),EnI S->EnI (Flo.go steps tries S i l)
 | [],S,i,I=>I
 | (x,c)::r,S,i,I=>by
  have e1:Flo.go steps tries S i ((x,c)::r)=if c=false∨x.kind=7 then Flo.go steps tries S (i+1) r else Flo.go steps tries (S.step steps tries i x) (i+1) r:=rfl
  rw[e1];split
  ·exact z4D steps tries r S (i+1) I
  ·refine z4D steps tries r _ (i+1) ?_
   have:=znL I steps tries x;unfold Flo.step;split <;> exact this
theorem zbs (steps:List Nm)(tries:Int)(l:List Ent):EnI (jB steps tries l):=z4D steps tries (uC l) IF 0 (λe he=>by cases he)
theorem z9C {F:Flo}{q:AllQ}(B:Both F q)(eb:asA F.bs=q.w.bs)(nb:(F.bs.map λe=>e.1.board).Nodup)(hE:EnI F)(step:Nm):SB step [] F.ends=BC step (FA q.w.bs) q.w.runs:=by
 have hk:QB q.w.bs=F.bs.map λe=>e.1.board:=by rw[<-eb,LM]
 have hm:∀k,k∈FA q.w.bs↔k∈F.bs.map λe=>e.1.board:=λk=>by
  unfold FA;rw[OG,hk]
 refine zrD B.inv step (N:=FA q.w.bs) ?_ ?_ λe he=>(hm _).2 (hE e he)
 ·have:=z58 (bs:=q.w.bs) (by rw[hk];exact nb)
  exact this.imp λ{a b} h e=>by subst e;rw[AP]at h;omega
 ·intro h0
  have h1:=zcE.1 h0
  obtain⟨st,hst⟩:=Option.isSome_iff_exists.1 h1;refine B.inv.name st ?_;show mA (asA F.bs) []=some st
  rw[eb];exact hst
section
variable {h:aA} {K:jA}
attribute [-go_sem] TA UA ZA CB ZB WB splice
theorem zdP (l:List Ent)(hl:l.length<=1000000)(hs:l.Pairwise λa b=>a.time<=b.time)(at_:Int):∀(m i:Nat) (h:aA) (K:jA),i<l.length->l.length-i<=m ->
 gA X kM [EA l,AI i,AI at_] h K=K (AB (KD l at_ i)) h []
 | 0,i,h,K,hi,hm=>by omega
 | m+1,i,h,K,hi,hm=>by
  have IH:=λ(k:Nat) h K (h1:i<k) (h2:k<l.length)=>zdP l hl hs at_ m k h K h2 (by omega)
  refine sA ?_;rw[zhq rfl];have hgi:=sB Ent.pv hi
  have i0:NA none 0 (Ent.pv l[i])=some (.str l[i].site):=rfl
  have i1:NA none 1 (Ent.pv l[i])=some (eI l[i].no):=rfl
  have i2:NA none 2 (Ent.pv l[i])=some (eI l[i].time):=rfl
  have up:=zeB hs at_ i hi
  have wi:IntKind.i64.wrap ((i:Int)+1)=((i+1:Nat):Int):=rA _ (by omega) (by omega)
  by_cases ht:at_<l[i].time
  ·have e:KD l at_ i=false:=by unfold KD;rw[zab (by omega)]
   rw[e];simp only[MP,go_sem,hi,hgi,i2,ht]
  ·have hu:i<(upL l at_).length:=up.2 (by omega)
   have ci:=zi8 (upL l at_) hu
   simp only[MP,go_sem,hi,hgi,i2,ht,wi];refine DA (λk:Nat=>⟨[(0,EA l),(1,AI i),(2,AI at_),(7,AI k)],h,[]⟩) (λk=>i<k/\k<=l.length/\∀j (hj:j<(upL l at_).length),i<j->j<k->((SA (upL l at_)).getD j false&&pI (upL l at_)[j] (upL l at_)[i])=false) (λk=>l.length-k) (i+1) rfl ⟨by omega,by omega,λj _ h1 h2=>by omega⟩ ?_
   rintro k ⟨hik,hk,hp⟩
   have fin:(∀j (hj:j<(upL l at_).length),i<j->¬j<k->False)->KD l at_ i=true:=λhx=>ci.2 λj hj hij=>by
    by_cases hjk:j<k
    ·exact hp j hj hij hjk
    ·exact(hx j hj hij hjk).elim
   rcases Nat.lt_or_ge k l.length with hlt|hge
   ·have hgk:=sB Ent.pv hlt
    have k2:NA none 2 (Ent.pv l[k])=some (eI l[k].time):=rfl
    have k3:NA none 3 (Ent.pv l[k])=some (eI l[k].kind):=rfl
    have k6:NA none 6 (Ent.pv l[k])=some (.str l[k].of):=rfl
    have k7:NA none 7 (Ent.pv l[k])=some (eI l[k].other):=rfl
    have wk:IntKind.i64.wrap ((k:Int)+1)=((k+1:Nat):Int):=rA _ (by omega) (by omega)
    have upk:=zeB hs at_ k hlt
    have IHk:=λh K=>IH k h K hik hlt
    by_cases tk:l[k].time<=at_
    ·have huk:k<(upL l at_).length:=upk.2 tk
     have gk:=iZ huk
     have gi:=iZ hu
     have next:((SA (upL l at_)).getD k false&&pI (upL l at_)[k] (upL l at_)[i])=false->∀j (hj:j<(upL l at_).length),i<j->j<k+1->((SA (upL l at_)).getD j false&&pI (upL l at_)[j] (upL l at_)[i])=false:=λe j hj h1 h2=>by
      by_cases ejk:j=k
      ·subst ejk;exact e
      ·exact hp j hj h1 (by omega)
     have un:pI (upL l at_)[k] (upL l at_)[i]=(decide (l[k].kind=7)&&decide (l[k].of=l[i].site)&&decide (l[k].other=l[i].no)):=by rw[gk,gi];rfl
     rw[un]at next;by_cases c1:l[k].kind=7
     ·by_cases c2:l[k].of=l[i].site
      ·by_cases c3:l[k].other=l[i].no
       ·cases c4:KD l at_ k with
        | true=>
         have e:KD l at_ i=false:=by
          cases hc:KD l at_ i with
          | false=>rfl
          | true=>
           have:=ci.1 hc k huk hik;rw[un]at this;unfold KD at c4;rw[c4,decide_eq_true c1,decide_eq_true c2,decide_eq_true c3]at this;cases this
         rw[c4]at IHk;rw[e];simp only[go_sem,hlt,hi,hgk,hgi,i0,i1,k2,k3,k6,k7,tk,eq_true c1,eq_true c2,eq_true c3,↓IHk,IHk]
        | false=>
         rw[c4]at IHk;simp only[go_sem,hlt,hi,hgk,hgi,i0,i1,k2,k3,k6,k7,tk,eq_true c1,eq_true c2,eq_true c3,↓IHk,IHk,wk];exact⟨k+1,rfl,⟨by omega,by omega,next (by unfold KD at c4;rw[c4];rfl)⟩,by omega⟩
       ·simp only[go_sem,hlt,hi,hgk,hgi,i0,i1,k2,k3,k6,k7,tk,eq_true c1,eq_true c2,c3,wk]
        exact⟨k+1,rfl,⟨by omega,by omega,next (by rw[decide_eq_false c3];simp)⟩,by omega⟩
      ·simp only[go_sem,hlt,hi,hgk,hgi,i0,i1,k2,k3,k6,k7,tk,eq_true c1,c2,wk]
       exact⟨k+1,rfl,⟨by omega,by omega,next (by rw[decide_eq_false c2];simp)⟩,by omega⟩
     ·simp only[go_sem,hlt,hi,hgk,hgi,i0,i1,k2,k3,k6,k7,tk,c1,wk]
      exact⟨k+1,rfl,⟨by omega,by omega,next (by rw[decide_eq_false c1];simp)⟩,by omega⟩
    ·have e:KD l at_ i=true:=fin λj hj h1 h2=>tk (upk.1 (by omega))
     rw[e];simp only[go_sem,hlt,hi,hgk,hgi,k2,tk]
   ·have ek:k=l.length:=by omega
    subst ek;have c0:¬(l.length:Int)<(l.length:Int):=by omega
    have e:KD l at_ i=true:=fin λj hj h1 h2=>by have:=rI l at_;omega
    rw[e];simp only[go_sem,Nat.lt_irrefl,c0]
def gF (l:List Ent)(at_:Int)(k:Nat):List Nat:=(List.range k).filter (KD l at_)
theorem zpb (l:List Ent)(at_:Int)(k:Nat):gF l at_ (k+1)=gF l at_ k++if KD l at_ k=true then [k] else []:=by
 unfold gF;rw[List.range_succ,List.filter_append,List.filter_cons,List.filter_nil]
theorem z5h (l:List Ent)(at_:Int)(k:Nat):(gF l at_ k).length<=k:=by
 unfold gF;have:=List.length_filter_le (KD l at_) (List.range k);rw[List.length_range]at this;exact this
theorem zd9 (l:List Ent)(hl:l.length<=1000000)(hs:l.Pairwise λa b=>a.time<=b.time)(at_:Int) :
 gA X cM [EA l,AI at_] h K=K (AL ((PD l at_).map λ(i:Nat)=>(i:Int))) h []:=by
 refine sA ?_;rw[zgY rfl];have cl:(l.map Ent.pv).length=l.length:=List.length_map ..
 simp only[pU,go_sem,cl];refine DA (λk:Nat=>⟨[(0,EA l),(1,AI at_),(5,.own h.length (gF l at_ k).length 0 (gF l at_ k).length),(8,AI l.length),(9,AI k)],h++[.row none ((gF l at_ k).map λ(i:Nat)=>eI (i:Int)) 0],[]⟩) (λk=>k<=l.length) (λk=>l.length-k) 0 rfl (by omega) ?_
 intro k hk;rcases Nat.lt_or_ge k l.length with hlt|hge
 ·have hc:(k:Int)<(l.length:Int):=by omega
  have wk:IntKind.i64.wrap ((k:Int)+1)=((k+1:Nat):Int):=rA _ (by omega) (by omega)
  have C:=λh K=>zdP l hl hs at_ l.length k h K hlt (by omega)
  have hx:=zpb l at_ k
  have hle:=z5h l at_ k
  have ml:((gF l at_ k).map λ(i:Nat)=>eI (i:Int)).length=(gF l at_ k).length:=List.length_map ..
  have m1:(gF l at_ k).length+1<=bB:=by unfold bB;omega
  cases hcn:KD l at_ k with
  | true=>
   rw[hcn]at C;rw[hcn,if_pos rfl]at hx;simp only[go_sem,hc,hlt,↓C,C,wk,m1,ml];refine⟨k+1,?_,by omega,by omega⟩
   rw[hx];simp
  | false=>
   rw[hcn]at C;rw[hcn,if_neg (by simp),List.append_nil]at hx
   simp only[go_sem,hc,hlt,↓C,C,wk,m1,ml];refine⟨k+1,?_,by omega,by omega⟩
   rw[hx]
 ·have ek:k=l.length:=by omega
  subst ek;have c0:¬(l.length:Int)<(l.length:Int):=by omega
  have wf:win ((gF l at_ l.length).map λ(i:Nat)=>eI (i:Int)) 0 (gF l at_ l.length).length=(gF l at_ l.length).map λ(i:Nat)=>eI (i:Int):=WG (by simp)
  simp only[go_sem,c0,Nat.lt_irrefl,wf];rw[AL,List.map_map];rfl
end
section
variable {h:aA} {K:jA}
def QH (h:aA)(o0 o1 o2 o3 o4 o5:Obj)(l:aA):aA:=h++o0::o1::o2::o3::o4::o5::l
section
variable {o0 o1 o2 o3 o4 o5 o:Obj} {l l2:aA}
theorem CZ:(QH h o0 o1 o2 o3 o4 o5 l).length=h.length+(6+l.length):=by unfold QH;simp;omega
theorem z9c:QH h o0 o1 o2 o3 o4 o5 l++l2=QH h o0 o1 o2 o3 o4 o5 (l++l2):=by unfold QH;simp
theorem xI (n:Nat):(QH h o0 o1 o2 o3 o4 o5 l)[h.length+n]?=(o0::o1::o2::o3::o4::o5::l)[n]?:=by unfold QH;rw[List.getElem?_append_right (by omega)];simp
theorem yJ (n:Nat):(QH h o0 o1 o2 o3 o4 o5 l).set (h.length+n) o=h++(o0::o1::o2::o3::o4::o5::l).set n o:=by unfold QH;rw[List.set_append_right _ _ (by omega)];simp
theorem QH_g2:(QH h o0 o1 o2 o3 o4 o5 l)[h.length+2]?=some o2:=xI 2
theorem QH_g5:(QH h o0 o1 o2 o3 o4 o5 l)[h.length+5]?=some o5:=xI 5
theorem QH_s2:(QH h o0 o1 o2 o3 o4 o5 l).set (h.length+2) o=QH h o0 o1 o o3 o4 o5 l:=yJ 2
theorem zS (n:Nat):(QH h o0 o1 o2 o3 o4 o5 l)[h.length+(6+n)]?=l[n]?:=by rw[xI,show 6+n=n+6 by omega];rfl
theorem DZ (n:Nat):(QH h o0 o1 o2 o3 o4 o5 l).set (h.length+(6+n)) o=QH h o0 o1 o2 o3 o4 o5 (l.set n o):=by rw[yJ,show 6+n=n+6 by omega];rfl
theorem BS (n:Nat):(QH h o0 o1 o2 o3 o4 o5 l).take (h.length+(6+n))=QH h o0 o1 o2 o3 o4 o5 (l.take n):=by
 unfold QH;rw[show h.length+(6+n)=h.length+(n+6) by omega,List.take_append,List.take_of_length_le (by omega)]
 congr 1
 simp
end
attribute [-go_sem] TA UA ZA CB splice
attribute [local go_sem] CZ z9c QH_g2 QH_g5 QH_s2
def RanQ.pv (r:RanQ):PV:=.agg [.str r.board,.str r.site,.str r.step,eI r.frm,eI r.til,.bool r.pass]
def kB (s:Sta):AV:=.p s.pv
def RG (n:Nat):PV:=eI (n:Int)
abbrev qbx (h:aA)(steps:List Nm)(tries:Int)(a b c:Nat):Obj:=.box [OA steps,AI tries,.mp (h.length+1),.own (h.length+2) a 0 a,.own (h.length+3) b 0 b,.own (h.length+4) c 0 c]
def QS (h:aA)(fb:Obj)(steps:List Nm)(tries:Int)(a:AllQ)(l:aA):aA:=
 QH h fb (lA PV.str kB a.w.bs) (.row (some 6) (a.w.runs.map RanQ.pv) 0) (.row none (a.ref.map RG) 0) (.row none (a.why.map eI) 0) (qbx h steps tries a.w.runs.length a.ref.length a.why.length) l
section
variable {α:Type}
def dD (f:α->α)(l:List α)(k:Nat):List α:=(l.take k).map f++l.drop k
theorem zc2 (f:α->α)(l:List α):dD f l 0=l:=by simp [dD]
theorem z51 (f:α->α)(l:List α)(k:Nat):(dD f l k).length=l.length:=by simp [dD];omega
theorem zc3 (f:α->α)(l:List α):dD f l l.length=l.map f:=by
 unfold dD;rw[List.take_length,List.drop_length,List.append_nil]
theorem z50 {f:α->α}{l:List α}{k:Nat}(hk:k<l.length):(dD f l k)[k]?=some l[k]:=by
 unfold dD;rw[List.getElem?_append_right (by simp;omega)]
 have:k-((l.take k).map f).length=0:=by simp;omega
 rw[this,List.getElem?_drop];simp [hk]
theorem z52 {f:α->α}{l:List α}{k:Nat}(hk:k<l.length):dD f l (k+1)=(dD f l k).set k (f l[k]):=by
 unfold dD;rw[List.take_succ_eq_append_getElem hk,List.map_append,List.set_append_right _ _ (by simp;omega)]
 have:k-((l.take k).map f).length=0:=by simp;omega
 rw[this,List.drop_eq_getElem_cons (i:=k) hk,List.append_assoc];rfl
theorem zc4 {f:α->α}{l:List α}{k:Nat}(hk:k<l.length)(e:f l[k]=l[k]):dD f l (k+1)=dD f l k:=by
 rw[z52 hk,e];apply List.ext_getElem?
 intro i;rw[List.getElem?_set];split
 ·rename_i hi;subst hi
  rw[z51,if_pos hk,z50 hk]
 ·rfl
end
def YE (board:Nm)(at_:Int)(ps:Bool)(r:RanQ):RanQ:=if r.board=board/\r.til<0 then { r with til:=at_,pass:=ps } else r
def kF (board:Nm)(at_:Int)(r:RanQ):RanQ:=if r.board=board/\r.til<0 then { r with til:=at_,board:=[] } else r
theorem zsX (fb:Obj)(steps:List Nm)(tries:Int)(a:AllQ)(l:aA)(hr:a.w.runs.length<=1000000)(board:Nm)(at_:Int)(ps:Bool) :
 gA X pQ [.ref (h.length+5) 0,AS board,AI at_,AB ps] (QS h fb steps tries a l) K=K (.tup []) (QS h fb steps tries { a with w:={ a.w with runs:=tE a.w.runs board at_ ps } } l) []:=by
 refine sA ?_;rw[zhu rfl];obtain⟨⟨bs,runs⟩,ref,why⟩:=a;dsimp only at hr ⊢;unfold QS;dsimp only;simp only[EU,go_sem];refine DA (λk:Nat=>⟨[(0,.ref (h.length+5) 0),(1,AS board),(2,AI at_),(3,AB ps),(13,AI runs.length),(14,AI k)],
  QH h fb (lA PV.str kB bs) (.row (some 6) ((dD (YE board at_ ps) runs k).map RanQ.pv) 0) (.row none (ref.map RG) 0) (.row none (why.map eI) 0) (qbx h steps tries runs.length ref.length why.length) l,[]⟩) (λk=>k<=runs.length) (λk=>runs.length-k) 0 (by rw[zc2];rfl) (by omega) ?_
 intro k hk;rcases Nat.lt_or_ge k runs.length with hlt|hge
 ·have w1:IntKind.i64.wrap ((k:Int)+1)=((k+1:Nat):Int):=rA _ (by omega) (by omega)
  have hl:=z51 (YE board at_ ps) runs k
  have hg:((dD (YE board at_ ps) runs k).map RanQ.pv)[k]?=some (RanQ.pv runs[k]):=by rw[List.getElem?_map,z50 hlt];rfl
  have hs1:=z52 (f:=YE board at_ ps) hlt
  have hs2:=λe=>zc4 (f:=YE board at_ ps) hlt e
  have hl2:((dD (YE board at_ ps) runs k).map RanQ.pv).length=runs.length:=by rw[List.length_map,hl]
  generalize runs[k]=r at *;have c0:NA none 0 (RanQ.pv r)=some (.str r.board):=rfl
  have c4:NA none 4 (RanQ.pv r)=some (eI r.til):=rfl
  by_cases h1:r.board=board
  ·by_cases h2:r.til<0
   ·have e1:YE board at_ ps r=⟨r.board,r.site,r.step,r.frm,at_,ps⟩:=by unfold YE;rw[if_pos ⟨h1,h2⟩]
    rw[e1]at hs1;have fp:RanQ.pv r = .agg [.str r.board,.str r.site,.str r.step,eI r.frm,eI r.til,.bool r.pass]:=rfl
    rw[fp]at hg c0 c4;have g2:∀v:PV,(((dD (YE board at_ ps) runs k).map RanQ.pv).set k v)[k]?=some v:=λv=>by rw[List.getElem?_set];simp [hl2,hlt]
    simp only[go_sem,hlt,hl,hl2,hg,g2,c0,c4,h1,h2,w1,splice,List.set_set,List.length_set];refine⟨k+1,?_,by omega,by omega⟩
    rw[hs1,List.map_set,<-h1];rfl
   ·have e1:YE board at_ ps r=r:=by unfold YE;rw[if_neg (by intro z;exact h2 z.2)]
    simp only[go_sem,hlt,hl,hl2,hg,c0,c4,h1,h2,w1];exact⟨k+1,by rw[hs2 e1],by omega,by omega⟩
  ·have e1:YE board at_ ps r=r:=by unfold YE;rw[if_neg (by intro z;exact h1 z.1)]
   simp only[go_sem,hlt,hl,hl2,hg,c0,c4,h1,w1];exact⟨k+1,by rw[hs2 e1],by omega,by omega⟩
 ·have ek:k=runs.length:=by omega
  subst ek;have cl:(tE runs board at_ ps).length=runs.length:=by simp [tE]
  have ca:dD (YE board at_ ps) runs runs.length=tE runs board at_ ps:=zc3 _ _
  simp only[go_sem,Nat.lt_irrefl,ca,cl];exact List.take_of_length_le (by rw[CZ];exact Nat.le_refl _)
theorem ztn (fb:Obj)(steps:List Nm)(tries:Int)(a:AllQ)(l:aA)(hr:a.w.runs.length<=1000000)(x:Ent) :
 gA X rQ [.ref (h.length+5) 0,.p x.pv] (QS h fb steps tries a l) K=K (.tup []) (QS h fb steps tries { a with w:={ a.w with runs:=EE a.w.runs x.board x.time } } l) []:=by
 refine sA ?_;rw[zhx rfl];obtain⟨⟨bs,runs⟩,ref,why⟩:=a;obtain⟨x1,x2,x3,x4,x5,x6,x7,x8⟩:=x;dsimp only at hr ⊢;unfold QS;dsimp only;have gt:=λ(o0 o1 o2 o3 o4 o5:Obj) (b:Obj)=>zS (h:=h) (o0:=o0) (o1:=o1) (o2:=o2) (o3:=o3) (o4:=o4) (o5:=o5) (l:=l++[b]) l.length
 simp only[List.getElem?_append_right (Nat.le_refl l.length),Nat.sub_self,List.getElem?_cons_zero]at gt;have tk:=λ(o0 o1 o2 o3 o4 o5:Obj) (b:aA)=>BS (h:=h) (o0:=o0) (o1:=o1) (o2:=o2) (o3:=o3) (o4:=o4) (o5:=o5) (l:=l++b) l.length
 simp only[List.take_left]at tk;simp only[HU,go_sem,Ent.pv];refine DA (λk:Nat=>⟨[(0,.ref (h.length+5) 0),(3,.ref (h.length+(6+l.length)) 0),(9,AI runs.length),(10,AI k)],
  QH h fb (lA PV.str kB bs) (.row (some 6) ((dD (kF x5 x3) runs k).map RanQ.pv) 0) (.row none (ref.map RG) 0) (.row none (why.map eI) 0) (qbx h steps tries runs.length ref.length why.length) (l++[.box [AS x1,AI x2,AI x3,AI x4,AS x5,AS x6,AS x7,AI x8]]),[]⟩) (λk=>k<=runs.length) (λk=>runs.length-k) 0 (by rw[zc2];rfl) (by omega) ?_
 intro k hk;rcases Nat.lt_or_ge k runs.length with hlt|hge
 ·have w1:IntKind.i64.wrap ((k:Int)+1)=((k+1:Nat):Int):=rA _ (by omega) (by omega)
  have hl:=z51 (kF x5 x3) runs k
  have hg:((dD (kF x5 x3) runs k).map RanQ.pv)[k]?=some (RanQ.pv runs[k]):=by rw[List.getElem?_map,z50 hlt];rfl
  have hs1:=z52 (f:=kF x5 x3) hlt
  have hs2:=λe=>zc4 (f:=kF x5 x3) hlt e
  have hl2:((dD (kF x5 x3) runs k).map RanQ.pv).length=runs.length:=by rw[List.length_map,hl]
  generalize runs[k]=r at *;have c0:NA none 0 (RanQ.pv r)=some (.str r.board):=rfl
  have c4:NA none 4 (RanQ.pv r)=some (eI r.til):=rfl
  by_cases h1:r.board=x5
  ·by_cases h2:r.til<0
   ·have e1:kF x5 x3 r=⟨[],r.site,r.step,r.frm,x3,r.pass⟩:=by unfold kF;rw[if_pos ⟨h1,h2⟩]
    rw[e1]at hs1;have fp:RanQ.pv r = .agg [.str r.board,.str r.site,.str r.step,eI r.frm,eI r.til,.bool r.pass]:=rfl
    rw[fp]at hg c0 c4;have g2:∀v:PV,(((dD (kF x5 x3) runs k).map RanQ.pv).set k v)[k]?=some v:=λv=>by rw[List.getElem?_set];simp [hl2,hlt]
    simp only[go_sem,hlt,hl,hl2,hg,g2,c0,c4,h1,h2,w1,gt,splice,List.set_set,List.length_set];refine⟨k+1,?_,by omega,by omega⟩
    rw[hs1,List.map_set];rfl
   ·have e1:kF x5 x3 r=r:=by unfold kF;rw[if_neg (by intro z;exact h2 z.2)]
    simp only[go_sem,hlt,hl,hl2,hg,c0,c4,h1,h2,w1,gt];exact⟨k+1,by rw[hs2 e1],by omega,by omega⟩
  ·have e1:kF x5 x3 r=r:=by unfold kF;rw[if_neg (by intro z;exact h1 z.1)]
   simp only[go_sem,hlt,hl,hl2,hg,c0,c4,h1,w1,gt];exact⟨k+1,by rw[hs2 e1],by omega,by omega⟩
 ·have ek:k=runs.length:=by omega
  subst ek;have cl:(EE runs x5 x3).length=runs.length:=by simp [EE]
  have ca:dD (kF x5 x3) runs runs.length=EE runs x5 x3:=zc3 _ _
  simp only[go_sem,Nat.lt_irrefl,ca,cl,tk];first|done|trace_state
end
section
variable {h:aA} {K:jA}
def QL (h:aA)(o0 o1 o2 o3 o4 o5:Obj)(l r:aA):aA:=QH h o0 o1 o2 o3 o4 o5 (l++r)
section
variable {o0 o1 o2 o3 o4 o5 o:Obj} {l r l2:aA}
theorem BG:(QL h o0 o1 o2 o3 o4 o5 l r).length=h.length+(6+(l.length+r.length)):=by unfold QL;rw[CZ,List.length_append]
theorem mE:QL h o0 o1 o2 o3 o4 o5 l r++l2=QL h o0 o1 o2 o3 o4 o5 l (r++l2):=by unfold QL;rw[z9c,List.append_assoc]
theorem RC:(QL h o0 o1 o2 o3 o4 o5 l r)[h.length+1]?=some o1:=xI 1
theorem rF:(QL h o0 o1 o2 o3 o4 o5 l r)[h.length+2]?=some o2:=xI 2
theorem tF:(QL h o0 o1 o2 o3 o4 o5 l r)[h.length+3]?=some o3:=xI 3
theorem uF:(QL h o0 o1 o2 o3 o4 o5 l r)[h.length+4]?=some o4:=xI 4
theorem OE:(QL h o0 o1 o2 o3 o4 o5 l r)[h.length+5]?=some o5:=xI 5
theorem PE:(QL h o0 o1 o2 o3 o4 o5 l r).set (h.length+1) o=QL h o0 o o2 o3 o4 o5 l r:=yJ 1
theorem vF:(QL h o0 o1 o2 o3 o4 o5 l r).set (h.length+2) o=QL h o0 o1 o o3 o4 o5 l r:=yJ 2
theorem wF:(QL h o0 o1 o2 o3 o4 o5 l r).set (h.length+3) o=QL h o0 o1 o2 o o4 o5 l r:=yJ 3
theorem xF:(QL h o0 o1 o2 o3 o4 o5 l r).set (h.length+4) o=QL h o0 o1 o2 o3 o o5 l r:=yJ 4
theorem yF:(QL h o0 o1 o2 o3 o4 o5 l r).set (h.length+5) o=QL h o0 o1 o2 o3 o4 o l r:=yJ 5
theorem EZ (n:Nat):(QL h o0 o1 o2 o3 o4 o5 l r)[h.length+(6+(l.length+n))]?=r[n]?:=by
 unfold QL;rw[zS,List.getElem?_append_right (by omega)];congr 1;omega
theorem GZ (n:Nat):(QL h o0 o1 o2 o3 o4 o5 l r).set (h.length+(6+(l.length+n))) o=QL h o0 o1 o2 o3 o4 o5 l (r.set n o):=by
 unfold QL;rw[DZ,List.set_append_right _ _ (by omega)];congr 2;congr 1;omega
theorem IZ (n:Nat):(QL h o0 o1 o2 o3 o4 o5 l r).take (h.length+(6+(l.length+n)))=QL h o0 o1 o2 o3 o4 o5 l (r.take n):=by
 unfold QL;rw[BS,List.take_append,List.take_of_length_le (by omega)];congr 2;congr 1;omega
theorem GH:(QL h o0 o1 o2 o3 o4 o5 l r)[h.length+(6+l.length)]?=r[0]?:=EZ 0
theorem yI:(QL h o0 o1 o2 o3 o4 o5 l r)[h.length+(6+(l.length+1))]?=r[1]?:=EZ 1
theorem lL:(QL h o0 o1 o2 o3 o4 o5 l r)[h.length+(6+(l.length+2))]?=r[2]?:=EZ 2
theorem HH:(QL h o0 o1 o2 o3 o4 o5 l r).set (h.length+(6+l.length)) o=QL h o0 o1 o2 o3 o4 o5 l (r.set 0 o):=GZ 0
theorem zI:(QL h o0 o1 o2 o3 o4 o5 l r).set (h.length+(6+(l.length+1))) o=QL h o0 o1 o2 o3 o4 o5 l (r.set 1 o):=GZ 1
theorem jL:(QL h o0 o1 o2 o3 o4 o5 l r).take (h.length+(6+l.length))=QL h o0 o1 o2 o3 o4 o5 l []:=IZ 0
theorem zJ:(QL h o0 o1 o2 o3 o4 o5 l r).take (h.length+(6+(l.length+1)))=QL h o0 o1 o2 o3 o4 o5 l (r.take 1):=IZ 1
theorem kL:(QL h o0 o1 o2 o3 o4 o5 l r).take (h.length+(6+(l.length+2)))=QL h o0 o1 o2 o3 o4 o5 l (r.take 2):=IZ 2
end
attribute [-go_sem] TA UA ZA CB ZB WB splice
attribute [local go_sem] List.getElem?_cons_zero List.getElem?_cons_succ List.set_cons_zero List.set_cons_succ
attribute [local go_sem] BG mE RC rF tF uF OE PE vF wF xF yF GH yI lL HH zI jL zJ kL
theorem zsS (fb o1 o2 o3 o4:Obj)(a b c:Nat)(steps:List Nm)(tries:Int)(hst:steps.length<=1000)(l r:aA)(s:Sta)(hs:s.step∈steps)(hf:0<=s.failed/\s.failed<=1000000)(at_:Int)(ps:Bool) :
 gA X oQ [.ref (h.length+5) 0,.p s.pv,AI at_,AB ps] (QL h fb o1 o2 o3 o4 (qbx h steps tries a b c) l r) K=K (.p (OC steps tries s at_ ps).pv) (QL h fb o1 o2 o3 o4 (qbx h steps tries a b c) l r) []:=by
 refine sA ?_;rw[zhs rfl];have ol:∀r2:aA,QL h fb o1 o2 o3 o4 (qbx h steps tries a b c) l (r++r2)=QL h fb o1 o2 o3 o4 (qbx h steps tries a b c) (l++r) r2:=λr2=>by unfold QL;rw[List.append_assoc]
 have e0:=ol []
 rw[List.append_nil]at e0;rw[e0];generalize l++r=l at *;obtain⟨s1,s2,s3,s4,s5⟩:=s;dsimp only at hs hf;obtain⟨j,hj⟩:∃j,steps.findIdx (λy=>decide (y=s3))=j:=⟨_,rfl⟩
 have jl:j<steps.length:=by rw[<-hj];exact List.findIdx_lt_length_of_exists ⟨s3,hs,by simp⟩
 have q:=λh K=>AZ (h:=h) (K:=K) steps (eP _) s3 (by omega)
 rw[hj,if_pos jl]at q;have w1:IntKind.i64.wrap ((j:Int)+1)=((j+1:Nat):Int):=rA _ (by omega) (by omega)
 have w5:IntKind.i64.wrap (s5+1)=s5+1:=rA _ (by omega) (by omega)
 unfold OC;rw[hj];cases ps with
 | true=>
  rw[if_pos rfl];by_cases hl:j+1=steps.length
  ·rw[if_pos hl]
   have hl':((j+1:Nat):Int)=(steps.length:Int):=by omega
   simp only[SJ,Sta.pv,go_sem,splice,↓q,q,w1,eq_true hl'];first|done|trace_state
  ·rw[if_neg hl]
   have hl':¬((j+1:Nat):Int)=(steps.length:Int):=by omega
   have hlt:j+1<steps.length:=by omega
   have gs:=sB PV.str hlt
   have cw:∀v:List UInt8,NA none 0 (PV.str v)=some (PV.str v):=λ_=>rfl
   have gd:(steps[j+1]?).getD []=steps[j+1]:=by rw[List.getElem?_eq_getElem hlt];rfl
   rw[gd];simp only[SJ,Sta.pv,go_sem,splice,↓q,q,w1,hl',gs,cw,hlt];first|done|trace_state
 | false=>
  rw[if_neg (by simp)]
  by_cases ht:s5+1=tries
  ·rw[if_pos ht]
   simp only[SJ,Sta.pv,go_sem,splice,w5,eq_true ht];first|done|trace_state
  ·rw[if_neg ht]
   simp only[SJ,Sta.pv,go_sem,splice,w5,ht];first|done|trace_state
def CC (s:Nm)(e:Nm × Sta):Bool:=decide (e.2.state=2)&&decide (e.2.site=s)
def SG (bs:List (Nm × Sta))(s:Nm):Nm:=((bs.find? (CC s)).map (·.1)).getD []
theorem zdu {bs:List (Nm × Sta)}{s:Nm}(hu:∀ e∈bs,∀ f∈bs,CC s e=true->CC s f=true->e.1=f.1){e:Nm × Sta}(he:e∈bs)(hr:CC s e=true):SG bs s=e.1:=by
 unfold SG;cases hf:bs.find? (CC s) with
 | none=>rw[List.find?_eq_none]at hf;exact absurd hr (hf e he)
 | some f=>
  have h1:=List.mem_of_find?_eq_some hf
  have h2:CC s f=true:=List.find?_some hf
  exact hu f h1 e he h2 hr
theorem zst {bs:List (Nm × Sta)}{s:Nm}(h:∀ e∈bs,CC s e=false):SG bs s=[]:=by
 unfold SG;rw[List.find?_eq_none.2 λe he=>by rw[h e he];simp]
 rfl
theorem ztl (fb o2 o3 o4 o5:Obj)(bs:List (Nm × Sta))(steps:List Nm)(tries:Int)(a b c:Nat)(l r:aA)(s:Nm)(hu:∀ e∈bs,∀ f∈bs,CC s e=true->CC s f=true->e.1=f.1) :
 gA X qQ [.ref (h.length+5) 0,AS s] (QL h fb (lA PV.str kB bs) o2 o3 o4 (qbx h steps tries a b c) l r) K=K (AS (SG bs s)) (QL h fb (lA PV.str kB bs) o2 o3 o4 (qbx h steps tries a b c) l r) []:=by
 refine sA ?_;rw[zhw rfl];have ol:∀r2:aA,QL h fb (lA PV.str kB bs) o2 o3 o4 (qbx h steps tries a b c) l (r++r2)=QL h fb (lA PV.str kB bs) o2 o3 o4 (qbx h steps tries a b c) (l++r) r2:=λr2=>by unfold QL;rw[List.append_assoc]
 have e0:=ol []
 rw[List.append_nil]at e0;rw[e0];generalize l++r=l at *;simp only[GU];refine⟨_,_,_,⟨rfl,rfl,rfl⟩,?_⟩;have mr:=RM (h:=QL h fb (lA PV.str kB bs) o2 o3 o4 (qbx h steps tries a b c) l []) (id:=h.length+1) (key:=PV.str) (val:=kB) (l:=bs) RC
 rw[BG,mE]at mr;simp only[List.length_nil,Nat.add_zero]at mr;simp only[go_sem,mr];refine DA (λt:List Nat×Option Nm=>⟨match t.2 with
  | none=>[(1,AS s),(11,.it (h.length+(6+l.length)))]
  | some nm=>[(1,AS s),(5,AS nm),(11,.it (h.length+(6+l.length))),(25,AB false)],
  QL h fb (lA PV.str kB bs) o2 o3 o4 (qbx h steps tries a b c) l [.iter (some (h.length+1)) bs.length t.1 bs.length],[]⟩)
  (λt=>t.1.Nodup/\(∀i∈t.1,i<bs.length)/\∀i (hi:i<bs.length),i∈t.1->CC s bs[i]=false) (λt=>bs.length-t.1.length) ([],none) rfl ⟨List.nodup_nil,by simp,by simp⟩ ?_
 rintro⟨seen,on⟩ ⟨hd,hb,hn⟩
 dsimp only at hd hb hn;have f0:h.length+(6+l.length)+1<=h.length+(6+(l.length+1)):=by omega
 rcases on with _|nm
 all_goals
  simp only[go_sem];refine JK (key:=PV.str) (val:=kB) (l:=bs) (m:=h.length+1) (seen:=seen) (by rw[GH];rfl) RC ?_ ?_
  ·intro hall
   have hk:SG bs s=[]:=zst λe he=>by
    obtain⟨i,hi,rfl⟩:=List.mem_iff_getElem.1 he;exact hn i hi (hall i hi)
   rw[hk];simp only[go_sem,HH]
  ·intro i hi hni
   have hnn:(seen++[i]).Nodup:=by rw[List.nodup_append];exact⟨hd,by simp,λa ha b hb=>by rw[List.mem_singleton]at hb;subst hb;intro e;subst e;exact hni ha⟩
   have hbb:∀x∈seen++[i],x<bs.length:=λx hx=>by
    rcases List.mem_append.1 hx with hx|hx
    ·exact hb x hx
    ·rw[List.mem_singleton]at hx;rw[hx];exact hi
   have hlen:seen.length<bs.length:=by
    have h2:=hnn.length_le_of_subset (l₂:=List.range bs.length) (λx hx=>by rw[List.mem_range];exact hbb x hx)
    simp at h2;omega
   have me:=GK (h:=QL h fb (lA PV.str kB bs) o2 o3 o4 (qbx h steps tries a b c) l [.iter (some (h.length+1)) bs.length (seen++[i]) bs.length]) (j:=h.length+(6+l.length)) (m:=h.length+1) (key:=PV.str) (val:=kB) (l:=bs) (seen:=seen) (i:=i) (by rw[GH];rfl) RC (by omega)
   have hm:bs[i]∈bs:=List.getElem_mem hi
   have hnx:CC s bs[i]=false->∀k (hk:k<bs.length),k∈seen++[i]->CC s bs[k]=false:=λe k hk hx=>by
    rcases List.mem_append.1 hx with hx|hx
    ·exact hn k hk hx
    ·rw[List.mem_singleton]at hx;subst hx;exact e
   rw[HH,List.set_cons_zero];generalize bs[i]=e at *;obtain⟨ek,e1,e2,e3,e4,e5⟩:=e;have sv:kB ⟨e1,e2,e3,e4,e5⟩ = .p (.agg [eI e1,eI e2,.str e3,.str e4,eI e5]):=rfl
   dsimp only at me;rw[sv]at me;by_cases c1:e1=2
   ·by_cases c2:e4=s
    ·have hk:SG bs s=ek:=zdu hu hm (by unfold CC;simp [c1,c2])
     rw[hk];simp only[go_sem,me,splice,eq_true c1,eq_true c2]
    ·simp only[go_sem,me,splice,eq_true c1,c2,f0]
     exact⟨(seen++[i],some ek),rfl,⟨hnn,hbb,hnx (by unfold CC;simp [c2])⟩,by dsimp only;rw[List.length_append];simp;omega⟩
   ·simp only[go_sem,me,splice,c1,f0]
    exact⟨(seen++[i],some ek),rfl,⟨hnn,hbb,hnx (by unfold CC;simp [c1])⟩,by dsimp only;rw[List.length_append];simp;omega⟩
end
section
variable {h:aA} {K:jA}
attribute [-go_sem] TA UA ZA CB ZB WB splice
attribute [local go_sem] List.getElem?_cons_zero List.getElem?_cons_succ List.set_cons_zero List.set_cons_succ
attribute [local go_sem] BG mE RC rF tF uF OE PE vF wF xF yF GH yI lL HH zI jL zJ kL
def bG (steps:List Nm)(tries:Int)(runs:List RanQ)(st:Sta)(x:Ent):Int×Sta×List RanQ:=
 if x.kind=3∨x.kind=4 then(if st.state≠2 then(11,st,runs) else if st.site≠x.site then(13,st,runs)
  else(0,OC steps tries st x.time (decide (x.kind=3)),tE runs x.board x.time (decide (x.kind=3))))
 else if x.kind=5 then(if st.state≠3 then(11,st,runs) else(0,⟨1,x.time,st.step,st.site,st.failed⟩,runs))
 else if st.state=4∨st.state=5 then(11,st,runs)
 else(0,⟨5,x.time,st.step,[],st.failed⟩,EE runs x.board x.time)
theorem DH (fb:Obj)(steps:List Nm)(tries:Int)(a:AllQ)(l r:aA):QS h fb steps tries a (l++r)=QL h fb (lA PV.str kB a.w.bs) (.row (some 6) (a.w.runs.map RanQ.pv) 0) (.row none (a.ref.map RG) 0) (.row none (a.why.map eI) 0) (qbx h steps tries a.w.runs.length a.ref.length a.why.length) l r:=rfl
theorem do_k1 (fb:Obj)(steps:List Nm)(tries:Int)(hst:steps.length<=1000)(bs:List (Nm × Sta))(runs:List RanQ)(ref:List Nat)(why:List Int)(hr:runs.length<=1000000)(l:aA)(st:Sta)(hs:st.state=2->st.step∈steps)(hf:0<=st.failed/\st.failed<=1000000)(x:Ent)(hx:3<=x.kind/\x.kind<=6)(b:Bool)(hb:b=decide (x.kind=3∨x.kind=4))(K:Ex->St->Prop)
 (hE:(bG steps tries runs st x).1≠0->K .ret ⟨[(4,AI (bG steps tries runs st x).1)],QS h fb steps tries ⟨⟨bs,runs⟩,ref,why⟩ (l++[x.bx,st.bx]),[]⟩)
 (hN:(bG steps tries runs st x).1=0->K .normal ⟨[(0,.ref (h.length+5) 0),(3,.ref (h.length+(6+l.length)) 0),(5,.ref (h.length+(6+(l.length+1))) 0)],QS h fb steps tries ⟨⟨bs,(bG steps tries runs st x).2.2⟩,ref,why⟩ (l++[x.bx,(bG steps tries runs st x).2.1.bx]),[]⟩) :
 NW (gA X) X.gl BR ⟨[(0,.ref (h.length+5) 0),(3,.ref (h.length+(6+l.length)) 0),(5,.ref (h.length+(6+(l.length+1))) 0),(52,AI x.kind),(96,AB b)],QS h fb steps tries ⟨⟨bs,runs⟩,ref,why⟩ (l++[x.bx,st.bx]),[]⟩ K:=by
 rw[z4A];have EN:=λ(l:aA) ps K=>zsX (h:=h) (K:=K) fb steps tries ⟨⟨bs,runs⟩,ref,why⟩ l hr x.board x.time ps
 have SC:=λ(l:aA) K=>ztn (h:=h) (K:=K) fb steps tries ⟨⟨bs,runs⟩,ref,why⟩ l hr x
 have AF:=λ(o1 o2 o3 o4:Obj) (a b c:Nat) (r:aA) hs ps K=>zsS (h:=h) (K:=K) fb o1 o2 o3 o4 a b c steps tries hst l r st hs hf x.time ps
 obtain⟨s1,s2,s3,s4,s5⟩:=st;obtain⟨site,no,time,kind,board,step,of,other⟩:=x;have en:=λr ps K=>EN (l++r) ps K
 have sc:=λr K=>SC (l++r) K
 simp only[DH]at hE hN en sc ⊢;clear EN SC;unfold bG at hE hN;simp only[Ent.bx,Sta.bx,Ent.pv,Sta.pv]at hE hN en sc AF hs hf hx hb ⊢;have cl:∀b,(tE runs board time b).length=runs.length:=λb=>by simp [tE]
 have sl:(EE runs board time).length=runs.length:=by simp [EE]
 simp only[cl,sl]at en sc;by_cases k34:kind=3∨kind=4
 ·rw[if_pos k34]at hE hN
  rw[decide_eq_true k34]at hb;subst hb;by_cases c1:s1=2
  ·subst c1
   rw[if_neg (by simp)]at hE hN
   by_cases c2:s4=site
   ·subst c2
    rw[if_neg (by simp)]at hE hN
    have af:=λ(o1 o2 o3 o4:Obj) (a b c:Nat) (r:aA) ps K=>AF o1 o2 o3 o4 a b c r (hs rfl) ps K
    have h2:=hN rfl
    dsimp only at h2;simp only[cl]at h2;rcases k34 with e|e
    ·subst e
     simp only[decide_true]at h2;simp only[ZF,go_sem,splice,↓en,en,↓af,af];first|exact h2|trace_state
    ·subst e
     have d4:decide ((4:Int)=3)=false:=by decide
     simp only[d4]at h2;simp only[ZF,go_sem,splice,↓en,en,↓af,af];first|exact h2|trace_state
   ·rw[if_pos c2]at hE
    have h1:=hE (by dsimp only;decide)
    simp only[ZF,go_sem,c2];first|exact h1|trace_state
  ·rw[if_pos c1]at hE
   have h1:=hE (by dsimp only;decide)
   simp only[ZF,go_sem,c1];first|exact h1|trace_state
 ·rw[if_neg k34]at hE hN
  rw[decide_eq_false k34]at hb;subst hb;by_cases k5:kind=5
  ·subst k5
   rw[if_pos rfl]at hE hN;by_cases c1:s1=3
   ·subst c1
    rw[if_neg (by simp)]at hE hN
    have h2:=hN rfl
    simp only[ZF,go_sem,splice];first|exact h2|trace_state
   ·rw[if_pos c1]at hE
    have h1:=hE (by dsimp only;decide)
    simp only[ZF,go_sem,c1];first|exact h1|trace_state
  ·rw[if_neg k5]at hE hN
   have k6:kind=6:=by omega
   subst k6;by_cases c1:s1=4
   ·subst c1
    rw[if_pos (.inl rfl)]at hE;have h1:=hE (by dsimp only;decide)
    simp only[ZF,go_sem];first|exact h1|trace_state
   ·by_cases c2:s1=5
    ·subst c2
     rw[if_pos (.inr rfl)]at hE;have h1:=hE (by dsimp only;decide)
     simp only[ZF,go_sem];first|exact h1|trace_state
    ·rw[if_neg (by simp [c1,c2])]at hE hN
     have h2:=hN rfl
     simp only[sl]at h2;simp only[ZF,go_sem,splice,c1,c2,↓sc,sc];first|exact h2|trace_state
end
section
variable {h:aA} {K:jA}
attribute [-go_sem] TA UA ZA CB ZB WB splice z4A
attribute [local go_sem] List.getElem?_cons_zero List.getElem?_cons_succ List.set_cons_zero List.set_cons_succ
attribute [local go_sem] BG mE RC rF tF uF OE PE vF wF xF yF GH yI lL HH zI jL zJ kL
structure QOk (steps:List Nm) (w:FlQ) (n:Nat):Prop where
 st:∀e∈w.bs,(e.2.state=1∨e.2.state=2∨e.2.state=3)->e.2.step∈steps
 fl:∀e∈w.bs,0<=e.2.failed/\e.2.failed<=n
 nd:(QB w.bs).Nodup
 ne:[]∉QB w.bs
 un:∀s,∀e∈w.bs,∀f∈w.bs,CC s e=true->CC s f=true->e.1=f.1
 rl:w.runs.length<=n
theorem qOk0 (steps:List Nm):QOk steps ⟨[],[]⟩ 0:=⟨λe he=>(by cases he),λe he=>(by cases he),List.nodup_nil,by simp [QB],λs e he=>(by cases he),Nat.le_refl _⟩
theorem QOk.up {steps:List Nm}{w:FlQ}{n:Nat}(Q:QOk steps w n):QOk steps w (n+1):=⟨Q.st,λe he=>by have:=Q.fl e he;omega,Q.nd,Q.ne,Q.un,by have:=Q.rl;omega⟩
theorem PM {β:Type}{m:List (Nm × β)}{k:Nm}{v:β}{e:Nm × β}(h:e∈JA m k v):e=(k,v)∨(e∈m/\e.1≠k):=by
 unfold JA at h;split at h
 ·obtain⟨f,hf,e1⟩:=List.mem_map.1 h
  by_cases c:f.1=k
  ·rw[if_pos c]at e1;exact .inl e1.symm
  ·rw[if_neg c]at e1;subst e1;exact .inr ⟨hf,c⟩
 ·rename_i hn
  rcases List.mem_append.1 h with h|h
  ·refine .inr ⟨h,λc=>hn ?_⟩
   rw[List.any_eq_true];exact⟨e,h,by simp [c]⟩
  ·exact .inl (List.mem_singleton.1 h)
theorem z5d {β:Type}:∀{m:List (Nm×β)},(QB m).Nodup->∀{e:Nm×β},e∈m->mA m e.1=some e.2
 | [],_,e,h=>by cases h
 | y::r,hu,e,h=>by
  unfold QB at hu;rw[List.map_cons,List.nodup_cons]at hu;rw[gG];rcases List.mem_cons.1 h with h|h
  ·rw[h,if_pos rfl]
  ·have:¬y.1=e.1:=λq=>hu.1 (by rw[q];exact List.mem_map_of_mem h)
   rw[if_neg this];exact z5d hu.2 h
theorem zss {steps:List Nm}{w:FlQ}{n:Nat}(Q:QOk steps w n)(s:Nm):SG w.bs s≠[]↔GJ w.bs s:=by
 constructor
 ·intro h
  unfold SG at h;cases hf:w.bs.find? (CC s) with
  | none=>rw[hf]at h;exact absurd rfl h
  | some f=>
   have h1:=List.mem_of_find?_eq_some hf
   have h2:CC s f=true:=List.find?_some hf
   unfold CC at h2;rw[Bool.and_eq_true,decide_eq_true_eq,decide_eq_true_eq]at h2;exact⟨f.1,f.2,z5d Q.nd h1,h2.1,h2.2⟩
 ·rintro⟨b,st,h1,h2,h3⟩
  have hm:=ZI h1
  rw[zdu (Q.un s) hm (by unfold CC;simp [h2,h3])]
  intro e;have e':b=[]:=e
  subst e';exact Q.ne (List.mem_map_of_mem (f:=λe:Nm×Sta=>e.1) hm)
theorem QOk.put {steps:List Nm}{w:FlQ}{n:Nat}(Q:QOk steps w n){k:Nm}{v:Sta}{runs:List RanQ}(hk:k≠[])(h1:(v.state=1∨v.state=2∨v.state=3)->v.step∈steps)(h2:0<=v.failed/\v.failed<=n+1)(h3:v.state=2->∀ f∈w.bs,f.1≠k->CC v.site f=false)(hr:runs.length<=n+1):QOk steps ⟨JA w.bs k v,runs⟩ (n+1) where
 st e he:=by
  rcases PM he with rfl|⟨he,_⟩
  ·exact h1
  ·exact Q.st e he
 fl e he:=by
  rcases PM he with rfl|⟨he,_⟩
  ·exact⟨h2.1,by have:=h2.2;dsimp only;omega⟩
  ·have:=Q.fl e he;omega
 nd:=zrR Q.nd k v
 ne:=by
  dsimp only;rw[zdk];split
  ·exact Q.ne
  ·rw[List.mem_append,List.mem_singleton]
   rintro (h|h)
   ·exact Q.ne h
   ·exact hk h.symm
 un s e he f hf r1 r2:=by
  have key:∀g:Nm×Sta,g∈w.bs->g.1≠k->CC s (k,v)=true->CC s g=true->False:=λg hg gk q1 q2=>by
   unfold CC at q1;rw[Bool.and_eq_true,decide_eq_true_eq,decide_eq_true_eq]at q1;have:=h3 q1.1 g hg gk;rw[q1.2,q2]at this;cases this
  rcases PM he with rfl|⟨he,ek⟩
  ·rcases PM hf with rfl|⟨hf,fk⟩
   ·rfl
   ·exact(key f hf fk r1 r2).elim
  ·rcases PM hf with rfl|⟨hf,fk⟩
   ·exact(key e he ek r2 r1).elim
   ·exact Q.un s e he f hf r1 r2
 rl:=hr
theorem ziS {steps:List Nm}(tries:Int){w:FlQ}{n:Nat}(Q:QOk steps w n)(h0:steps≠[])(x:Ent)(hb:x.kind≠7->x.board≠[]):QOk steps (doQ steps tries w x).1 (n+1):=by
 have hrl:=Q.rl
 unfold doQ;by_cases k7:x.kind=7
 ·rw[if_pos k7];exact Q.up
 rw[if_neg k7];have hb:=hb k7
 by_cases k1:x.kind=1
 ·rw[if_pos k1]
  cases mA w.bs x.board with
  | some s=>exact Q.up
  | none=>
   refine Q.put hb (λ_=>?_) ⟨(by dsimp only;omega),(by dsimp only;omega)⟩ (λh=>by cases h) (by omega)
   cases steps with
   | nil=>exact absurd rfl h0
   | cons a r=>exact List.mem_cons_self ..
 rw[if_neg k1];cases hg:mA w.bs x.board with
 | none=>exact Q.up
 | some b=>
  have hm:=ZI hg
  have hf:=Q.fl _ hm
  have hs:=Q.st _ hm
  dsimp only at hf hs ⊢;by_cases k2:x.kind=2
  ·rw[if_pos k2]
   split
   ·exact Q.up
   rename_i s1;split
   ·exact Q.up
   split
   ·exact Q.up
   rename_i hn;refine Q.put hb (λ_=>hs (.inl (by simpa using s1))) ⟨hf.1,by dsimp only;omega⟩ (λ_ f hfm fk=>?_) (by simp;omega)
   cases hr:CC x.site f with
   | false=>rfl
   | true=>
    unfold CC at hr;rw[Bool.and_eq_true,decide_eq_true_eq,decide_eq_true_eq]at hr;exact absurd ⟨f.1,f.2,z5d Q.nd hfm,hr.1,hr.2⟩ hn
  rw[if_neg k2];by_cases k3:x.kind=3∨x.kind=4
  ·rw[if_pos k3]
   split
   ·exact Q.up
   rename_i s2;split
   ·exact Q.up
   have s2':b.state=2:=by simpa using s2
   have hst:=hs (.inr (.inl s2'))
   refine Q.put hb ?_ ?_ ?_ (by unfold tE;rw[List.length_map];omega)
   ·unfold OC
    split
    ·split
     ·intro h;dsimp only at h;omega
     ·rename_i hl
      intro _;dsimp only;have jl:steps.findIdx (λy=>decide (y=b.step))<steps.length:=List.findIdx_lt_length_of_exists ⟨b.step,hst,by simp⟩
      have hlt:steps.findIdx (λy=>decide (y=b.step))+1<steps.length:=by omega
      rw[List.getElem?_eq_getElem hlt];exact List.getElem_mem hlt
    ·intro _;exact hst
   ·unfold OC
    split
    ·split <;> exact⟨(by dsimp only;omega),(by dsimp only;omega)⟩
    ·exact⟨(by dsimp only;omega),(by dsimp only;omega)⟩
   ·unfold OC
    split
    ·split <;> (intro h;dsimp only at h;omega)
    ·intro h;dsimp only at h;split at h <;> omega
  rw[if_neg k3];by_cases k5:x.kind=5
  ·rw[if_pos k5]
   split
   ·exact Q.up
   rename_i s3;exact Q.put hb (λ_=>hs (.inr (.inr (by simpa using s3)))) ⟨hf.1,by dsimp only;omega⟩ (λh=>by cases h) (by omega)
  rw[if_neg k5];split
  ·exact Q.up
  ·refine Q.put hb (λh=>by dsimp only at h;omega) ⟨hf.1,by dsimp only;omega⟩ (λh=>by cases h) (by unfold EE;rw[List.length_map];omega)
theorem esc5 (h:aA):∀k n o m,k<5->dC (h.length+5) (.own (h.length+k) n o m)=[]:=λk n o m hk=>by unfold dC;rw[z8o,if_neg (by omega)]
theorem s_do (fb:Obj)(steps:List Nm)(tries:Int)(hst:steps.length<=1000)(h0:steps≠[])(w:FlQ)(ref:List Nat)(why:List Int)(n:Nat)(hn:n<=100000)(Q:QOk steps w n)(l:aA)(x:Ent)(hx:1<=x.kind/\x.kind<=7) :
 gA X lM [.ref (h.length+5) 0,.p x.pv] (QS h fb steps tries ⟨w,ref,why⟩ l) K =
  K (AI (doQ steps tries w x).2) (QS h fb steps tries ⟨(doQ steps tries w x).1,ref,why⟩ l) []:=by
 have e0:∀a,QS h fb steps tries a l=QL h fb (lA PV.str kB a.w.bs) (.row (some 6) (a.w.runs.map RanQ.pv) 0) (.row none (a.ref.map RG) 0) (.row none (a.why.map eI) 0) (qbx h steps tries a.w.runs.length a.ref.length a.why.length) l []:=λa=>by rw[<-DH,List.append_nil]
 rw[e0,e0];clear e0;dsimp only;refine sA ?_;rw[zht rfl];obtain⟨bs,runs⟩:=w;obtain⟨site,no,time,kind,board,step,of,other⟩:=x;have hrl:=Q.rl
 dsimp only at hrl hx;have lk:=λ(o2 o3 o4 o5:Obj) (r:aA)=>qH (h:=QL h fb (lA PV.str kB bs) o2 o3 o4 o5 l r) (id:=h.length+1) (key:=PV.str) (val:=kB) PG RC (kk:=(none,[2])) (k:=board) iF (ok:=true) (z:=AV.p (.agg [.int .i64 0,.int .i64 0,.str [],.str [],.int .i64 0]))
 simp only[cond_true,z5e]at lk;have up:∀(o2 o3 o4 o5:Obj) (r:aA) (a b:Int) (c d:Nm) (e:Int),ZA (none,[2]) (.mp (h.length+1)) (AS board) (.p (.agg [eI a,eI b,.str c,.str d,eI e])) (QL h fb (lA PV.str kB bs) o2 o3 o4 o5 l r)=some (.und,QL h fb (lA PV.str kB (JA bs board ⟨a,b,c,d,e⟩)) o2 o3 o4 o5 l r,[]):=λo2 o3 o4 o5 r a b c d e=>by
  have:=HK (h:=QL h fb (lA PV.str kB bs) o2 o3 o4 o5 l r) (id:=h.length+1) (key:=PV.str) (val:=kB) PG RC (kk:=(none,[2])) (k:=board) iF (v:=⟨a,b,c,d,e⟩) rfl;rw[zeC Q.nd,PE]at this;exact this
 cases hg:mA bs board with
 | none=>
  rw[hg]at lk;simp only[Option.map_none,Option.getD_none,Option.isSome_none]at lk;by_cases k7:kind=7
  ·subst k7
   have e:doQ steps tries ⟨bs,runs⟩ ⟨site,no,time,7,board,step,of,other⟩=(⟨bs,runs⟩,0):=by unfold doQ;rw[if_pos rfl]
   rw[e];simp only[vE,Ent.pv,go_sem,lk,splice]
  ·by_cases k1:kind=1
   ·subst k1
    have e:doQ steps tries ⟨bs,runs⟩ ⟨site,no,time,1,board,step,of,other⟩=(⟨JA bs board ⟨1,time,steps.headD [],[],0⟩,runs⟩,0):=by
     unfold doQ;rw[if_neg (by dsimp only;decide),if_pos rfl]
     dsimp only;rw[hg]
    rw[e];have hs0:(steps.map PV.str)[0]?=some (.str (steps.headD [])):=by
     cases steps with
     | nil=>exact absurd rfl h0
     | cons a r=>rfl
    have hl0:0<steps.length:=by
     cases steps with
     | nil=>exact absurd rfl h0
     | cons a r=>simp
    have cw:∀v:List UInt8,NA none 0 (PV.str v)=some (PV.str v):=λ_=>rfl
    simp only[vE,Ent.pv,go_sem,lk,splice,hs0,hl0,cw,up];first|done|trace_state
   ·have e:doQ steps tries ⟨bs,runs⟩ ⟨site,no,time,kind,board,step,of,other⟩=(⟨bs,runs⟩,8):=by
     unfold doQ;rw[if_neg k7,if_neg k1];dsimp only;rw[hg]
    rw[e];simp only[vE,Ent.pv,go_sem,lk,splice,k7,k1];first|done|trace_state
 | some st=>
  have hm:=ZI hg
  have hf:=Q.fl _ hm
  have hs:=Q.st _ hm
  obtain⟨s1,s2,s3,s4,s5⟩:=st;rw[hg]at lk;have sv:kB ⟨s1,s2,s3,s4,s5⟩ = .p (.agg [eI s1,eI s2,.str s3,.str s4,eI s5]):=rfl
  simp only[Option.map_some,Option.getD_some,Option.isSome_some,sv]at lk;dsimp only at hf hs;by_cases k7:kind=7
  ·subst k7
   have e:doQ steps tries ⟨bs,runs⟩ ⟨site,no,time,7,board,step,of,other⟩=(⟨bs,runs⟩,0):=by unfold doQ;rw[if_pos rfl]
   rw[e];simp only[vE,Ent.pv,go_sem,lk,splice]
  by_cases k1:kind=1
  ·subst k1
   have e:doQ steps tries ⟨bs,runs⟩ ⟨site,no,time,1,board,step,of,other⟩=(⟨bs,runs⟩,6):=by
    unfold doQ;rw[if_neg (by dsimp only;decide),if_pos rfl]
    dsimp only;rw[hg]
   rw[e];simp only[vE,Ent.pv,go_sem,lk,splice];first|done|trace_state
  have dq:doQ steps tries ⟨bs,runs⟩ ⟨site,no,time,kind,board,step,of,other⟩ =
   if kind=2 then(if s1≠1 then(⟨bs,runs⟩,11) else if s3≠step then(⟨bs,runs⟩,3) else if GJ bs site then(⟨bs,runs⟩,12)
    else(⟨JA bs board ⟨2,time,s3,site,s5⟩,runs++[⟨board,site,step,time,-1,false⟩]⟩,0))
   else if kind=3∨kind=4 then(if s1≠2 then(⟨bs,runs⟩,11) else if s4≠site then(⟨bs,runs⟩,13)
    else(⟨JA bs board (OC steps tries ⟨s1,s2,s3,s4,s5⟩ time (decide (kind=3))),tE runs board time (decide (kind=3))⟩,0))
   else if kind=5 then(if s1≠3 then(⟨bs,runs⟩,11) else(⟨JA bs board ⟨1,time,s3,s4,s5⟩,runs⟩,0))
   else if s1=4∨s1=5 then(⟨bs,runs⟩,11)
   else(⟨JA bs board ⟨5,time,s3,[],s5⟩,EE runs board time⟩,0):=by
   unfold doQ;rw[if_neg k7,if_neg k1];dsimp only;rw[hg]
  rw[dq];clear dq;by_cases k2:kind=2
  ·subst k2
   rw[if_pos rfl];by_cases c1:s1=1
   ·subst c1
    rw[if_neg (by simp)]
    by_cases c2:s3=step
    ·subst c2
     rw[if_neg (by simp)]
     have RU:=λ(o2 o3 o4:Obj) (a b c:Nat) (r:aA) K=>ztl (h:=h) (K:=K) fb o2 o3 o4 (.box []) bs steps tries a b c l r site (Q.un site)
     have rb:=zss Q site
     dsimp only at rb;by_cases c3:GJ bs site
     ·rw[if_pos c3]
      have nb:=rb.2 c3
      simp only[vE,Ent.pv,go_sem,lk,splice,↓RU,RU,nb];first|done|trace_state
     ·rw[if_neg c3]
      have nb:SG bs site=[]:=by
       by_cases z:SG bs site=[]
       ·exact z
       ·exact absurd (rb.1 z) c3
      rw[nb]at RU;have em:(runs++[(⟨board,site,s3,time,-1,false⟩:RanQ)]).map RanQ.pv=runs.map RanQ.pv++[.agg [.str board,.str site,.str s3,eI time,.int .i64 (-1),.bool false]]:=by rw[List.map_append];rfl
      have el:(runs++[(⟨board,site,s3,time,-1,false⟩:RanQ)]).length=runs.length+1:=by simp
      dsimp only;rw[em,el];have e5:=λn o m=>esc5 h 2 n o m (by decide)
      have m1:runs.length+1<=bB:=by unfold bB;omega
      have rl:(runs.map RanQ.pv).length=runs.length:=List.length_map ..
      simp only[vE,Ent.pv,go_sem,lk,splice,↓RU,RU,m1,rl,up,e5];first|done|trace_state
    ·rw[if_pos c2]
     simp only[vE,Ent.pv,go_sem,lk,splice,c2];first|done|trace_state
   ·rw[if_pos c1]
    simp only[vE,Ent.pv,go_sem,lk,splice,c1];first|done|trace_state
  ·rw[if_neg k2]
   have hdo:(if kind=3∨kind=4 then(if s1≠2 then((⟨bs,runs⟩:FlQ),(11:Int)) else if s4≠site then(⟨bs,runs⟩,13)
    else(⟨JA bs board (OC steps tries ⟨s1,s2,s3,s4,s5⟩ time (decide (kind=3))),tE runs board time (decide (kind=3))⟩,0))
   else if kind=5 then(if s1≠3 then(⟨bs,runs⟩,11) else(⟨JA bs board ⟨1,time,s3,s4,s5⟩,runs⟩,0))
   else if s1=4∨s1=5 then(⟨bs,runs⟩,11)
   else(⟨JA bs board ⟨5,time,s3,[],s5⟩,EE runs board time⟩,0))=(if(bG steps tries runs ⟨s1,s2,s3,s4,s5⟩ ⟨site,no,time,kind,board,step,of,other⟩).1=0 then((⟨JA bs board (bG steps tries runs ⟨s1,s2,s3,s4,s5⟩ ⟨site,no,time,kind,board,step,of,other⟩).2.1,(bG steps tries runs ⟨s1,s2,s3,s4,s5⟩ ⟨site,no,time,kind,board,step,of,other⟩).2.2⟩:FlQ),(0:Int)) else(⟨bs,runs⟩,(bG steps tries runs ⟨s1,s2,s3,s4,s5⟩ ⟨site,no,time,kind,board,step,of,other⟩).1)):=by
    unfold bG;dsimp only;split
    ·split
     ·rfl
     ·split <;> rfl
    ·split
     ·split <;> rfl
     ·split <;> rfl
   rw[hdo];clear hdo;have dk:=λ(ref:List Nat) (why:List Int) (b:Bool) hb (K:Ex->St->Prop)=>do_k1 (h:=h) fb steps tries hst bs runs ref why (by omega) l ⟨s1,s2,s3,s4,s5⟩ (λe=>hs (.inr (.inl e))) ⟨by dsimp only;omega,by dsimp only;omega⟩ ⟨site,no,time,kind,board,step,of,other⟩ (by dsimp only;omega) b hb K
   dsimp only at dk;generalize bG steps tries runs ⟨s1,s2,s3,s4,s5⟩ ⟨site,no,time,kind,board,step,of,other⟩=R at *;obtain⟨r1,⟨t1,t2,t3,t4,t5⟩,rs⟩:=R;dsimp only at dk ⊢;by_cases k34:kind=3∨kind=4
   ·rcases k34 with e|e
    ·subst e
     simp only[vE,Ent.pv,go_sem,lk,splice];refine dk ref why true (by simp) _ (λhne=>?_) (λhz=>?_)
     ·rw[if_neg hne]
      simp only[go_sem,DH];first|done|trace_state
     ·subst hz
      rw[if_pos rfl];simp only[go_sem,DH,Ent.bx,Sta.bx,splice,up];first|done|trace_state
    ·subst e
     simp only[vE,Ent.pv,go_sem,lk,splice];refine dk ref why true (by simp) _ (λhne=>?_) (λhz=>?_)
     ·rw[if_neg hne]
      simp only[go_sem,DH];first|done|trace_state
     ·subst hz
      rw[if_pos rfl];simp only[go_sem,DH,Ent.bx,Sta.bx,splice,up];first|done|trace_state
   ·have k3:¬kind=3:=λe=>k34 (.inl e)
    have k4:¬kind=4:=λe=>k34 (.inr e)
    simp only[vE,Ent.pv,go_sem,lk,splice,k7,k1,k2,k3,k4];refine dk ref why false (by simp [k3,k4]) _ (λhne=>?_) (λhz=>?_)
    ·rw[if_neg hne]
     simp only[go_sem,DH];first|done|trace_state
    ·subst hz
     rw[if_pos rfl];simp only[go_sem,DH,Ent.bx,Sta.bx,splice,up];first|done|trace_state
end
section
variable {h:aA} {K:jA}
attribute [-go_sem] TA UA ZA CB ZB WB
attribute [local go_sem] BG mE RC rF tF uF OE PE vF wF xF yF GH yI lL HH zI jL zJ kL
theorem CJ (fb:Obj)(steps:List Nm)(tries:Int)(a:AllQ):QS h fb steps tries a []=QL h fb (lA PV.str kB a.w.bs) (.row (some 6) (a.w.runs.map RanQ.pv) 0) (.row none (a.ref.map RG) 0) (.row none (a.why.map eI) 0) (qbx h steps tries a.w.runs.length a.ref.length a.why.length) [] []:=by rw[<-DH];rfl
theorem z9d {o0 o1 o2 o3 o4 o5:Obj}:(QL h o0 o1 o2 o3 o4 o5 [] []).take (h.length+6)=QL h o0 o1 o2 o3 o4 o5 [] []:=List.take_of_length_le (by rw[BG];exact Nat.le_refl _)
structure QAll (steps:List Nm) (a:AllQ) (n:Nat):Prop where
 ok:QOk steps a.w n
 rf:a.ref.length<=n
 wy:a.why.length<=n
theorem zub {steps:List Nm}(tries:Int){a:AllQ}{n:Nat}(Q:QAll steps a n)(h0:steps≠[])(i:Nat)(x:Ent)(hb:x.kind≠7->x.board≠[]):QAll steps (stQ steps tries a i x) (n+1):=by
 have h1:=ziS tries Q.ok h0 x hb
 have h2:=Q.rf
 have h3:=Q.wy
 unfold stQ;split
 ·exact⟨h1,by simp;omega,by simp;omega⟩
 ·exact⟨h1,by dsimp only;omega,by dsimp only;omega⟩
theorem NV (steps:List Nm)(tries:Int)(l:List Ent)(is:List Nat)(i:Nat)(a:AllQ):UC steps tries l (is++[i]) a=stQ steps tries (UC steps tries l is a) i (l.getD i vD):=by
 unfold UC;rw[List.foldl_append];rfl
theorem MQ {steps:List Nm}(tries:Int)(h0:steps≠[]){l:List Ent}(hl:∀ x∈l,EntW x):∀(k:Nat) (is:List Nat),is.length=k->(∀i∈is,i<l.length)->QAll steps (UC steps tries l is XB) k
 | 0,is,hk,_=>by
  rw[List.eq_nil_of_length_eq_zero hk];exact⟨qOk0 steps,Nat.le_refl _,Nat.le_refl _⟩
 | k+1,is,hk,hi=>by
  obtain⟨m,x,rfl⟩:∃m x,is=m++[x]:=⟨is.dropLast,is.getLast (by intro e;rw[e]at hk;cases hk),(List.dropLast_concat_getLast _).symm⟩
  rw[List.length_append,List.length_singleton]at hk;rw[NV];have hx:x<l.length:=hi x (by simp)
  have e:l.getD x vD=l[x]:=by rw[List.getD_eq_getElem?_getD,List.getElem?_eq_getElem hx];rfl
  rw[e];exact zub tries (MQ tries h0 hl k m (by omega) λi hm=>hi i (List.mem_append_left _ hm)) h0 x _ (hl _ (List.getElem_mem hx)).b
theorem ZR (steps:List Nm)(tries:Int)(hst:steps.length<=1000)(h0:steps≠[])(l:List Ent)(hl:l.length<=1000)(hw:∀ x∈l,EntW x)(hs:l.Pairwise λa b=>a.time<=b.time)(at_:Int) :
 gA X HF [gB steps tries,EA l,AI at_] h K=K (.ref (h.length+5) 0) (QS h (flB steps tries) steps tries (yB steps tries (upL l at_)) []) []:=by
 refine sA ?_;rw[zh2 rfl];have CE:=λh K=>zd9 (h:=h) (K:=K) l (by omega) hs at_
 rw[<-z4W];have hix:(PD l at_).length<=l.length:=z5h l at_ l.length
 have hil:∀i∈PD l at_,i<l.length:=λi hi=>Nat.lt_of_lt_of_le (HM hi) (rI l at_)
 generalize PD l at_=is at *;simp only[MU,go_sem,↓CE,CE];refine DA (λk:Nat=>⟨[(1,EA l),(7,.ref (h.length+5) 0),(17,AL (is.map λ(i:Nat)=>(i:Int))),(18,AI is.length),(19,AI k)],QS h (flB steps tries) steps tries (UC steps tries l (is.take k) XB) [],[]⟩) (λk=>k<=is.length) (λk=>is.length-k) 0 rfl (by omega) ?_
 intro k hk;rcases Nat.lt_or_ge k is.length with hlt|hge
 ·have hc:(k:Int)<(is.length:Int):=by omega
  have wk:IntKind.i64.wrap ((k:Int)+1)=((k+1:Nat):Int):=rA _ (by omega) (by omega)
  have hkl:k<(is.map λ(i:Nat)=>(i:Int)).length:=by rw[List.length_map];exact hlt
  have g:((is.map λ(i:Nat)=>(i:Int)).map eI)[k]?=some (eI (is[k]:Int)):=by rw[List.getElem?_map,List.getElem?_map,List.getElem?_eq_getElem hlt];rfl
  have hi:=hil _ (List.getElem_mem hlt)
  have hge:=sB Ent.pv hi
  have cx:=iH (x:=l[is[k]])
  have ew:=hw _ (List.getElem_mem hi)
  have Q:=MQ tries h0 hw k (is.take k) (by rw[List.length_take];omega) λi hm=>hil i (List.mem_of_mem_take hm)
  have et:UC steps tries l (is.take (k+1)) XB=stQ steps tries (UC steps tries l (is.take k) XB) is[k] l[is[k]]:=by
   rw[List.take_succ_eq_append_getElem hlt,NV];congr 1
   rw[List.getD_eq_getElem?_getD,List.getElem?_eq_getElem hi];rfl
  generalize UC steps tries l (is.take k) XB=a at *;generalize l[is[k]]=e at *;generalize is[k]=i at *;obtain⟨w,ref,why⟩:=a;have DO:=λK=>s_do (h:=h) (K:=K) (flB steps tries) steps tries hst h0 w ref why k (by omega) Q.ok [] e ew.k
  have hrf:=Q.rf
  have hwy:=Q.wy
  dsimp only at hrf hwy;have m1:ref.length+1<=bB:=by unfold bB;omega
  have m2:why.length+1<=bB:=by unfold bB;omega
  have l1:(ref.map RG).length=ref.length:=List.length_map ..
  have l2:(why.map eI).length=why.length:=List.length_map ..
  have e5:=λk n o m hk=>esc5 h k n o m hk
  have e53:=λn o m=>esc5 h 3 n o m (by decide)
  have e54:=λn o m=>esc5 h 4 n o m (by decide)
  unfold stQ at et;dsimp only at et;generalize doQ steps tries w e=R at *;obtain⟨w',c⟩:=R;dsimp only at et DO;have qs:=λa=>CJ (h:=h) (flB steps tries) steps tries a
  rw[qs]at DO;simp only[qs];rw[qs]at DO;by_cases hz:c=0
  ·subst hz
   rw[if_neg (by simp)]at et
   simp only[go_sem,hc,hkl,List.length_map,g,hi,hge,cx,↓DO,DO,wk];refine⟨k+1,?_,by omega,by omega⟩
   rw[et,z9d]
  ·rw[if_pos hz]at et
   simp only[go_sem,hc,hkl,List.length_map,g,hi,hge,cx,↓DO,DO,hz,m1,m2,l1,l2,e53,e54,splice,wk];refine⟨k+1,?_,by omega,by omega⟩
   rw[et,z9d];dsimp only;rw[List.map_append,List.map_append,List.length_append,List.length_append];rfl
 ·have ek:k=is.length:=by omega
  subst ek;have c0:¬(is.length:Int)<(is.length:Int):=by omega
  rw[List.take_length];generalize UC steps tries l is XB=a;have hl6:(QS h (flB steps tries) steps tries a []).length=h.length+6:=by rw[CJ,BG];rfl
  have f5:h.length+5+1<=(QS h (flB steps tries) steps tries a []).length:=by rw[hl6];exact Nat.le_refl _
  have r5:∀m H,aB m H (.ref (h.length+5) 0)=some (.ref (h.length+5) 0):=λm H=>by simp [aB]
  have t5:AV.top (.ref (h.length+5) 0)=h.length+6:=by simp [AV.top]
  have m5:max h.length (h.length+6)=h.length+6:=by omega
  have k5:(QS h (flB steps tries) steps tries a []).take (h.length+6)=QS h (flB steps tries) steps tries a []:=List.take_of_length_le (by rw[hl6];exact Nat.le_refl _)
  simp only[go_sem,c0,f5,r5,t5,m5,k5];first|done|trace_state
end
section
attribute [-go_sem] PV.cells splice
variable {h:aA} {K:jA}
theorem zug (id n:Nat)(l tl:List PV)(hn:n=l.length+tl.length)(hs:VD none l)(hl:l.length<=19)(hh:h[id]?=some (.row none (l++tl) 0)){g:Nat}{caps:List AV}{c:PV->PV->Int}(hc:oP g caps c l id h) :
 gA X zQ [.own id n 0 l.length,.fn g caps] h K=K (.tup []) (h.set id (.row none (xB (ltC c) l++tl) 0)) []:=by
 refine sA ?_;rw[zhG];have key:∀K:jA,gA X CQ [.own id n 0 l.length,AI l.length,.fn g caps] h K=K (.tup []) (h.set id (.row none (xB (ltC c) l++tl) 0)) []:=by
  intro K;refine sA ?_;rw[zhN];have is:=λK=>zbT (h:=h) (K:=K) id n l tl hn hs (by omega) hh hc
  have b1:¬((20:Int)<=(l.length:Int)):=by omega
  have b2:¬((20:Int)<(l.length:Int)):=by omega
  simp only[fV,go_sem];refine DA (λ_:Unit=>⟨[(0,.own id n 0 l.length),(1,AI l.length),(2,.fn g caps),(6,AI 20),(7,AI 0),(8,AI 20)],h,[]⟩) (λ_=>True) (λ_=>0) () rfl trivial ?_
  intro _ _;simp only[go_sem,b1,is];refine DA (λ_:Unit=>⟨[(0,.own id n 0 l.length),(1,AI l.length),(2,.fn g caps),(6,AI 20)],h.set id (.row none (xB (ltC c) l++tl) 0),[]⟩) (λ_=>True) (λ_=>0) () rfl trivial ?_
  intro _ _;simp only[go_sem,b2]
 simp only[YU,go_sem,key]
end
section
variable {h:aA} {K:jA}
theorem zte (a:List UInt8):gA X TL [AS a] h K=K (AB false) h []:=by
 refine sA ?_;rw[zgC rfl];simp only[WT,go_sem]
theorem zs9 (a b:List UInt8):gA X TH [AS a,AS b] h K=K (AB (ltS a b)) h []:=by
 refine sA ?_;rw[zg9 rfl];simp only[TT,go_sem,zte,z1r]
theorem zqJ {us:List (List UInt8)}:∀x∈us.map PV.str,∀y∈us.map PV.str,∀(h:aA) (K:jA),gA X TH [.p x,.p y] h K=K (AB (ltPS x y)) h []:=by
 intro x hx y hy h K;obtain⟨a,_,rfl⟩:=List.mem_map.1 hx;obtain⟨b,_,rfl⟩:=List.mem_map.1 hy;exact zs9 a b
theorem zsL (id:Nat)(us:List (List UInt8))(hl:us.length<=12)(hh:h[id]?=some (.row none (us.map PV.str) 0)) :
 gA X rM [.own id us.length 0 us.length] h K=K (.tup []) (h.set id (.row none ((xB ltS us).map PV.str) 0)) []:=by
 have:=zf5 (h:=h) (K:=K) id us.length (us.map PV.str) [] (by simp) fP (by simpa using hl) (by simpa using hh) (lt:=ltPS) zqJ
 simp only[List.length_map,List.append_nil,zpq]at this;exact this
end
section
attribute [-go_sem] PV.cells splice
variable {h:aA} {K:jA}
theorem zfy {v:AV}{g:Nat}{caps:List AV}{p:PV->Bool}{xs:List PV}(hv:Shows none v xs h)(hp:KZ g caps p xs h)(hl:xs.length<=1000000000) :
 gA X xQ [v,.fn g caps] h K=K (AI (iG p xs)) h []:=by
 refine sA ?_;rw[zhC];have vl:=hv.len
 simp only[UU,go_sem,vl];refine DA (λk:Nat=>⟨[(0,v),(1,.fn g caps),(7,AI xs.length),(8,AI k)],h,[]⟩) (λk=>k<=xs.length/\∀x∈xs.take k,p x=false) (λk=>xs.length-k) 0 rfl (by simp) ?_
 rintro k ⟨hk,hn⟩
 rcases Nat.lt_or_ge k xs.length with hlt|hge
 ·obtain⟨a,ha,hb⟩:=hv.get k hlt
  have w2:IntKind.i64.wrap ((k:Int)+1)=((k+1:Nat):Int):=rA _ (by omega) (by omega)
  have ht:=hp _ (List.getElem_mem hlt)
  cases hpk:p xs[k]with
  | true=>
   have hf:xs.findIdx p=k:=by
    rw[List.findIdx_eq hlt];refine⟨hpk,λj hj=>?_⟩
    have:=hn xs[j] (by rw[List.mem_take_iff_getElem];exact⟨j,by omega,rfl⟩)
    simpa using this
   simp only[go_sem,hlt,ha,hb,ht,hpk,w2];simp only[iG,hf,hlt,if_true]
  | false=>
   simp only[go_sem,hlt,ha,hb,ht,hpk,w2];refine⟨k+1,rfl,⟨by omega,λx hx=>?_⟩,by omega⟩
   rw[List.take_succ_eq_append_getElem hlt,List.mem_append,List.mem_singleton]at hx;rcases hx with hx|hx
   ·exact hn x hx
   ·rw[hx];exact hpk
 ·have e1:k=xs.length:=by omega
  subst e1;simp only[go_sem,Nat.lt_irrefl];rw[List.take_length]at hn;have:¬xs.findIdx p<xs.length:=by
   rw[Nat.not_lt,Nat.le_iff_lt_or_eq];right
   exact(List.findIdx_eq_length.2 (λx hx=>by simp [hn x hx])).symm
  simp [iG,this]
theorem zfb (id:Nat)(l:List PV)(hs:VD none l)(hl:l.length<=100000)(hh:h[id]?=some (.row none l 0)){g:Nat}{caps:List AV}{p:PV->Bool}(hp:zf8 g caps p l id h) :
 gA X vQ [.own id l.length 0 l.length,.fn g caps] h K=K (.own id l.length 0 (l.filter λx=>!p x).length) (h.set id (.row none ((l.filter λx=>!p x)++List.replicate (l.length-(l.filter λx=>!p x).length) (PV.str [])) 0)) []:=by
 refine sA ?_;rw[zh8];have hid:=oH hh
 have hst:∀o,(h.set id o)[id]?=some o:=λo=>nI hid
 have hi:=λK=>zfy (h:=h) (K:=K) (ztI hs hh) (λx hx K=>by have:=hp (.row none l 0) x hx K;rwa [XK hh]at this) (by omega)
 simp only[QU,go_sem,hi];by_cases hf:l.findIdx p<l.length
 ·have e1:iG p l=(l.findIdx p:Int):=by simp [iG,hf]
  have e2:¬((l.findIdx p:Int) = -1):=by omega
  have w0:IntKind.i64.wrap ((l.findIdx p:Int)+1)=((l.findIdx p+1:Nat):Int):=rA _ (by omega) (by omega)
  simp only[go_sem,e1,e2,w0];have hF0:((l.take (l.findIdx p+1)).filter λx=>!p x)=l.take (l.findIdx p):=by
   rw[List.take_succ_eq_append_getElem hf,List.filter_append];have q1:(l.take (l.findIdx p)).filter (λx=>!p x)=l.take (l.findIdx p):=by
    rw[List.filter_eq_self];intro x hx;obtain⟨j,hj,rfl⟩:=List.mem_take_iff_getElem.1 hx;have:=List.not_of_lt_findIdx (show j<l.findIdx p by omega)
    simpa using this
   rw[q1];have:p l[l.findIdx p]=true:=List.findIdx_getElem (w:=hf)
   simp [this]
  refine DA (λt:List PV×Nat×Nat=>⟨[(0,.own id l.length 0 l.length),(1,.fn g caps),(5,AI t.2.1),(6,AI t.2.2)],h.set id (.row none t.1 0),[]⟩)
   (λt=>t.1.length=l.length/\VD none t.1/\t.2.1<t.2.2/\t.2.2<=l.length/\t.1.take t.2.1=((l.take t.2.2).filter λx=>!p x)/\t.1.drop t.2.2=l.drop t.2.2) (λt=>l.length-t.2.2)
   (l,l.findIdx p,l.findIdx p+1) (by rw[XK hh]) ⟨rfl,hs,by simp,hf,by rw[hF0],rfl⟩ ?_
  rintro⟨row,i,j⟩ ⟨r1,r2,r3,r4,r5,r6⟩
  dsimp only at r1 r2 r3 r4 r5 r6;have w1:IntKind.i64.wrap ((j:Int)+1)=((j+1:Nat):Int):=rA _ (by omega) (by omega)
  have w2:IntKind.i64.wrap ((i:Int)+1)=((i+1:Nat):Int):=rA _ (by omega) (by omega)
  rcases Nat.lt_or_ge j l.length with hlt|hge
  ·have g1:row[j]?=some l[j]:=by
    have:=congrArg (·[0]?) r6
    simp only[List.getElem?_drop,Nat.add_zero]at this;rw[this,List.getElem?_eq_getElem hlt]
   have hsj:=aZ hs hlt
   have cx:=oI hsj
   have hil:i<l.length:=by omega
   have g2:row[i]?=some row[i]:=List.getElem?_eq_getElem (by omega)
   have hsi:=aZ r2 (show i<row.length by omega)
   have t1:=λxs h1=>aL hsj hsi id i 0 xs h1
   have lx:=ZK hsj
   have sx:=YK hsj
   simp only[kA]at lx;have hpj:=λo K=>hp o _ (List.getElem_mem hlt) K
   cases hpx:p l[j]with
   | true=>
    simp only[go_sem,hst,r1,hlt,g1,cx,hpj,hpx,w1];refine⟨(row,i,j+1),rfl,⟨r1,r2,by dsimp only;omega,by dsimp only;omega,?_,?_⟩,by dsimp only;omega⟩
    ·rw[List.take_succ_eq_append_getElem hlt,List.filter_append]
     simp [hpx,r5]
    ·rw[<-List.drop_drop,r6,List.drop_drop]
   | false=>
    simp only[go_sem,hst,r1,hlt,hil,g1,g2,cx,hpj,hpx,w1,w2,lx,sx,t1];refine⟨(row.set i l[j],i+1,j+1),rfl,⟨by simpa using r1,λx hx=>?_,by dsimp only;omega,by dsimp only;omega,?_,?_⟩,by dsimp only;omega⟩
    ·rcases List.mem_or_eq_of_mem_set hx with hx|rfl
     ·exact r2 x hx
     ·exact hsj
    ·dsimp only
     rw[List.take_succ_eq_append_getElem hlt,List.filter_append,<-r5,List.take_succ_eq_append_getElem (by simp;omega)]
     simp [hpx,List.take_set_of_le]
    ·dsimp only
     rw[List.drop_set_of_lt (by omega),<-List.drop_drop,r6,List.drop_drop]
  ·have ej:j=l.length:=by omega
   subst ej;rw[List.take_length]at r5;have hm:(l.filter λx=>!p x).length=i:=by rw[<-r5];simp;omega
   have hil:i<=l.length:=by omega
   have e3:l.length-i+i=l.length:=by omega
   have sp:splice row i (List.replicate (l.length-i) (PV.str []))=(l.filter λx=>!p x)++List.replicate (l.length-i) (PV.str []):=by
    unfold splice;rw[r5,List.length_replicate,List.drop_of_length_le (by omega),List.append_nil]
   have rl:((l.filter λx=>!p x)++List.replicate (l.length-i) (PV.str [])).length=l.length:=by simp only[List.length_append,hm,List.length_replicate];omega
   rw[hm];generalize (l.filter λx=>!p x)++List.replicate (l.length-i) (PV.str [])=row' at *
   have hb:¬h.length<=id:=by omega
   have hb2:max h.length (id+1)=h.length:=by omega
   have hb3:id+1<=h.length:=hid
   simp only[go_sem,Nat.lt_irrefl,hst,r1,rl,hil,sp,show i+(l.length-i)=l.length by omega,hb,hb2,hb3]
 ·have e1:iG p l = -1:=by simp [iG,hf]
  have hF:(l.filter λx=>!p x)=l:=by
   rw[List.filter_eq_self];intro x hx;cases hpx:p x with
   | false=>rfl
   | true=>exact absurd (List.findIdx_lt_length_of_exists ⟨x,hx,hpx⟩) hf
  have hb:¬h.length<=id:=by omega
  have hb2:max h.length (id+1)=h.length:=by omega
  have hb3:id+1<=h.length:=hid
  simp only[go_sem,e1,hF,Nat.sub_self,List.replicate_zero,List.append_nil,hb,hb2,hb3];rw[XK hh]
attribute [-go_sem] AV.cells cut
attribute [go_sem] AV.cells cut
end
section
variable {h:aA} {K:jA}
attribute [-go_sem] TA UA ZA CB ZB WB
attribute [local go_sem] List.getElem?_cons_zero List.getElem?_cons_succ List.set_cons_zero List.set_cons_succ
attribute [local go_sem] BG mE RC rF tF uF OE PE vF wF xF yF GH yI lL HH zI jL zJ kL
def lF (bs:List (Nm × Sta))(seen:List Nat):List Nm:=seen.filterMap λi=>(bs[i]?).map (·.1)
theorem zt8 {bs:List (Nm × Sta)}{seen:List Nat}{i:Nat}(hi:i<bs.length):lF bs (seen++[i])=lF bs seen++[bs[i].1]:=by
 unfold lF;rw[List.filterMap_append,List.filterMap_cons,List.filterMap_nil,List.getElem?_eq_getElem hi];rfl
theorem zt6 {bs:List (Nm × Sta)}{seen:List Nat}(hd:seen.Nodup)(hb:∀ i∈seen,i<bs.length)(ha:∀ i,i<bs.length->i∈seen):(lF bs seen).Perm (QB bs):=by
 refine((bS hd hb ha).filterMap _).trans (List.Perm.of_eq ?_);unfold QB;apply List.ext_getElem?
 intro j;have:∀(pre bs:List (Nm×Sta)),((List.range' pre.length bs.length).filterMap λi=>((pre++bs)[i]?).map (·.1))=bs.map (·.1):=by
  intro pre bs;induction bs generalizing pre with
  | nil=>rfl
  | cons e r ih=>
   have h2:=ih (pre++[e])
   rw[List.append_assoc,List.length_append]at h2;have h1:(pre++e::r)[pre.length]?=some e:=by simp
   rw[List.length_cons,List.range'_succ,List.filterMap_cons,h1];simp only[Option.map_some,List.map_cons];exact congrArg _ h2
 have:=this [] bs;rw[List.range_eq_range'];rw[show(List.range' 0 bs.length).filterMap (λi=>(bs[i]?).map (·.1))=bs.map (·.1) from this]
theorem zt7 (bs:List (Nm × Sta))(seen:List Nat):(lF bs seen).length<=seen.length:=List.length_filterMap_le _ _
theorem zcg (bs:List (Nm × Sta)):(QB bs).length=bs.length:=List.length_map _
theorem iW (bs:List (Nm × Sta)):(FA bs).length=bs.length:=by unfold FA;rw[VV,zcg]
theorem z8a (fb o2 o3 o4:Obj)(bs:List (Nm × Sta))(hu:(QB bs).Nodup)(hbl:bs.length<=12)(steps:List Nm)(tries:Int)(a b c:Nat)(l:aA) :
 gA X iK [.ref (h.length+5) 0] (QL h fb (lA PV.str kB bs) o2 o3 o4 (qbx h steps tries a b c) l []) K=K (.own (h.length+(6+l.length)) bs.length 0 bs.length) (QL h fb (lA PV.str kB bs) o2 o3 o4 (qbx h steps tries a b c) l [.row none ((FA bs).map PV.str) 0]) []:=by
 refine sA ?_;rw[zhv rfl];simp only[FU];refine⟨_,_,_,⟨rfl,rfl,rfl⟩,?_⟩;have mr:=RM (h:=QL h fb (lA PV.str kB bs) o2 o3 o4 (qbx h steps tries a b c) l [.row none [] 0]) (id:=h.length+1) (key:=PV.str) (val:=kB) (l:=bs) RC
 rw[BG,mE]at mr;simp only[List.length_cons,Nat.zero_add]at mr;simp only[go_sem,mr];refine DA (λt:List Nat=>⟨[(3,.own (h.length+(6+l.length)) (lF bs t).length 0 (lF bs t).length),(9,.it (h.length+(6+(l.length+1))))],
  QL h fb (lA PV.str kB bs) o2 o3 o4 (qbx h steps tries a b c) l [.row none ((lF bs t).map PV.str) 0,.iter (some (h.length+1)) bs.length t bs.length],[]⟩)
  (λt=>t.Nodup/\(∀i∈t,i<bs.length)) (λt=>bs.length-t.length) [] rfl ⟨List.nodup_nil,by simp⟩ ?_
 rintro seen ⟨hd,hb⟩
 have hsl:seen.length<=bs.length:=by
  have h2:=hd.length_le_of_subset (l₂:=List.range bs.length) (λx hx=>by rw[List.mem_range];exact hb x hx)
  simpa using h2
 have hwl:=zt7 bs seen
 have f0:h.length+(6+l.length)+1<=h.length+(6+(l.length+2)):=by omega
 have f1:h.length+(6+(l.length+1))+1<=h.length+(6+(l.length+2)):=by omega
 simp only[go_sem];refine JK (key:=PV.str) (val:=kB) (l:=bs) (m:=h.length+1) (seen:=seen) (by rw[yI];rfl) RC ?_ ?_
 ·intro hall
  have hp:=zt6 hd hb hall
  have hpl:(lF bs seen).length=bs.length:=by rw[hp.length_eq,zcg]
  have hn:=zrk hu hp
  rw[zI];simp only[List.set_cons_zero,List.set_cons_succ];generalize lF bs seen=ns at *;have so:=λK=>zsL (h:=QL h fb (lA PV.str kB bs) o2 o3 o4 (qbx h steps tries a b c) l [.row none (ns.map PV.str) 0,.iter none 1 [] 0]) (K:=K) (h.length+(6+l.length)) ns (by omega) (by rw[GH];rfl)
  simp only[HH,List.set_cons_zero,hn]at so;simp only[go_sem,f0,f1,↓so,so];have emx:max (h.length+(6+l.length)) (h.length+(6+l.length)+1)=h.length+(6+(l.length+1)):=by omega
  rw[hpl,emx,zJ];exact⟨rfl,rfl⟩
 ·intro i hi hni
  have hnn:(seen++[i]).Nodup:=by rw[List.nodup_append];exact⟨hd,by simp,λa ha b hb=>by rw[List.mem_singleton]at hb;subst hb;intro e;subst e;exact hni ha⟩
  have hbb:∀x∈seen++[i],x<bs.length:=λx hx=>by
   rcases List.mem_append.1 hx with hx|hx
   ·exact hb x hx
   ·rw[List.mem_singleton]at hx;rw[hx];exact hi
  have hlen:seen.length<bs.length:=by
   have h2:=hnn.length_le_of_subset (l₂:=List.range bs.length) (λx hx=>by rw[List.mem_range];exact hbb x hx)
   simp at h2;omega
  have me:=GK (h:=QL h fb (lA PV.str kB bs) o2 o3 o4 (qbx h steps tries a b c) l [.row none ((lF bs seen).map PV.str) 0,.iter (some (h.length+1)) bs.length (seen++[i]) bs.length]) (j:=h.length+(6+(l.length+1))) (m:=h.length+1) (key:=PV.str) (val:=kB) (l:=bs) (seen:=seen) (i:=i) (by rw[yI];rfl) RC (by omega)
  have hsn:=zt8 (seen:=seen) hi
  rw[zI];simp only[List.set_cons_zero,List.set_cons_succ];have ml:((lF bs seen).map PV.str).length=(lF bs seen).length:=List.length_map ..
  have m1:(lF bs seen).length+1<=bB:=by unfold bB;omega
  generalize bs[i]=e at *;simp only[go_sem,me,m1,ml,f0,f1];refine⟨seen++[i],?_,⟨hnn,hbb⟩,by rw[List.length_append];simp;omega⟩
  rw[hsn,List.map_append,List.length_append];rfl
structure QAt (H:aA) (p F m:Nat) (bs:List (Nm × Sta)):Prop where
 p:H[p]?=some (.box [.ref F 0])
 f:∃a0 a1 a3 a4 a5:AV,H[F]?=some (.box [a0,a1,.mp m,a3,a4,a5])
 m:H[m]?=some (lA PV.str kB bs)
theorem XQ {H:aA}{m:Nat}{bs:List (Nm × Sta)}(hm:H[m]?=some (lA PV.str kB bs))(k:Nm):UA (none,[2]) false (.p (.agg [.int .i64 0,.int .i64 0,.str [],.str [],.int .i64 0])) (.mp m) (AS k) H=some (.p (zB bs k).pv):=by
 have:=qH (val:=kB) PG hm (kk:=(none,[2])) (k:=k) iF (ok:=false) (z:=AV.p (.agg [.int .i64 0,.int .i64 0,.str [],.str [],.int .i64 0]));rw[cond_false,z5e]at this;refine this.trans ?_;unfold zB;cases mA bs k <;> rfl
theorem zty {p F m q:Nat}{bs:List (Nm × Sta)}(Q:QAt h p F m bs)(k step:Nm)(hq:h[q]?=some (.box [AS step])):gA X fM [AS k,.ref p 0,.ref q 0] h K=K (AB (!TF bs step k)) h []:=by
 refine sA ?_;rw[zhn rfl];obtain⟨hp,⟨a0,a1,a3,a4,a5,hf⟩,hm⟩:=Q;have lk:=XQ hm k
 unfold TF;generalize zB bs k=s at *;obtain⟨s1,s2,s3,s4,s5⟩:=s;unfold Sta.pv at lk;dsimp only at lk ⊢;by_cases c1:s1=1
 ·by_cases c2:s3=step
  ·simp [CL,go_sem,hp,hf,lk,hq,c1,c2]
  ·simp [CL,go_sem,hp,hf,lk,hq,c1,c2]
 ·simp [CL,go_sem,hp,hf,lk,hq,c1]
theorem ztz {p F m:Nat}{bs:List (Nm × Sta)}(Q:QAt h p F m bs)(hz:∀ k,-100000000000000000<=(zB bs k).since/\(zB bs k).since<=100000000000000000)(a b:Nm):gA X iM [AS a,AS b,.ref p 0] h K=K (AI (Int.sign ((zB bs a).since-(zB bs b).since))) h []:=by
 refine sA ?_;rw[zho rfl];obtain⟨hp,⟨a0,a1,a3,a4,a5,hf⟩,hm⟩:=Q;have la:=XQ hm a
 have lb:=XQ hm b
 have za:=hz a
 have zb:=hz b
 have sg:=λn h K=>aS (h:=h) (K:=K) n
 generalize zB bs a=s at *;generalize zB bs b=t at *;obtain⟨s1,s2,s3,s4,s5⟩:=s;obtain⟨t1,t2,t3,t4,t5⟩:=t;unfold Sta.pv at la lb;dsimp only at la lb za zb ⊢;have w:IntKind.i64.wrap (s2-t2)=s2-t2:=rA _ (by omega) (by omega)
 simp only[CU,go_sem,hp,hf,la,lb,w,↓sg,sg];first|done|trace_state
end
end Go.Am
