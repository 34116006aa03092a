/- Texts of the proof, laid together: SpVec4, SpTap3, SpEsc, SpTap4, SpTap5, SpTap6, SpTap7, SpVec12, SpVec13, SpVec14, SpVec15, SpVec3, SpVec4b, SpVec4c, SpVec4d, SpVec4e, SpVec5, SpVec6, SpVec7, SpVec8, SpVec9, SpVec10, SpVec11, SpVec16, SpVec17, SpTap8, PSplit, SpIdx, AmL4, AmL5, SpSplit. -/
import Derived.Shelf.Strings.Repeat
import Derived.Shelf.Strings.SlTrimAscii
import Derived.Shelf.Spec.TrailingZeros
import Derived.Shelf.Strings.Count
import Derived.Shelf.Strings.OnBuilder
import Derived.Test.YthlhdniejglcnaaGreatDoorlawPR7
set_option linter.all false
set_option maxRecDepth 100000
open Go
section
namespace Go.Am
variable {h:aA} {K:kA}
theorem iR (c:UInt8):∀n,rI [c] n=List.replicate n c
 | 0=>rfl
 | n+1=>by rw[rI,iR c n];rfl
theorem z5M (n:Int)(h0:0≤n)(h1:n≤1000000):bA X PB [AS [120],AI n] h K=K (AS (xsL n.toNat)) h []:=by
 rw[DX [120] n h0 (by simp;omega) h1,iR];rfl
theorem BF (n:Int)(h0:0≤n)(h1:n≤1000000):bA X PB [AS [48],AI n] h K=K (AS (zs n.toNat)) h []:=by
 rw[DX [48] n h0 (by simp;omega) h1,iR];rfl
def IC (c:Cmd)(i:Nat):List UInt8:=(List.range c.b.length).map fun j=>if j<i then jC c j else 120
theorem zk0 (c:Cmd):IC c 0=xsL c.b.length:=by
 unfold IC xsL;apply List.ext_getElem
 ·simp
 ·intro i h1 h2;simp
theorem z2N (c:Cmd)(i:Nat):(IC c i).length=c.b.length:=by simp [IC]
theorem z2M (c:Cmd):IC c c.m.length=WA c:=by
 unfold IC WA;apply List.map_congr_left
 intro j _;split
 ·rfl
 ·rename_i h
  unfold jC;rw[List.getElem?_eq_none (by omega)];rfl
theorem zk2 (c:Cmd)(i:Nat)(hi:i<c.b.length):IC c (i+1)=(IC c i).set i (jC c i):=by
 apply List.ext_getElem
 ·simp [IC]
 ·intro j h1 h2
  simp only[IC,List.length_map,List.length_range]at h1;rw[List.getElem_set];simp only[IC,List.getElem_map,List.getElem_range];by_cases hj:i=j
  ·subst hj;simp
  ·rw[if_neg hj]
   by_cases h3:j<i
   ·rw[if_pos h3,if_pos (by omega)]
   ·rw[if_neg h3,if_neg (by omega)]
theorem zk1 (c:Cmd)(i:Nat)(hn:c.m[i]?≠some 49):IC c (i+1)=IC c i:=by
 unfold IC;apply List.map_congr_left
 intro j _;by_cases hj:j=i
 ·subst hj
  simp [jC,hn]
 ·by_cases h3:j<i
  ·rw[if_pos h3,if_pos (by omega)]
  ·rw[if_neg h3,if_neg (by omega)]
theorem zbA (c:Cmd)(hl:c.b.length≤100000)(hm:c.m.length≤c.b.length)(hw:c.m.length≤c.w.length):bA X PH [ACm c] h K=K (AS (WA c)) h []:=by
 refine rA ?_;rw[zeV rfl];have hmx:c.b.length≤GA:=by unfold GA;omega
 have hx:(xsL c.b.length).length=c.b.length:=by simp [xsL]
 have r1:=fun(h':aA) (K':kA)=>z5M (h:=h') (K:=K') (c.b.length:Int) (by omega) (by omega)
 simp only[Int.toNat_natCast]at r1;simp only[LS,go_sem,r1,hx,hmx];refine XA (fun i:Nat=>⟨[(1,.ref h.length 0),(3,.own (h.length+1) c.b.length 0 c.b.length),(12,AI c.m.length),(13,AI i)],h++[.box [AI c.k,AI c.s,AI c.cl,AS c.b,AS c.w,AS c.m],.row none (yA (IC c i)) 0],[]⟩) (fun i=>i≤c.m.length) (fun i=>c.m.length-i) 0 (by rw[zk0];rfl) (by omega) ?_
 intro i hi;have hbl:(yA (IC c i)).length=c.b.length:=by simp [yA,z2N]
 rcases Nat.lt_or_ge i c.m.length with hlt|hge
 ·have hlt':(i:Int)<(c.m.length:Int):=by omega
  have hg:c.m[i]?=some c.m[i]:=List.getElem?_eq_getElem hlt
  have hgw:c.w[i]?=some (c.w[i]'(by omega)):=List.getElem?_eq_getElem (by omega)
  have w2:IntKind.i64.wrap ((i:Int)+1)=((i+1:Nat):Int):=zA _ (by omega) (by omega)
  by_cases h49:c.m[i]=49
  ·have hb':i<c.b.length:=by omega
   have hgb:(yA (IC c i))[i]?=some (.int .u8 ((IC c i)[i]'(by rw[z2N];omega)).toNat):=by
    unfold yA;rw[List.getElem?_map,List.getElem?_eq_getElem (by rw[z2N];omega)];rfl
   have t1:=fun(y:Int) (h1:aA)=>zp7 (sh:=none) (x:=.int .u8 ((c.w[i]'(by omega)).toNat:Int)) (y:=.int .u8 y) rfl rfl (h.length+1) i 0 (yA (IC c i)) h1
   have e49:((49:UInt8).toNat:Int)=49:=rfl
   simp only[go_sem,hlt,hlt',hg,h49,w2,hgw,hbl,hb',hgb,t1,e49];refine⟨i+1,?_,by omega,by omega⟩
   have e1:jC c i=c.w[i]'(by omega):=by unfold jC;rw[hg,h49,hgw];rfl
   have e2:yA (IC c (i+1))=(yA (IC c i)).set i (.int .u8 ((c.w[i]'(by omega)).toNat:Int)):=by
    rw[zk2 c i hb',e1];unfold yA;rw[List.map_set]
   rw[e2]
  ·have h49':¬((c.m[i].toNat:Int)=49):=fun e=>h49 (UInt8.toNat_inj.1 (by rw[show(49:UInt8).toNat=49 from rfl];omega))
   simp only[go_sem,hlt,hlt',hg,h49',w2];refine⟨i+1,?_,by omega,by omega⟩
   rw[zk1 c i (by rw[hg];exact fun e=>h49 (Option.some.inj e))]
 ·obtain rfl:i=c.m.length:=by omega
  have hw0:win (yA (IC c c.m.length)) 0 c.b.length=yA (IC c c.m.length):=by
   unfold win;rw[List.drop_zero];exact List.take_of_length_le (by omega)
  have hbe:(yA (WA c)).length=c.b.length:=by rw[←z2M];exact hbl
  have hwe:win (yA (WA c)) 0 c.b.length=yA (WA c):=by rw[←z2M];exact hw0
  simp only[go_sem,Nat.lt_irrefl,Int.lt_irrefl,hbl,hw0,IN,z2M,hbe,hwe]
abbrev vD (p:Part):PV:=.agg [.str p.tms,.str p.tdi,.str p.want,.int .i64 (p.fr:Int),.int .i64 (p.st:Int)]
theorem zm0 (l:List Cmd)(k:Int):YH (l.map QA) k=QA (nA l k):=by
 unfold YH nA;rw[←List.map_reverse,List.find?_map];have:((fun c=>UR c==k) ∘ QA)=fun c:Cmd=>c.k==k:=rfl
 rw[this];cases (l.reverse.find? fun c=>c.k==k) with
 | none=>rfl
 | some c=>rfl
theorem zlu (l:List Cmd):(l.map QA).all wJ=true:=by
 rw[List.all_map];exact List.all_eq_true.2 fun x _=>rfl
abbrev ACs (l:List Cmd):AV:=.p (.sl (some 6) (l.map QA))
theorem z5S (l:List Cmd)(i:Nat)(k:Int)(hi:i≤l.length)(hl:l.length≤1000000):bA X RH [ACs l,AI i,AI k] h K=K (ACm (nA (l.take i) k)) h []:=by
 have e:uR [.sl (some 6) (l.map QA),.int .i64 (i:Int),.int .i64 k]=some (ACm (nA (l.take i) k)):=by
  show(if 0≤(i:Int)∧(i:Int)≤((l.map QA).length:Int)∧(l.map QA).length≤1000000∧(l.map QA).all wJ=true then some (AV.p (YH ((l.map QA).take (i:Int).toNat) k)) else none)=_
  rw[if_pos ⟨by omega,by simp;omega,by simpa using hl,zlu l⟩,Int.toNat_natCast,←List.map_take,zm0]
 refine wU (X:=X) (by kernel_rfl) ?_
 first|rw[show X.ex2=yF GRL PRL from rfl]|skip
 exact vU (vs:=[.sl (some 6) (l.map QA),.int .i64 (i:Int),.int .i64 k]) (by kernel_rfl) (s:=uR) (by kernel_rfl) rfl e
structure SetOk (pre:List Cmd):Prop where
 s1:UB (nA pre 1).s=true
 s2:UB (nA pre 2).s=true
 b1:∀k,3≤k→k≤6→EA (nA pre k).b=true∧(nA pre k).b.length≤2000
attribute [-go_sem] YA KG
variable {Kx:Ex→St→Prop}
theorem pk3 {T D W:List UInt8}{fr st:Int}{z1 z2 z3 z4 z5 c1 c2 c3 c4 c5 c6:AV}(hD:D.length≤T.length)(hW:W.length≤T.length)(hT:T.length≤1000000) :
 KG (bA X) X.gl (.ref h.length 0) (.ref (h.length+2) 0) (h++[.box [z1,z2,z3,z4,z5],.box [c1,c2,c3,c4,c5,c6],.box [AS T,AS D,AS W,AI fr,AI st]]) [] Kx =
  Kx .ret ⟨[(6,.ref h.length 0)],h++[.box [AS T,AS (D++zs (T.length-D.length)),AS (W++xsL (T.length-W.length)),AI fr,AI st],.box [c1,c2,c3,c4,c5,c6],.box [AS T,AS (D++zs (T.length-D.length)),AS (W++xsL (T.length-W.length)),AI fr,AI st]],[]⟩:=by
 have hz:∀n,(zs n).length=n:=fun n=>by simp [zs]
 have hx:∀n,(xsL n).length=n:=fun n=>by simp [xsL]
 have w3:IntKind.i64.wrap ((T.length:Int)-(D.length:Int))=((T.length-D.length:Nat):Int):=by
  rw[show(T.length:Int)-(D.length:Int)=((T.length-D.length:Nat):Int) by omega];exact zA _ (by omega) (by omega)
 have w4:IntKind.i64.wrap ((T.length:Int)-(W.length:Int))=((T.length-W.length:Nat):Int):=by
  rw[show(T.length:Int)-(W.length:Int)=((T.length-W.length:Nat):Int) by omega];exact zA _ (by omega) (by omega)
 have r4:=fun(h':aA) (K':kA)=>BF (h:=h') (K:=K') ((T.length-D.length:Nat):Int) (by omega) (by omega)
 have r5:=fun(h':aA) (K':kA)=>z5M (h:=h') (K:=K') ((T.length-W.length:Nat):Int) (by omega) (by omega)
 simp only[Int.toNat_natCast]at r4 r5;have lD2:D.length+(zs (T.length-D.length)).length≤PA:=by rw[hz];unfold PA;omega
 have lW2:W.length+(xsL (T.length-W.length)).length≤PA:=by rw[hx];unfold PA;omega
 generalize zs (T.length-D.length)=Z at r4 lD2 ⊢;generalize xsL (T.length-W.length)=Z2 at r5 lW2 ⊢;simp only[KG,go_sem,splice,w3,w4,r4,r5,lD2,lW2]
set_option maxHeartbeats 4000000 in
theorem zoP (l:List Cmd)(i:Nat)(c:Cmd)(hi:l[i]?=some c)(h10:c.k=10)(hs:UB c.s=true)(state:Nat)(hst:state∈stb) :
 bA X sG [ACs l,AI i,AI state] h K=K (.p (vD (qA jA (l.take i) c state))) h []:=by
 refine rA ?_;rw[WN rfl];obtain⟨n1,n2⟩:=EC hs;have hg:(l.map QA)[i]?=some (QA c):=by rw[List.getElem?_map,hi];rfl
 have hilt:i<l.length:=by
  rcases Nat.lt_or_ge i l.length with h|h
  ·exact h
  ·rw[List.getElem?_eq_none h]at hi;cases hi
 rw[mI jA h10];obtain⟨k,s,cl,b,w,m⟩:=c;dsimp only at h10 hs n1 n2 hg ⊢;obtain⟨n,rfl⟩:∃n:Nat,s=n:=⟨s.toNat,n2.symm⟩;simp only[Int.toNat_natCast]at n1 ⊢;have p1:=fun(h':aA) (K':kA)=>FX (h:=h') (K:=K') (eC hst) (iD n1)
 have pl:=(cC (eC hst) (iD n1)).2.1
 subst h10;generalize jA state n=w at p1 pl ⊢;have e1:vD ⟨w,zs w.length,xsL w.length,0,n⟩=vD (aC ⟨w,[],[],0,n⟩):=by rw[za9]
 rw[e1];unfold aC vD;dsimp only;have P3:=fun(z1 z2 z3 z4 z5 c1 c2 c3 c4 c5 c6:AV) (Kx:Ex→St→Prop)=>pk3 (h:=h) (Kx:=Kx) (T:=w) (D:=[]) (W:=[]) (fr:=0) (st:=n) (z1:=z1) (z2:=z2) (z3:=z3) (z4:=z4) (z5:=z5) (c1:=c1) (c2:=c2) (c3:=c3) (c4:=c4) (c5:=c5) (c6:=c6) (Nat.zero_le _) (Nat.zero_le _) (by omega)
 simp only[DH,go_sem,uD,hg,hilt,p1,P3]
end Go.Am
end
section
namespace Go.Am
variable {h:aA} {K:kA}
attribute [-go_sem] YA NB mC
structure PortS where
 d:TDev
 p:nB
 mi:SM
 mo:SM
def dvH (b:Nat):List PortS→List Obj
 | []=>[]
 | q::r=>.box (sB q.d)::LA PV.str UA q.mi::LA PV.str UA q.mo :: .box (pC q.d q.p (b+1) (b+2))::dvH (b+4) r
theorem PF:∀ (l:List PortS) (b:Nat),(dvH b l).length=4*l.length
 | [],_=>rfl
 | q::r,b=>by simp only[dvH,List.length_cons,PF r];omega
theorem z85 (q:PortS):∀(l:List PortS) (b:Nat),dvH b (l++[q])=dvH b l++[.box (sB q.d),LA PV.str UA q.mi,LA PV.str UA q.mo,.box (pC q.d q.p (b+4*l.length+1) (b+4*l.length+2))]
 | [],b=>rfl
 | a::r,b=>by
  have e:b+4+4*r.length=b+4*(a::r).length:=by simp only[List.length_cons];omega
  simp only[List.cons_append,dvH,z85 q r (b+4),e]
theorem z82 {q:PortS}:∀{l:List PortS} {b i:Nat},l[i]?=some q→(dvH b l)[4*i+3]?=some (.box (pC q.d q.p (b+4*i+1) (b+4*i+2)))
 | [],b,i,h=>by simp at h
 | a::r,b,0,h=>by simp at h;subst h;rfl
 | a::r,b,i+1,h=>by
  have e1:4*(i+1)+3=(4*i+3)+4:=by omega
  have e2:b+4*(i+1)=b+4+4*i:=by omega
  rw[e1,e2];exact z82 (l:=r) (b:=b+4) (i:=i) (by simpa using h)
theorem z80 {q:PortS}:∀{l:List PortS} {b i:Nat},l[i]?=some q→(dvH b l)[4*i+1]?=some (LA PV.str UA q.mi)
 | [],b,i,h=>by simp at h
 | a::r,b,0,h=>by simp at h;subst h;rfl
 | a::r,b,i+1,h=>by
  have e1:4*(i+1)+1=(4*i+1)+4:=by omega
  rw[e1];exact z80 (l:=r) (b:=b+4) (i:=i) (by simpa using h)
theorem z81 {q:PortS}:∀{l:List PortS} {b i:Nat},l[i]?=some q→(dvH b l)[4*i+2]?=some (LA PV.str UA q.mo)
 | [],b,i,h=>by simp at h
 | a::r,b,0,h=>by simp at h;subst h;rfl
 | a::r,b,i+1,h=>by
  have e1:4*(i+1)+2=(4*i+2)+4:=by omega
  rw[e1];exact z81 (l:=r) (b:=b+4) (i:=i) (by simpa using h)
theorem z84 {q:PortS}{p:nB}:∀{l:List PortS} {b i:Nat},l[i]?=some q→(dvH b l).set (4*i+3) (.box (pC q.d p (b+4*i+1) (b+4*i+2)))=dvH b (l.set i { q with p:=p })
 | [],b,i,h=>by simp at h
 | a::r,b,0,h=>by simp at h;subst h;rfl
 | a::r,b,i+1,h=>by
  have e1:4*(i+1)+3=(4*i+3)+4:=by omega
  have e2:b+4*(i+1)=b+4+4*i:=by omega
  rw[e1,e2];have:=z84 (p:=p) (l:=r) (b:=b+4) (i:=i) (by simpa using h)
  simp only[dvH,List.set_cons_succ,this]
theorem z83 {q:PortS}{m:SM}:∀{l:List PortS} {b i:Nat},l[i]?=some q→(dvH b l).set (4*i+2) (LA PV.str UA m)=dvH b (l.set i { q with mo:=m })
 | [],b,i,h=>by simp at h
 | a::r,b,0,h=>by simp at h;subst h;rfl
 | a::r,b,i+1,h=>by
  have e1:4*(i+1)+2=(4*i+2)+4:=by omega
  rw[e1];have:=z83 (m:=m) (l:=r) (b:=b+4) (i:=i) (by simpa using h)
  simp only[dvH,List.set_cons_succ,this]
def wD (b n:Nat):List AV:=(List.range n).map fun i=>.ref (b+4*i+3) 0
theorem zaP {b n:Nat}:(wD b n).length=n:=by simp [wD]
theorem znP {b n:Nat}:wD b (n+1)=wD b n++[.ref (b+4*n+3) 0]:=by simp [wD,List.range_succ]
theorem znO {b n i:Nat}(hi:i<n):(wD b n)[i]?=some (.ref (b+4*i+3) 0):=by simp [wD,hi]
def CH (h:aA)(st:Int)(l:List PortS)(t:aA):aA:=h++(.arow none (wD (h.length+2) l.length) :: .box [AI st,.bt 3 0 h.length l.length]::(dvH (h.length+2) l++t))
def tD (d:TDev):List TReg→SM→SM
 | [],m=>m
 | r::rs,m=>tD d rs (rB r.name (zs r.long.toNat) m)
theorem qU {k j:List UInt8}{v:List UInt8}:∀(m:SM),RA j (rB k v m)=if j=k then some v else RA j m
 | []=>by
  unfold rB RA;by_cases h:j=k
  ·simp [h]
  ·simp [h,RA]
 | e::r=>by
  unfold rB;by_cases h1:k=e.1
  ·rw[if_pos h1]
   unfold RA;by_cases h2:j=k
   ·simp [h2]
   ·have:¬j=e.1:=fun q=>h2 (by rw[q,h1])
    simp [h2,this]
  ·rw[if_neg h1]
   unfold RA;by_cases h2:j=e.1
   ·have:¬j=k:=fun q=>h1 (by rw[←q,h2])
    simp [h2,this];intro q;exact absurd q.symm h1
   ·rw[if_neg h2,if_neg h2]
    exact qU r
theorem z9O (d:TDev):∀(rs:List TReg) (m:SM) (k:List UInt8),(∀r∈rs,r.name≠k)→RA k (tD d rs m)=RA k m
 | [],m,k,_=>rfl
 | r::rs,m,k,h=>by
  unfold tD;rw[z9O d rs _ k fun x hx=>h x (List.mem_cons_of_mem _ hx),qU,if_neg fun e=>h r List.mem_cons_self e.symm]
theorem z9P (d:TDev):∀(rs:List TReg) (m:SM),(rs.map TReg.name).Nodup→∀r∈rs,RA r.name (tD d rs m)=some (zs r.long.toNat)
 | [],m,_,r,hr=>by cases hr
 | a::rs,m,h,r,hr=>by
  rw[List.map_cons,List.nodup_cons]at h;unfold tD;rcases List.mem_cons.1 hr with e|e
  ·subst e
   rw[z9O d rs _ r.name fun x hx e=>h.1 (e ▸ List.mem_map_of_mem hx),qU,if_pos rfl]
  ·exact z9P d rs _ h.2 r e
def zF (d:TDev):PortS:=⟨d,([],[48]),tD d d.regs [],tD d d.regs []⟩
def PG (h:aA):Nat→Esc
 | 0=>[]
 | n+1=>(h.length,h.length+(2+4*(n+1)))::PG h n
end Go.Am
end
section
namespace Go.Am
theorem z7F (mid:Nat):∀(X:Esc) (m:Nat),(∀y∈X,y.1=mid)→mid<m→m≤FD X m∧(∀y∈X,y.2≤FD X m)∧∀B,m≤B→(∀y∈X,y.2≤B)→FD X m≤B
 | [],m,_,_=>⟨Nat.le_refl _,fun _ h=>(by cases h),fun B h _=>h⟩
 | y::r,m,hX,hm=>by
  have e:FD (y::r) m=FD r (max m y.2):=by
   unfold FD;rw[List.foldl_cons,if_pos (by rw[hX y (by simp)];exact hm)]
  obtain⟨h1,h2,h3⟩:=z7F mid r (max m y.2) (fun z hz=>hX z (by simp [hz])) (by omega)
  rw[e];refine⟨by omega,fun z hz=>?_,fun B hB hy=>h3 B (by have:=hy y (by simp);omega) fun z hz=>hy z (by simp [hz])⟩
  rcases List.mem_cons.1 hz with e|hz
  ·rw[e];omega
  ·exact h2 z hz
theorem z8a (mid:Nat):∀(k:Nat) (X:Esc) (m:Nat),(∀y∈X,y.1=mid)→mid<m→m≤RB k X m∧(k≠0→∀y∈X,y.2≤RB k X m)∧∀B,m≤B→(∀y∈X,y.2≤B)→RB k X m≤B
 | 0,X,m,_,_=>⟨Nat.le_refl _,fun h=>absurd rfl h,fun B h _=>h⟩
 | k+1,X,m,hX,hm=>by
  obtain⟨b1,b2,b3⟩:=z7F mid X m hX hm;obtain⟨c1,_,c3⟩:=z8a mid k X (FD X m) hX (by omega)
  show m≤RB k X (FD X m)∧(_→∀y∈X,y.2≤RB k X (FD X m))∧∀B,m≤B→(∀y∈X,y.2≤B)→RB k X (FD X m)≤B
  exact⟨by omega,fun _ y hy=>by have:=b2 y hy;omega,fun B hB hy=>c3 B (b3 B hB hy) hy⟩
theorem zgj {X:Esc}{mid b L:Nat}(hX:∀ y∈X,y.1=mid∧y.2≤L)(hm:mid<b)(hb:b≤L):∃n,RB X.length X b=n∧b≤n∧n≤L∧(∀y∈X,y.2≤n)∧iC X n=true∧X.filter (fun y=>decide (y.1<n))=X:=by
 obtain⟨c1,c2,c3⟩:=z8a mid X.length X b (fun y hy=>(hX y hy).1) hm
 have c3':=c3 L hb fun y hy=>(hX y hy).2
 have c2':∀y∈X,y.2≤RB X.length X b:=by
  cases X with
  | nil=>intro y hy;cases hy
  | cons z r=>exact c2 (by simp)
 refine⟨_,rfl,c1,c3',c2',?_,?_⟩
 ·unfold iC
  rw[List.all_eq_true];intro y hy;have:=c2' y hy;simp [this]
 ·rw[List.filter_eq_self]
  intro y hy;have:=(hX y hy).1;simp only[decide_eq_true_eq];omega
end Go.Am
end
section
namespace Go.Am
variable {h:aA} {K:kA}
attribute [-go_sem] YA NB mC
theorem EI {st:Int}{l:List PortS}{t:aA}:(CH h st l t).length=h.length+(2+4*l.length)+t.length:=by
 unfold CH;simp only[List.length_append,List.length_cons,PF];omega
theorem XX {st:Int}{l:List PortS}{t u:aA}:CH h st l t++u=CH h st l (t++u):=by unfold CH;simp
theorem CH_0 {st:Int}{l:List PortS}{t:aA}:(CH h st l t)[h.length]?=some (.arow none (wD (h.length+2) l.length)):=by unfold CH;rw[z0s];rfl
theorem CH_1 {st:Int}{l:List PortS}{t:aA}:(CH h st l t)[h.length+1]?=some (.box [AI st,.bt 3 0 h.length l.length]):=by unfold CH;rw[bD];rfl
theorem CH_t {st:Int}{l:List PortS}{t:aA}{n:Nat}:(CH h st l t)[h.length+(2+4*l.length)+n]?=t[n]?:=by
 unfold CH;have e:h.length+(2+4*l.length)+n=h.length+(2+(4*l.length+n)):=by omega
 rw[e,bD];have e2:2+(4*l.length+n)=(4*l.length+n)+1+1:=by omega
 rw[e2,List.getElem?_cons_succ,List.getElem?_cons_succ];have:=bD (dvH (h.length+2) l) t n;rw[PF]at this;exact this
theorem YX {st:Int}{l:List PortS}{t:aA}{n:Nat}{o:Obj}:(CH h st l t).set (h.length+(2+4*l.length)+n) o=CH h st l (t.set n o):=by
 unfold CH;have e:h.length+(2+4*l.length)+n=h.length+(2+(4*l.length+n)):=by omega
 rw[e,DD];have e2:2+(4*l.length+n)=(4*l.length+n)+1+1:=by omega
 rw[e2,List.set_cons_succ,List.set_cons_succ];have:=DD (dvH (h.length+2) l) t n o;rw[PF]at this;rw[this]
theorem z68 {st:Int}{l:List PortS}{t:aA}{n:Nat}:(CH h st l t).take (h.length+(2+4*l.length)+n)=CH h st l (t.take n):=by
 unfold CH;have e:h.length+(2+4*l.length)+n=h.length+(2+(4*l.length+n)):=by omega
 rw[e,qH];have e2:2+(4*l.length+n)=(4*l.length+n)+1+1:=by omega
 rw[e2,List.take_succ_cons,List.take_succ_cons];have:=qH (dvH (h.length+2) l) t n;rw[PF]at this;rw[this]
theorem zq4 {k v:List UInt8}:∀(m:SM),(RA k (rB k v m)).getD []=v:=fun m=>by rw[qU,if_pos rfl];rfl
attribute [-go_sem] iP FH
theorem znj {g:aA}{d:TDev}{pid mi mo:Nat}(D:DevOk d)(k:Nat)(m:SM)(hk:k<d.regs.length)
 (h1:g[pid]?=some (.box (pC d ([],[48]) mi mo))) (h2:g[mi]?=some (LA PV.str UA m)) (h3:g[mo]?=some (LA PV.str UA m)) (hne:mi≠mo) (hn1:pid≠mi) (hn2:pid≠mo) {v5 v18 v19 v20:AV} {x:Esc} {Kx:Ex→St→Prop} :
 (FH (bA X) X.gl [(5,v5),(8,.ref pid 0),(18,v18),(19,v19),(20,v20),(38,.p (.sl (some 2) (d.regs.map uA))),(39,AI d.regs.length),(40,AI k)] g x Kx).1 =
  Kx .normal ⟨[(5,v5),(8,.ref pid 0),(18,v18),(19,v19),(20,v20),(38,.p (.sl (some 2) (d.regs.map uA))),(39,AI d.regs.length),(40,AI ((k+1:Nat):Int))],((g.set mi (LA PV.str UA (rB d.regs[k].name (zs d.regs[k].long.toNat) m))).set mo (LA PV.str UA (rB d.regs[k].name (zs d.regs[k].long.toNat) m)))++[.box [AS d.regs[k].name,AI d.regs[k].long]],x⟩:=by
 have hg:=BB uA hk
 have w2:IntKind.i64.wrap ((k:Int)+1)=((k+1:Nat):Int):=zA _ (by have:=D.rn;omega) (by have:=D.rn;omega)
 have hrl:=D.rl _ (List.getElem_mem hk)
 have cx:aB (some 2) 0 (uA d.regs[k])=some (uA d.regs[k]):=rfl
 have fp:∀y:TReg,uA y = .agg [.str y.name,eI y.long]:=fun _=>rfl
 have hlt:(k:Int)<(d.regs.length:Int):=by omega
 generalize d.regs[k]=r at *;rw[fp]at hg cx;have lp:pid<g.length:=by rcases Nat.lt_or_ge pid g.length with q|q;exact q;rw[List.getElem?_eq_none q]at h1;cases h1
 have li:mi<g.length:=by rcases Nat.lt_or_ge mi g.length with q|q;exact q;rw[List.getElem?_eq_none q]at h2;cases h2
 have lo:mo<g.length:=by rcases Nat.lt_or_ge mo g.length with q|q;exact q;rw[List.getElem?_eq_none q]at h3;cases h3
 have a1:∀l:aA,(g++l)[pid]?=some (.box (pC d ([],[48]) mi mo)):=fun l=>by rw[List.getElem?_append_left lp];exact h1
 have rz:=fun h K=>BF (h:=h) (K:=K) r.long (by omega) (by omega)
 generalize hz:zs r.long.toNat=z at *;have hm1:∀l:aA,mC (none,[2]) (.mp mi) (AS r.name) (AS z) (g++l)=some (.und,(g.set mi (LA PV.str UA (rB r.name z m)))++l,[]):=fun l=>by
  rw[z6r (by rw[List.getElem?_append_left li];exact h2),List.set_append_left _ _ li]
 have b1:∀l:aA,(g.set mi (LA PV.str UA (rB r.name z m))++l)[pid]?=some (.box (pC d ([],[48]) mi mo)):=fun l=>by
  rw[List.getElem?_append_left (by simpa using lp),List.getElem?_set_ne (Ne.symm hn1)];exact h1
 have lk:∀l:aA,NB (none,[2]) false (.p (.str [])) (.mp mi) (AS r.name) (g.set mi (LA PV.str UA (rB r.name z m))++l)=some (AS z):=fun l=>by
  rw[zal (m:=rB r.name z m) (by rw[List.getElem?_append_left (by simpa using li),List.getElem?_set_self li]),zq4]
 have hm2:∀l:aA,mC (none,[2]) (.mp mo) (AS r.name) (AS z) (g.set mi (LA PV.str UA (rB r.name z m))++l)=some (.und,((g.set mi (LA PV.str UA (rB r.name z m))).set mo (LA PV.str UA (rB r.name z m)))++l,[]):=fun l=>by
  rw[z6r (m:=m) (by rw[List.getElem?_append_left (by simpa using lo),List.getElem?_set_ne hne];exact h3),List.set_append_left _ _ (by simpa using lo)]
 have p7:∀y:nB,ldB none 7 (some (.box (pC d y mi mo)))=some (.mp mi):=fun _=>rfl
 have p8:∀y:nB,ldB none 8 (some (.box (pC d y mi mo)))=some (.mp mo):=fun _=>rfl
 have i1:mi≠g.length:=by omega
 have i2:mo≠g.length:=by omega
 simp only[FH,go_sem,hlt,hg,cx,fp,w2,a1,p7,p8,↓rz,rz,hm1,b1,lk,hm2,splice]
end Go.Am
end
section
namespace Go.Am
variable {h:aA} {K:kA}
attribute [-go_sem] YA NB mC
attribute [-go_sem] iP FH z29 JO z2A KO aU RK z2B LO
def JB (ds:List TDev)(k:Nat):List PortS:=(ds.take k).map zF
theorem zay {ds:List TDev}{k:Nat}(hk:k≤ds.length):(JB ds k).length=k:=by simp [JB];omega
theorem znf {ds:List TDev}{k:Nat}(hk:k<ds.length):JB ds (k+1)=JB ds k++[zF ds[k]]:=by
 unfold JB;rw[List.take_succ_eq_append_getElem hk,List.map_append];rfl
theorem zcJ {st:Int}{l:List PortS}{q:PortS}:CH h st (l++[q]) []=h++(.arow none (wD (h.length+2) (l.length+1)) :: .box [AI st,.bt 3 0 h.length (l.length+1)]::(dvH (h.length+2) l++[.box (sB q.d),LA PV.str UA q.mi,LA PV.str UA q.mo,.box (pC q.d q.p (h.length+2+4*l.length+1) (h.length+2+4*l.length+2))])):=by
 unfold CH;rw[z85,List.length_append];simp
theorem z9Q (d:TDev)(r:TReg):∀(rs:List TReg) (m:SM),tD d (rs++[r]) m=rB r.name (zs r.long.toNat) (tD d rs m)
 | [],m=>rfl
 | a::rs,m=>z9Q d r rs _
theorem zni {st:Int}{l:List PortS}{d:TDev}(D:DevOk d){a b c:PV}{x:Esc}{Kx:Ex→St→Prop}
 (hK:Kx .normal ⟨[(5,.ref (h.length+1) 0),(8,.ref (h.length+(2+4*l.length)+3) 0),(18,.p a),(19,.p b),(20,.p c),(38,.p (.sl (some 2) (d.regs.map uA))),(39,AI d.regs.length),(40,AI d.regs.length),(41,AB false)],CH h st l [.box (sB d),LA PV.str UA (tD d d.regs []),LA PV.str UA (tD d d.regs []),.box (pC d ([],[48]) (h.length+(2+4*l.length)+1) (h.length+(2+4*l.length)+2))],x⟩) :
 NA (bA X) X.gl (.scope KJ) (tC 2 Kx) [(5,.ref (h.length+1) 0),(8,.ref (h.length+(2+4*l.length)+3) 0),(18,.p a),(19,.p b),(20,.p c),(38,.p (.sl (some 2) (d.regs.map uA))),(39,AI d.regs.length),(40,AI 0)] (CH h st l [.box (sB d),LA PV.str UA [],LA PV.str UA [],.box (pC d ([],[48]) (h.length+(2+4*l.length)+1) (h.length+(2+4*l.length)+2))]) x:=by
 obtain⟨P,hP⟩:∃P,P=h.length+(2+4*l.length):=⟨_,rfl⟩;rw[←hP]at hK ⊢;have gl:∀t:aA,(CH h st l t).length=P+t.length:=fun t=>by rw[EI,hP]
 have gg:∀(t:aA) (n:Nat),(CH h st l t)[P+n]?=t[n]?:=fun t n=>by rw[hP];exact CH_t
 have gs:∀(t:aA) (n:Nat) (o:Obj),(CH h st l t).set (P+n) o=CH h st l (t.set n o):=fun t n o=>by rw[hP];exact YX
 have gk:∀(t:aA) (n:Nat),(CH h st l t).take (P+n)=CH h st l (t.take n):=fun t n=>by rw[hP];exact z68
 refine XA (fun j:Nat=>⟨[(5,.ref (h.length+1) 0),(8,.ref (P+3) 0),(18,.p a),(19,.p b),(20,.p c),(38,.p (.sl (some 2) (d.regs.map uA))),(39,AI d.regs.length),(40,AI j)],
  CH h st l [.box (sB d),LA PV.str UA (tD d (d.regs.take j) []),LA PV.str UA (tD d (d.regs.take j) []),.box (pC d ([],[48]) (P+1) (P+2))],x⟩) (fun j=>j≤d.regs.length) (fun j=>d.regs.length-j) 0 rfl (by omega) ?_
 intro j hj;have hP1:h.length+1≤P+4:=by omega
 have hP2:h.length≤P+2:=by omega
 rw[GF];rcases Nat.lt_or_ge j d.regs.length with hlt|hge
 ·rw[iP,znj (pid:=P+3) (mi:=P+1) (mo:=P+2) D j (tD d (d.regs.take j) []) hlt (by rw[gg];rfl) (by rw[gg];rfl) (by rw[gg];rfl) (by omega) (by omega) (by omega)]
  have em:tD d (d.regs.take (j+1)) []=rB d.regs[j].name (zs d.regs[j].long.toNat) (tD d (d.regs.take j) []):=by
   rw[List.take_succ_eq_append_getElem hlt,z9Q]
  rw[←em,gs,gs,XX];simp only[go_sem,gl,gk,hP1,hP2,List.length_cons,List.length_nil];exact⟨j+1,rfl,by omega,by omega⟩
 ·have ej:j=d.regs.length:=by omega
  subst ej;rw[List.take_length];rw[iP];simp only[FH,go_sem,Nat.lt_irrefl,gl,gk,hP1,hP2,List.length_cons,List.length_nil];exact hK
def CR (h:aA)(a b:Obj)(l:List PortS)(t:aA):aA:=h++(a::b::(dvH (h.length+2) l++t))
theorem CH_R {st:Int}{l:List PortS}{t:aA}:CH h st l t=CR h (.arow none (wD (h.length+2) l.length)) (.box [AI st,.bt 3 0 h.length l.length]) l t:=rfl
theorem CR_1 {a b:Obj}{l:List PortS}{t:aA}:(CR h a b l t)[h.length+1]?=some b:=by unfold CR;rw[bD];rfl
theorem CR_s0 {a b o:Obj}{l:List PortS}{t:aA}:(CR h a b l t).set h.length o=CR h o b l t:=by unfold CR;rw[z0t];rfl
theorem z69 {a b o:Obj}{l:List PortS}{t:aA}:(CR h a b l t).set (h.length+1) o=CR h a o l t:=by unfold CR;rw[DD];rfl
theorem zcL {a b:Obj}{l:List PortS}{t:aA}{n:Nat}:(CR h a b l t).take (h.length+(2+4*l.length)+n)=CR h a b l (t.take n):=by
 unfold CR;have e:h.length+(2+4*l.length)+n=h.length+(2+(4*l.length+n)):=by omega
 rw[e,qH];have e2:2+(4*l.length+n)=(4*l.length+n)+1+1:=by omega
 rw[e2,List.take_succ_cons,List.take_succ_cons];have:=qH (dvH (h.length+2) l) t n;rw[PF]at this;rw[this]
theorem zcK {l:List PortS}{d:TDev}{P:Nat}(hP:P=h.length+(2+4*l.length)):CR h (.arow none (wD (h.length+2) l.length++[.ref (P+3) 0])) (.box [AI 0,.bt 3 0 h.length (l.length+1)]) l [.box (sB d),LA PV.str UA (tD d d.regs []),LA PV.str UA (tD d d.regs []),.box (pC d ([],[48]) (P+1) (P+2))]=CH h 0 (l++[zF d]) []:=by
 subst hP;have e1:h.length+(2+4*l.length)+3=h.length+2+4*l.length+3:=by omega
 have e2:h.length+(2+4*l.length)+1=h.length+2+4*l.length+1:=by omega
 have e3:h.length+(2+4*l.length)+2=h.length+2+4*l.length+2:=by omega
 rw[zcJ,e1,e2,e3,znP];rfl
theorem zoi {L:Nat}{P:kA}{x:Esc}(hx:∀ y∈x,y.1=h.length∧y.2≤L)(hL:(h.length,L)∈x){H:aA}(hH:H.length=L)(h2:h.length+2≤L)(k:P (.tup [.ref (h.length+1) 0,AI 0]) H x):RD false h.length P (some [.ref (h.length+1) 0,AI 0]) H x:=by
 have ht:(AV.tup [.ref (h.length+1) 0,AI 0]).top=h.length+2:=by simp [AV.top,AV.tops]
 have hmx:max h.length (h.length+2)=h.length+2:=by omega
 subst hH;obtain⟨n,c0,c1,c2,c3,c4,c5⟩:=zgj (b:=h.length+2) (mid:=h.length) (L:=H.length) hx (by omega) h2
 have en:n=H.length:=by have:=c3 _ hL;dsimp only at this;omega
 subst en;have e:∀m,qB m H (DB [.ref (h.length+1) 0,AI 0])=some (.tup [.ref (h.length+1) 0,AI 0]):=fun m=>by
  simp only[go_sem]
 unfold RD;dsimp only;rw[e];dsimp only;rw[ht,hmx,c0,c4,if_pos rfl,e];dsimp only;rw[c5,ht,List.take_length];exact⟨c1,k⟩
theorem z2L:∀ {n:Nat} {y:Nat × Nat},y∈PG h n→y.1=h.length∧y.2≤h.length+(2+4*n)
 | 0,y,hy=>by cases hy
 | n+1,y,hy=>by
  rcases List.mem_cons.1 hy with e|e
  ·rw[e];exact⟨rfl,Nat.le_refl _⟩
  ·have:=z2L e;omega
set_option maxHeartbeats 2000000 in
theorem s_New (ds:List TDev)(hd:∀ d∈ds,DevOk d)(h0:ds≠[])(h20:ds.length≤20)(hck:∀ h K,bA X SH [IB ds] h K=K (AI 0) h []) :
 bA X YP [IB ds] h K=K (.tup [.ref (h.length+1) 0,AI 0]) (CH h 0 (JB ds ds.length) []) (PG h ds.length):=by
 refine rA ?_;rw[zfz rfl];simp only[oT,go_sem,↓hck,hck,List.length_map];refine XA (fun k:Nat=>⟨[(5,.ref (h.length+1) 0),(18,IB ds),(19,AI ds.length),(20,AI k)],CH h 0 (JB ds k) [],PG h k⟩) (fun k=>k≤ds.length) (fun k=>ds.length-k) 0 ?_ (by omega) ?_
 ·simp [CH,JB,dvH,wD,PG]
 intro k hk;have lk:=zay hk
 have gl:∀t:aA,(CH h 0 (JB ds k) t).length=h.length+(2+4*k)+t.length:=fun t=>by rw[EI,lk]
 rw[GF];rcases Nat.lt_or_ge k ds.length with hlt|hge
 ·have D:=hd _ (List.getElem_mem hlt)
  have sn:=znf hlt
  have hg:=BB BA hlt
  have w2:IntKind.i64.wrap ((k:Int)+1)=((k+1:Nat):Int):=zA _ (by omega) (by omega)
  have cx:aB (some 5) 0 (BA ds[k])=some (BA ds[k]):=rfl
  generalize ds[k]=d at *;have fp:∀y:TDev,BA y = .agg [.str y.name,eI y.long,eI y.id,.sl (some 2) (y.regs.map uA),.sl (some 2) (y.ins.map VA)]:=fun _=>rfl
  rw[fp]at hg cx;have c1:=fun h K=>zox (h:=h) (K:=K) d.regs (by have:=D.rn;omega)
  have c2:=fun h K=>zow (h:=h) (K:=K) d.ins (by have:=D.im;omega)
  have nin:=@zni h 0 (JB ds k) d D
  have put:=@zcK h (JB ds k) d
  have ap:∀t u:aA,CH h 0 (JB ds k) t++u=CH h 0 (JB ds k) (t++u):=fun t u=>XX
  have gg0:∀(t:aA) (n:Nat),(CH h 0 (JB ds k) t)[h.length+(2+4*(JB ds k).length)+n]?=t[n]?:=fun t n=>CH_t
  have gs0:∀(t:aA) (n:Nat) (o:Obj),(CH h 0 (JB ds k) t).set (h.length+(2+4*(JB ds k).length)+n) o=CH h 0 (JB ds k) (t.set n o):=fun t n o=>YX
  rw[lk]at nin put gg0 gs0;generalize hP:h.length+(2+4*k)=P at *;have gg1:∀(t:aA),(CH h 0 (JB ds k) t)[P]?=t[0]?:=fun t=>gg0 t 0
  have gs1:∀(t:aA) (o:Obj),(CH h 0 (JB ds k) t).set P o=CH h 0 (JB ds k) (t.set 0 o):=fun t o=>gs0 t 0 o
  rw[aU];simp only[RK,go_sem,hlt,hg,cx,fp,gl,ap,gg0,gs0,gg1,gs1,↓c1,c1,↓c2,c2,splice,List.length_nil,List.length_cons,List.nil_append,List.cons_append];refine nin ?_;have g0:∀t:aA,(CH h 0 (JB ds k) t)[h.length]?=some (.arow none (wD (h.length+2) k)):=fun t=>by rw[CH_0,lk]
  have g1:∀t:aA,(CH h 0 (JB ds k) t)[h.length+1]?=some (.box [AI 0,.bt 3 0 h.length k]):=fun t=>by rw[CH_1,lk]
  have rl:(wD (h.length+2) k).length=k:=zaP
  have ms:k+1≤GA:=by unfold GA;omega
  have f1:h.length<P+3+1:=by omega
  have s0:∀(t:aA) (o:Obj),(CH h 0 (JB ds k) t).set h.length o=CR h o (.box [AI 0,.bt 3 0 h.length k]) (JB ds k) t:=fun t o=>by rw[CH_R,CR_s0,lk]
  have r1:∀(t:aA) (a:Obj),(CR h a (.box [AI 0,.bt 3 0 h.length k]) (JB ds k) t)[h.length+1]?=some (.box [AI 0,.bt 3 0 h.length k]):=fun t a=>CR_1
  have s1:∀(t:aA) (a b o:Obj),(CR h a b (JB ds k) t).set (h.length+1) o=CR h a o (JB ds k) t:=fun t a b o=>z69
  have tk:∀(a b:Obj) (t:aA) (n:Nat),(CR h a b (JB ds k) t).take (P+n)=CR h a b (JB ds k) (t.take n):=fun a b t n=>by
   have:=@zcL h a b (JB ds k) t n;rw[lk,hP]at this;exact this
  simp only[go_sem,z29];simp only[JO,go_sem,g0,g1,gl,ap,gg0,rl,ms,f1,s0,r1,s1,List.length_nil,List.length_cons,List.nil_append,List.cons_append];rw[if_pos (by omega)]
  have es:JD (h.length+1) [AI 0,.bt 3 0 h.length k] (.bt 3 0 h.length (k+1))=[]:=by
   simp [JD,uC,yG,AV.top,AV.tops]
  rw[es,List.nil_append];have tr:∀(x0:Esc) (e:List (Nat×AV)) (H:aA),KE P x0 ⟨e,H,[(h.length,P+3+1)]⟩=⟨JF (P+4) e,H.take (P+4),(h.length,P+4)::x0⟩:=fun x0 e H=>by
   rw[zqx (by omega)]
   have e1:max P (P+3+1)=P+4:=by omega
   rw[e1]
  have f2:h.length+2≤P+4:=by omega
  have f3:h.length+1+1≤P+4:=by omega
  rw[z2A];simp only[KO,go_sem,w2,tr,tk,f2,f3,put rfl];refine⟨k+1,?_,by omega,by omega⟩
  rw[sn];have e4:PG h (k+1)=(h.length,P+4)::PG h k:=by
   show(h.length,h.length+(2+4*(k+1)))::PG h k=_
   rw[←hP];congr 2
  rw[e4]
 ·have ek:k=ds.length:=by omega
  subst ek;rw[aU];have hl:h.length+1+1≤(CH h 0 (JB ds ds.length) []).length:=by rw[gl];simp;omega
  simp only[RK,go_sem,Nat.lt_irrefl,hl,z2B,LO];have dl:0<ds.length:=List.length_pos_iff.2 h0
  refine zoi (L:=h.length+(2+4*ds.length)) (fun y hy=>z2L hy) ?_ (by rw[gl];simp) (by omega) ⟨rfl,rfl,rfl⟩
  obtain⟨n,hn⟩:∃n,ds.length=n+1:=⟨ds.length-1,by omega⟩
  rw[hn];exact List.mem_cons_self
end Go.Am
end
section
namespace Go.Am
variable {h:aA} {K:kA}
attribute [-go_sem] YA NB mC
def actH (H:aA)(st:Nat)(d:TDev)(p:nB)(b:UInt8)(id mi mo:Nat)(m:SM):aA:=
 if st=8 then(if(XB d p.1).name≠yB∧(XB d p.1).name≠bB then H.set mo (LA PV.str UA (rB (XB d p.1).name p.2 m)) else H)
 else if st=0∨st=3∨st=4∨st=11∨st=10∨st=15 then H.set id (.box (pC d (sC st d p b).1 mi mo)) else H
theorem z2Y {H:aA}{i:Nat}{o:Obj}(h1:H[i]?=some o):i<H.length:=by
 rcases Nat.lt_or_ge i H.length with q|q
 ·exact q
 ·rw[List.getElem?_eq_none q]at h1;cases h1
theorem dK {H:aA}{i:Nat}{o:Obj}:(H.set i o).take H.length=H.set i o:=List.take_of_length_le (by simp)
attribute [-go_sem] z27 vF z28 wE
set_option maxHeartbeats 4000000 in
theorem s_act {H:aA}{c id mi mo a n:Nat}{st:Nat}(d:TDev)(D:DevOk d)(p:nB)(P:PortOk p)(hst:st<16)(b:UInt8)(hb:OB b)
 (hc:H[c]?=some (.box [AI st,.bt 3 0 a n])) (hh:H[id]?=some (.box (pC d p mi mo))) {m m2:SM} (hm:H[mi]?=some (LA PV.str UA m)) (hI:InM d m) (ho:H[mo]?=some (LA PV.str UA m2)) :
 bA X WP [.ref c 0,.ref id 0,.p (.int .u8 b.toNat)] H K=K (.p (.int .u8 (sC st d p b).2.toNat)) (actH H st d p b id mi mo m2) []:=by
 refine rA ?_;rw[zfw rfl];have lc:=z2Y hc
 have li:=z2Y hh
 have lm:=z2Y ho
 have hl:d.regs.length≤1000000:=by have:=D.rn;omega
 have hi:d.ins.length≤1000000:=by have:=D.im;omega
 have q1:=fun K=>zbH (h:=H) (K:=K) d p mi mo hh hl hi
 have q2:=fun K=>zoD (h:=H) (K:=K) d D p mi mo hh hm hI hl hi
 have e1:=@z27
 have e2:=@z28
 have c0:ldB none 0 H[c]?=some (AI st):=by rw[hc];rfl
 have g5:ldB none 5 H[id]?=some (AS p.1):=by rw[hh];rfl
 have g6:ldB none 6 H[id]?=some (AS p.2):=by rw[hh];rfl
 have g8:ldB none 8 H[id]?=some (.mp mo):=by rw[hh];rfl
 have g1:ldB none 1 H[id]?=some (AI d.long):=by rw[hh];rfl
 have w5:∀s:List UInt8,stB none id 5 (AS s) H H[id]? (some [AS s])=some (.und,H.set id (.box (pC d (s,p.2) mi mo)),[]):=fun s=>by rw[hh];rfl
 have w6:∀s:List UInt8,stB none id 6 (AS s) H H[id]? (some [AS s])=some (.und,H.set id (.box (pC d (p.1,s) mi mo)),[]):=fun s=>by rw[hh];rfl
 have hmu:mC (none,[2]) (.mp mo) (AS (XB d p.1).name) (AS p.2) H=some (.und,H.set mo (LA PV.str UA (rB (XB d p.1).name p.2 m2)),[]):=z6r ho
 have fp:∀y:TReg,uA y = .agg [.str y.name,eI y.long]:=fun _=>rfl
 rw[fp]at q1;unfold actH;have fin:∀{a b:UInt8} {A B:aA},a=b→A=B→(AV.p (.int .u8 (a.toNat:Int))=AV.p (.int .u8 (b.toNat:Int))∧A=B∧([]:Esc)=[]):=fun h1 h2=>⟨by rw[h1],h2,rfl⟩
 by_cases s0:st=0
 ·subst s0
  rw[if_neg (by decide),if_pos (by decide)]
  simp only[WE,go_sem,c0,w5,e2,wE,dK];simp [sC]
 have s0':¬(st:Int)=0:=by omega
 by_cases s3:st=3
 ·subst s3
  rw[if_neg (by decide),if_pos (by decide)]
  simp only[WE,go_sem,c0,w6,e2,wE,dK,s0',↓q2,q2];simp [sC]
 have s3':¬(st:Int)=3:=by omega
 have mS:∀n:Nat,n≤2000000→n≤PA:=fun n h=>by unfold PA;omega
 by_cases s4:st=4∨st=11
 ·rw[if_neg (by omega),if_pos (by omega)]
  have hne:=P.ne
  have hn:=P.n
  have ea:sC st d p b=((p.1,p.2.tail++[b]),p.2.headD 0):=by unfold sC;rw[if_neg s0,if_neg s3,if_pos s4]
  rw[ea];obtain⟨p1,p2⟩:=p;cases p2 with
  | nil=>exact absurd rfl hne
  | cons x r=>
   have hr:r.length+1≤PA:=mS _ (by simp at hn;omega)
   dsimp only at w6 g6;simp only[List.tail_cons,List.headD_cons];have wb:IntKind.i32.wrap (b.toNat:Int)=(b.toNat:Int):=by rcases hb with rfl|rfl <;> rfl
   have b1:(b.toNat:Int)<128:=by rcases hb with rfl|rfl <;> decide
   have b2:UInt8.ofNat b.toNat=b:=by simp
   have b0:0≤(b.toNat:Int):=by omega
   have b3:((b.toNat:Int)).toNat=b.toNat:=by omega
   have wn:win (x::r) 1 (r.length+1-1)=r:=by simp [win]
   by_cases h4:st=4
   ·subst h4
    simp only[WE,go_sem,c0,e1,vF,e2,wE,g6,w6,dK,s0',s3',wb,b1,b2,b0,b3,wn,hr]
   ·have h4':¬(st:Int)=4:=by omega
    have h11:(st:Int)=11:=by omega
    simp only[WE,go_sem,c0,e1,vF,e2,wE,g6,w6,dK,s0',s3',h4',h11,wb,b1,b2,b0,b3,wn,hr]
 have s4':¬(st:Int)=4:=by omega
 have s11':¬(st:Int)=11:=by omega
 by_cases s8:st=8
 ·subst s8
  rw[if_pos rfl];have ea:sC 8 d p b=(p,b):=rfl
  rw[ea];by_cases n1:(XB d p.1).name=yB
  ·rw[if_neg (by simp [n1])]
   unfold yB at n1;simp only[WE,go_sem,c0,e1,vF,e2,wE,s0',s3',s4',s11',↓q1,q1,n1]
  ·by_cases n2:(XB d p.1).name=bB
   ·rw[if_neg (by simp [n2])]
    unfold bB at n2;unfold yB at n1;simp only[WE,go_sem,c0,e1,vF,e2,wE,s0',s3',s4',s11',↓q1,q1,eq_false n1,eq_true n2]
   ·rw[if_pos ⟨n1,n2⟩]
    unfold bB at n2;unfold yB at n1;simp only[WE,go_sem,c0,e1,vF,e2,wE,s0',s3',s4',s11',↓q1,q1,n1,n2,g8,g6,hmu,dK]
 have s8':¬(st:Int)=8:=by omega
 rw[if_neg s8];by_cases s10:st=10
 ·subst s10
  rw[if_pos (by decide)]
  have w1:IntKind.i64.wrap (d.long-1)=d.long-1:=zA _ (by have:=D.lo;omega) (by have:=D.hi;omega)
  have rz:=fun h K=>BF (h:=h) (K:=K) (d.long-1) (by have:=D.lo;omega) (by have:=D.hi;omega)
  have ln:(zs (d.long-1).toNat).length+1≤PA:=mS _ (by have:=D.hi;simp [zs];omega)
  have ln2:1+(zs (d.long-1).toNat).length≤PA:=by omega
  have ea:sC 10 d p b=((p.1,49::zs (d.long-1).toNat),b):=rfl
  rw[ea];simp only[WE,go_sem,c0,e1,vF,e2,wE,g1,w6,dK,s0',s3',s4',s11',s8',w1,↓rz,rz,ln,ln2]
 have s10':¬(st:Int)=10:=by omega
 by_cases s15:st=15
 ·subst s15
  rw[if_pos (by decide)]
  have ea:sC 15 d p b=((p.2,p.2),b):=rfl
  rw[ea];simp only[WE,go_sem,c0,e1,vF,e2,wE,g6,w5,dK,s0',s3',s4',s11',s8',s10']
 have s15':¬(st:Int)=15:=by omega
 rw[if_neg (by omega)]
 have ea:sC st d p b=(p,b):=by unfold sC;rw[if_neg s0,if_neg s3,if_neg s4,if_neg s10,if_neg s15]
 rw[ea];simp only[WE,go_sem,c0,e1,vF,e2,wE,s0',s3',s4',s11',s8',s10',s15']
end Go.Am
end
section
namespace Go.Am
variable {h:aA} {K:kA}
attribute [-go_sem] YA NB mC
def PortS.act (st:Nat)(q:PortS)(b:UInt8):PortS×UInt8:=
 (⟨q.d,(sC st q.d q.p b).1,q.mi,if st=8∧(XB q.d q.p.1).name≠yB∧(XB q.d q.p.1).name≠bB then rB (XB q.d q.p.1).name q.p.2 q.mo else q.mo⟩,(sC st q.d q.p b).2)
structure PSOk (q:PortS):Prop where
 D:DevOk q.d
 P:PortOk q.p
 I:InM q.d q.mi
theorem CH_p {st:Int}{l:List PortS}{t:aA}{i:Nat}{q:PortS}(hi:l[i]?=some q):(CH h st l t)[h.length+2+4*i+3]?=some (.box (pC q.d q.p (h.length+2+4*i+1) (h.length+2+4*i+2))):=by
 unfold CH;have lt:i<l.length:=by rcases Nat.lt_or_ge i l.length with c|c;exact c;rw[List.getElem?_eq_none c]at hi;cases hi
 have e:h.length+2+4*i+3=h.length+((4*i+3)+1+1):=by omega
 rw[e,bD,List.getElem?_cons_succ,List.getElem?_cons_succ,List.getElem?_append_left (by rw[PF];omega),z82 hi]
theorem CH_mi {st:Int}{l:List PortS}{t:aA}{i:Nat}{q:PortS}(hi:l[i]?=some q):(CH h st l t)[h.length+2+4*i+1]?=some (LA PV.str UA q.mi):=by
 unfold CH;have lt:i<l.length:=by rcases Nat.lt_or_ge i l.length with c|c;exact c;rw[List.getElem?_eq_none c]at hi;cases hi
 have e:h.length+2+4*i+1=h.length+((4*i+1)+1+1):=by omega
 rw[e,bD,List.getElem?_cons_succ,List.getElem?_cons_succ,List.getElem?_append_left (by rw[PF];omega),z80 hi]
theorem CH_mo {st:Int}{l:List PortS}{t:aA}{i:Nat}{q:PortS}(hi:l[i]?=some q):(CH h st l t)[h.length+2+4*i+2]?=some (LA PV.str UA q.mo):=by
 unfold CH;have lt:i<l.length:=by rcases Nat.lt_or_ge i l.length with c|c;exact c;rw[List.getElem?_eq_none c]at hi;cases hi
 have e:h.length+2+4*i+2=h.length+((4*i+2)+1+1):=by omega
 rw[e,bD,List.getElem?_cons_succ,List.getElem?_cons_succ,List.getElem?_append_left (by rw[PF];omega),z81 hi]
theorem CH_sp {st:Int}{l:List PortS}{t:aA}{i:Nat}{q:PortS}{p:nB}(hi:l[i]?=some q):(CH h st l t).set (h.length+2+4*i+3) (.box (pC q.d p (h.length+2+4*i+1) (h.length+2+4*i+2)))=CH h st (l.set i { q with p:=p }) t:=by
 unfold CH;have lt:i<l.length:=by rcases Nat.lt_or_ge i l.length with c|c;exact c;rw[List.getElem?_eq_none c]at hi;cases hi
 have e:h.length+2+4*i+3=h.length+((4*i+3)+1+1):=by omega
 have e2:=z84 (p:=p) (b:=h.length+2) hi
 rw[e,DD,List.set_cons_succ,List.set_cons_succ,List.set_append_left _ _ (by rw[PF];omega),e2,List.length_set]
theorem CH_so {st:Int}{l:List PortS}{t:aA}{i:Nat}{q:PortS}{m:SM}(hi:l[i]?=some q):(CH h st l t).set (h.length+2+4*i+2) (LA PV.str UA m)=CH h st (l.set i { q with mo:=m }) t:=by
 unfold CH;have lt:i<l.length:=by rcases Nat.lt_or_ge i l.length with c|c;exact c;rw[List.getElem?_eq_none c]at hi;cases hi
 have e:h.length+2+4*i+2=h.length+((4*i+2)+1+1):=by omega
 have e2:=z83 (m:=m) (b:=h.length+2) hi
 rw[e,DD,List.set_cons_succ,List.set_cons_succ,List.set_append_left _ _ (by rw[PF];omega),e2,List.length_set]
theorem sR {α:Type}{l:List α}{i:Nat}{a:α}(h:l[i]?=some a):l.set i a=l:=by
 apply List.ext_getElem?
 intro j;rw[List.getElem?_set];by_cases e:i=j
 ·subst e
  rw[if_pos rfl];rcases Nat.lt_or_ge i l.length with c|c
  ·rw[if_pos c,h]
  ·rw[List.getElem?_eq_none c]at h;cases h
 ·rw[if_neg e]
theorem zdo {st:Nat}{l:List PortS}{t:aA}{i:Nat}{q:PortS}{b:UInt8}(hi:l[i]?=some q) :
 actH (CH h st l t) st q.d q.p b (h.length+2+4*i+3) (h.length+2+4*i+1) (h.length+2+4*i+2) q.mo=CH h st (l.set i (q.act st b).1) t:=by
 unfold actH PortS.act;by_cases h8:st=8
 ·subst h8
  rw[if_pos rfl];have e:(sC 8 q.d q.p b).1=q.p:=rfl
  rw[e];by_cases hn:(XB q.d q.p.1).name≠yB∧(XB q.d q.p.1).name≠bB
  ·rw[if_pos hn,if_pos ⟨rfl,hn⟩,CH_so hi]
  ·rw[if_neg hn,if_neg (show ¬((8:Nat)=8∧(XB q.d q.p.1).name≠yB∧(XB q.d q.p.1).name≠bB) from fun c=>hn c.2)]
   exact congrArg (fun l=>CH h _ l t) (sR hi).symm
 ·rw[if_neg h8,if_neg (show ¬(st=8∧(XB q.d q.p.1).name≠yB∧(XB q.d q.p.1).name≠bB) from fun c=>h8 c.1)]
  by_cases hs:st=0∨st=3∨st=4∨st=11∨st=10∨st=15
  ·rw[if_pos hs,CH_sp hi]
  ·rw[if_neg hs]
   have e:(sC st q.d q.p b).1=q.p:=by
    unfold sC;rw[if_neg (by omega),if_neg (by omega),if_neg (by omega),if_neg (by omega),if_neg (by omega)]
   rw[e];exact congrArg (fun l=>CH h _ l t) (sR hi).symm
theorem z0q {st:Nat}{q:PortS}{b:UInt8}(Q:PSOk q)(hb:OB b):PSOk (q.act st b).1∧OB (q.act st b).2:=by
 obtain⟨a1,a2⟩:=z7b Q.D Q.P st hb;exact⟨⟨Q.D,a1,Q.I⟩,a2⟩
def MC (st:Nat):List PortS→UInt8→List PortS×UInt8
 | q::r,b=>let y:=q.act st b;let z:=MC st r y.2; (y.1::z.1,z.2)
 | [],b=>([],b)
theorem z7g (st:Nat):∀(l:List PortS) (b:UInt8),(MC st l b).2=(UC st (l.map PortS.d) (l.map PortS.p) b).2∧(MC st l b).1.map PortS.p=(UC st (l.map PortS.d) (l.map PortS.p) b).1∧(MC st l b).1.map PortS.d=l.map PortS.d
 | [],b=>⟨rfl,rfl,rfl⟩
 | q::r,b=>by
  obtain⟨a1,a2,a3⟩:=z7g st r (q.act st b).2;exact⟨a1,by simp only[MC,UC,List.map_cons,a2];rfl,by simp only[MC,List.map_cons,a3];rfl⟩
theorem z7i (st:Nat):∀(l:List PortS) (b:UInt8),(∀q∈l,PSOk q)→OB b→(∀q∈(MC st l b).1,PSOk q)∧OB (MC st l b).2
 | [],b,_,hb=>⟨by simp [MC],hb⟩
 | q::r,b,hl,hb=>by
  obtain⟨a1,a2⟩:=z0q (st:=st) (hl q List.mem_cons_self) hb;obtain⟨b1,b2⟩:=z7i st r _ (fun x hx=>hl x (List.mem_cons_of_mem _ hx)) a2
  refine⟨fun x hx=>?_,b2⟩
  rcases List.mem_cons.1 hx with e|e
  ·rw[e];exact a1
  ·exact b1 x e
theorem z7h (st:Nat):∀(l:List PortS) (b:UInt8),(MC st l b).1.length=l.length
 | [],_=>rfl
 | q::r,b=>by simp [MC,z7h st r]
theorem zns:∀ s<16,∀ t<2,nxt s t=stp s t:=by decide
theorem zph (s t:Nat)(hs:s<16)(ht:t<2):bA X uG [AI s,AI t] h K=K (AI (stp s t)) h []:=by
 rw[z9A (Y:=X) rfl s t hs ht,zns s hs t ht]
def mG (st:Nat)(b:UInt8):Int:=if st=4∨st=11 then(b.toNat:Int)-48 else -1
attribute [-go_sem] eP aJ fP bJ
set_option maxHeartbeats 2000000 in
theorem zpg (tl:aA)(l:List PortS)(hl:∀ q∈l,PSOk q)(h20:l.length≤1000)(st:Nat)(hst:st<16)(tms tdi:UInt8)(h1:OB tms)(h2:OB tdi) :
 bA X XP [.ref (h.length+1) 0,AI ((tms.toNat-48:Nat):Int),AI ((tdi.toNat-48:Nat):Int)] (CH h st l tl) K=K (AI (mG st (MC st l tdi).2)) (CH h (stW st tms) (MC st l tdi).1 tl) []:=by
 refine rA ?_;rw[zfx rfl];have w1:IntKind.i64.wrap (48+((tdi.toNat-48:Nat):Int))=((tdi.toNat:Nat):Int):=by rcases h2 with rfl|rfl <;> rfl
 have w2:IntKind.u8.wrap (tdi.toNat:Int)=(tdi.toNat:Int):=by rcases h2 with rfl|rfl <;> rfl
 have c1:(CH h st l tl)[h.length+1]?=some (.box [AI st,.bt 3 0 h.length l.length]):=CH_1
 have c1':ldB none 1 (CH h st l tl)[h.length+1]?=some (.bt 3 0 h.length l.length):=by rw[c1];rfl
 simp only[mT,go_sem,w1,w2,c1'];refine XA (fun t:List PortS×List PortS×UInt8=>⟨[(0,.ref (h.length+1) 0),(1,AI ((tms.toNat-48:Nat):Int)),(7,.p (.int .u8 t.2.2.toNat)),(17,.bt 3 0 h.length l.length),(18,AI l.length),(19,AI t.1.length)],CH h st (t.1++t.2.1) tl,[]⟩)
  (fun t=>(MC st l tdi=(t.1++(MC st t.2.1 t.2.2).1,(MC st t.2.1 t.2.2).2)∧t.1.length+t.2.1.length=l.length)∧(∀q∈t.1++t.2.1,PSOk q)∧OB t.2.2) (fun t=>t.2.1.length) ([],l,tdi) rfl ⟨⟨rfl,by simp⟩,by simpa using hl,h2⟩ ?_
 rintro⟨dn,rs,b⟩ ⟨⟨i1,i2⟩,i3,i4⟩
 dsimp only at i1 i2 i3 i4 ⊢;have ll:(dn++rs).length=l.length:=by simpa using i2
 cases rs with
 | cons q rs=>
  have hq:(dn++q::rs)[dn.length]?=some q:=by simp
  have Q:=i3 q (by simp)
  have hlt:dn.length<l.length:=by simp at i2;omega
  have hlt':(dn.length:Int)<(l.length:Int):=by omega
  have hs:(dn++q::rs).set dn.length (q.act st b).1=(dn++[(q.act st b).1])++rs:=by simp
  have w3:IntKind.i64.wrap ((dn.length:Int)+1)=((dn.length+1:Nat):Int):=zA _ (by omega) (by omega)
  have ac:=fun K=>s_act (H:=CH h st (dn++q::rs) tl) (K:=K) (c:=h.length+1) (a:=h.length) (n:=(dn++q::rs).length) q.d Q.D q.p Q.P hst b i4 CH_1 (CH_p hq) (CH_mi hq) Q.I (CH_mo hq)
  rw[zdo hq,hs]at ac;have c0:(CH h st (dn++q::rs) tl)[h.length]?=some (.arow none (wD (h.length+2) l.length)):=by rw[CH_0,ll]
  have rl:(wD (h.length+2) l.length).length=l.length:=zaP
  have rg:(wD (h.length+2) l.length)[dn.length]?=some (.ref (h.length+2+4*dn.length+3) 0):=znO hlt
  have eo:(sC st q.d q.p b).2=(q.act st b).2:=rfl
  rw[eo]at ac;have sh1:gA none=1:=rfl
  simp only[go_sem,Nat.mul_one,hlt',hlt,c0,rl,rg,↓ac,ac,w3];refine⟨(dn++[(q.act st b).1],rs,(q.act st b).2),by simp,⟨⟨?_,?_⟩,fun y hy=>?_,(z0q Q i4).2⟩,by simp⟩
  ·rw[i1];simp [MC]
  ·simp at i2 ⊢;omega
  ·simp only[List.append_assoc,List.mem_append,List.mem_cons,List.not_mem_nil,or_false]at hy
   rcases hy with e|e|e
   ·exact i3 y (by simp [e])
   ·rw[e];exact(z0q Q i4).1
   ·exact i3 y (by simp [e])
 | nil=>
  have hlen:dn.length=l.length:=by simpa using i2
  rw[List.append_nil]at ll i3 ⊢;have e1:(MC st l tdi).1=dn:=by rw[i1];simp [MC]
  have e2:(MC st l tdi).2=b:=by rw[i1];rfl
  rw[e1,e2];have n1:¬(dn.length:Int)<(l.length:Int):=by omega
  have c1:(CH h st dn tl)[h.length+1]?=some (.box [AI st,.bt 3 0 h.length dn.length]):=CH_1
  have c2:ldB none 0 (CH h st dn tl)[h.length+1]?=some (AI st):=by rw[c1];rfl
  have t2:tms.toNat-48<2:=by rcases h1 with rfl|rfl <;> decide
  have nx:=fun K=>zph (h:=CH h st dn tl) (K:=K) st (tms.toNat-48) hst t2
  have s1:∀v:Int,stB none (h.length+1) 0 (AI v) (CH h st dn tl) (CH h st dn tl)[h.length+1]? (some [AI v])=some (.und,CH h v dn tl,[]):=fun v=>by
   rw[c1];show some (AV.und,(CH h st dn tl).set (h.length+1) _,_)=_
   rw[CH_R,z69];rfl
  have tk:∀v:Int,(CH h v dn tl).take (CH h st l tl).length=CH h v dn tl:=fun v=>List.take_of_length_le (by rw[EI,EI];omega)
  have f1:h.length+1+1≤(CH h st l tl).length:=by rw[EI];omega
  have es:stW st tms=stp st (tms.toNat-48):=rfl
  have w3:IntKind.u8.wrap ((b.toNat:Int)-48)=(b.toNat:Int)-48:=by rcases i4 with rfl|rfl <;> rfl
  have w4:IntKind.i64.wrap ((b.toNat:Int)-48)=(b.toNat:Int)-48:=by rcases i4 with rfl|rfl <;> rfl
  unfold mG;by_cases s4:st=4
  ·rw[if_pos (by omega)]
   have s4':(st:Int)=4:=by omega
   simp only[go_sem,n1,fP,bJ,eP,aJ,c2,w3,w4,↓nx,nx,s1,tk,es,eq_true s4']
  ·have s4':¬(st:Int)=4:=by omega
   by_cases s11:st=11
   ·have s11':(st:Int)=11:=by omega
    rw[if_pos (by omega)]
    simp only[go_sem,n1,fP,bJ,eP,aJ,c2,w3,w4,↓nx,nx,s1,tk,es,s4',eq_true s11']
   ·have s11':¬(st:Int)=11:=by omega
    rw[if_neg (by omega)]
    simp only[go_sem,n1,fP,bJ,eP,aJ,c2,w3,w4,↓nx,nx,s1,tk,es,s4',s11']
end Go.Am
end
section
namespace Go.Am
variable {h l:aA} {K:kA} {r:Run}
attribute [-go_sem] YA splice
def rc (s:Sett)(st ck ni nd:Int)(a b c d e:AV)(w:Bool):List AV:=
 [AI s.e1.k,AI s.e1.s,AI s.e1.cl,AS s.e1.b,AS s.e1.w,AS s.e1.m,AI s.e2.k,AI s.e2.s,AI s.e2.cl,AS s.e2.b,AS s.e2.w,AS s.e2.m,
  AI s.h1.k,AI s.h1.s,AI s.h1.cl,AS s.h1.b,AS s.h1.w,AS s.h1.m,AI s.t1.k,AI s.t1.s,AI s.t1.cl,AS s.t1.b,AS s.t1.w,AS s.t1.m,
  AI s.h2.k,AI s.h2.s,AI s.h2.cl,AS s.h2.b,AS s.h2.w,AS s.h2.m,AI s.t2.k,AI s.t2.s,AI s.t2.cl,AS s.t2.b,AS s.t2.w,AS s.t2.m,
  AI st,AI ck,AI ni,AI nd,a,b,c,d,e,AB w]
section
variable {s:Sett} {st ck ni nd x:Int} {a b c d e o:AV} {w:Bool}
theorem dX:(rc s st ck ni nd a b c d e w).length=46:=(rfl)
theorem cX:yG (rc s st ck ni nd a b c d e w)=false:=(rfl)
theorem rc_1:(rc s st ck ni nd a b c d e w)[1]?=some (AI s.e1.s):=(rfl)
theorem rc_7:(rc s st ck ni nd a b c d e w)[7]?=some (AI s.e2.s):=(rfl)
theorem XW:(rc s st ck ni nd a b c d e w)[15]?=some (AS s.h1.b):=(rfl)
theorem YW:(rc s st ck ni nd a b c d e w)[21]?=some (AS s.t1.b):=(rfl)
theorem ZW:(rc s st ck ni nd a b c d e w)[27]?=some (AS s.h2.b):=(rfl)
theorem aX:(rc s st ck ni nd a b c d e w)[33]?=some (AS s.t2.b):=(rfl)
theorem mN:(rc s st ck ni nd a b c d e w)[36]?=some (AI st):=(rfl)
theorem qI:(rc s st ck ni nd a b c d e w)[37]?=some (AI ck):=(rfl)
theorem nN:(rc s st ck ni nd a b c d e w)[38]?=some (AI ni):=(rfl)
theorem oN:(rc s st ck ni nd a b c d e w)[39]?=some (AI nd):=(rfl)
theorem pN:(rc s st ck ni nd a b c d e w)[40]?=some a:=(rfl)
theorem qN:(rc s st ck ni nd a b c d e w)[41]?=some b:=(rfl)
theorem rN:(rc s st ck ni nd a b c d e w)[42]?=some c:=(rfl)
theorem sN:(rc s st ck ni nd a b c d e w)[43]?=some d:=(rfl)
theorem tN:(rc s st ck ni nd a b c d e w)[44]?=some e:=(rfl)
theorem bX:(rc s st ck ni nd a b c d e w)[45]?=some (AB w):=(rfl)
theorem fX:splice (rc s st ck ni nd a b c d e w) 36 [AI x]=rc s x ck ni nd a b c d e w:=(rfl)
theorem gX:splice (rc s st ck ni nd a b c d e w) 37 [AI x]=rc s st x ni nd a b c d e w:=(rfl)
theorem iX:splice (rc s st ck ni nd a b c d e w) 38 [AI x]=rc s st ck x nd a b c d e w:=(rfl)
theorem jX:splice (rc s st ck ni nd a b c d e w) 39 [AI x]=rc s st ck ni x a b c d e w:=(rfl)
theorem kX:splice (rc s st ck ni nd a b c d e w) 40 [o]=rc s st ck ni nd o b c d e w:=(rfl)
theorem lX:splice (rc s st ck ni nd a b c d e w) 41 [o]=rc s st ck ni nd a o c d e w:=(rfl)
theorem mX:splice (rc s st ck ni nd a b c d e w) 42 [o]=rc s st ck ni nd a b o d e w:=(rfl)
theorem nX:splice (rc s st ck ni nd a b c d e w) 43 [o]=rc s st ck ni nd a b c o e w:=(rfl)
theorem oX:splice (rc s st ck ni nd a b c d e w) 44 [o]=rc s st ck ni nd a b c d o w:=(rfl)
variable {q:Cmd}
end
abbrev eN (n:Nat):PV:=eI n
def rh (h:aA)(r:Run)(l:aA):aA:=h ++ .row none (r.sts.map eN) 0 :: .row none (r.frs.map eN) 0 :: .row none (yA r.tms) 0 :: .row none (yA r.tdi) 0 :: .row none (yA r.want) 0 ::
 .box (rc r.se r.st r.ck r.ni r.nd (.own h.length r.sts.length 0 r.sts.length) (.own (h.length+1) r.frs.length 0 r.frs.length) (.own (h.length+2) r.tms.length 0 r.tms.length) (.own (h.length+3) r.tdi.length 0 r.tdi.length) (.own (h.length+4) r.want.length 0 r.want.length) r.wr)::l
structure RunOk (r:Run):Prop where
 t:r.tms.length≤r.ck
 i:r.tdi.length≤r.ck
 w:r.want.length≤r.ck
theorem YJ {L:List (UInt8 × UInt8 × UInt8)}(R:RunOk r):RunOk (r.clk L):=by
 unfold Run.clk;have:=R.t;have:=R.i;have:=R.w
 split <;> (refine⟨?_,?_,?_⟩ <;> simp <;> omega)
attribute [local go_sem] dX cX rc_1 rc_7 XW YW ZW aX mN qI nN oN pN qN rN sN tN bX fX gX iX jX kX lX mX nX oX
set_option maxHeartbeats 2000000 in
theorem GX (R:RunOk r)(hck:r.ck≤1000000000)(a b c:UInt8):bA X TH [.ref (h.length+5) 0,.p (.int .u8 a.toNat),.p (.int .u8 b.toNat),.p (.int .u8 c.toNat)] (rh h r l) K=K (.tup []) (rh h (r.clk [(a,b,c)]) l) []:=by
 refine rA ?_;rw[zfO rfl];have hr:=R.t;have:=R.i;have:=R.w
 have w1:IntKind.i64.wrap ((r.ck:Int)+1)=((r.ck+1:Nat):Int):=zA _ (by omega) (by omega)
 obtain⟨se,st,ck,ni,nd,sts,frs,tms,tdi,want,wr⟩:=r;dsimp only at *;unfold rh Run.clk;have m1:tms.length+1≤GA:=by unfold GA;omega
 have m2:tdi.length+1≤GA:=by unfold GA;omega
 have m3:want.length+1≤GA:=by unfold GA;omega
 have e2:∀k n o m,k<5→uC (h.length+5) (.own (h.length+k) n o m)=[]:=fun k n o m hk=>by unfold uC;rw[z6l,if_neg (by omega)]
 have e3:=fun n o m=>e2 2 n o m (by decide)
 have e4:=fun n o m=>e2 3 n o m (by decide)
 have e5:=fun n o m=>e2 4 n o m (by decide)
 cases wr with
 | false=>simp only[aP,go_sem,w1]
 | true=>
  simp only[aP,go_sem,w1,iG,m1,m2,m3,e3,e4,e5,List.take_length];simp [yA]
end Go.Am
end
section
namespace Go.Am
variable {h l l2:aA} {K:kA} {r:Run} {n:Nat} {o:Obj}
attribute [-go_sem] YA splice
attribute [local go_sem] dX cX rc_1 rc_7 XW YW ZW aX mN qI nN oN pN qN rN sN tN bX fX gX iX jX kX lX mX nX oX
theorem tI:(rh h r l).length=h.length+(l.length+6):=by unfold rh;simp
theorem vN:rh h r l++l2=rh h r (l++l2):=by unfold rh;simp
theorem TJ:(rh h r l)[h.length+(n+6)]?=l[n]?:=by unfold rh;rw[bD];rfl
theorem UJ:(rh h r l).set (h.length+(n+6)) o=rh h r (l.set n o):=by unfold rh;rw[DD];rfl
theorem VJ:(rh h r l).take (h.length+(n+6))=rh h r (l.take n):=by unfold rh;rw[qH];rfl
theorem wN:(rh h r l).take h.length=h:=by unfold rh;rw[oK]
theorem SJ:(rh h r l)[h.length+5]?=some (.box (rc r.se r.st r.ck r.ni r.nd (.own h.length r.sts.length 0 r.sts.length) (.own (h.length+1) r.frs.length 0 r.frs.length) (.own (h.length+2) r.tms.length 0 r.tms.length) (.own (h.length+3) r.tdi.length 0 r.tdi.length) (.own (h.length+4) r.want.length 0 r.want.length) r.wr)):=by unfold rh;rw[bD];rfl
section
variable {s:Sett} {x y z:Nat}
theorem lR:(rh h r l).set (h.length+5) (.box (rc s x r.ck y z (.own h.length r.sts.length 0 r.sts.length) (.own (h.length+1) r.frs.length 0 r.frs.length) (.own (h.length+2) r.tms.length 0 r.tms.length) (.own (h.length+3) r.tdi.length 0 r.tdi.length) (.own (h.length+4) r.want.length 0 r.want.length) r.wr))=rh h { r with se:=s,st:=x,ni:=y,nd:=z } l:=by unfold rh;rw[DD];rfl
end
attribute [local go_sem] tI vN TJ UJ VJ wN SJ lR
theorem OR:r.clk []=r:=by unfold Run.clk;split <;> simp
theorem PR {L:List (UInt8 × UInt8 × UInt8)}{x:UInt8 × UInt8 × UInt8}:(r.clk L).clk [x]=r.clk (L++[x]):=by
 unfold Run.clk;cases hw:r.wr <;> simp [hw,Nat.add_assoc]
theorem dO {L:List (UInt8 × UInt8 × UInt8)}:(r.clk L).ck=r.ck+L.length:=(cD r L).2.2.2.2.2.1
theorem ZJ {tov:Nat}(R:RunOk r):RunOk (r.go jA tov):=by
 have Q:=YJ (L:=(jA r.st tov).map fun c=>(c,48,120)) R
 exact⟨Q.t,Q.i,Q.w⟩
theorem uJ {tov:Nat}:(r.go jA tov).ck=r.ck+(jA r.st tov).length:=(ZB jA r tov).2.2.2.2.2.1
set_option maxHeartbeats 2000000 in
theorem AN (R:RunOk r)(hck:r.ck≤900000000)(hf:r.st∈frS){tov:Nat}(ht:tov∈toS):bA X vG [.ref (h.length+5) 0,AI tov] (rh h r l) K=K (.tup []) (rh h (r.go jA tov) l) []:=by
 refine rA ?_;rw[zfQ rfl];have to16:tov<16:=by simp only[toS,List.mem_cons,List.not_mem_nil,or_false]at ht;omega
 have hp:=fun(h':aA) (K':kA)=>zo7 (h:=h') (K:=K') (z9l hf) to16
 obtain⟨pb,pl,_⟩:=cC hf ht;have hgo:r.go jA tov={ r.clk ((jA r.st tov).map fun c=>(c,48,120)) with st:=tov }:=rfl
 rw[hgo];simp only[JT,go_sem,hp];generalize jA r.st tov=w at pl ⊢;refine XA (fun k:Nat=>⟨[(0,.ref (h.length+5) 0),(1,AI tov),(4,AS w),(17,AI w.length),(18,AI k)],rh h (r.clk ((w.take k).map fun c=>(c,48,120))) l,[]⟩) (fun k=>k≤w.length) (fun k=>w.length-k) 0 (by rw[List.take_zero,List.map_nil,OR];rfl) (by omega) ?_
 intro k hk;have hc:=fun(a:UInt8) (K':kA)=>GX (h:=h) (l:=l) (K:=K') (YJ (L:=(w.take k).map fun c=>(c,48,120)) R) (by rw[dO];simp;omega) a 48 120
 rcases Nat.lt_or_ge k w.length with hlt|hge
 ·have w2:IntKind.i64.wrap ((k:Int)+1)=((k+1:Nat):Int):=zA _ (by omega) (by omega)
  have hg:w[k]?=some w[k]:=List.getElem?_eq_getElem hlt
  have hlt':(k:Int)<(w.length:Int):=by omega
  have hc':=fun(K':kA)=>hc w[k] K'
  simp only[show(((48:UInt8).toNat:Nat):Int)=48 from rfl,show(((120:UInt8).toNat:Nat):Int)=120 from rfl]at hc'
  simp only[go_sem,hlt,hlt',hg,w2,hc'];refine⟨k+1,?_,by omega,by omega⟩
  rw[PR,List.take_succ_eq_append_getElem hlt,List.map_append];rfl
 ·obtain rfl:k=w.length:=by omega
  have hs:=(cD r ((w.map fun c=>((c,48,120):UInt8×UInt8×UInt8)))).1
  simp only[go_sem,Nat.lt_irrefl,Int.lt_irrefl,List.take_length]
end Go.Am
end
section
namespace Go.Am
variable {h l l2:aA} {K:kA} {r:Run} {n:Nat} {o:Obj}
attribute [-go_sem] YA splice
attribute [local go_sem] dX cX rc_1 rc_7 XW YW ZW aX mN qI nN oN pN qN rN sN tN bX fX gX iX jX kX lX mX nX oX
attribute [local go_sem] tI vN TJ UJ VJ wN SJ lR
def mK (r:Run):Prop:=r.ni≤r.ck∧r.nd≤r.ck
theorem xN {tov:Nat}(N:mK r):mK (r.go jA tov):=by
 obtain⟨_,_,_,_,_,c,a,b⟩:=ZB jA r tov;obtain⟨x,y⟩:=N;exact⟨by rw[a,c];omega,by rw[b,c];omega⟩
structure SetR (s:Sett):Prop where
 s1:UB s.e1.s=true
 s2:UB s.e2.s=true
 h1:s.h1.b.length≤2000
 t1:s.t1.b.length≤2000
 h2:s.h2.b.length≤2000
 t2:s.t2.b.length≤2000
theorem zbQ {c:Cmd}{hd al:List UInt8}{k:Nat}(hk:k<al.length):(dB c hd al)[k]?=some (if k=al.length-1 then 49 else 48,al[k],if hd.length≤k then(if k-hd.length<c.m.length then jC c (k-hd.length) else 120) else 120):=by
 unfold dB;rw[List.getElem?_map,List.getElem?_range hk,Option.map_some,List.getElem?_eq_getElem hk];rfl
theorem z5Y {c:Cmd}(h7:c.k=7):r.scn jA c=Run.go jA { Run.clk { r.go jA 11 with ni:=(r.go jA 11).ni+(r.se.h1.b++c.b++r.se.t1.b).length } (dB c r.se.h1.b (r.se.h1.b++c.b++r.se.t1.b)) with st:=12 } r.se.e1.s.toNat∧r.scnF jA c=(r.go jA 11).ck+r.se.h1.b.length:=by
 unfold Run.scn Run.scnF;simp [h7]
set_option maxHeartbeats 4000000 in
theorem zpb (R:RunOk r)(N:mK r)(hck:r.ck≤800000000)(hst:r.st∈stb)(S:SetR r.se)(c:Cmd)(h7:c.k=7)(hs:QC c=0):bA X UH [.ref (h.length+5) 0,ACm c] (rh h r l) K=K (AI (r.scnF jA c:Nat)) (rh h (r.scn jA c) l) []:=by
 refine rA ?_;rw[z7L rfl,(z5Y h7).1,(z5Y h7).2];have hw1:=fun(l:aA) (K':kA)=>AN (h:=h) (l:=l) (K:=K') R (by omega) (eC hst) (show 11∈toS by decide)
 simp only[show(((11:Nat)):Int)=11 from rfl]at hw1
 have R1:=ZJ (tov:=11) R
 have c1:(r.go jA 11).ck≤800000008:=by have:=(cC (eC hst) (show 11∈toS by decide)).2.1;rw[uJ];omega
 have N1:=xN (tov:=11) N
 generalize r.go jA 11=r1 at *;obtain⟨q1,q2,q3,q4,q5,q6⟩:=lF hs;obtain⟨n1,n2⟩:=EC S.s1;have hh:=S.h1;have ht:=S.t1
 generalize hhd:r.se.h1.b=hd at *;generalize htl:r.se.t1.b=tl at *;generalize hen:r.se.e1.s=en at *;obtain⟨en',rfl⟩:∃n:Nat,en=n:=⟨en.toNat,n2.symm⟩;simp only[Int.toNat_natCast]at n1 n2 ⊢;obtain⟨k,s,cl,b,w,m⟩:=c;dsimp only at h7 q1 q3 q6 ⊢;subst h7;have hbp:=List.length_pos_iff.2 q1
 have x1:hd.length+b.length≤PA:=by unfold PA;omega
 have x2:hd.length+(b.length+tl.length)≤PA:=by unfold PA;omega
 have x3:hd.length+b.length+tl.length≤PA:=by unfold PA;omega
 obtain⟨hn,hd'⟩:=N1;obtain⟨al,hal⟩:∃al,al=hd++b++tl:=⟨_,rfl⟩;have hall:al.length=hd.length+b.length+tl.length:=by rw[hal];simp;omega
 have hal2:=hal
 rw[List.append_assoc]at hal2;have w1:IntKind.i64.wrap ((r1.ni:Int)+(al.length:Int))=((r1.ni+al.length:Nat):Int):=zA _ (by omega) (by omega)
 have w2:IntKind.i64.wrap ((r1.ck:Int)+(hd.length:Int))=((r1.ck+hd.length:Nat):Int):=zA _ (by omega) (by omega)
 simp only[bP,go_sem,hw1,hhd,htl,hen,x1,x2,x3,←hal,←hal2,w1,w2];have R2:RunOk { r1 with ni:=r1.ni+al.length }:=⟨R1.t,R1.i,R1.w⟩
 have c2:{ r1 with ni:=r1.ni+al.length:Run }.ck=r1.ck:=rfl
 show NA (bA X) X.gl _ _ _ (rh h { r1 with ni:=r1.ni+al.length } _) []
 generalize { r1 with ni:=r1.ni+al.length:Run }=r2 at R2 c2 ⊢
 generalize hq:(⟨7,s,cl,b,w,m⟩:Cmd)=c at *;have hcm:c.m=m:=by rw[←hq]
 have hcw:c.w=w:=by rw[←hq]
 have hml:m.length≤b.length∧m.length≤w.length:=by
  rcases q6 with⟨e1,e2⟩|⟨e1,e2⟩
  ·rw[e2];exact⟨Nat.zero_le _,Nat.zero_le _⟩
  ·omega
 have hal0:0<al.length:=by omega
 refine XA (fun k:Nat=>⟨[(0,.ref (h.length+5) 0),(3,.ref (h.length+(l.length+6)) 0),(5,AS hd),(7,AI en'),(9,AI 12),(10,AS al),(11,AI (r1.ck+hd.length:Nat)),(93,AI al.length),(94,AI k)],
  rh h (r2.clk ((dB c hd al).take k)) (l++[.box [AI 7,AI s,AI cl,AS b,AS w,AS m]]),[]⟩) (fun k=>k≤al.length) (fun k=>al.length-k) 0 (by rw[List.take_zero,OR];rfl) (by omega) ?_
 intro k hk;have hlen:(dB c hd al).length=al.length:=qR c hd al
 have R3:=YJ (L:=(dB c hd al).take k) R2
 have c3:(r2.clk ((dB c hd al).take k)).ck≤900000000:=by rw[dO,c2,List.length_take];omega
 rcases Nat.lt_or_ge k al.length with hlt|hge
 ·have w3:IntKind.i64.wrap ((k:Int)+1)=((k+1:Nat):Int):=zA _ (by omega) (by omega)
  have w4:IntKind.i64.wrap ((al.length:Int)-1)=((al.length-1:Nat):Int):=by
   rw[show(al.length:Int)-1=((al.length-1:Nat):Int) by omega];exact zA _ (by omega) (by omega)
  have hlt':(k:Int)<(al.length:Int):=by omega
  have hg:al[k]?=some al[k]:=List.getElem?_eq_getElem hlt
  have hcl:=fun(t v:UInt8) (K':kA)=>GX (h:=h) (l:=l++[.box [AI 7,AI s,AI cl,AS b,AS w,AS m]]) (K:=K') R3 (by omega) t al[k] v
  have hsg:=zbQ (c:=c) (hd:=hd) hlt
  have hstep:∀t v:UInt8,(dB c hd al)[k]?=some (t,al[k],v)→(r2.clk ((dB c hd al).take k)).clk [(t,al[k],v)]=r2.clk ((dB c hd al).take (k+1)):=fun t v e=>by
   rw[PR,List.take_succ,e];rfl
  have e48:(((48:UInt8).toNat:Nat):Int)=48:=rfl
  have e49:(((49:UInt8).toNat:Nat):Int)=49:=rfl
  have e120:(((120:UInt8).toNat:Nat):Int)=120:=rfl
  generalize r2.clk ((dB c hd al).take k)=r3 at R3 c3 hcl hstep ⊢
  -- what is expected
  by_cases hk0:hd.length≤k
  ·have w5:IntKind.i64.wrap ((k:Int)-(hd.length:Int))=((k-hd.length:Nat):Int):=by
    rw[show(k:Int)-(hd.length:Int)=((k-hd.length:Nat):Int) by omega];exact zA _ (by omega) (by omega)
   have z0:(0:Int)≤((k-hd.length:Nat):Int):=by omega
   rw[if_pos hk0]at hsg;by_cases hm:k-hd.length<m.length
   ·have hm':((k-hd.length:Nat):Int)<(m.length:Int):=by omega
    rw[hcm,if_pos hm]at hsg;have hgm:m[k-hd.length]?=some m[k-hd.length]:=List.getElem?_eq_getElem hm
    have hgw:w[k-hd.length]?=some (w[k-hd.length]'(by omega)):=List.getElem?_eq_getElem (by omega)
    by_cases h49:m[k-hd.length]=49
    ·have hx:jC c (k-hd.length)=w[k-hd.length]'(by omega):=by unfold jC;rw[hcm,hgm,h49,if_pos rfl,hcw,hgw];rfl
     rw[hx]at hsg;by_cases hl1:k=al.length-1
     ·have hl2:((k:Int)=((al.length-1:Nat):Int))=True:=eq_true (by omega)
      have hcl1:=fun K'=>hcl 49 (w[k-hd.length]'(by omega)) K'
      rw[if_pos hl1]at hsg;rw[e49]at hcl1;simp only[go_sem,hlt,hlt',hg,w3,w4,w5,z0,hm,hm',hgm,hgw,h49,e49,hl2,hcl1];exact⟨k+1,by rw[hstep _ _ hsg],by omega,by omega⟩
     ·have hl2:((k:Int)=((al.length-1:Nat):Int))=False:=eq_false (by omega)
      have hcl1:=fun K'=>hcl 48 (w[k-hd.length]'(by omega)) K'
      rw[if_neg hl1]at hsg;rw[e48]at hcl1;simp only[go_sem,hlt,hlt',hg,w3,w4,w5,z0,hm,hm',hgm,hgw,h49,e49,hl2,hcl1];exact⟨k+1,by rw[hstep _ _ hsg],by omega,by omega⟩
    ·have hx:jC c (k-hd.length)=120:=by unfold jC;rw[hcm,hgm,if_neg (fun e=>h49 (Option.some.inj e))]
     rw[hx]at hsg;have h49':¬((m[k-hd.length].toNat:Int)=49):=fun e=>h49 (UInt8.toNat_inj.1 (by rw[show(49:UInt8).toNat=49 from rfl];omega))
     by_cases hl1:k=al.length-1
     ·have hl2:((k:Int)=((al.length-1:Nat):Int))=True:=eq_true (by omega)
      have hcl1:=fun K'=>hcl 49 120 K'
      rw[if_pos hl1]at hsg;rw[e49]at hcl1;rw[e120]at hcl1;simp only[go_sem,hlt,hlt',hg,w3,w4,w5,z0,hm,hm',hgm,h49',hl2,hcl1];exact⟨k+1,by rw[hstep _ _ hsg],by omega,by omega⟩
     ·have hl2:((k:Int)=((al.length-1:Nat):Int))=False:=eq_false (by omega)
      have hcl1:=fun K'=>hcl 48 120 K'
      rw[if_neg hl1]at hsg;rw[e48]at hcl1;rw[e120]at hcl1;simp only[go_sem,hlt,hlt',hg,w3,w4,w5,z0,hm,hm',hgm,h49',hl2,hcl1];exact⟨k+1,by rw[hstep _ _ hsg],by omega,by omega⟩
   ·have hm':¬((k-hd.length:Nat):Int)<(m.length:Int):=by omega
    rw[hcm,if_neg hm]at hsg;by_cases hl1:k=al.length-1
    ·have hl2:((k:Int)=((al.length-1:Nat):Int))=True:=eq_true (by omega)
     have hcl1:=fun K'=>hcl 49 120 K'
     rw[if_pos hl1]at hsg;rw[e49]at hcl1;rw[e120]at hcl1;simp only[go_sem,hlt,hlt',hg,w3,w4,w5,z0,hm,hm',hl2,hcl1];exact⟨k+1,by rw[hstep _ _ hsg],by omega,by omega⟩
    ·have hl2:((k:Int)=((al.length-1:Nat):Int))=False:=eq_false (by omega)
     have hcl1:=fun K'=>hcl 48 120 K'
     rw[if_neg hl1]at hsg;rw[e48]at hcl1;rw[e120]at hcl1;simp only[go_sem,hlt,hlt',hg,w3,w4,w5,z0,hm,hm',hl2,hcl1];exact⟨k+1,by rw[hstep _ _ hsg],by omega,by omega⟩
  ·have w5:IntKind.i64.wrap ((k:Int)-(hd.length:Int))=(k:Int)-(hd.length:Int):=zA _ (by omega) (by omega)
   have z0:¬(0:Int)≤(k:Int)-(hd.length:Int):=by omega
   rw[if_neg hk0]at hsg;by_cases hl1:k=al.length-1
   ·have hl2:((k:Int)=((al.length-1:Nat):Int))=True:=eq_true (by omega)
    have hcl1:=fun K'=>hcl 49 120 K'
    rw[if_pos hl1]at hsg;rw[e49]at hcl1;rw[e120]at hcl1;simp only[go_sem,hlt,hlt',hg,w3,w4,w5,z0,hl2,hcl1];exact⟨k+1,by rw[hstep _ _ hsg],by omega,by omega⟩
   ·have hl2:((k:Int)=((al.length-1:Nat):Int))=False:=eq_false (by omega)
    have hcl1:=fun K'=>hcl 48 120 K'
    rw[if_neg hl1]at hsg;rw[e48]at hcl1;rw[e120]at hcl1;simp only[go_sem,hlt,hlt',hg,w3,w4,w5,z0,hl2,hcl1];exact⟨k+1,by rw[hstep _ _ hsg],by omega,by omega⟩
 ·obtain rfl:k=al.length:=by omega
  have e1:(dB c hd al).take al.length=dB c hd al:=by rw[←hlen];exact List.take_length
  rw[e1]at R3 c3;simp only[go_sem,Nat.lt_irrefl,Int.lt_irrefl,e1];generalize r2.clk (dB c hd al)=r3 at R3 c3 ⊢;have hw2:=fun(l:aA) (K':kA)=>AN (h:=h) (l:=l) (K:=K') (r:={ r3 with st:=12 }) ⟨R3.t,R3.i,R3.w⟩ c3 (show 12∈frS by decide) (iD n1)
  have hp:=fun l=>lR (h:=h) (l:=l) (r:=r3) (s:=r3.se) (x:=12) (y:=r3.ni) (z:=r3.nd)
  simp only[show((12:Nat):Int)=12 from rfl]at hp
  simp only[go_sem,hp,hw2]
theorem z5X {c:Cmd}(h7:c.k=8):r.scn jA c=Run.go jA { Run.clk { r.go jA 4 with nd:=(r.go jA 4).nd+(r.se.h2.b++c.b++r.se.t2.b).length } (dB c r.se.h2.b (r.se.h2.b++c.b++r.se.t2.b)) with st:=5 } r.se.e2.s.toNat∧r.scnF jA c=(r.go jA 4).ck+r.se.h2.b.length:=by
 unfold Run.scn Run.scnF;simp [h7]
set_option maxHeartbeats 4000000 in
theorem zoY (R:RunOk r)(N:mK r)(hck:r.ck≤800000000)(hst:r.st∈stb)(S:SetR r.se)(c:Cmd)(h7:c.k=8)(hs:QC c=0):bA X UH [.ref (h.length+5) 0,ACm c] (rh h r l) K=K (AI (r.scnF jA c:Nat)) (rh h (r.scn jA c) l) []:=by
 refine rA ?_;rw[z7L rfl,(z5X h7).1,(z5X h7).2];have hw1:=fun(l:aA) (K':kA)=>AN (h:=h) (l:=l) (K:=K') R (by omega) (eC hst) (show 4∈toS by decide)
 simp only[show(((4:Nat)):Int)=4 from rfl]at hw1
 have R1:=ZJ (tov:=4) R
 have c1:(r.go jA 4).ck≤800000008:=by have:=(cC (eC hst) (show 4∈toS by decide)).2.1;rw[uJ];omega
 have N1:=xN (tov:=4) N
 generalize r.go jA 4=r1 at *;obtain⟨q1,q2,q3,q4,q5,q6⟩:=lF hs;obtain⟨n1,n2⟩:=EC S.s2;have hh:=S.h2;have ht:=S.t2
 generalize hhd:r.se.h2.b=hd at *;generalize htl:r.se.t2.b=tl at *;generalize hen:r.se.e2.s=en at *;obtain⟨en',rfl⟩:∃n:Nat,en=n:=⟨en.toNat,n2.symm⟩;simp only[Int.toNat_natCast]at n1 n2 ⊢;obtain⟨k,s,cl,b,w,m⟩:=c;dsimp only at h7 q1 q3 q6 ⊢;subst h7;have hbp:=List.length_pos_iff.2 q1
 have x1:hd.length+b.length≤PA:=by unfold PA;omega
 have x2:hd.length+(b.length+tl.length)≤PA:=by unfold PA;omega
 have x3:hd.length+b.length+tl.length≤PA:=by unfold PA;omega
 obtain⟨hn,hd'⟩:=N1;obtain⟨al,hal⟩:∃al,al=hd++b++tl:=⟨_,rfl⟩;have hall:al.length=hd.length+b.length+tl.length:=by rw[hal];simp;omega
 have hal2:=hal
 rw[List.append_assoc]at hal2;have w1:IntKind.i64.wrap ((r1.nd:Int)+(al.length:Int))=((r1.nd+al.length:Nat):Int):=zA _ (by omega) (by omega)
 have w2:IntKind.i64.wrap ((r1.ck:Int)+(hd.length:Int))=((r1.ck+hd.length:Nat):Int):=zA _ (by omega) (by omega)
 simp only[bP,go_sem,hw1,hhd,htl,hen,x1,x2,x3,←hal,←hal2,w1,w2];have R2:RunOk { r1 with nd:=r1.nd+al.length }:=⟨R1.t,R1.i,R1.w⟩
 have c2:{ r1 with nd:=r1.nd+al.length:Run }.ck=r1.ck:=rfl
 show NA (bA X) X.gl _ _ _ (rh h { r1 with nd:=r1.nd+al.length } _) []
 generalize { r1 with nd:=r1.nd+al.length:Run }=r2 at R2 c2 ⊢
 generalize hq:(⟨8,s,cl,b,w,m⟩:Cmd)=c at *;have hcm:c.m=m:=by rw[←hq]
 have hcw:c.w=w:=by rw[←hq]
 have hml:m.length≤b.length∧m.length≤w.length:=by
  rcases q6 with⟨e1,e2⟩|⟨e1,e2⟩
  ·rw[e2];exact⟨Nat.zero_le _,Nat.zero_le _⟩
  ·omega
 have hal0:0<al.length:=by omega
 refine XA (fun k:Nat=>⟨[(0,.ref (h.length+5) 0),(3,.ref (h.length+(l.length+6)) 0),(5,AS hd),(7,AI en'),(9,AI 5),(10,AS al),(11,AI (r1.ck+hd.length:Nat)),(93,AI al.length),(94,AI k)],
  rh h (r2.clk ((dB c hd al).take k)) (l++[.box [AI 8,AI s,AI cl,AS b,AS w,AS m]]),[]⟩) (fun k=>k≤al.length) (fun k=>al.length-k) 0 (by rw[List.take_zero,OR];rfl) (by omega) ?_
 intro k hk;have hlen:(dB c hd al).length=al.length:=qR c hd al
 have R3:=YJ (L:=(dB c hd al).take k) R2
 have c3:(r2.clk ((dB c hd al).take k)).ck≤900000000:=by rw[dO,c2,List.length_take];omega
 rcases Nat.lt_or_ge k al.length with hlt|hge
 ·have w3:IntKind.i64.wrap ((k:Int)+1)=((k+1:Nat):Int):=zA _ (by omega) (by omega)
  have w4:IntKind.i64.wrap ((al.length:Int)-1)=((al.length-1:Nat):Int):=by
   rw[show(al.length:Int)-1=((al.length-1:Nat):Int) by omega];exact zA _ (by omega) (by omega)
  have hlt':(k:Int)<(al.length:Int):=by omega
  have hg:al[k]?=some al[k]:=List.getElem?_eq_getElem hlt
  have hcl:=fun(t v:UInt8) (K':kA)=>GX (h:=h) (l:=l++[.box [AI 8,AI s,AI cl,AS b,AS w,AS m]]) (K:=K') R3 (by omega) t al[k] v
  have hsg:=zbQ (c:=c) (hd:=hd) hlt
  have hstep:∀t v:UInt8,(dB c hd al)[k]?=some (t,al[k],v)→(r2.clk ((dB c hd al).take k)).clk [(t,al[k],v)]=r2.clk ((dB c hd al).take (k+1)):=fun t v e=>by
   rw[PR,List.take_succ,e];rfl
  have e48:(((48:UInt8).toNat:Nat):Int)=48:=rfl
  have e49:(((49:UInt8).toNat:Nat):Int)=49:=rfl
  have e120:(((120:UInt8).toNat:Nat):Int)=120:=rfl
  generalize r2.clk ((dB c hd al).take k)=r3 at R3 c3 hcl hstep ⊢
  -- what is expected
  by_cases hk0:hd.length≤k
  ·have w5:IntKind.i64.wrap ((k:Int)-(hd.length:Int))=((k-hd.length:Nat):Int):=by
    rw[show(k:Int)-(hd.length:Int)=((k-hd.length:Nat):Int) by omega];exact zA _ (by omega) (by omega)
   have z0:(0:Int)≤((k-hd.length:Nat):Int):=by omega
   rw[if_pos hk0]at hsg;by_cases hm:k-hd.length<m.length
   ·have hm':((k-hd.length:Nat):Int)<(m.length:Int):=by omega
    rw[hcm,if_pos hm]at hsg;have hgm:m[k-hd.length]?=some m[k-hd.length]:=List.getElem?_eq_getElem hm
    have hgw:w[k-hd.length]?=some (w[k-hd.length]'(by omega)):=List.getElem?_eq_getElem (by omega)
    by_cases h49:m[k-hd.length]=49
    ·have hx:jC c (k-hd.length)=w[k-hd.length]'(by omega):=by unfold jC;rw[hcm,hgm,h49,if_pos rfl,hcw,hgw];rfl
     rw[hx]at hsg;by_cases hl1:k=al.length-1
     ·have hl2:((k:Int)=((al.length-1:Nat):Int))=True:=eq_true (by omega)
      have hcl1:=fun K'=>hcl 49 (w[k-hd.length]'(by omega)) K'
      rw[if_pos hl1]at hsg;rw[e49]at hcl1;simp only[go_sem,hlt,hlt',hg,w3,w4,w5,z0,hm,hm',hgm,hgw,h49,e49,hl2,hcl1];exact⟨k+1,by rw[hstep _ _ hsg],by omega,by omega⟩
     ·have hl2:((k:Int)=((al.length-1:Nat):Int))=False:=eq_false (by omega)
      have hcl1:=fun K'=>hcl 48 (w[k-hd.length]'(by omega)) K'
      rw[if_neg hl1]at hsg;rw[e48]at hcl1;simp only[go_sem,hlt,hlt',hg,w3,w4,w5,z0,hm,hm',hgm,hgw,h49,e49,hl2,hcl1];exact⟨k+1,by rw[hstep _ _ hsg],by omega,by omega⟩
    ·have hx:jC c (k-hd.length)=120:=by unfold jC;rw[hcm,hgm,if_neg (fun e=>h49 (Option.some.inj e))]
     rw[hx]at hsg;have h49':¬((m[k-hd.length].toNat:Int)=49):=fun e=>h49 (UInt8.toNat_inj.1 (by rw[show(49:UInt8).toNat=49 from rfl];omega))
     by_cases hl1:k=al.length-1
     ·have hl2:((k:Int)=((al.length-1:Nat):Int))=True:=eq_true (by omega)
      have hcl1:=fun K'=>hcl 49 120 K'
      rw[if_pos hl1]at hsg;rw[e49]at hcl1;rw[e120]at hcl1;simp only[go_sem,hlt,hlt',hg,w3,w4,w5,z0,hm,hm',hgm,h49',hl2,hcl1];exact⟨k+1,by rw[hstep _ _ hsg],by omega,by omega⟩
     ·have hl2:((k:Int)=((al.length-1:Nat):Int))=False:=eq_false (by omega)
      have hcl1:=fun K'=>hcl 48 120 K'
      rw[if_neg hl1]at hsg;rw[e48]at hcl1;rw[e120]at hcl1;simp only[go_sem,hlt,hlt',hg,w3,w4,w5,z0,hm,hm',hgm,h49',hl2,hcl1];exact⟨k+1,by rw[hstep _ _ hsg],by omega,by omega⟩
   ·have hm':¬((k-hd.length:Nat):Int)<(m.length:Int):=by omega
    rw[hcm,if_neg hm]at hsg;by_cases hl1:k=al.length-1
    ·have hl2:((k:Int)=((al.length-1:Nat):Int))=True:=eq_true (by omega)
     have hcl1:=fun K'=>hcl 49 120 K'
     rw[if_pos hl1]at hsg;rw[e49]at hcl1;rw[e120]at hcl1;simp only[go_sem,hlt,hlt',hg,w3,w4,w5,z0,hm,hm',hl2,hcl1];exact⟨k+1,by rw[hstep _ _ hsg],by omega,by omega⟩
    ·have hl2:((k:Int)=((al.length-1:Nat):Int))=False:=eq_false (by omega)
     have hcl1:=fun K'=>hcl 48 120 K'
     rw[if_neg hl1]at hsg;rw[e48]at hcl1;rw[e120]at hcl1;simp only[go_sem,hlt,hlt',hg,w3,w4,w5,z0,hm,hm',hl2,hcl1];exact⟨k+1,by rw[hstep _ _ hsg],by omega,by omega⟩
  ·have w5:IntKind.i64.wrap ((k:Int)-(hd.length:Int))=(k:Int)-(hd.length:Int):=zA _ (by omega) (by omega)
   have z0:¬(0:Int)≤(k:Int)-(hd.length:Int):=by omega
   rw[if_neg hk0]at hsg;by_cases hl1:k=al.length-1
   ·have hl2:((k:Int)=((al.length-1:Nat):Int))=True:=eq_true (by omega)
    have hcl1:=fun K'=>hcl 49 120 K'
    rw[if_pos hl1]at hsg;rw[e49]at hcl1;rw[e120]at hcl1;simp only[go_sem,hlt,hlt',hg,w3,w4,w5,z0,hl2,hcl1];exact⟨k+1,by rw[hstep _ _ hsg],by omega,by omega⟩
   ·have hl2:((k:Int)=((al.length-1:Nat):Int))=False:=eq_false (by omega)
    have hcl1:=fun K'=>hcl 48 120 K'
    rw[if_neg hl1]at hsg;rw[e48]at hcl1;rw[e120]at hcl1;simp only[go_sem,hlt,hlt',hg,w3,w4,w5,z0,hl2,hcl1];exact⟨k+1,by rw[hstep _ _ hsg],by omega,by omega⟩
 ·obtain rfl:k=al.length:=by omega
  have e1:(dB c hd al).take al.length=dB c hd al:=by rw[←hlen];exact List.take_length
  rw[e1]at R3 c3;simp only[go_sem,Nat.lt_irrefl,Int.lt_irrefl,e1];generalize r2.clk (dB c hd al)=r3 at R3 c3 ⊢;have hw2:=fun(l:aA) (K':kA)=>AN (h:=h) (l:=l) (K:=K') (r:={ r3 with st:=5 }) ⟨R3.t,R3.i,R3.w⟩ c3 (show 5∈frS by decide) (iD n1)
  have hp:=fun l=>lR (h:=h) (l:=l) (r:=r3) (s:=r3.se) (x:=5) (y:=r3.ni) (z:=r3.nd)
  simp only[show((5:Nat):Int)=5 from rfl]at hp
  simp only[go_sem,hp,hw2]
end Go.Am
end
section
namespace Go.Am
variable {h l l2:aA} {K:kA} {r:Run} {n:Nat} {o:Obj} {x:Esc}
attribute [-go_sem] YA splice cP
attribute [local go_sem] dX cX rc_1 rc_7 XW YW ZW aX mN qI nN oN pN qN rN sN tN bX fX gX iX jX kX lX mX nX oX
section
variable {s:Sett} {st ck ni nd:Int} {a b c d e:AV} {w:Bool} {q1 q2 q3:Int} {q4 q5 q6:List UInt8}
theorem rct_0:splice (rc s st ck ni nd a b c d e w) 0 [AI q1,AI q2,AI q3,AS q4,AS q5,AS q6]=rc { s with e1:=⟨q1,q2,q3,q4,q5,q6⟩ } st ck ni nd a b c d e w:=(rfl)
theorem rct_6:splice (rc s st ck ni nd a b c d e w) 6 [AI q1,AI q2,AI q3,AS q4,AS q5,AS q6]=rc { s with e2:=⟨q1,q2,q3,q4,q5,q6⟩ } st ck ni nd a b c d e w:=(rfl)
theorem znK:splice (rc s st ck ni nd a b c d e w) 12 [AI q1,AI q2,AI q3,AS q4,AS q5,AS q6]=rc { s with h1:=⟨q1,q2,q3,q4,q5,q6⟩ } st ck ni nd a b c d e w:=(rfl)
theorem znL:splice (rc s st ck ni nd a b c d e w) 18 [AI q1,AI q2,AI q3,AS q4,AS q5,AS q6]=rc { s with t1:=⟨q1,q2,q3,q4,q5,q6⟩ } st ck ni nd a b c d e w:=(rfl)
theorem znM:splice (rc s st ck ni nd a b c d e w) 24 [AI q1,AI q2,AI q3,AS q4,AS q5,AS q6]=rc { s with h2:=⟨q1,q2,q3,q4,q5,q6⟩ } st ck ni nd a b c d e w:=(rfl)
theorem znN:splice (rc s st ck ni nd a b c d e w) 30 [AI q1,AI q2,AI q3,AS q4,AS q5,AS q6]=rc { s with t2:=⟨q1,q2,q3,q4,q5,q6⟩ } st ck ni nd a b c d e w:=(rfl)
end
attribute [local go_sem] rct_0 rct_6 znK znL znM znN
def iI (k:Int):Nat:=if k=1 then 0 else if k=2 then 6 else if k=3 then 12 else if k=4 then 18 else if k=5 then 24 else 30
theorem s_ofK {id:Nat}(hid:id<h.length)(k:Int):bA X IL [.ref id 0,AI k] h K=K (.ref id (iI k)) h []:=by
 refine rA ?_;rw[zfS rfl];have e1:max h.length (id+1)=h.length:=by omega
 have e2:id+1≤h.length:=by omega
 unfold iI;by_cases h1:k=1
 ·simp only[MG,go_sem,h1,e1,e2]
 by_cases h2:k=2
 ·simp only[MG,go_sem,h1,h2,e1,e2]
 by_cases h3:k=3
 ·simp only[MG,go_sem,h1,h2,h3,e1,e2]
 by_cases h4:k=4
 ·simp only[MG,go_sem,h1,h2,h3,h4,e1,e2]
 by_cases h5:k=5
 ·simp only[MG,go_sem,h1,h2,h3,h4,h5,e1,e2]
 simp only[MG,go_sem,h1,h2,h3,h4,h5,e1,e2]
set_option maxHeartbeats 2000000 in
theorem NT {Kx:Ex→St→Prop}(hs:r.sts.length≤100000)(hf:r.frs.length≤100000)(f:Nat):cP (bA X) X.gl (.ref (h.length+5) 0) (AI f) (rh h r l) x Kx=Kx .normal ⟨[],rh h { r with sts:=r.sts++[r.st],frs:=r.frs++[f] } l,x⟩:=by
 obtain⟨se,st,ck,ni,nd,sts,frs,tms,tdi,want,wr⟩:=r;dsimp only at *;unfold rh;have m1:sts.length+1≤GA:=by unfold GA;omega
 have m2:frs.length+1≤GA:=by unfold GA;omega
 have e2:∀k n o m,k<5→uC (h.length+5) (.own (h.length+k) n o m)=[]:=fun k n o m hk=>by unfold uC;rw[z6l,if_neg (by omega)]
 have e3:=fun n o m=>e2 0 n o m (by decide)
 have e4:=fun n o m=>e2 1 n o m (by decide)
 simp only[Nat.add_zero]at e3;simp only[cP,go_sem,m1,m2,e3,e4,List.length_map];simp
attribute [local go_sem] tI vN TJ UJ VJ wN SJ lR
theorem zbS (c:Cmd):(r.scn jA c).sts=r.sts∧(r.scn jA c).frs=r.frs∧(r.scn jA c).se=r.se:=by
 unfold Run.scn;by_cases h7:c.k=7
 ·simp only[h7,if_true]
  obtain⟨a1,a2,a3,a4,_⟩:=ZB jA ({ Run.clk { r.go jA 11 with ni:=(r.go jA 11).ni+(r.se.h1.b++c.b++r.se.t1.b).length } (dB c r.se.h1.b (r.se.h1.b++c.b++r.se.t1.b)) with st:=12 }) r.se.e1.s.toNat
  obtain⟨b1,b2,b3,b4,_⟩:=cD { r.go jA 11 with ni:=(r.go jA 11).ni+(r.se.h1.b++c.b++r.se.t1.b).length } (dB c r.se.h1.b (r.se.h1.b++c.b++r.se.t1.b))
  obtain⟨d1,d2,d3,d4,_⟩:=ZB jA r 11;exact⟨a3.trans (b3.trans d3),a4.trans (b4.trans d4),a1.trans (b1.trans d1)⟩
 ·simp only[h7,if_false]
  obtain⟨a1,a2,a3,a4,_⟩:=ZB jA ({ Run.clk { r.go jA 4 with nd:=(r.go jA 4).nd+(r.se.h2.b++c.b++r.se.t2.b).length } (dB c r.se.h2.b (r.se.h2.b++c.b++r.se.t2.b)) with st:=5 }) r.se.e2.s.toNat
  obtain⟨b1,b2,b3,b4,_⟩:=cD { r.go jA 4 with nd:=(r.go jA 4).nd+(r.se.h2.b++c.b++r.se.t2.b).length } (dB c r.se.h2.b (r.se.h2.b++c.b++r.se.t2.b))
  obtain⟨d1,d2,d3,d4,_⟩:=ZB jA r 4;exact⟨a3.trans (b3.trans d3),a4.trans (b4.trans d4),a1.trans (b1.trans d1)⟩
set_option maxHeartbeats 4000000 in
theorem zpf (R:RunOk r)(N:mK r)(hck:r.ck≤700000000)(hst:r.st∈stb)(S:SetR r.se)(hl1:r.sts.length≤100000)(hl2:r.frs.length≤100000)(c:Cmd)(hc:OA c=0) :
 bA X oQ [.ref (h.length+5) 0,ACm c] (rh h r l) K=K (.tup []) (rh h (r.step jA c) l) []:=by
 refine rA ?_;rw[zfP rfl];have e0:(AI ((0:Nat):Int))=AI 0:=rfl
 have setf:∀h1:1≤c.k∧c.k≤6,XE (bA X) X.gl MJ UQ (.ref (h.length+5) 0) (ACm c) (rh h r l) [] (mA [] false (rh h r l).length fun v1 h1 x1=>v1 = .tup []∧h1=rh h (r.step jA c) l∧x1=[]):=by
  intro h1;rw[eK jA h1];have k2:=fun(l:aA) (x:Esc) (Kx:Ex→St→Prop)=>NT (h:=h) (l:=l) (x:=x) (Kx:=Kx) (r:={ r with se:=r.se.put c }) hl1 hl2 0
  rw[e0]at k2;have ho:=fun(l:aA) (k:Int) (K':kA)=>s_ofK (h:=rh h r l) (K:=K') (id:=h.length+5) (by rw[tI];omega) k
  obtain⟨k,s,cl,b,w,m⟩:=c;dsimp only at h1;have:k=1∨k=2∨k=3∨k=4∨k=5∨k=6:=by omega
  rcases this with rfl|rfl|rfl|rfl|rfl|rfl
  ·have ep:r.se.put ⟨1,s,cl,b,w,m⟩={ r.se with e1:=⟨1,s,cl,b,w,m⟩ }:=rfl
   rw[ep];simp only[ep]at k2;simp only[XE,go_sem,gH,ho,iI,k2]
  ·have ep:r.se.put ⟨2,s,cl,b,w,m⟩={ r.se with e2:=⟨2,s,cl,b,w,m⟩ }:=rfl
   rw[ep];simp only[ep]at k2;simp only[XE,go_sem,gH,ho,iI,k2]
  ·have ep:r.se.put ⟨3,s,cl,b,w,m⟩={ r.se with h1:=⟨3,s,cl,b,w,m⟩ }:=rfl
   rw[ep];simp only[ep]at k2;simp only[XE,go_sem,gH,ho,iI,k2]
  ·have ep:r.se.put ⟨4,s,cl,b,w,m⟩={ r.se with t1:=⟨4,s,cl,b,w,m⟩ }:=rfl
   rw[ep];simp only[ep]at k2;simp only[XE,go_sem,gH,ho,iI,k2]
  ·have ep:r.se.put ⟨5,s,cl,b,w,m⟩={ r.se with h2:=⟨5,s,cl,b,w,m⟩ }:=rfl
   rw[ep];simp only[ep]at k2;simp only[XE,go_sem,gH,ho,iI,k2]
  ·have ep:r.se.put ⟨6,s,cl,b,w,m⟩={ r.se with t2:=⟨6,s,cl,b,w,m⟩ }:=rfl
   rw[ep];simp only[ep]at k2;simp only[XE,go_sem,gH,ho,iI,k2]
 cases tE hc with
 | set h hs e=>exact setf (by omega)
 | pad h0 h1 hb hl e=>exact setf ⟨by omega,h1⟩
 | go hk hs e=>
  rw[yR jA hk];obtain⟨g1,g2,g3,g4,g5,g6,_,_⟩:=ZB jA r c.s.toNat;obtain⟨n1,n2⟩:=EC hs;have k2:=fun(l:aA) (x:Esc) (Kx:Ex→St→Prop)=>NT (h:=h) (l:=l) (x:=x) (Kx:=Kx) (r:=r.go jA c.s.toNat) (by rw[g3];exact hl1) (by rw[g4];exact hl2) 0
  rw[e0]at k2;have hw:=fun(l:aA) (K':kA)=>AN (h:=h) (l:=l) (K:=K') R (by omega) (eC hst) (iD n1)
  obtain⟨k,s,cl,b,w,m⟩:=c;dsimp only at hk n2 hw k2 ⊢;subst hk;rw[n2]at hw;simp only[XE,go_sem,gH,CF,hw,k2]
 | idle hk h0 h1 e=>
  rw[FN jA hk];obtain⟨g1,g2,g3,g4,g5,g6,_,_⟩:=ZB jA r 1;have hw:=fun(l:aA) (K':kA)=>AN (h:=h) (l:=l) (K:=K') R (by omega) (eC hst) (show 1∈toS by decide)
  have R1:=ZJ (tov:=1) R
  have c1:(r.go jA 1).ck≤700000008:=by have:=(cC (eC hst) (show 1∈toS by decide)).2.1;rw[uJ];omega
  simp only[show((1:Nat):Int)=1 from rfl]at hw
  obtain⟨k,s,cl,b,w,m⟩:=c;dsimp only at hk h0 h1 ⊢;subst hk;obtain⟨n,rfl⟩:∃n:Nat,cl=n:=⟨cl.toNat,by omega⟩
  simp only[Int.toNat_natCast];generalize r.go jA 1=r1 at *;simp only[XE,go_sem,gH,CF,hw];refine XA (fun k:Nat=>⟨[(0,.ref (h.length+5) 0),(4,AI 0),(35,AI n),(36,AI k)],rh h (r1.clk (List.replicate k (48,48,120))) (l++[.box [AI 9,AI s,AI n,AS b,AS w,AS m]]),[]⟩) (fun k=>k≤n) (fun k=>n-k) 0 (by rw[List.replicate_zero,OR];rfl) (by omega) ?_
  intro k hk;have R2:=YJ (L:=List.replicate k (48,48,120)) R1
  rcases Nat.lt_or_ge k n with hlt|hge
  ·have w2:IntKind.i64.wrap ((k:Int)+1)=((k+1:Nat):Int):=zA _ (by omega) (by omega)
   have hc:=fun(l:aA) (K':kA)=>GX (h:=h) (l:=l) (K:=K') R2 (by rw[dO,List.length_replicate];omega) 48 48 120
   simp only[show(((48:UInt8).toNat:Nat):Int)=48 from rfl,show(((120:UInt8).toNat:Nat):Int)=120 from rfl]at hc
   simp only[go_sem,hlt,w2,hc];exact⟨k+1,by rw[PR,←List.replicate_succ'],by omega,by omega⟩
  ·obtain rfl:k=n:=by omega
   have q:=cD r1 (List.replicate k (48,48,120))
   have k2:=fun(l:aA) (x:Esc) (Kx:Ex→St→Prop)=>NT (h:=h) (l:=l) (x:=x) (Kx:=Kx) (r:=r1.clk (List.replicate k (48,48,120))) (by rw[q.2.2.1,g3];exact hl1) (by rw[q.2.2.2.1,g4];exact hl2) 0
   rw[e0]at k2;simp only[go_sem,Nat.lt_irrefl,k2]
 | scan hk hs e=>
  rw[GN jA hk];obtain⟨g3,g4,_⟩:=zbS (r:=r) c;have k2:=fun(l:aA) (x:Esc) (Kx:Ex→St→Prop)=>NT (h:=h) (l:=l) (x:=x) (Kx:=Kx) (r:=r.scn jA c) (by rw[g3];exact hl1) (by rw[g4];exact hl2) (r.scnF jA c)
  have hscan:∀(l:aA) (K':kA),bA X UH [.ref (h.length+5) 0,ACm c] (rh h r l) K'=K' (AI (r.scnF jA c:Nat)) (rh h (r.scn jA c) l) []:=fun l K'=>by
   rcases hk with h7|h8
   ·exact zpb R N (by omega) hst S c h7 hs
   ·exact zoY R N (by omega) hst S c h8 hs
  have f1:¬c.k≤6:=by omega
  have f2:1≤c.k:=by omega
  have f3:(decide (c.k=7)||decide (c.k=8))=true:=by simpa using hk
  generalize r.scn jA c=r9 at k2 hscan ⊢;generalize r.scnF jA c=f9 at k2 hscan ⊢;simp only[XE,go_sem,gH,CF,f1,f2,f3,hscan,k2]
end Go.Am
end
section
namespace Go.Am
variable {h:aA} {K:kA} {Kx:Ex→St→Prop} {q q2:ACode} {k s cl k' s' cl' v9:Int} {b w m b' w' m':List UInt8} {x:Esc}
theorem lP {k s cl k' s' cl':Int}{b w m b' w' m':List UInt8}:YA [0,0,0,2,2,2] true (.p (.agg [.int .i64 k,.int .i64 s,.int .i64 cl,.str b,.str w,.str m])) (.p (.agg [.int .i64 k',.int .i64 s',.int .i64 cl',.str b',.str w',.str m']))=some (AB (!decide ((⟨k,s,cl,b,w,m⟩:Cmd)=⟨k',s',cl',b',w',m'⟩))):=by
 unfold YA;dsimp only;rw[if_pos ⟨rfl,rfl,by simp⟩,eqs6]
 rfl
attribute [-go_sem] YA ZI NF ID OK
abbrev cfH (h:aA)(k s cl:Int)(b w m:List UInt8)(k' s' cl':Int)(b' w' m':List UInt8):aA:=h++[.box [AI k,AI s,AI cl,AS b,AS w,AS m],.box [AI k',AI s',AI cl',AS b',AS w',AS m']]
theorem QE:OK (bA X) X.gl (.ref h.length 0) (.ref (h.length+1) 0) (cfH h k s cl b w m k' s' cl' b' w' m') x Kx=Kx .ret ⟨[(2,AI (if (⟨k,s,cl,b,w,m⟩:Cmd)=⟨k',s',cl',b',w',m'⟩ then 0 else 3:Nat))],cfH h k s cl b w m k' s' cl' b' w' m',x⟩:=by
 by_cases he:(⟨k,s,cl,b,w,m⟩:Cmd)=⟨k',s',cl',b',w',m'⟩
 ·simp only[OK,go_sem,lP,he]
 ·simp only[OK,go_sem,lP,he]
theorem z0y:ID (bA X) X.gl q2 (.ref h.length 0) (.ref (h.length+1) 0) (AI v9) (AB true) (cfH h k s cl b w m k 0 0 [] [] []) [] Kx =
 if UB s=true then Kx .normal ⟨[(1,.ref h.length 0),(3,.ref (h.length+1) 0),(20,AB false)],cfH h k s cl b w m k s 0 [] [] [],[]⟩ else Kx .ret ⟨[(2,AI 1)],cfH h k s cl b w m k s 0 [] [] [],[]⟩:=by
 rcases hs:UB s with _|_
 ·simp only[ID,go_sem,zbJ,hs,splice]
 ·simp only[ID,go_sem,zbJ,hs,splice]
theorem JR (hb:b.length≤100000):NF (bA X) X.gl q (.ref h.length 0) (.ref (h.length+1) 0) (AI v9) (AB true) (cfH h k s cl b w m k 0 0 [] [] []) [] Kx =
 if EA b=true then(if 2000<b.length then Kx .ret ⟨[(2,AI 2)],cfH h k s cl b w m k 0 0 b [] [],[]⟩ else Kx .normal ⟨[(1,.ref h.length 0),(3,.ref (h.length+1) 0),(43,AB false)],cfH h k s cl b w m k 0 0 b [] [],[]⟩) else Kx .ret ⟨[(2,AI 9)],cfH h k s cl b w m k 0 0 b [] [],[]⟩:=by
 have k1:=fun(h':aA) (K':kA)=>CX (h:=h') (K:=K') b (by omega)
 rcases hs:EA b with _|_
 ·simp only[NF,go_sem,k1,hs,splice]
 ·by_cases g1:2000<b.length
  ·have g2:(2000:Int)<(b.length:Int):=by omega
   simp only[NF,go_sem,k1,hs,g1,g2,splice]
  ·have g2:¬(2000:Int)<(b.length:Int):=by omega
   simp only[NF,go_sem,k1,hs,g1,g2,splice]
theorem z7N (hc:CmdOk ⟨k,s,cl,b,w,m⟩):ZI (bA X) X.gl (.ref h.length 0) (.ref (h.length+1) 0) (AB true) (cfH h k s cl b w m k 0 0 [] [] []) [] Kx =
 if QC ⟨k,s,cl,b,w,m⟩=0 then Kx .normal ⟨[(1,.ref h.length 0),(3,.ref (h.length+1) 0),(4,AI 0),(63,AB false)],cfH h k s cl b w m k 0 0 b w m,[]⟩ else Kx .ret ⟨[(2,AI (QC ⟨k,s,cl,b,w,m⟩:Nat))],cfH h k s cl b w m k 0 0 b w m,[]⟩:=by
 have k2:=fun(h':aA) (K':kA)=>zpa (h:=h') (K:=K') ⟨k,s,cl,b,w,m⟩ hc
 by_cases g1:QC ⟨k,s,cl,b,w,m⟩=0
 ·simp only[ZI,go_sem,k2,g1,splice]
 ·have g2:¬((QC ⟨k,s,cl,b,w,m⟩:Nat):Int)=0:=by omega
  simp only[ZI,go_sem,k2,g1,g2,splice]
set_option maxHeartbeats 4000000 in
theorem zoE (c:Cmd)(hc:CmdOk c):bA X MP [ACm c] h K=K (AI (OA c:Nat)) h []:=by
 refine rA ?_;rw[zeU rfl];have b1:=hc.b
 obtain⟨k,s,cl,b,w,m⟩:=c;simp only at b1;have st:∀k,(k=1∨k=2∨k=10)→OA ⟨k,s,cl,b,w,m⟩=if UB s=true then(if(⟨k,s,cl,b,w,m⟩:Cmd)=⟨k,s,0,[],[],[]⟩ then 0 else 3) else 1:=fun k hk=>by
  unfold OA;dsimp only;rw[if_pos hk];cases UB s <;> simp
 have sc:∀k,(k=7∨k=8)→OA ⟨k,s,cl,b,w,m⟩=if QC ⟨k,s,cl,b,w,m⟩=0 then(if(⟨k,s,cl,b,w,m⟩:Cmd)=⟨k,0,0,b,w,m⟩ then 0 else 3) else QC ⟨k,s,cl,b,w,m⟩:=fun k hk=>by
  unfold OA;dsimp only;rw[if_neg (by omega),if_neg (by omega),if_pos hk];split <;> simp_all
 have pd:∀k,3≤k∧k≤6→OA ⟨k,s,cl,b,w,m⟩=if EA b=true then(if 2000<b.length then 2 else if(⟨k,s,cl,b,w,m⟩:Cmd)=⟨k,0,0,b,[],[]⟩ then 0 else 3) else 9:=fun k hk=>by
  unfold OA;dsimp only;rw[if_neg (by omega),if_neg (by omega),if_neg (by omega),if_pos hk];cases EA b <;> simp
 by_cases h1:k=1
 ·subst h1
  rw[st 1 (by omega)]
  simp only[aE,go_sem,z0y,QE,splice];split <;> simp only[go_sem,QE] <;> rfl
 by_cases h2:k=2
 ·subst h2
  rw[st 2 (by omega)]
  simp only[aE,go_sem,z0y,QE,splice];split <;> simp only[go_sem,QE] <;> rfl
 by_cases h10:k=10
 ·subst h10
  rw[st 10 (by omega)]
  simp only[aE,go_sem,z0y,QE,splice];split <;> simp only[go_sem,QE] <;> rfl
 by_cases h9:k=9
 ·subst h9
  by_cases g1:0≤cl
  ·by_cases g2:cl≤20000
   ·have g3:¬(cl<0∨20000<cl):=by omega
    rw[show OA ⟨9,s,cl,b,w,m⟩=if(⟨9,s,cl,b,w,m⟩:Cmd)=⟨9,0,cl,[],[],[]⟩ then 0 else 3 by simp only[OA,g3];simp]
    simp only[aE,ID,go_sem,s_in,g1,g2,QE,splice]
   ·have g3:cl<0∨20000<cl:=by omega
    rw[show OA ⟨9,s,cl,b,w,m⟩=1 by simp [OA,g3]]
    simp only[aE,ID,go_sem,s_in,g1,g2,splice]
  ·have g3:cl<0∨20000<cl:=by omega
   rw[show OA ⟨9,s,cl,b,w,m⟩=1 by simp [OA,g3]]
   simp only[aE,ID,go_sem,s_in,g1,splice]
 by_cases h3:k=3
 ·subst h3
  rw[pd 3 (by omega)]
  simp only[aE,ID,go_sem,JR (show b.length≤100000 by omega),splice]
  split
  ·split <;> simp only[go_sem,QE] <;> rfl
  ·simp only[go_sem] <;> rfl
 by_cases h4:k=4
 ·subst h4
  rw[pd 4 (by omega)]
  simp only[aE,ID,go_sem,JR (show b.length≤100000 by omega),splice]
  split
  ·split <;> simp only[go_sem,QE] <;> rfl
  ·simp only[go_sem] <;> rfl
 by_cases h5:k=5
 ·subst h5
  rw[pd 5 (by omega)]
  simp only[aE,ID,go_sem,JR (show b.length≤100000 by omega),splice]
  split
  ·split <;> simp only[go_sem,QE] <;> rfl
  ·simp only[go_sem] <;> rfl
 by_cases h6:k=6
 ·subst h6
  rw[pd 6 (by omega)]
  simp only[aE,ID,go_sem,JR (show b.length≤100000 by omega),splice]
  split
  ·split <;> simp only[go_sem,QE] <;> rfl
  ·simp only[go_sem] <;> rfl
 by_cases h7:k=7
 ·subst h7
  rw[sc 7 (by omega)]
  simp only[aE,ID,NF,go_sem,z7N hc,splice];split <;> simp only[go_sem,QE] <;> rfl
 by_cases h8:k=8
 ·subst h8
  rw[sc 8 (by omega)]
  simp only[aE,ID,NF,go_sem,z7N hc,splice];split <;> simp only[go_sem,QE] <;> rfl
 rw[show OA ⟨k,s,cl,b,w,m⟩=4 from z8c (by dsimp only;omega)]
 simp only[aE,ID,NF,ZI,go_sem,h1,h2,h3,h4,h5,h6,h7,h8,h9,h10,splice]
end Go.Am
end
section
namespace Go.Am
variable {h:aA} {K:kA}
attribute [-go_sem] YA KG EH
set_option maxHeartbeats 4000000 in
theorem zoR (l:List Cmd)(i:Nat)(c:Cmd)(hi:l[i]?=some c)(h9:c.k=9)(h0:0≤c.cl)(h1:c.cl≤20000)(state:Nat)(hst:state∈stb) :
 bA X sG [ACs l,AI i,AI state] h K=K (.p (vD (qA jA (l.take i) c state))) h []:=by
 refine rA ?_;rw[WN rfl];have hg:(l.map QA)[i]?=some (QA c):=by rw[List.getElem?_map,hi];rfl
 have hilt:i<l.length:=by
  rcases Nat.lt_or_ge i l.length with h|h
  ·exact h
  ·rw[List.getElem?_eq_none h]at hi;cases hi
 rw[nI jA h9];obtain⟨k,s,cl,b,w,m⟩:=c;dsimp only at h9 h0 h1 hg ⊢;obtain⟨n,rfl⟩:∃n:Nat,cl=n:=⟨cl.toNat,by omega⟩
 simp only[Int.toNat_natCast];have ht:(1:Nat)∈toS:=by decide
 have p1:∀(h':aA) (K':kA),bA X bE [AI state,AI 1] h' K'=K' (AS (jA state 1)) h' []:=fun h' K'=>FX (h:=h') (K:=K') (eC hst) ht
 have pl:=(cC (eC hst) ht).2.1
 subst h9;generalize jA state 1=w1 at p1 pl ⊢;have hz:∀n,(zs n).length=n:=fun n=>by simp [zs]
 have r0:=fun(h':aA) (K':kA)=>BF (h:=h') (K:=K') (n:Int) (by omega) (by omega)
 simp only[Int.toNat_natCast]at r0;have l0:w1.length+n≤PA:=by simp [PA];omega
 have l0':w1.length+(zs n).length≤PA:=by rw[hz];exact l0
 have l3:(w1++zs n).length=w1.length+n:=by rw[List.length_append,hz]
 have P3:=fun(z1 z2 z3 z4 z5 c1 c2 c3 c4 c5 c6:AV) (Kx:Ex→St→Prop)=>pk3 (h:=h) (Kx:=Kx) (T:=w1++zs n) (D:=[]) (W:=[]) (fr:=0) (st:=1) (z1:=z1) (z2:=z2) (z3:=z3) (z4:=z4) (z5:=z5) (c1:=c1) (c2:=c2) (c3:=c3) (c4:=c4) (c5:=c5) (c6:=c6) (Nat.zero_le _) (Nat.zero_le _) (by omega)
 rw[←z5n];unfold aC vD;dsimp only;generalize hT:w1++zs n=T at P3 ⊢;simp only[DH,go_sem,uD,hg,hilt,p1,r0,l0,l0',hT,P3]
end Go.Am
end
section
namespace Go.Am
variable {h:aA} {K:kA}
attribute [-go_sem] YA KG EH
set_option maxHeartbeats 4000000 in
theorem zbD (l:List Cmd)(i:Nat)(c:Cmd)(hi:l[i]?=some c)(h6:c.k≤6)(state:Nat) :
 bA X sG [ACs l,AI i,AI state] h K=K (.p (vD (qA jA (l.take i) c state))) h []:=by
 refine rA ?_;rw[WN rfl];have hg:(l.map QA)[i]?=some (QA c):=by rw[List.getElem?_map,hi];rfl
 have hilt:i<l.length:=by
  rcases Nat.lt_or_ge i l.length with h|h
  ·exact h
  ·rw[List.getElem?_eq_none h]at hi;cases hi
 rw[gF jA h6];obtain⟨k,s,cl,b,w,m⟩:=c;dsimp only at h6 hg ⊢;have k10:¬k=10:=by omega
 have k9:¬k=9:=by omega
 have k7:¬k=7:=by omega
 have k8:¬k=8:=by omega
 have P3:=fun(z1 z2 z3 z4 z5 c1 c2 c3 c4 c5 c6:AV) (Kx:Ex→St→Prop)=>pk3 (h:=h) (Kx:=Kx) (T:=[]) (D:=[]) (W:=[]) (fr:=0) (st:=state) (z1:=z1) (z2:=z2) (z3:=z3) (z4:=z4) (z5:=z5) (c1:=c1) (c2:=c2) (c3:=c3) (c4:=c4) (c5:=c5) (c6:=c6) (Nat.zero_le _) (Nat.zero_le _) (Nat.zero_le _)
 simp only[DH,go_sem,uD,hg,hilt,k10,k9,k7,k8,P3];rfl
end Go.Am
end
section
namespace Go.Am
variable {h:aA} {K:kA} {Kx:Ex→St→Prop}
attribute [-go_sem] YA KG EH
set_option maxHeartbeats 8000000 in
theorem pk1 {z1 z2 z3 z4 z5:AV}(l:List Cmd)(i:Nat)(c:Cmd)(hi:i≤l.length)(hs:QC c=0)(hl:l.length≤1000000)(state sh ex:Nat)(a b e:Int)(n1:UB (nA (l.take i) e).s=true)(hst:state∈stb)(m1:sh∈toS)(m2:ex∈frS)
 (b1:(nA (l.take i) a).b.length≤2000) (b2:(nA (l.take i) b).b.length≤2000) :
 EH (bA X) X.gl (ACs l) (AI i) (AI state) (.ref h.length 0) (.ref (h.length+1) 0) (.ref (h.length+2) 0) (AI sh) (AI ex) (.p (.sl none [.int .i64 a,.int .i64 b,.int .i64 e]))
  (h++[.box [z1,z2,z3,z4,z5],.box [AI c.k,AI c.s,AI c.cl,AS c.b,AS c.w,AS c.m],.box [AS [],AS [],AS [],AI 0,AI state]]) [] Kx =
 Kx .normal ⟨[(6,.ref h.length 0),(8,.ref (h.length+2) 0)],h++[.box [z1,z2,z3,z4,z5],.box [AI c.k,AI c.s,AI c.cl,AS c.b,AS c.w,AS c.m],
  .box [AS (vB jA c state sh ex (nA (l.take i) a).b (nA (l.take i) b).b (nA (l.take i) e).s.toNat).tms,AS (vB jA c state sh ex (nA (l.take i) a).b (nA (l.take i) b).b (nA (l.take i) e).s.toNat).tdi,AS (vB jA c state sh ex (nA (l.take i) a).b (nA (l.take i) b).b (nA (l.take i) e).s.toNat).want,
   AI ((vB jA c state sh ex (nA (l.take i) a).b (nA (l.take i) b).b (nA (l.take i) e).s.toNat).fr:Nat),AI ((nA (l.take i) e).s.toNat:Nat)]],[]⟩:=by
 obtain⟨q1,q2,q3,q4,q5,q6⟩:=lF hs;have hm:c.m.length≤c.b.length:=by rcases q6 with⟨_,h⟩|⟨_,h⟩ <;> simp [h]
 have hw:c.m.length≤c.w.length:=by rcases q6 with⟨h0,h⟩|⟨h0,h⟩ <;> simp [h0,h]
 obtain⟨n1,n2⟩:=EC n1;have x1:=fun(h':aA) (K':kA)=>z5S (h:=h') (K:=K') l i a hi hl
 have x2:=fun(h':aA) (K':kA)=>z5S (h:=h') (K:=K') l i b hi hl
 have x3:=fun(h':aA) (K':kA)=>z5S (h:=h') (K:=K') l i e hi hl
 generalize nA (l.take i) a=ca at x1 b1 ⊢;generalize nA (l.take i) b=cb at x2 b2 ⊢;generalize nA (l.take i) e=ce at x3 n1 n2 ⊢;obtain⟨ak,as_,acl,hd,aw,am⟩:=ca;obtain⟨bk,bs,bcl,tl,bw,bm⟩:=cb;obtain⟨ek,es,ecl,eb,ew,em⟩:=ce;have x4:=fun(h':aA) (K':kA)=>zbA (h:=h') (K:=K') c (by omega) hm hw
 dsimp only at n1 n2 x1 x2 x3 b1 b2 ⊢;obtain⟨n,rfl⟩:∃n:Nat,es=n:=⟨es.toNat,n2.symm⟩;simp only[Int.toNat_natCast]at n1 ⊢;have p1:∀(h':aA) (K':kA),bA X bE [AI state,AI sh] h' K'=K' (AS (jA state sh)) h' []:=fun h' K'=>FX (h:=h') (K:=K') (eC hst) m1
 have p2:∀(h':aA) (K':kA),bA X bE [AI ex,AI n] h' K'=K' (AS (jA ex n)) h' []:=fun h' K'=>FX (h:=h') (K:=K') m2 (iD n1)
 have pl1:=(cC (eC hst) m1).2.1
 have pl2:=(cC m2 (iD n1)).2.1
 unfold vB;dsimp only;generalize jA state sh=P1 at p1 pl1 ⊢;generalize jA ex n=P2 at p2 pl2 ⊢;obtain⟨k,s,cl,b',w,m⟩:=c;dsimp only at q1 q3 hm hw x4 ⊢;have hpos:=List.length_pos_iff.2 q1
 have hal:(hd++b'++tl).length=hd.length+b'.length+tl.length:=by simp only[List.length_append]
 generalize hale:hd++b'++tl=al at hal ⊢;have hz:∀n,(zs n).length=n:=fun n=>by simp [zs]
 have hx:∀n,(xsL n).length=n:=fun n=>by simp [xsL]
 have hec:(WA ⟨k,s,cl,b',w,m⟩).length=b'.length:=by simp [WA]
 generalize WA ⟨k,s,cl,b',w,m⟩=ec at x4 hec ⊢;have w1:IntKind.i64.wrap ((al.length:Int)-1)=((al.length-1:Nat):Int):=by
  rw[show(al.length:Int)-1=((al.length-1:Nat):Int) by omega];exact zA _ (by omega) (by omega)
 have w2:IntKind.i64.wrap ((P1.length:Int)+(hd.length:Int))=((P1.length+hd.length:Nat):Int):=by
  rw[show(P1.length:Int)+(hd.length:Int)=((P1.length+hd.length:Nat):Int) by omega];exact zA _ (by omega) (by omega)
 have r1:=fun(h':aA) (K':kA)=>BF (h:=h') (K:=K') ((al.length-1:Nat):Int) (by omega) (by omega)
 have r2:=fun(h':aA) (K':kA)=>BF (h:=h') (K:=K') (P1.length:Int) (by omega) (by omega)
 have r3:=fun(h':aA) (K':kA)=>z5M (h:=h') (K:=K') ((P1.length+hd.length:Nat):Int) (by omega) (by omega)
 simp only[Int.toNat_natCast]at r1 r2 r3;have lT2b:P1.length+(zs (al.length-1)).length+1≤PA:=by rw[hz];unfold PA;omega
 have lT1:P1.length+(zs (al.length-1)).length≤PA:=by rw[hz];unfold PA;omega
 have lT2:(P1++zs (al.length-1)).length+1≤PA:=by rw[List.length_append,hz];unfold PA;omega
 have lT3:(P1++zs (al.length-1)++[49]).length+P2.length≤PA:=by simp only[List.length_append,hz,List.length_singleton];unfold PA;omega
 have lT3b:P1.length+((zs (al.length-1)).length+1)+P2.length≤PA:=by rw[hz];unfold PA;omega
 have lD:(zs P1.length).length+al.length≤PA:=by rw[hz];unfold PA;omega
 have lW:(xsL (P1.length+hd.length)).length+ec.length≤PA:=by rw[hx,hec];unfold PA;omega
 have la:hd.length+b'.length≤PA:=by unfold PA;omega
 have lbn:hd.length+b'.length+tl.length≤PA:=by unfold PA;omega
 have lb:(hd++b').length+tl.length≤PA:=by rw[List.length_append];unfold PA;omega
 have hTn:P1++(zs (al.length-1)++49::P2)=P1++zs (al.length-1)++[49]++P2:=by simp
 generalize hTe:P1++zs (al.length-1)++[49]++P2=T at hTn ⊢;clear hTe;simp (config:={maxSteps:=4000000}) only[EH,go_sem,splice,x1,x2,x3,x4,p1,p2,w1,w2,r1,r2,r3,hale,hTn,lT2b,lT3b,lbn,lT1,lT2,lT3,lD,lW,la,lb]
end Go.Am
end
section
namespace Go.Am
variable {h:aA} {K:kA}
attribute [-go_sem] YA KG EH
set_option maxHeartbeats 4000000 in
theorem zoQ (l:List Cmd)(i:Nat)(c:Cmd)(hi:l[i]?=some c)(h7:c.k=7)(hs:QC c=0)(hl:l.length≤1000000)(S:SetOk (l.take i))(state:Nat)(hst:state∈stb) :
 bA X sG [ACs l,AI i,AI state] h K=K (.p (vD (qA jA (l.take i) c state))) h []:=by
 refine rA ?_;rw[WN rfl];have hg:(l.map QA)[i]?=some (QA c):=by rw[List.getElem?_map,hi];rfl
 have hilt:i<l.length:=by
  rcases Nat.lt_or_ge i l.length with h|h
  ·exact h
  ·rw[List.getElem?_eq_none h]at hi;cases hi
 obtain⟨q1,q2,q3,q4,q5,q6⟩:=lF hs;have ep:qA jA (l.take i) c state=aC (vB jA c state 11 12 (nA (l.take i) 3).b (nA (l.take i) 4).b (nA (l.take i) 1).s.toNat):=by
  unfold qA;rw[if_neg (by omega),if_neg (by omega),if_pos h7]
 rw[ep];obtain⟨_,b1⟩:=S.b1 3 (by omega) (by omega)
 obtain⟨_,b2⟩:=S.b1 4 (by omega) (by omega)
 obtain⟨n1,n2⟩:=EC S.s1;have P1:=fun(z1 z2 z3 z4 z5:AV) (Kx:Ex→St→Prop)=>pk1 (h:=h) (z1:=z1) (z2:=z2) (z3:=z3) (z4:=z4) (z5:=z5) (Kx:=Kx) l i c (by omega) hs hl state 11 12 3 4 1 S.s1 hst (by decide) (by decide) b1 b2
 have pl1:=(cC (eC hst) (show 11∈toS by decide)).2.1
 have pl2:=(cC (show 12∈frS by decide) (iD n1)).2.1
 have hz:∀n,(zs n).length=n:=fun n=>by simp [zs]
 have hx:∀n,(xsL n).length=n:=fun n=>by simp [xsL]
 have hec:(WA c).length=c.b.length:=by simp [WA]
 have hpos:=List.length_pos_iff.2 q1
 have lens:(vB jA c state 11 12 (nA (l.take i) 3).b (nA (l.take i) 4).b (nA (l.take i) 1).s.toNat).tdi.length≤(vB jA c state 11 12 (nA (l.take i) 3).b (nA (l.take i) 4).b (nA (l.take i) 1).s.toNat).tms.length ∧
  (vB jA c state 11 12 (nA (l.take i) 3).b (nA (l.take i) 4).b (nA (l.take i) 1).s.toNat).want.length≤(vB jA c state 11 12 (nA (l.take i) 3).b (nA (l.take i) 4).b (nA (l.take i) 1).s.toNat).tms.length ∧
  (vB jA c state 11 12 (nA (l.take i) 3).b (nA (l.take i) 4).b (nA (l.take i) 1).s.toNat).tms.length≤1000000:=by
  unfold vB;simp only[List.length_append,hz,hx,hec,List.length_singleton];omega
 have est:(vB jA c state 11 12 (nA (l.take i) 3).b (nA (l.take i) 4).b (nA (l.take i) 1).s.toNat).st=(nA (l.take i) 1).s.toNat:=rfl
 generalize vB jA c state 11 12 (nA (l.take i) 3).b (nA (l.take i) 4).b (nA (l.take i) 1).s.toNat=p at P1 lens est ⊢;rw[←est]at P1;obtain⟨l1,l2,l3⟩:=lens;have P3:=fun(z1 z2 z3 z4 z5 c1 c2 c3 c4 c5 c6:AV) (Kx:Ex→St→Prop)=>pk3 (h:=h) (Kx:=Kx) (T:=p.tms) (D:=p.tdi) (W:=p.want) (fr:=(p.fr:Nat)) (st:=(p.st:Nat)) (z1:=z1) (z2:=z2) (z3:=z3) (z4:=z4) (z5:=z5) (c1:=c1) (c2:=c2) (c3:=c3) (c4:=c4) (c5:=c5) (c6:=c6) l1 l2 l3
 obtain⟨k,s,cl,b',w,m⟩:=c;dsimp only at h7 hg P1 ⊢;subst h7;simp only[show((11:Nat):Int)=11 from rfl,show((12:Nat):Int)=12 from rfl]at P1
 unfold aC vD;dsimp only;simp only[DH,go_sem,uD,hg,hilt,P1,P3]
set_option maxHeartbeats 4000000 in
theorem zoO (l:List Cmd)(i:Nat)(c:Cmd)(hi:l[i]?=some c)(h7:c.k=8)(hs:QC c=0)(hl:l.length≤1000000)(S:SetOk (l.take i))(state:Nat)(hst:state∈stb) :
 bA X sG [ACs l,AI i,AI state] h K=K (.p (vD (qA jA (l.take i) c state))) h []:=by
 refine rA ?_;rw[WN rfl];have hg:(l.map QA)[i]?=some (QA c):=by rw[List.getElem?_map,hi];rfl
 have hilt:i<l.length:=by
  rcases Nat.lt_or_ge i l.length with h|h
  ·exact h
  ·rw[List.getElem?_eq_none h]at hi;cases hi
 obtain⟨q1,q2,q3,q4,q5,q6⟩:=lF hs;have ep:qA jA (l.take i) c state=aC (vB jA c state 4 5 (nA (l.take i) 5).b (nA (l.take i) 6).b (nA (l.take i) 2).s.toNat):=by
  unfold qA;rw[if_neg (by omega),if_neg (by omega),if_neg (by omega),if_pos h7]
 rw[ep];obtain⟨_,b1⟩:=S.b1 5 (by omega) (by omega)
 obtain⟨_,b2⟩:=S.b1 6 (by omega) (by omega)
 obtain⟨n1,n2⟩:=EC S.s2;have P1:=fun(z1 z2 z3 z4 z5:AV) (Kx:Ex→St→Prop)=>pk1 (h:=h) (z1:=z1) (z2:=z2) (z3:=z3) (z4:=z4) (z5:=z5) (Kx:=Kx) l i c (by omega) hs hl state 4 5 5 6 2 S.s2 hst (by decide) (by decide) b1 b2
 have pl1:=(cC (eC hst) (show 4∈toS by decide)).2.1
 have pl2:=(cC (show 5∈frS by decide) (iD n1)).2.1
 have hz:∀n,(zs n).length=n:=fun n=>by simp [zs]
 have hx:∀n,(xsL n).length=n:=fun n=>by simp [xsL]
 have hec:(WA c).length=c.b.length:=by simp [WA]
 have hpos:=List.length_pos_iff.2 q1
 have lens:(vB jA c state 4 5 (nA (l.take i) 5).b (nA (l.take i) 6).b (nA (l.take i) 2).s.toNat).tdi.length≤(vB jA c state 4 5 (nA (l.take i) 5).b (nA (l.take i) 6).b (nA (l.take i) 2).s.toNat).tms.length ∧
  (vB jA c state 4 5 (nA (l.take i) 5).b (nA (l.take i) 6).b (nA (l.take i) 2).s.toNat).want.length≤(vB jA c state 4 5 (nA (l.take i) 5).b (nA (l.take i) 6).b (nA (l.take i) 2).s.toNat).tms.length ∧
  (vB jA c state 4 5 (nA (l.take i) 5).b (nA (l.take i) 6).b (nA (l.take i) 2).s.toNat).tms.length≤1000000:=by
  unfold vB;simp only[List.length_append,hz,hx,hec,List.length_singleton];omega
 have est:(vB jA c state 4 5 (nA (l.take i) 5).b (nA (l.take i) 6).b (nA (l.take i) 2).s.toNat).st=(nA (l.take i) 2).s.toNat:=rfl
 generalize vB jA c state 4 5 (nA (l.take i) 5).b (nA (l.take i) 6).b (nA (l.take i) 2).s.toNat=p at P1 lens est ⊢;rw[←est]at P1;obtain⟨l1,l2,l3⟩:=lens;have P3:=fun(z1 z2 z3 z4 z5 c1 c2 c3 c4 c5 c6:AV) (Kx:Ex→St→Prop)=>pk3 (h:=h) (Kx:=Kx) (T:=p.tms) (D:=p.tdi) (W:=p.want) (fr:=(p.fr:Nat)) (st:=(p.st:Nat)) (z1:=z1) (z2:=z2) (z3:=z3) (z4:=z4) (z5:=z5) (c1:=c1) (c2:=c2) (c3:=c3) (c4:=c4) (c5:=c5) (c6:=c6) l1 l2 l3
 obtain⟨k,s,cl,b',w,m⟩:=c;dsimp only at h7 hg P1 ⊢;subst h7;simp only[show((4:Nat):Int)=4 from rfl,show((5:Nat):Int)=5 from rfl]at P1
 unfold aC vD;dsimp only;simp only[DH,go_sem,uD,hg,hilt,P1,P3]
end Go.Am
end
section
namespace Go.Am
variable {h:aA} {K:kA}
attribute [-go_sem] YA
theorem zoS (l:List Cmd)(i:Nat)(c:Cmd)(hi:l[i]?=some c)(hc:OA c=0)(hl:l.length≤1000000)(S:SetOk (l.take i))(state:Nat)(hst:state∈stb) :
 bA X sG [ACs l,AI i,AI state] h K=K (.p (vD (qA jA (l.take i) c state))) h []:=by
 cases tE hc with
 | set h hs e=>exact zbD l i c hi (by omega) state
 | pad h0 h1 hb hl e=>exact zbD l i c hi h1 state
 | go h hs e=>exact zoP l i c hi h hs state hst
 | idle h h0 h1 e=>exact zoR l i c hi h h0 h1 state hst
 | scan h hs e=>
  rcases h with h|h
  ·exact zoQ l i c hi h hs hl S state hst
  ·exact zoO l i c hi h hs hl S state hst
theorem zp1 {pre:List Cmd}{c:Cmd}(S:SetOk pre)(hc:OA c=0):SetOk (pre++[c]):=by
 have K:=tE hc
 refine⟨?_,?_,fun k h1 h2=>?_⟩
 ·rw[RC];split
  ·cases K with
   | set h hs e=>exact hs
   | pad h0 h1 hb hl e=>omega
   | go h hs e=>omega
   | idle h h0 h1 e=>omega
   | scan h hs e=>omega
  ·exact S.s1
 ·rw[RC];split
  ·cases K with
   | set h hs e=>exact hs
   | pad h0 h1 hb hl e=>omega
   | go h hs e=>omega
   | idle h h0 h1 e=>omega
   | scan h hs e=>omega
  ·exact S.s2
 ·rw[RC];split
  ·cases K with
   | set h hs e=>omega
   | pad h0 h1 hb hl e=>exact⟨hb,hl⟩
   | go h hs e=>omega
   | idle h h0 h1 e=>omega
   | scan h hs e=>omega
  ·exact S.b1 k h1 h2
theorem zp0:SetOk []:=⟨rfl,rfl,fun k _ _=>⟨rfl,Nat.zero_le _⟩⟩
end Go.Am
end
section
namespace Go.Am
variable {h:aA} {K:kA}
def qC (pre:List Cmd)(state:Nat):List Cmd→Nat
 | []=>state
 | c::r=>qC (pre++[c]) (qA jA pre c state).st r
theorem OW (c:Cmd):∀(l pre:List Cmd) (state:Nat),sA jA pre state (l++[c])=sA jA pre state l++[qA jA (pre++l) c (qC pre state l)]∧qC pre state (l++[c])=(qA jA (pre++l) c (qC pre state l)).st
 | [],pre,state=>by simp [sA,qC]
 | d::l,pre,state=>by
  obtain⟨a,b⟩:=OW c l (pre++[d]) (qA jA pre d state).st;have e:pre++[d]++l=pre++d::l:=by rw[List.append_assoc];rfl
  rw[e]at a b;constructor
  ·simp only[List.cons_append,sA];rw[a];rfl
  ·exact b
theorem z8e:∀ {l:List Cmd},GD l=0→∀ c∈l,OA c=0
 | [],_,c,hc=>by cases hc
 | d::l,h,c,hc=>by
  unfold GD at h;split at h
  ·rename_i h1;exact absurd h h1
  ·rename_i h1
   rcases List.mem_cons.1 hc with rfl|hc
   ·omega
   ·exact z8e h c hc
theorem WQ {l:List Cmd}(hc:∀ c∈l,OA c=0):∀k,k≤l.length→SetOk (l.take k)∧qC [] 0 (l.take k)∈stb
 | 0,_=>⟨zp0,by show 0∈stb;decide⟩
 | k+1,hk=>by
  obtain⟨S,T⟩:=WQ hc k (by omega)
  have hlt:k<l.length:=by omega
  have h0:=hc _ (List.getElem_mem hlt)
  rw[List.take_succ_eq_append_getElem hlt];refine⟨zp1 S h0,?_⟩;rw[(OW l[k] (l.take k) [] 0).2,List.nil_append];cases tE h0 with
  | set h hs e=>rw[gF jA (by omega)];exact T
  | pad h0 h1 hb hl e=>rw[gF jA h1];exact T
  | go h hs e=>rw[mI jA h];exact(EC hs).1
  | idle h h0 h1 e=>rw[nI jA h];show 1∈stb;decide
  | scan h hs e=>
   unfold qA;rcases h with h|h
   ·rw[if_neg (by omega),if_neg (by omega),if_pos h];exact(EC S.s1).1
   ·rw[if_neg (by omega),if_neg (by omega),if_neg (by omega),if_pos h];exact(EC S.s2).1
abbrev APs (l:List Part):AV:=.p (.sl (some 5) (l.map vD))
set_option maxHeartbeats 2000000 in
theorem zbE (l:List Cmd)(hc:∀ c∈l,OA c=0)(hl:l.length≤1000):bA X nL [ACs l] h K=K (APs (sA jA [] 0 l)) h []:=by
 refine rA ?_;rw[zeZ rfl];simp only[PS,go_sem];refine XA (fun k:Nat=>⟨[(0,ACs l),(3,.own h.length k 0 k),(4,AI (qC [] 0 (l.take k))),(8,AI l.length),(9,AI k)],h++[.row (some 5) ((sA jA [] 0 (l.take k)).map vD) 0],[]⟩) (fun k=>k≤l.length) (fun k=>l.length-k) 0 rfl (by omega) ?_
 intro k hk;have hpl:∀j,j≤l.length→(sA jA [] 0 (l.take j)).length=j:=by
  intro j hj;have:∀(l:List Cmd) (pre:List Cmd) (s:Nat),(sA jA pre s l).length=l.length:=by
   intro l;induction l with
   | nil=>intro pre s;rfl
   | cons c l ih=>intro pre s;simp [sA,ih]
  rw[this];simp;omega
 have hlen:((sA jA [] 0 (l.take k)).map vD).length=k:=by rw[List.length_map,hpl k hk]
 rcases Nat.lt_or_ge k l.length with hlt|hge
 ·obtain⟨S,T⟩:=WQ hc k hk
  have hi:l[k]?=some l[k]:=List.getElem?_eq_getElem hlt
  have h0:=hc _ (List.getElem_mem hlt)
  have w2:IntKind.i64.wrap ((k:Int)+1)=((k+1:Nat):Int):=zA _ (by omega) (by omega)
  have hmx:k+1≤GA:=by unfold GA;omega
  have hp:=fun(h':aA) (K':kA)=>zoS (h:=h') (K:=K') l k l[k] hi h0 (by omega) S _ T
  simp only[go_sem,hlt,hp,w2,hmx,hlen];refine⟨k+1,?_,by omega,by omega⟩
  obtain⟨e1,e2⟩:=OW l[k] (l.take k) [] 0;rw[List.take_succ_eq_append_getElem hlt,e1,e2,List.nil_append,List.map_append];rfl
 ·obtain rfl:k=l.length:=by omega
  have hpe:(sA jA [] 0 l).length=l.length:=by have:=hpl l.length (Nat.le_refl _);rwa [List.take_length]at this
  simp only[go_sem,Nat.lt_irrefl,hlen,List.take_length,hpe];exact congrArg (fun x=>AV.p (PV.sl (some 5) x)) (List.take_of_length_le (by simp [hpe]))
end Go.Am
end
section
namespace Go.Am
variable {h:aA} {K:kA}
def b3 (h:aA)(u1:Bool)(s1:List UInt8)(u2:Bool)(s2:List UInt8)(u3:Bool)(s3:List UInt8)(l:aA):aA:=
 h++YD u1 h.length s1.length :: .row none (yA s1) 0::YD u2 (h.length+2) s2.length :: .row none (yA s2) 0::YD u3 (h.length+4) s3.length :: .row none (yA s3) 0::l
variable {u1 u2 u3:Bool} {s1 s2 s3 t:List UInt8} {l:aA}
theorem JI {n:Nat}:(b3 h u1 s1 u2 s2 u3 s3 l)[h.length+n]?=(YD u1 h.length s1.length::Obj.row none (yA s1) 0::YD u2 (h.length+2) s2.length::Obj.row none (yA s2) 0::YD u3 (h.length+4) s3.length::Obj.row none (yA s3) 0::l)[n]?:=by
 unfold b3;rw[List.getElem?_append_right (by omega),show h.length+n-h.length=n by omega]
theorem z7x:FI (b3 h u1 s1 u2 s2 u3 s3 l) u1 h.length s1:=⟨JI (n:=0),JI (n:=1)⟩
theorem z7y:FI (b3 h u1 s1 u2 s2 u3 s3 l) u2 (h.length+2) s2:=⟨JI (n:=2),JI (n:=3)⟩
theorem z7z:FI (b3 h u1 s1 u2 s2 u3 s3 l) u3 (h.length+4) s3:=⟨JI (n:=4),JI (n:=5)⟩
theorem b3_e1:WH (b3 h u1 s1 u2 s2 u3 s3 l) h.length t=b3 h true t u2 s2 u3 s3 l:=by
 unfold WH b3;rw[List.set_append_right _ _ (by omega),List.set_append_right _ _ (by omega),Nat.sub_self,show h.length+1-h.length=1 by omega]
 rfl
theorem b3_e2:WH (b3 h u1 s1 u2 s2 u3 s3 l) (h.length+2) t=b3 h u1 s1 true t u3 s3 l:=by
 unfold WH b3;rw[List.set_append_right _ _ (by omega),List.set_append_right _ _ (by omega),show h.length+2-h.length=2 by omega,show h.length+2+1-h.length=3 by omega]
 rfl
theorem b3_e3:WH (b3 h u1 s1 u2 s2 u3 s3 l) (h.length+4) t=b3 h u1 s1 u2 s2 true t l:=by
 unfold WH b3;rw[List.set_append_right _ _ (by omega),List.set_append_right _ _ (by omega),show h.length+4-h.length=4 by omega,show h.length+4+1-h.length=5 by omega]
 rfl
theorem zdE (hm:s1.length+t.length≤200000000000):bA X tG [.ref h.length 0,AS t] (b3 h u1 s1 u2 s2 u3 s3 l) K=K (.tup [AI t.length,.nili]) (b3 h true (s1++t) u2 s2 u3 s3 l) []:=by
 rw[z5O z7x hm,b3_e1]
theorem zdF (hm:s2.length+t.length≤200000000000):bA X tG [.ref (h.length+2) 0,AS t] (b3 h u1 s1 u2 s2 u3 s3 l) K=K (.tup [AI t.length,.nili]) (b3 h u1 s1 true (s2++t) u3 s3 l) []:=by
 rw[z5O z7y hm,b3_e2]
theorem zdG (hm:s3.length+t.length≤200000000000):bA X tG [.ref (h.length+4) 0,AS t] (b3 h u1 s1 u2 s2 u3 s3 l) K=K (.tup [AI t.length,.nili]) (b3 h u1 s1 u2 s2 true (s3++t) l) []:=by
 rw[z5O z7z hm,b3_e3]
theorem z71:(b3 h u1 s1 u2 s2 u3 s3 l).length=h.length+(l.length+6):=by unfold b3;simp
theorem zd7 {l2:aA}:b3 h u1 s1 u2 s2 u3 s3 l++l2=b3 h u1 s1 u2 s2 u3 s3 (l++l2):=by unfold b3;simp
theorem zd8 {n:Nat}:(b3 h u1 s1 u2 s2 u3 s3 l)[h.length+(n+6)]?=l[n]?:=JI
theorem zdA {n:Nat}{o:Obj}:(b3 h u1 s1 u2 s2 u3 s3 l).set (h.length+(n+6)) o=b3 h u1 s1 u2 s2 u3 s3 (l.set n o):=by
 unfold b3;rw[List.set_append_right _ _ (by omega),show h.length+(n+6)-h.length=n+6 by omega]
 rfl
theorem zdC {n:Nat}:(b3 h u1 s1 u2 s2 u3 s3 l).take (h.length+(n+6))=b3 h u1 s1 u2 s2 u3 s3 (l.take n):=by
 unfold b3;rw[List.take_length_add_append];rfl
theorem zdD:(b3 h u1 s1 u2 s2 u3 s3 l).take h.length=h:=by unfold b3;exact List.take_left
theorem z5Z {hp:aA}{id id':Nat}{u:Bool}{s s':List UInt8}(H:FI hp u id' s')(h1:id'≠id+1)(h2:id'+1≠id+1):FI (CG hp id s) u id' s':=by
 unfold CG;split
 ·exact H
 ·exact⟨by rw[List.getElem?_set_ne (by omega)];exact H.1,by rw[List.getElem?_set_ne (by omega)];exact H.2⟩
theorem z6a {hp:aA}{id n:Nat}{s:List UInt8}(hn:n≤id+1):(CG hp id s).take n=hp.take n:=by
 unfold CG;split
 ·rfl
 ·exact List.take_set_of_le (by omega)
end Go.Am
end
section
namespace Go.Am
variable {h:aA} {K:kA}
attribute [-go_sem] YA
section
variable {u1 u2 u3:Bool} {s1 s2 s3:List UInt8} {l:aA} {o:Obj}
theorem zd9:(b3 h u1 s1 u2 s2 u3 s3 l)[h.length+6]?=l[0]?:=zd8 (n:=0)
theorem zdB:(b3 h u1 s1 u2 s2 u3 s3 l).set (h.length+6) o=b3 h u1 s1 u2 s2 u3 s3 (l.set 0 o):=zdA (n:=0)
theorem z73:(b3 h u1 s1 u2 s2 u3 s3 l).take (h.length+6)=b3 h u1 s1 u2 s2 u3 s3 (l.take 0):=zdC (n:=0)
end
theorem z2S {β:Type}(f:Part→List β)(ps:List Part){k:Nat}(hk:k<ps.length):((ps.take k).flatMap f).length+(f ps[k]).length≤(ps.flatMap f).length:=by
 have e:ps.flatMap f=(ps.take (k+1)).flatMap f++(ps.drop (k+1)).flatMap f:=by rw[←List.flatMap_append,List.take_append_drop]
 rw[e,List.take_succ_eq_append_getElem hk,List.flatMap_append,List.length_append,List.length_append];simp
theorem OJ:∀ (l pre:List Cmd) (s:Nat),(sA jA pre s l).length=l.length
 | [],_,_=>rfl
 | c::l,pre,s=>by simp [sA,OJ l]
set_option maxHeartbeats 2000000 in
theorem zb6 (l:List Cmd)(hc:∀ c∈l,OA c=0)(hl:l.length≤1000)(hT:(AA (sA jA [] 0 l)).length≤1000000000)(hI:(DC (sA jA [] 0 l)).length≤1000000000)(hW:(SC (sA jA [] 0 l)).length≤1000000000):bA X jJ [ACs l] h K=K (.tup [AS (AA (sA jA [] 0 l)),AS (DC (sA jA [] 0 l)),AS (SC (sA jA [] 0 l))]) h []:=by
 refine rA ?_;rw[zeT rfl];have hp:=fun(h':aA) (K':kA)=>zbE (h:=h') (K:=K') l hc hl
 simp only[KS,go_sem,hp];have hpl:=OJ l [] 0
 generalize sA jA [] 0 l=ps at hT hI hW hpl ⊢;refine XA (fun k:Nat=>⟨[(5,.ref h.length 0),(6,.ref (h.length+2) 0),(7,.ref (h.length+4) 0),(11,APs ps),(12,AI ps.length),(13,AI k)],b3 h (decide (0<k)) (AA (ps.take k)) (decide (0<k)) (DC (ps.take k)) (decide (0<k)) (SC (ps.take k)) [],[(h.length+4,h.length+6),(h.length+2,h.length+4),(h.length,h.length+2)]⟩) (fun k=>k≤ps.length) (fun k=>ps.length-k) 0 rfl (by omega) ?_
 intro k hk;rcases Nat.lt_or_ge k ps.length with hlt|hge
 ·have hg:=BB vD hlt
  have w2:IntKind.i64.wrap ((k:Int)+1)=((k+1:Nat):Int):=zA _ (by omega) (by omega)
  have m1:(AA (ps.take k)).length+(ps[k].tms).length≤200000000000:=by have:=z2S Part.tms ps hlt;unfold AA at *;omega
  have m2:(DC (ps.take k)).length+(ps[k].tdi).length≤200000000000:=by have:=z2S Part.tdi ps hlt;unfold DC at *;omega
  have m3:(SC (ps.take k)).length+(ps[k].want).length≤200000000000:=by have:=z2S Part.want ps hlt;unfold SC at *;omega
  simp only[go_sem,hlt,hg,w2,zd7,z71,zd9,zdB,z73,zdE m1,zdF m2,zdG m3];refine⟨k+1,?_,by omega,by omega⟩
  obtain⟨e1,e2,e3⟩:=MX (ps.take k) ps[k];rw[List.take_succ_eq_append_getElem hlt,e1,e2,e3];simp
 ·obtain rfl:k=ps.length:=by omega
  have H1:=fun(u:Bool) (s1 s2 s3:List UInt8)=>z7x (h:=h) (u1:=u) (s1:=s1) (u2:=u) (s2:=s2) (u3:=u) (s3:=s3) (l:=[])
  have H2:=fun(u:Bool) (s1 s2 s3:List UInt8)=>z7y (h:=h) (u1:=u) (s1:=s1) (u2:=u) (s2:=s2) (u3:=u) (s3:=s3) (l:=[])
  have H3:=fun(u:Bool) (s1 s2 s3:List UInt8)=>z7z (h:=h) (u1:=u) (s1:=s1) (u2:=u) (s2:=s2) (u3:=u) (s3:=s3) (l:=[])
  have d1:h.length+1≤h.length+6:=by omega
  have d2:h.length+2+1≤h.length+6:=by omega
  have d3:h.length+4+1≤h.length+6:=by omega
  simp only[go_sem,Nat.lt_irrefl,List.take_length,z71,List.length_nil,Nat.zero_add,d1,d2,d3,z73,List.take_nil];rw[z5H (H1 _ _ _ _) (by omega)]
  rw[z5H (z5Z (H2 _ _ _ _) (by omega) (by omega)) (by omega)]
  rw[z5H (z5Z (z5Z (H3 _ _ _ _) (by omega) (by omega)) (by omega) (by omega)) (by omega)]
  simp only[go_sem];have ht:(CG (CG (CG (b3 h (decide (0<ps.length)) (AA ps) (decide (0<ps.length)) (DC ps) (decide (0<ps.length)) (SC ps) []) h.length (AA ps)) (h.length+2) (DC ps)) (h.length+4) (SC ps)).take h.length=h:=by
   rw[z6a (by omega),z6a (by omega),z6a (by omega),zdD]
  revert ht
  generalize CG _ (h.length+4) (SC ps)=hp1;intro ht;have n4:¬(h.length+4<h.length):=by omega
  have n2:¬(h.length+2<h.length):=by omega
  have n0:¬(h.length<h.length):=by omega
  have e3:RB 3 [(h.length+4,h.length+6),(h.length+2,h.length+4),(h.length,h.length+2)] h.length=h.length:=by simp only[RB,FD,List.foldl_cons,List.foldl_nil,n4,n2,n0,if_false];try simp [n4,n2]
  have e4:iC [(h.length+4,h.length+6),(h.length+2,h.length+4),(h.length,h.length+2)] h.length=true:=by simp [iC]
  simp only[RD,go_sem,e3,e4,ht];simp
end Go.Am
end
section
namespace Go.Am
variable {h:aA} {K:kA}
attribute [-go_sem] YA
theorem zn3 {pre:List Cmd}{c:Cmd}{state:Nat}(S:SetOk pre)(hst:state∈stb)(hc:OA c=0) :
 (qA jA pre c state).tms.length≤20008∧(qA jA pre c state).tdi.length=(qA jA pre c state).tms.length∧(qA jA pre c state).want.length=(qA jA pre c state).tms.length:=by
 have hz:∀n,(zs n).length=n:=fun n=>by simp [zs]
 have hx:∀n,(xsL n).length=n:=fun n=>by simp [xsL]
 cases tE hc with
 | set h hs e=>rw[gF jA (by omega)];exact⟨Nat.zero_le _,rfl,rfl⟩
 | pad h0 h1 hb hl e=>rw[gF jA h1];exact⟨Nat.zero_le _,rfl,rfl⟩
 | go h hs e=>
  rw[mI jA h];have:=(cC (eC hst) (iD (EC hs).1)).2.1;exact⟨by show(jA state c.s.toNat).length≤_;omega,hz _,hx _⟩
 | idle h h0 h1 e=>
  rw[nI jA h];have:=(cC (eC hst) (show 1∈toS by decide)).2.1
  refine⟨?_,?_,?_⟩ <;> simp only[List.length_append,hz,hx] <;> omega
 | scan h hs e=>
  obtain⟨q1,q2,q3,q4,q5,q6⟩:=lF hs;have hpos:=List.length_pos_iff.2 q1
  have he:(WA c).length=c.b.length:=by simp [WA]
  have key:∀(sh ex:Nat) (hd tl:List UInt8) (en:Nat),sh∈toS→ex∈frS→en∈stb→hd.length≤2000→tl.length≤2000 →
   (aC (vB jA c state sh ex hd tl en)).tms.length≤20008∧(aC (vB jA c state sh ex hd tl en)).tdi.length=(aC (vB jA c state sh ex hd tl en)).tms.length∧(aC (vB jA c state sh ex hd tl en)).want.length=(aC (vB jA c state sh ex hd tl en)).tms.length:=by
   intro sh ex hd tl en h1 h2 h3 h4 h5;have p1:=(cC (eC hst) h1).2.1
   have p2:=(cC h2 (iD h3)).2.1
   rw[NJ jA c state sh ex hd tl en q1];refine⟨?_,?_,?_⟩ <;> simp only[List.length_append,hz,hx,he,List.length_singleton] <;> omega
  rcases h with h|h
  ·have ep:qA jA pre c state=aC (vB jA c state 11 12 (nA pre 3).b (nA pre 4).b (nA pre 1).s.toNat):=by
    unfold qA;rw[if_neg (by omega),if_neg (by omega),if_pos h]
   rw[ep];exact key _ _ _ _ _ (by decide) (by decide) (EC S.s1).1 (S.b1 3 (by omega) (by omega)).2 (S.b1 4 (by omega) (by omega)).2
  ·have ep:qA jA pre c state=aC (vB jA c state 4 5 (nA pre 5).b (nA pre 6).b (nA pre 2).s.toNat):=by
    unfold qA;rw[if_neg (by omega),if_neg (by omega),if_neg (by omega),if_pos h]
   rw[ep];exact key _ _ _ _ _ (by decide) (by decide) (EC S.s2).1 (S.b1 5 (by omega) (by omega)).2 (S.b1 6 (by omega) (by omega)).2
theorem zcd {l:List Cmd}(hc:∀ c∈l,OA c=0):∀k,k≤l.length→(AA (sA jA [] 0 (l.take k))).length≤k*20008∧(DC (sA jA [] 0 (l.take k))).length=(AA (sA jA [] 0 (l.take k))).length∧(SC (sA jA [] 0 (l.take k))).length=(AA (sA jA [] 0 (l.take k))).length
 | 0,_=>⟨Nat.zero_le _,rfl,rfl⟩
 | k+1,hk=>by
  obtain⟨a,b,c⟩:=zcd hc k (by omega)
  obtain⟨S,T⟩:=WQ hc k (by omega)
  have hlt:k<l.length:=by omega
  obtain⟨x,y,z⟩:=zn3 S T (hc _ (List.getElem_mem hlt));rw[List.take_succ_eq_append_getElem hlt,(OW l[k] (l.take k) [] 0).1,List.nil_append];obtain⟨e1,e2,e3⟩:=MX (sA jA [] 0 (l.take k)) (qA jA (l.take k) l[k] (qC [] 0 (l.take k)));rw[e1,e2,e3,List.length_append,List.length_append,List.length_append];refine⟨?_,by omega,by omega⟩
  rw[Nat.add_mul];omega
theorem zoA (l:List Cmd)(hc:∀ c∈l,OA c=0)(hl:l.length≤1000):bA X jJ [ACs l] h K=K (.tup [AS (AA (sA jA [] 0 l)),AS (DC (sA jA [] 0 l)),AS (SC (sA jA [] 0 l))]) h []:=by
 obtain⟨a,b,c⟩:=zcd hc l.length (Nat.le_refl _);rw[List.take_length]at a b c;have:l.length*20008≤1000*20008:=Nat.mul_le_mul_right _ hl
 exact zb6 l hc (by omega) (by omega) (by omega) (by omega)
theorem UI:∀ {l:List Cmd},(∀ c∈l,OA c=0)→GD l=0
 | [],_=>rfl
 | d::l,h=>by
  unfold GD;rw[if_neg (by rw[h d (List.mem_cons_self ..)];simp)]
  exact UI fun c hc=>h c (List.mem_cons_of_mem _ hc)
theorem z0H:∀ {l:List Cmd} {k:Nat} (hk:k<l.length),(∀ c∈l.take k,OA c=0)→OA l[k]≠0→GD l=OA l[k]
 | d::l,0,hk,_,h2=>by unfold GD;rw[if_pos (by simpa using h2)];rfl
 | d::l,k+1,hk,h1,h2=>by
  unfold GD;rw[if_neg (by rw[h1 d (by simp)];simp)]
  exact z0H (l:=l) (k:=k) (by simpa using hk) (fun c hc=>h1 c (by simp [hc])) (by simpa using h2)
set_option maxHeartbeats 2000000 in
theorem zoz (l:List Cmd)(hok:∀ c∈l,CmdOk c)(hl:l.length≤1000000):bA X mL [ACs l] h K=K (AI (TB jA l:Nat)) h []:=by
 refine rA ?_;rw[zeP rfl];by_cases hbig:1000<l.length
 ·have h1:(1000:Int)<(l.length:Int):=by omega
  have e:TB jA l=2:=by unfold TB;rw[if_pos hbig]
  rw[e];simp only[xO,go_sem,h1]
 have h1:¬(1000:Int)<(l.length:Int):=by omega
 simp only[xO,go_sem,h1];refine XA (fun k:Nat=>⟨[(0,ACs l),(12,ACs l),(13,AI l.length),(14,AI k)],h,[]⟩) (fun k=>k≤l.length∧∀c∈l.take k,OA c=0) (fun k=>l.length-k) 0 rfl ⟨Nat.zero_le _,by simp⟩ ?_
 rintro k ⟨hk,hn⟩
 rcases Nat.lt_or_ge k l.length with hlt|hge
 ·have hg:=BB QA hlt
  have w2:IntKind.i64.wrap ((k:Int)+1)=((k+1:Nat):Int):=zA _ (by omega) (by omega)
  have hf:=fun(h':aA) (K':kA)=>zoE (h:=h') (K:=K') l[k] (hok _ (List.getElem_mem hlt))
  by_cases h0:OA l[k]=0
  ·have h0':((OA l[k]:Nat):Int)=0:=by omega
   simp only[go_sem,hlt,hg,w2,hf,h0'];refine⟨k+1,rfl,⟨by omega,?_⟩,by omega⟩
   intro c hc;rw[List.take_succ_eq_append_getElem hlt]at hc;rcases List.mem_append.1 hc with hc|hc
   ·exact hn c hc
   ·obtain rfl:c=l[k]:=by simpa using hc
    exact h0
  ·have h0':¬((OA l[k]:Nat):Int)=0:=by omega
   simp only[go_sem,hlt,hg,w2,hf,h0'];have e:TB jA l=OA l[k]:=by
    unfold TB;rw[if_neg (by omega),z0H hlt hn h0,if_pos h0]
   rw[e]
 ·obtain rfl:k=l.length:=by omega
  rw[List.take_length]at hn;have hs:=fun(h':aA) (K':kA)=>zoA (h:=h') (K:=K') l hn (by omega)
  have e:TB jA l=if 20000<(AA (sA jA [] 0 l)).length then 2 else 0:=by
   unfold TB;rw[if_neg (by omega),UI hn,if_neg (by simp)]
  rw[e];by_cases h2:20000<(AA (sA jA [] 0 l)).length
  ·have h2':(20000:Int)<((AA (sA jA [] 0 l)).length:Int):=by omega
   simp only[go_sem,Nat.lt_irrefl,Int.lt_irrefl,hs,h2,h2']
  ·have h2':¬(20000:Int)<((AA (sA jA [] 0 l)).length:Int):=by omega
   simp only[go_sem,Nat.lt_irrefl,Int.lt_irrefl,hs,h2,h2']
theorem zoy (l:List Cmd)(hok:∀ c∈l,CmdOk c)(hl:l.length≤40):bA X mL [ACs l] h K=K (AI (TB jA l:Nat)) h []:=zoz l hok (by omega)
end Go.Am
end
section
namespace Go.Am
variable {h:aA} {K:kA}
attribute [-go_sem] YA
theorem zn2 {l:List Cmd}(hc:∀ c∈l,OA c=0){k:Nat}(hk:k<l.length) :
 xB (qC [] 0 (l.take k)) (qA jA (l.take k) l[k] (qC [] 0 (l.take k))).tms=(qA jA (l.take k) l[k] (qC [] 0 (l.take k))).st∧EA (qA jA (l.take k) l[k] (qC [] 0 (l.take k))).tms=true:=by
 obtain⟨S,T⟩:=WQ hc k (by omega)
 have h0:=hc _ (List.getElem_mem hk)
 have bz:∀n,EA (zs n)=true:=fun n=>by simp [EA,zs,ML]
 have ba:∀a b,EA a=true→EA b=true→EA (a++b)=true:=fun a b h1 h2=>by unfold EA at *;rw[List.all_append,h1,h2];rfl
 generalize qC [] 0 (l.take k)=state at T ⊢;generalize l.take k=pre at S ⊢;generalize l[k]=c at h0 ⊢;cases tE h0 with
 | set h hs e=>rw[gF jA (by omega)];exact⟨rfl,rfl⟩
 | pad h0 h1 hb hl e=>rw[gF jA h1];exact⟨rfl,rfl⟩
 | go h hs e=>
  rw[mI jA h];have:=cC (eC T) (iD (EC hs).1);exact⟨this.2.2,this.1⟩
 | idle h h0 h1 e=>
  rw[nI jA h];have:=cC (eC T) (show 1∈toS by decide)
  refine⟨?_,ba _ _ this.1 (bz _)⟩;show xB state (jA state 1++zs c.cl.toNat)=1
  rw[aL,this.2.2];exact(OX rfl _).2
 | scan h hs e=>
  obtain⟨q1,q2,q3,q4,q5,q6⟩:=lF hs;have hpos:=List.length_pos_iff.2 q1
  rcases h with h|h
  ·have ep:qA jA pre c state=aC (vB jA c state 11 12 (nA pre 3).b (nA pre 4).b (nA pre 1).s.toNat):=by
    unfold qA;rw[if_neg (by omega),if_neg (by omega),if_pos h]
   have hen:=(EC S.s1).1
   rw[ep,NJ jA c state 11 12 _ _ _ q1];refine⟨(JX YQ T (.inl ⟨rfl,rfl⟩) hen _ (by simp only[List.length_append];omega)).1,?_⟩
   exact ba _ _ (ba _ _ (cC (eC T) (by decide)).1 (ba _ _ (bz _) rfl)) (cC (by decide) (iD hen)).1
  ·have ep:qA jA pre c state=aC (vB jA c state 4 5 (nA pre 5).b (nA pre 6).b (nA pre 2).s.toNat):=by
    unfold qA;rw[if_neg (by omega),if_neg (by omega),if_neg (by omega),if_pos h]
   have hen:=(EC S.s2).1
   rw[ep,NJ jA c state 4 5 _ _ _ q1];refine⟨(JX YQ T (.inr ⟨rfl,rfl⟩) hen _ (by simp only[List.length_append];omega)).1,?_⟩
   exact ba _ _ (ba _ _ (cC (eC T) (by decide)).1 (ba _ _ (bz _) rfl)) (cC (by decide) (iD hen)).1
theorem MW {l:List Cmd}{k:Nat}(hk:k<l.length):(sA jA [] 0 l)[k]?=some (qA jA (l.take k) l[k] (qC [] 0 (l.take k))):=by
 have key:∀(l pre:List Cmd) (s k:Nat) (hk:k<l.length),(sA jA pre s l)[k]?=some (qA jA (pre++l.take k) l[k] (qC pre s (l.take k))):=by
  intro l;induction l with
  | nil=>intro pre s k hk;simp at hk
  | cons c l ih=>
   intro pre s k hk;cases k with
   | zero=>simp [sA,qC]
   | succ k=>
    have:=ih (pre++[c]) (qA jA pre c s).st k (by simpa using hk)
    rw[sA,List.getElem?_cons_succ,this,List.append_assoc];rfl
 have:=key l [] 0 k hk;rwa [List.nil_append]at this
theorem z78 {l:List Cmd}(hc:∀ c∈l,OA c=0):EA (AA (sA jA [] 0 l))=true:=by
 unfold EA AA;rw[List.all_flatMap];rw[List.all_eq_true];intro p hp;obtain⟨k,hk⟩:=List.mem_iff_getElem?.1 hp;have hlt:k<l.length:=by
  have:=(List.getElem?_eq_some_iff.1 hk).1;rwa [OJ]at this
 rw[MW hlt]at hk;cases hk;exact(zn2 hc hlt).2
end Go.Am
end
section
namespace Go.Am
variable {h:aA} {K:kA}
attribute [-go_sem] YA
end Go.Am
end
section
namespace Go.Am
variable {h l2:aA} {K:kA} {r:Run} {n:Nat} {o:Obj} {x:Esc}
attribute [-go_sem] YA splice
attribute [local go_sem] tI vN TJ UJ VJ wN
theorem z56 {l:aA}:(rh h r l)[h.length+6]?=l[0]?:=TJ (n:=0)
theorem z57 {l:aA}:(rh h r l).set (h.length+6) o=rh h r (l.set 0 o):=UJ (n:=0)
theorem z58 {l:aA}:(rh h r l).take (h.length+6)=rh h r (l.take 0):=VJ (n:=0)
attribute [local go_sem] z56 z57 z58
structure RunI (r:Run) (k:Nat):Prop where
 R:RunOk r
 N:mK r
 st:r.st∈stb
 S:SetR r.se
 sl:r.sts.length=k
 fl:r.frs.length=k
theorem zoq (w:Bool):RunI (yC w) 0:=⟨⟨Nat.le_refl _,Nat.le_refl _,Nat.le_refl _⟩,⟨Nat.le_refl _,Nat.le_refl _⟩,by show 0∈stb;decide,⟨rfl,rfl,Nat.zero_le _,Nat.zero_le _,Nat.zero_le _,Nat.zero_le _⟩,rfl,rfl⟩
theorem zp2 {s:Sett}{c:Cmd}(S:SetR s)(hc:OA c=0)(h1:1≤c.k∧c.k≤6):SetR (s.put c):=by
 have hb:c.k≤2→UB c.s=true:=fun h=>by
  cases tE hc with
  | set h hs e=>exact hs
  | pad h0 h1 hb hl e=>omega
  | go h hs e=>omega
  | idle h h0 h1 e=>omega
  | scan h hs e=>omega
 have hp:3≤c.k→c.b.length≤2000:=fun h=>by
  cases tE hc with
  | set h hs e=>omega
  | pad h0 h1 hb hl e=>exact hl
  | go h hs e=>omega
  | idle h h0 h1 e=>omega
  | scan h hs e=>omega
 obtain⟨s1,s2,a1,a2,a3,a4⟩:=S;unfold Sett.put;split
 ·exact⟨hb (by omega),s2,a1,a2,a3,a4⟩
 split
 ·exact⟨s1,hb (by omega),a1,a2,a3,a4⟩
 split
 ·exact⟨s1,s2,hp (by omega),a2,a3,a4⟩
 split
 ·exact⟨s1,s2,a1,hp (by omega),a3,a4⟩
 split
 ·exact⟨s1,s2,a1,a2,hp (by omega),a4⟩
 ·exact⟨s1,s2,a1,a2,a3,hp (by omega)⟩
theorem zor {k:Nat}(I:RunI r k){c:Cmd}(hc:OA c=0):RunI (r.step jA c) (k+1)∧(r.step jA c).ck≤r.ck+20016:=by
 obtain⟨R,N,st,S,sl,fl⟩:=I;have setf:1≤c.k∧c.k≤6→RunI (r.step jA c) (k+1)∧(r.step jA c).ck≤r.ck+20016:=fun h1=>by
  rw[eK jA h1];exact⟨⟨⟨R.t,R.i,R.w⟩,N,st,zp2 S hc h1,by simp [sl],by simp [fl]⟩,by dsimp only;omega⟩
 cases tE hc with
 | set h hs e=>exact setf (by omega)
 | pad h0 h1 hb hl e=>exact setf ⟨by omega,h1⟩
 | go hk hs e=>
  rw[yR jA hk];obtain⟨g1,g2,g3,g4,g5,g6,_,_⟩:=ZB jA r c.s.toNat;obtain⟨n1,n2⟩:=EC hs;have R1:=ZJ (tov:=c.s.toNat) R
  have N1:=xN (tov:=c.s.toNat) N
  have pl:=(cC (eC st) (iD n1)).2.1
  refine⟨⟨⟨R1.t,R1.i,R1.w⟩,N1,?_,?_,?_,?_⟩,?_⟩
  ·show(r.go jA c.s.toNat).st∈stb;rw[g2];exact n1
  ·show SetR (r.go jA c.s.toNat).se;rw[g1];exact S
  ·simp [g3,sl]
  ·simp [g4,fl]
  ·show(r.go jA c.s.toNat).ck≤_;rw[uJ];omega
 | idle hk h0 h1 e=>
  rw[FN jA hk];obtain⟨g1,g2,g3,g4,g5,g6,g7,g8⟩:=ZB jA r 1;obtain⟨q1,q2,q3,q4,q5,q6,q7,q8⟩:=cD (r.go jA 1) (List.replicate c.cl.toNat (48,48,120));have R1:=YJ (L:=List.replicate c.cl.toNat (48,48,120)) (ZJ (tov:=1) R)
  have N1:=xN (tov:=1) N
  have pl:=(cC (eC st) (show 1∈toS by decide)).2.1
  refine⟨⟨⟨R1.t,R1.i,R1.w⟩,?_,?_,?_,?_,?_⟩,?_⟩
  ·obtain⟨x,y⟩:=N1
   exact⟨by show Run.ni (Run.clk _ _)≤Run.ck (Run.clk _ _);rw[q7,q6];omega,by show Run.nd (Run.clk _ _)≤Run.ck (Run.clk _ _);rw[q8,q6];omega⟩
  ·show Run.st (Run.clk _ _)∈stb;rw[q2,g2];decide
  ·show SetR (Run.se (Run.clk _ _));rw[q1,g1];exact S
  ·simp [q3,g3,sl]
  ·simp [q4,g4,fl]
  ·show Run.ck (Run.clk _ _)≤_;rw[q6,uJ,List.length_replicate];omega
 | scan hk hs e=>
  rw[GN jA hk];obtain⟨g3,g4,g1⟩:=zbS (r:=r) c;obtain⟨q1,q2,q3,q4,q5,q6⟩:=lF hs;have key:∀(sh ex:Nat) (en:Int) (hd tl:List UInt8) (r2:Run),sh∈toS→ex∈frS→UB en=true→hd.length≤2000→tl.length≤2000→RunOk r2→r2.ck=(r.go jA sh).ck→r2.ni≤r2.ck+(hd++c.b++tl).length→r2.nd≤r2.ck+(hd++c.b++tl).length →
   r.scn jA c=Run.go jA { Run.clk r2 (dB c hd (hd++c.b++tl)) with st:=ex } en.toNat→RunI { r.scn jA c with sts:=(r.scn jA c).sts++[(r.scn jA c).st],frs:=(r.scn jA c).frs++[r.scnF jA c] } (k+1)∧(r.scn jA c).ck≤r.ck+20016:=by
   intro sh ex en hd tl r2 m1 m2 m3 m4 m5 R2 m6 m7 m8 e;obtain⟨n1,n2⟩:=EC m3;have R3:=YJ (L:=dB c hd (hd++c.b++tl)) R2
   have R4:=ZJ (r:={ Run.clk r2 (dB c hd (hd++c.b++tl)) with st:=ex }) (tov:=en.toNat) ⟨R3.t,R3.i,R3.w⟩
   have N4:=xN (r:={ Run.clk r2 (dB c hd (hd++c.b++tl)) with st:=ex }) (tov:=en.toNat) (by
    obtain⟨_,_,_,_,_,z1,z2,z3⟩:=cD r2 (dB c hd (hd++c.b++tl));have z4:=qR c hd (hd++c.b++tl)
    exact⟨by show Run.ni (Run.clk _ _)≤Run.ck (Run.clk _ _);omega,by show Run.nd (Run.clk _ _)≤Run.ck (Run.clk _ _);omega⟩)
   have st4:=(ZB jA { Run.clk r2 (dB c hd (hd++c.b++tl)) with st:=ex } en.toNat).2.1
   have ck4:=uJ (r:={ Run.clk r2 (dB c hd (hd++c.b++tl)) with st:=ex }) (tov:=en.toNat)
   have ck3:=dO (r:=r2) (L:=dB c hd (hd++c.b++tl))
   have ck2:=uJ (r:=r) (tov:=sh)
   have p1:=(cC (eC st) m1).2.1
   have p2:=(cC m2 (iD n1)).2.1
   have z4:=qR c hd (hd++c.b++tl)
   simp only[List.length_append]at z4;rw[←e]at R4 N4 st4 ck4;refine⟨⟨⟨R4.t,R4.i,R4.w⟩,N4,by show(r.scn jA c).st∈stb;rw[st4];exact n1,by show SetR (r.scn jA c).se;rw[g1];exact S,by simp [g3,sl],by simp [g4,fl]⟩,?_⟩
   dsimp only at ck4;omega
  have N1:=fun sh=>xN (tov:=sh) N
  have R1:=fun sh=>ZJ (tov:=sh) R
  rcases hk with h7|h8
  ·refine key 11 12 r.se.e1.s r.se.h1.b r.se.t1.b { r.go jA 11 with ni:=(r.go jA 11).ni+(r.se.h1.b++c.b++r.se.t1.b).length } (by decide) (by decide) S.s1 S.h1 S.t1 ⟨(R1 11).t,(R1 11).i,(R1 11).w⟩ rfl ?_ ?_ (z5Y h7).1
   ·have:=(N1 11).1;dsimp only;omega
   ·have:=(N1 11).2;dsimp only;omega
  ·refine key 4 5 r.se.e2.s r.se.h2.b r.se.t2.b { r.go jA 4 with nd:=(r.go jA 4).nd+(r.se.h2.b++c.b++r.se.t2.b).length } (by decide) (by decide) S.s2 S.h2 S.t2 ⟨(R1 4).t,(R1 4).i,(R1 4).w⟩ rfl ?_ ?_ (z5X h8).1
   ·have:=(N1 4).1;dsimp only;omega
   ·have:=(N1 4).2;dsimp only;omega
theorem zbK:bA X sQ [] h K=K (.p (.agg [eI 1,eI 1,eI 0,.str [],.str [],.str [],eI 2,eI 1,eI 0,.str [],.str [],.str [],eI 3,eI 0,eI 0,.str [],.str [],.str [],eI 4,eI 0,eI 0,.str [],.str [],.str [],eI 5,eI 0,eI 0,.str [],.str [],.str [],eI 6,eI 0,eI 0,.str [],.str [],.str []])) h []:=by
 refine rA ?_;rw[zfV rfl];simp only[MT,go_sem,splice]
set_option maxHeartbeats 4000000 in
theorem zbF (l:List Cmd)(hc:∀ c∈l,OA c=0)(hl:l.length≤1000)(p:AV)(w:Bool)(hp:(p = .nilp∧w=false)∨(∃ i,p = .ref i 0)∧w=true) :
 bA X TG [ACs l,p] h K=K (.ref (h.length+5) 0) (rh h ((yC w).play jA l) []) []:=by
 refine rA ?_;have main:∀Kx:Ex→St→Prop,(∀r,(yC w).play jA l=r→Kx .ret ⟨[(4,.ref (h.length+5) 0)],rh h r [],[]⟩)→NA (bA X) X.gl (.scope LJ) (tC 0 (yD (bA X) X.gl TQ Kx)) [(5,.ref (h.length+5) 0),(13,ACs l),(14,AI l.length),(15,AI 0)] (rh h (yC w) []) []:=by
  intro Kx hK;refine XA (fun t:Nat×Run=>⟨[(5,.ref (h.length+5) 0),(13,ACs l),(14,AI l.length),(15,AI t.1)],rh h t.2 [],[]⟩) (fun t=>t.1≤l.length∧RunI t.2 t.1∧t.2.ck≤50000∧(yC w).play jA l=t.2.play jA (l.drop t.1)) (fun t=>l.length-t.1) (0,yC w) rfl ⟨Nat.zero_le _,zoq w,Nat.zero_le _,rfl⟩ ?_
  rintro⟨k,r⟩ ⟨hk,I,hck,hpl⟩
  dsimp only at hk I hck hpl ⊢;rcases Nat.lt_or_ge k l.length with hlt|hge
  ·have hg:=BB QA hlt
   have w2:IntKind.i64.wrap ((k:Int)+1)=((k+1:Nat):Int):=zA _ (by omega) (by omega)
   have hdr:l.drop k=l[k]::l.drop (k+1):=(List.getElem_cons_drop hlt).symm
   rw[hdr]at hpl;have hpc:∀(c:Cmd) (L:List Cmd),r.play jA (c::L)=if 20000<r.ck then r else(r.step jA c).play jA L:=fun c L=>rfl
   rw[hpc]at hpl;have h0:=hc _ (List.getElem_mem hlt)
   by_cases hb:20000<r.ck
   ·have hb':(20000:Int)<(r.ck:Int):=by omega
    rw[if_pos hb]at hpl;simp only[go_sem,hlt,hg,SJ,qI,hb',splice];exact hK r hpl
   ·have hb':¬(20000:Int)<(r.ck:Int):=by omega
    rw[if_neg hb]at hpl;have hs:=fun(l2:aA) (K':kA)=>zpf (h:=h) (l:=l2) (K:=K') I.R I.N (by omega) I.st I.S (by rw[I.sl];omega) (by rw[I.fl];omega) l[k] h0
    obtain⟨I2,c2⟩:=zor I h0;simp only[go_sem,hlt,hg,SJ,qI,hb',hs,w2,splice];exact⟨(k+1,r.step jA l[k]),rfl,⟨by dsimp only;omega,I2,by dsimp only;omega,hpl⟩,by dsimp only;omega⟩
  ·obtain rfl:k=l.length:=by omega
   rw[List.drop_length]at hpl;simp only[go_sem,Nat.lt_irrefl];exact hK r hpl
 rcases hp with⟨rfl,rfl⟩|⟨⟨i,rfl⟩,rfl⟩
 ·rw[z7K rfl]
  simp only[XO,go_sem,zbK,splice];refine main _ fun r e=>?_
  rw[e];have q1:h.length+5+1=h.length+6:=rfl
  have q2:max h.length (h.length+6)=h.length+6:=by omega
  simp only[go_sem,q1,q2,List.take_nil]
 ·rw[z7K rfl]
  simp only[XO,go_sem,zbK,splice];refine main _ fun r e=>?_
  rw[e];have q1:h.length+5+1=h.length+6:=rfl
  have q2:max h.length (h.length+6)=h.length+6:=by omega
  simp only[go_sem,q1,q2,List.take_nil]
end Go.Am
end
section
namespace Go.Am
variable {h:aA} {K:kA} {r:Run} {n:Nat} {o:Obj} {x:Esc}
attribute [-go_sem] YA splice
attribute [local go_sem] tI vN TJ UJ VJ wN z56 z57 z58 SJ mN qI nN oN pN qN rN sN tN
theorem znB {l:List Cmd}(hc:∀ c∈l,OA c=0)(w:Bool):20000<((yC w).play jA l).ck↔20000<(AA (sA jA [] 0 l)).length:=by
 have e:=UI hc
 constructor
 ·intro h
  rcases Nat.lt_or_ge 20000 (AA (sA jA [] 0 l)).length with h1|h1
  ·exact h1
  ·have:=(z5w YQ e w h1).1;omega
 ·intro h
  have:=(z5x jA l (rel0 w) e).2;simp only[List.nil_append]at this;exact this h
theorem zbG (l:List Cmd)(hc:∀ c∈l,OA c=0)(hl:l.length≤1000):bA X TG [ACs l,.nilp] h K=K (.ref (h.length+5) 0) (rh h ((yC false).play jA l) []) []:=zbF l hc hl .nilp false (.inl ⟨rfl,rfl⟩)
theorem zoW (l:List Cmd)(hc:∀ c∈l,OA c=0)(hl:l.length≤1000)(i:Nat):bA X TG [ACs l,.ref i 0] h K=K (.ref (h.length+5) 0) (rh h ((yC true).play jA l) []) []:=zbF l hc hl _ true (.inr ⟨⟨i,rfl⟩,rfl⟩)
set_option maxHeartbeats 4000000 in
theorem zbo (l:List Cmd)(hok:∀ c∈l,CmdOk c)(hl:l.length≤1000000):bA X qJ [ACs l] h K=K (AI (TB jA l:Nat)) h []:=by
 refine rA ?_;rw[zfE rfl];by_cases hbig:1000<l.length
 ·have h1:(1000:Int)<(l.length:Int):=by omega
  have e:TB jA l=2:=by unfold TB;rw[if_pos hbig]
  rw[e];simp only[OO,go_sem,h1]
 have h1:¬(1000:Int)<(l.length:Int):=by omega
 simp only[OO,go_sem,h1];refine XA (fun k:Nat=>⟨[(0,ACs l),(10,ACs l),(11,AI l.length),(12,AI k)],h,[]⟩) (fun k=>k≤l.length∧∀c∈l.take k,OA c=0) (fun k=>l.length-k) 0 rfl ⟨Nat.zero_le _,by simp⟩ ?_
 rintro k ⟨hk,hn⟩
 rcases Nat.lt_or_ge k l.length with hlt|hge
 ·have hg:=BB QA hlt
  have w2:IntKind.i64.wrap ((k:Int)+1)=((k+1:Nat):Int):=zA _ (by omega) (by omega)
  have hf:=fun(h':aA) (K':kA)=>zoL (h:=h') (K:=K') l[k] (hok _ (List.getElem_mem hlt))
  have hsn:OA l[k]=0→∀c∈l.take (k+1),OA c=0:=fun h0 c hc=>by
   rw[List.take_succ_eq_append_getElem hlt]at hc;rcases List.mem_append.1 hc with hc|hc
   ·exact hn c hc
   ·obtain rfl:c=l[k]:=by simpa using hc
    exact h0
  have hpf:OA l[k]≠0→TB jA l=OA l[k]:=fun h0=>by
   unfold TB;rw[if_neg (by omega),z0H hlt hn h0,if_pos h0]
  have hbr:=zgm (c:=l[k])
  have hkd:=z8c (c:=l[k])
  generalize l[k]=c at *;generalize hke:NL c=ke at *;generalize hbc:UN c=bc at *;obtain⟨k0,s0,cl0,b0,w0,m0⟩:=c;obtain⟨k1,s1,cl1,b1,w1,m1⟩:=bc;dsimp only at hbr hkd hf hg;by_cases i1:k0<1
  ·have e:=hkd (by omega)
   rw[hpf (by omega),e]
   simp only[go_sem,hlt,hg,w2,hf,LC,i1,splice]
  by_cases i2:10<k0
  ·have e:=hkd (by omega)
   rw[hpf (by omega),e]
   simp only[go_sem,hlt,hg,w2,hf,LC,i1,i2,splice]
  have e:=hbr (by omega)
  by_cases i3:ke=0
  ·subst i3
   rw[if_neg (by simp)]at e
   by_cases i4:(⟨k1,s1,cl1,b1,w1,m1⟩:Cmd)=⟨k0,0,0,[],[],[]⟩
   ·rw[if_pos i4]at e
    simp only[go_sem,hlt,hg,w2,hf,LC,i1,i2,splice,lP,i4];exact⟨k+1,rfl,⟨by omega,hsn e⟩,by omega⟩
   ·rw[if_neg i4]at e
    rw[hpf (by omega),e]
    simp only[go_sem,hlt,hg,w2,hf,LC,i1,i2,splice,lP,i4]
  ·have i3':¬((ke:Nat):Int)=0:=by omega
   rw[if_pos i3]at e;rw[hpf (by omega),e]
   simp only[go_sem,hlt,hg,w2,hf,LC,i1,i2,splice,i3']
 ·obtain rfl:k=l.length:=by omega
  rw[List.take_length]at hn;have hs:=fun(h':aA) (K':kA)=>zbG (h:=h') (K:=K') l hn (by omega)
  have e:TB jA l=if 20000<(AA (sA jA [] 0 l)).length then 2 else 0:=by
   unfold TB;rw[if_neg (by omega),UI hn,if_neg (by simp)]
  rw[e];have hm:=znB hn false
  by_cases h2:20000<(AA (sA jA [] 0 l)).length
  ·have h3:=hm.2 h2
   have h2':(20000:Int)<(((yC false).play jA l).ck:Int):=by omega
   simp only[go_sem,Nat.lt_irrefl,Int.lt_irrefl,hs,h2,h2',splice]
  ·have h3:=fun q=>h2 (hm.1 q)
   have h2':¬(20000:Int)<(((yC false).play jA l).ck:Int):=by omega
   simp only[go_sem,Nat.lt_irrefl,Int.lt_irrefl,hs,h2,h2',splice]
theorem zou (l:List Cmd)(hok:∀ c∈l,CmdOk c)(hl:l.length≤40):bA X qJ [ACs l] h K=K (AI (TB jA l:Nat)) h []:=zbo l hok (by omega)
theorem RJ {l:List Cmd}(h:TB jA l=0):(∀c∈l,OA c=0)∧(AA (sA jA [] 0 l)).length≤20000∧l.length≤1000:=by
 unfold TB at h;split at h
 ·cases h
 split at h
 ·rename_i h1;exact absurd h h1
 split at h
 ·cases h
 ·rename_i h0 h1 h2
  exact⟨z8e (by omega),by omega,by omega⟩
theorem zaV {l:aA}:(rh h r l)[h.length+1]?=some (.row none (r.frs.map eN) 0):=by unfold rh;rw[bD];rfl
theorem zaW {l:aA}:(rh h r l)[h.length+2]?=some (.row none (yA r.tms) 0):=by unfold rh;rw[bD];rfl
theorem zaX {l:aA}:(rh h r l)[h.length+3]?=some (.row none (yA r.tdi) 0):=by unfold rh;rw[bD];rfl
attribute [local go_sem] zaV zaW zaX
def clkV (l:List Cmd):AV:=.tup [AI (if TB jA l=0 then(AA (sA jA [] 0 l)).length else 0:Nat),AI (TB jA l:Nat)]
theorem zov (l:List Cmd)(hok:∀ c∈l,CmdOk c)(hl:l.length≤40):bA X lQ [ACs l] h K=K (clkV l) h []:=by
 refine rA ?_;rw[zfF rfl];have hk:=fun(h':aA) (K':kA)=>zou (h:=h') (K:=K') l hok hl
 unfold clkV;by_cases h0:TB jA l=0
 ·obtain⟨hc,hn,_⟩:=RJ h0
  have hp:=fun(h':aA) (K':kA)=>zbG (h:=h') (K:=K') l hc (by omega)
  obtain⟨a1,a2,a3,a4,a5⟩:=z5w YQ (UI hc) false hn;simp only[PO,go_sem,hk,h0,hp,a1,show((0:Nat):Int)=0 from rfl]
 ·have h0':¬((TB jA l:Nat):Int)=0:=by omega
  simp only[PO,go_sem,hk,h0,h0',show((0:Nat):Int)=0 from rfl]
def hbx (h:aA):aA:=h++[.box [AB true]]
theorem zpc (l:List Cmd)(hc:∀ c∈l,OA c=0)(hl:l.length≤1000):bA X qQ [ACs l] h K=K (.ref ((hbx h).length+5) 0) (rh (hbx h) ((yC true).play jA l) []) []:=by
 refine rA ?_;rw[zfT rfl];have hp:=fun(K':kA)=>zoW (h:=h++[.box [AB true]]) (K:=K') l hc (by omega) h.length
 have el:(h++[Obj.box [AB true]]).length=h.length+1:=by simp
 have el2:(hbx h).length=h.length+1:=by simp [hbx]
 have et:(rh (h++[Obj.box [AB true]]) ((yC true).play jA l) []).length=h.length+7:=by rw[tI,el];simp
 simp only[LT,go_sem,hp,splice];refine⟨by omega,by rw[el2],?_⟩
 exact List.take_of_length_le (by rw[et];omega)
end Go.Am
end
section
namespace Go.Am
variable {h:aA} {K:kA}
attribute [-go_sem] YA NB mC
theorem znb {ds:List TDev}:JB ds ds.length=ds.map zF:=by unfold JB;rw[List.take_length]
theorem znc {ds:List TDev}:(ds.map zF).map PortS.d=ds:=by rw[List.map_map];exact List.map_id _
theorem zne {ds:List TDev}:(ds.map zF).map PortS.p=PD ds:=by rw[List.map_map];rfl
theorem znd {ds:List TDev}(hd:∀ d∈ds,DevOk d):∀q∈ds.map zF,PSOk q:=by
 intro q hq;obtain⟨d,hm,rfl⟩:=List.mem_map.1 hq;have D:=hd d hm
 exact⟨D,⟨by simp [zF],by simp [zF,OB],by simp [zF],by simp [zF]⟩,fun r hr=>z9P d d.regs [] D.nd r hr⟩
theorem IR {s:List UInt8}(hs:EA s=true){k:Nat}(hk:k<s.length):OB s[k]:=z0u hs (List.getElem_mem hk)
theorem zbd (ds:List TDev)(st:Nat)(ps:List nB)(a b:UInt8)(r:List (UInt8 × UInt8)):xD ds st ps ((a,b)::r)=kH st (UC st ds ps b).2::xD ds (stW st a) (UC st ds ps b).1 r:=rfl
set_option maxHeartbeats 4000000 in
theorem zoB (ds:List TDev)(hd:∀ d∈ds,DevOk d)(h0:ds≠[])(h20:ds.length≤20)(hck:∀ h K,bA X SH [IB ds] h K=K (AI 0) h [])(tms tdi:List UInt8)(hl:tms.length=tdi.length)(hn:tms.length≤20000)(hb1:EA tms=true)(hb2:EA tdi=true) :
 bA X aQ [IB ds,AS tms,AS tdi] h K=K (.tup [AS (xD ds 0 (PD ds) (tms.zip tdi)),AI 0]) h []:=by
 refine rA ?_;rw[zf1 rfl];have nw:=fun h K=>s_New (h:=h) (K:=K) ds hd h0 h20 hck
 have B1:=fun h K=>bK (h:=h) (K:=K) tms (by omega)
 have B2:=fun h K=>bK (h:=h) (K:=K) tdi (by omega)
 rw[hb1]at B1;rw[hb2]at B2;have t1:¬(20000:Int)<(tms.length:Int):=by omega
 have t2:¬(20000:Int)<(tdi.length:Int):=by omega
 have t3:(tms.length:Int)=(tdi.length:Int):=by omega
 have l0:(CH h 0 (JB ds ds.length) []).length=h.length+(2+4*ds.length):=by rw[EI,zay (Nat.le_refl _)];rfl
 have ap:∀(st:Int) (l:List PortS) (t u:aA),CH h st l t++u=CH h st l (t++u):=fun _ _ _ _=>XX
 simp only[qT,go_sem,↓nw,nw,t1,t2,eq_true t3,↓B1,B1,↓B2,B2,l0,ap,List.nil_append];have zl:(tms.zip tdi).length=tms.length:=by rw[List.length_zip];omega
 have Rl:(xD ds 0 (PD ds) (tms.zip tdi)).length=tms.length:=by rw[yX,zl]
 generalize hR:xD ds 0 (PD ds) (tms.zip tdi)=R at *;refine XA (fun t:Nat×Nat×List PortS=>⟨[(1,AS tms),(2,AS tdi),(8,.ref (h.length+1) 0),(10,.own (h.length+(2+4*ds.length)) t.1 0 t.1),(46,AI tms.length),(47,AI t.1)],CH h t.2.1 t.2.2 [.row none (yA (R.take t.1)) 0],PG h ds.length⟩)
  (fun t=>(t.1≤tms.length∧t.2.1<16)∧(t.2.2.map PortS.d=ds∧∀q∈t.2.2,PSOk q)∧xD ds t.2.1 (t.2.2.map PortS.p) ((tms.zip tdi).drop t.1)=R.drop t.1) (fun t=>tms.length-t.1) (0,0,ds.map zF) (by rw[znb];rfl) ⟨⟨by dsimp only;omega,by dsimp only;omega⟩,⟨znc,znd hd⟩,by dsimp only;rw[zne,List.drop_zero,hR];rfl⟩ ?_
 rintro⟨k,st,l⟩ ⟨⟨i1,i2⟩,⟨i3,i4⟩,i5⟩
 dsimp only at i1 i2 i3 i4 i5 ⊢;have ll:l.length=ds.length:=by rw[←i3,List.length_map]
 generalize hP:h.length+(2+4*ds.length)=P at *;have gl:∀(st:Int) (l:List PortS),l.length=ds.length→∀t:aA,(CH h st l t).length=P+t.length:=fun st l e t=>by rw[EI,e,hP]
 have gg:∀(st:Int) (l:List PortS),l.length=ds.length→∀(t:aA),(CH h st l t)[P]?=t[0]?:=fun st l e t=>by
  have:=@CH_t h st l t 0;rw[e,hP]at this;exact this
 have gs:∀(st:Int) (l:List PortS),l.length=ds.length→∀(t:aA) (o:Obj),(CH h st l t).set P o=CH h st l (t.set 0 o):=fun st l e t o=>by
  have:=@YX h st l t 0 o;rw[e,hP]at this;exact this
 have gk:∀(st:Int) (l:List PortS),l.length=ds.length→∀(t:aA) (n:Nat),(CH h st l t).take (P+n)=CH h st l (t.take n):=fun st l e t n=>by
  have:=@z68 h st l t n;rw[e,hP]at this;exact this
 have lr:(yA (R.take k)).length=k:=by rw[iG,List.length_take];omega
 rw[GF];rcases Nat.lt_or_ge k tms.length with hlt|hge
 ·have hlt':(k:Int)<(tms.length:Int):=by omega
  have hk2:k<tdi.length:=by omega
  have w2:IntKind.i64.wrap ((k:Int)+1)=((k+1:Nat):Int):=zA _ (by omega) (by omega)
  have ea:(tms.zip tdi).drop k=(tms[k],tdi[k])::(tms.zip tdi).drop (k+1):=by
   rw[List.drop_eq_getElem_cons (by rw[zl];exact hlt),List.getElem_zip]
  have ba:=IR hb1 hlt
  have bb:=IR hb2 hk2
  have ga:tms[k]?=some tms[k]:=List.getElem?_eq_getElem hlt
  have gb:tdi[k]?=some tdi[k]:=List.getElem?_eq_getElem hk2
  rw[ea]at i5;generalize tms[k]=ca at *;generalize tdi[k]=cb at *;rw[zbd]at i5;have wS:∀c:UInt8,OB c→IntKind.u8.wrap ((c.toNat:Int)-48)=((c.toNat-48:Nat):Int):=fun c hc=>by rcases hc with rfl|rfl <;> rfl
  have wT:∀c:UInt8,OB c→IntKind.i64.wrap ((c.toNat-48:Nat):Int)=((c.toNat-48:Nat):Int):=fun c hc=>by rcases hc with rfl|rfl <;> rfl
  have x1:=wS ca ba
  have x2:=wT ca ba
  have x3:=wS cb bb
  have x4:=wT cb bb
  have ck:=fun K=>zpg (h:=h) (K:=K) [.row none (yA (R.take k)) 0] l i4 (by omega) st i2 ca cb ba bb
  obtain⟨n1,n2,n3⟩:=z7g st l cb;obtain⟨o1,o2⟩:=z7i st l cb i4 bb;have ol:=z7h st l cb
  rw[i3]at n1 n2 n3;rw[←n1,←n2]at i5;generalize (MC st l cb).1=l' at *;generalize (MC st l cb).2=b' at *;have l'l:l'.length=ds.length:=by rw[ol,ll]
  have gl':=gl (stW st ca) l' l'l
  have gg':=gg (stW st ca) l' l'l
  have gs':=gs (stW st ca) l' l'l
  have gk':=gk (stW st ca) l' l'l
  have gl0:=gl st l ll
  have hst':stW st ca<16:=z6g i2 ba
  have f1:h.length+1+1≤P+1:=by omega
  have f2:h.length+1≤P:=by omega
  have ms:k+1≤GA:=by unfold GA;omega
  have eR:R.drop k=kH st b'::R.drop (k+1):=by
   have:R.drop (k+1)=(R.drop k).drop 1:=by rw[List.drop_drop]
   rw[this,←i5];rfl
  have i6:xD ds (stW st ca) (l'.map PortS.p) ((tms.zip tdi).drop (k+1))=R.drop (k+1):=by
   rw[eR]at i5;injection i5
  have eT:R.take (k+1)=R.take k++[kH st b']:=by
   have hk:k<R.length:=by omega
   rw[List.take_succ_eq_append_getElem hk];congr 2
   rw[List.drop_eq_getElem_cons hk]at eR;injection eR
  have eB:yA (R.take (k+1))=yA (R.take k)++[.int .u8 (kH st b').toNat]:=by rw[eT];simp [yA]
  unfold mG at ck;unfold kH at eB;by_cases hs:st=4∨st=11
  ·rw[if_pos hs]at ck eB
   have y1:¬(b'.toNat:Int)-48<0:=by rcases o2 with e|e <;> rw[e] <;> decide
   have y2:IntKind.i64.wrap (48+((b'.toNat:Int)-48))=(b'.toNat:Int):=by rcases o2 with e|e <;> rw[e] <;> rfl
   have y3:IntKind.u8.wrap (b'.toNat:Int)=(b'.toNat:Int):=by rcases o2 with e|e <;> rw[e] <;> rfl
   simp only[bU,SK,go_sem,hlt',ga,gb,x1,x2,x3,x4,↓ck,ck,y1,y2,y3,gg',gs',gk',gl0,lr,ms,f1,f2,w2,List.length_cons,List.length_nil];refine⟨(k+1,stW st ca,l'),?_,⟨⟨by dsimp only;omega,hst'⟩,⟨n3,o1⟩,i6⟩,by dsimp only;omega⟩
   rw[eB]
  ·rw[if_neg hs]at ck eB
   have y1:(-1:Int)<0:=by decide
   simp only[bU,SK,go_sem,hlt',ga,gb,x1,x2,x3,x4,↓ck,ck,y1,gg',gs',gk',gl0,lr,ms,f1,f2,w2,List.length_cons,List.length_nil];refine⟨(k+1,stW st ca,l'),?_,⟨⟨by dsimp only;omega,hst'⟩,⟨n3,o1⟩,i6⟩,by dsimp only;omega⟩
   rw[eB];rfl
 ·have ek:k=tms.length:=by omega
  subst ek;have eR:R.take tms.length=R:=List.take_of_length_le (by omega)
  rw[eR]at lr ⊢;have tb:mF (yA R)=some R:=IN _
  have wf:win (yA R) 0 tms.length=yA R:=qE lr
  have gl0:=gl st l ll
  have gg0:=gg st l ll
  have gk0:=gk st l ll
  have f1:h.length+1+1≤P+1:=by omega
  simp only[bU,SK,go_sem,Nat.lt_irrefl,gl0,gg0,gk0,f1,List.length_cons,List.length_nil,lr,wf,tb];rw[zoh (v:=.tup [AS R,AI 0]) (fun y hy=>by have:=(z2L hy).1;omega) (by simp only[go_sem]) (by simp [AV.top,AV.tops])]
  have th:(CH h st l [.row none (yA R) 0]).take h.length=h:=by unfold CH;rw[oK]
  rw[th];exact⟨rfl,rfl,rfl⟩
end Go.Am
end
section
namespace Go.Am
end Go.Am
end
section
namespace Go.Am
variable {h:aA} {K:kA}
theorem zpd (s:List UInt8)(c:UInt8):bA X MH [AS s,.p (.int .u8 c.toNat)] h K=K (AI (dD s c)) h []:=by
 refine rA ?_;rw[z7H rfl];simp only[fO,go_sem,zbB]
end Go.Am
end
section
namespace Go.Am
variable {P:Program} {gl:Nat→Option PV}
open Go.Shelf
theorem VN {w w':World}(h:Go.RowKit.Below w.heap.size w w'):WExt w w':=⟨h.size,fun b hb=>h.block b hb,by unfold zed;rw[h.os,h.tape,h.output]⟩
theorem zai (s:List UInt8):∀c,Go.Lib.repeatL s c=rI s c
 | 0=>rfl
 | c+1=>by rw[Go.Lib.repeatL,rI,zai s c]
theorem zs9 {ρ:Ren}(L:Go.Proofs.Lays.n105 P ρ)(E:Go.Proofs.Builder.Extra P ρ)(he:∀ us w,(callFunc (ρ.f 105) us).run P w = .ok (.enter (ρ.f 105) us) w):PureRow P gl (ρ.f 105) jR where
 enter:=he
 run M w vs r us hc hb hG hl hr hs:=by
  unfold jR at hs;split at hs
  ·rename_i s c
   split at hs
   ·rename_i hbd
    match us,hl with
    | [u,v],_=>
     have q:=hr 0 _ u rfl rfl
     cases q;have q2:=hr 1 _ v rfl rfl
     cases q2;simp only[Option.some.injEq]at hs
     subst hs;obtain⟨n,rfl⟩:=Int.eq_ofNat_of_zero_le hbd.1;have hsz:(⟨s.toArray⟩:ByteArray).size=s.length:=by simp [ByteArray.size]
     simp only[Int.toNat_natCast]at hbd ⊢;refine(Go.Proofs.Any.strings_Repeat L E ⟨s.toArray⟩ n w (by omega) (by rw[hsz];omega)).mono fun e w' h=>?_
     obtain⟨rfl,h⟩:=h;exact⟨_,rfl,VN h,by rw[zai];exact .p _ _ (.str _)⟩
   ·cases hs
  ·cases hs
theorem zmE (s cs:List UInt8):Go.Lib.trimS s cs=DF s cs:=rfl
theorem trimRow {ρ:Ren}(L:Go.Proofs.Lays.n160 P ρ)(h116:(P.info? (ρ.t 116)).map (fun i=>(i.zero,i.size))=some (some (.agg (Array.replicate 256 (.bool false))),256))(he:∀ us w,(callFunc (ρ.f 160) us).run P w = .ok (.enter (ρ.f 160) us) w):PureRow P gl (ρ.f 160) trimS where
 enter:=he
 run M w vs r us hc hb hG hl hr hs:=by
  unfold trimS at hs;split at hs
  ·rename_i s cs
   split at hs
   ·rename_i hbd
    match us,hl with
    | [u,v],_=>
     have q:=hr 0 _ u rfl rfl
     cases q;have q2:=hr 1 _ v rfl rfl
     cases q2;simp only[Option.some.injEq]at hs
     subst hs;have hsz:∀l:List UInt8,(⟨l.toArray⟩:ByteArray).size=l.length:=fun l=>by simp [ByteArray.size]
     refine(Go.Proofs.Any.strings_Trim_laid L h116 ⟨s.toArray⟩ ⟨cs.toArray⟩ w (by rw[hsz];omega) (by rw[hsz];omega) (Go.Proofs.ascii_of_all hbd.2.2)).mono fun e w' h=>?_
     obtain⟨rfl,h⟩:=h;exact⟨_,rfl,VN h,by rw[←zmE];exact .p _ _ (.str _)⟩
   ·cases hs
  ·cases hs
end Go.Am
end
section
namespace Go.Am
variable {P:Program} {gl:Nat→Option PV}
open Go.Shelf
end Go.Am
end
section
namespace Go.Am
variable {h:aA} {K:kA}
theorem zpe (s:List UInt8)(c:UInt8)(hs:s.length≤1000000):bA X pP [AS s,AS [c]] h K=K (AI (dD s c)) h []:=by
 refine rA ?_;rw[zes rfl];have q:=fun h K=>zpd (h:=h) (K:=K) s c
 simp only[bS,go_sem,↓q,q,List.length_cons,List.length_nil];split
 ·rename_i h1;subst h1;simp [dD]
 ·trivial
end Go.Am
end
