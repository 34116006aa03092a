/- Texts of the proof, laid together: SpRed3, SpRed4, PCnt, SpRed5, SpRed6, SpRed10, SpLawRE, Bridge, AmL2, AmL4. -/
import Derived.ProofKit
import Derived.Shelf.Strconv.Itoa3
import Derived.Lib.LaidTab
import Derived.Shelf.Strings.Repeat
import Derived.Shelf.Strings.SlTrimAscii
import Derived.Shelf.Spec.TrailingZeros
import Derived.Test.YtahgfbhabpiplaaGreatDoorlawRE7
set_option linter.all false
section
/- The smallest choice of vectors: the program. -/
open Go
set_option linter.all false
set_option maxRecDepth 100000
namespace Go.Am
variable {h:aA} {K:jA}
attribute [-go_sem] PV.cells
theorem z31 (a:Nat):eA X JH [.p (eU a)] h K=K (AB false) h []:=by
 refine CA ?_;rw[z7w rfl];simp only[qM,go_sem]
def ltU (x y:PV):Bool:=decide (unI x<unI y)
theorem ziH (a b:Nat):eA X DF [.p (eU a),.p (eU b)] h K=K (AB (ltU (eU a) (eU b))) h []:=by
 refine CA ?_;rw[z7u rfl];have n1:=fun h K=>z31 (h:=h) (K:=K) a
 have n2:=fun h K=>z31 (h:=h) (K:=K) b
 have e:ltU (eU a) (eU b)=decide ((a:Int)<(b:Int)):=rfl
 rw[e];simp only[oM,go_sem,n1,n2];first|done|simp
theorem ziO (xs:List PV):eA X GK [.p (.sl none xs)] h K=K (.fn TH [.ref h.length 0]) (h++[.box [.p (.sl none xs)]]) []:=by
 refine CA ?_;rw[z8x rfl];simp only[iN,go_sem];rw[Nat.max_eq_right (by omega)]
 exact⟨by omega,List.take_of_length_le (by simp)⟩
theorem ziD (xs:List PV){q:Nat}(hq:h[q]?=some (.box [.p (.sl none xs)]))(h1:xs.all ZH=true)(h2:xs.length≤1000000) :
 eA X AN [.fn TH [.ref q 0]] h K=K (.own h.length xs.length 0 xs.length) (h++[.row none xs 0]) []:=by
 refine QN (X:=X) (by kernel_rfl) ?_
 show aI CRL [] GRL PRL AN [.fn TH [.ref q 0]] h=_
 exact zez (by kernel_rfl) hq h1 h2
theorem ziL (D:List Nat)(hl:D.length≤12){q:Nat}(hq:h[q]?=some (.box [.p (.sl none (D.map eU))])) :
 eA X FK [.fn TH [.ref q 0]] h K=K (.own h.length D.length 0 D.length) (h++[.row none (UB ltU (D.map eU)) 0]) []:=by
 refine CA ?_;rw[z8w rfl];have C:=fun(K:jA)=>ziD (h:=h) (K:=K) (D.map eU) hq (by rw[List.all_map,List.all_eq_true];exact fun _ _=>rfl) (by simp;omega)
 have S:=fun(K:jA)=>z5k (h:=h++[.row none (D.map eU) 0]) (K:=K) h.length D.length (D.map eU) [] (by simp) (fun x hx=>by obtain⟨n,_,rfl⟩:=List.mem_map.1 hx;rfl) (by simpa using hl) (by simp) (lt:=ltU) (fun x hx y hy h K=>by
  obtain⟨n,_,rfl⟩:=List.mem_map.1 hx;obtain⟨m,_,rfl⟩:=List.mem_map.1 hy;exact ziH n m)
 rw[List.length_map]at C;simp only[List.append_nil,List.length_map]at S;simp only[gN,go_sem,C,S];have e2:∀o o':Obj,(h++[o]).set h.length o'=h++[o']:=fun o o'=>by simp
 have e3:∀o:Obj,(h++[o]).take (max h.length (h.length+1))=h++[o]:=fun o=>List.take_of_length_le (by simp)
 first|rw[e3]|skip
theorem z8F (D:List Nat):∃E:List Nat,FB (fun x y=>decide (unI x=unI y)) (UB ltU (D.map eU))=E.map eU∧(∀m,m∈E↔m∈D)∧E.length≤D.length:=by
 obtain⟨S,hS⟩:∃S:List Nat,UB ltU (D.map eU)=S.map eU:=by
  have:∀l:List PV,(∀x∈l,∃n:Nat,x=eU n)→∃S:List Nat,l=S.map eU:=by
   intro l;induction l with
   | nil=>intro _;exact⟨[],rfl⟩
   | cons x r ih=>
    intro hx;obtain⟨n,rfl⟩:=hx x (by simp)
    obtain⟨S,rfl⟩:=ih fun y hy=>hx y (by simp [hy])
    exact⟨n::S,rfl⟩
  refine this _ fun x hx=>?_
  obtain⟨n,_,rfl⟩:=List.mem_map.1 (OF.1 hx);exact⟨n,rfl⟩
 have hm:∀m,m∈S↔m∈D:=fun m=>by
  have h1:eU m∈UB ltU (D.map eU)↔eU m∈D.map eU:=OF
  have key:∀L:List Nat,eU m∈L.map eU↔m∈L:=fun L=>by
   rw[List.mem_map];constructor
   ·rintro⟨n,hn,e⟩
    have:(n:Int)=m:=by injection e
    have:n=m:=by omega
    subst this;exact hn
   ·intro h;exact⟨m,h,rfl⟩
  rw[hS,key,key]at h1;exact h1
 have hl:S.length=D.length:=by
  have:=congrArg List.length hS;rw[NU]at this;simpa using this.symm
 rw[hS];refine⟨FB (fun a b=>decide (a=b)) S,z8H eU (fun a b=>?_) S,fun m=>?_,?_⟩
 ·show decide ((a:Int)=(b:Int))=decide (a=b)
  rw[Bool.eq_iff_iff,decide_eq_true_eq,decide_eq_true_eq];omega
 ·rw[←hm]
  exact⟨z8I,fun h=>z8J (fun a b e=>by simpa using e) h⟩
 ·rw[←hl];exact z8G _ _
theorem ziS (E:List Nat)(z:List PV)(s:Nat)(hD:∀ m∈E,m<18446744073709551616)(hs:s<18446744073709551616)(hl:E.length≤1000000){id n fz:Nat}(hn:(E.map eU++z).length=n)(hh:h[id]?=some (.row none (E.map eU++z) fz)) :
 eA X FF [.own id n 0 E.length,.p (eU s)] h K=K (AB (sB E s)) (frz h id E.length) []:=by
 subst hn;have e:=CR (X:=X) (f:=FF) (F:=JL) (a:=[.own id (E.map eU++z).length 0 E.length,.p (eU s)]) (vs:=[.sl none (E.map eU),eU s]) (h:=h) (h1:=frz h id E.length) (P:=K) z42 rfl
  (by
   have h1:win (E.map eU++z) 0 E.length=E.map eU:=by unfold win;simp
   have h2:0+E.length≤(E.map eU++z).length:=by simp
   simp [nA,pur,rd,hh,h1]) rfl rfl z1p
 rw[e];exact z30 E s hD hs hl
theorem z3M (D:List Nat)(lg:Nat):∀s,mB D lg s=2^lg-1∨mB D lg s<s
 | 0=>.inl rfl
 | s+1=>by
  rw[mB];have:=z3M D lg s;split
  ·omega
  ·split
   ·exact .inr (by omega)
   ·omega
theorem zeK {d:Nat}(h0:d≠0)(hd:d<18446744073709551616):IntKind.u64.wrap (-(d:Int))=((18446744073709551616-d:Nat):Int):=by
 simp [IntKind.wrap,IntKind.bits,IntKind.signed];omega
end Go.Am
end
section
/- The smallest choice of vectors: the program's search. -/
open Go
set_option linter.all false
set_option maxRecDepth 100000
namespace Go.Am
variable {h:aA} {K:jA}
attribute [-go_sem] PV.cells
def kX (t:List (List UInt8))(l:List Flt):AV:=
 if PB t l≠0 then .tup [.p (.sl none []),AI (PB t l)] else if 14<(t.headD []).length then .tup [.p (.sl none []),AI 2]
 else .tup [AL (iL (vA (t.headD []).length (mB (UA t l) (t.headD []).length (2^(t.headD []).length-1)))),AI 0]
set_option maxHeartbeats 2000000 in
theorem ziK (t:List (List UInt8))(l:List Flt)(hb:∀ s∈t,s.length≤1000000)(ht:t.length≤1000000)(hf:∀ f∈l,f.nets.length≤1000000)(hn:l.length≤12) :
 eA X fK [nB t,xC l] h K=K (kX t l) h []:=by
 refine CA ?_;rw[z73 rfl];have c:=fun h K=>bQ (h:=h) (K:=K) t l hb ht hf (by omega)
 unfold kX;by_cases h1:PB t l=0
 case neg=>simp only[BH,go_sem,c,h1]
 obtain⟨hT,hF⟩:=YL h1;have T:=uJ hT
 obtain⟨lg,hlg⟩:∃n,(t.headD []).length=n:=⟨_,rfl⟩;rw[hlg]at T ⊢;have hl:=T.l
 have hz:=SG T.n0
 by_cases h14:14<lg
 ·have h14':(14:Int)<(lg:Int):=by omega
  simp only[BH,go_sem,c,h1,hz,hlg,h14',h14]
 have h14':¬(14:Int)<(lg:Int):=by omega
 have M:=fun h K=>cQ (h:=h) (K:=K) t l lg T hlg hF (by omega)
 have W:=fun h K=>XW (h:=h) (K:=K) lg hl
 have hD:=dI (l:=l) T hlg
 have hDl:(UA t l).length=l.length:=by unfold UA;rw[List.length_map]
 generalize UA t l=D at *;obtain⟨E,hE,hEm,hEl⟩:=z8F D;have hD64:∀m∈D,m<18446744073709551616:=fun m hm=>PF hl (hD m hm)
 have hE64:∀m∈E,m<18446744073709551616:=fun m hm=>hD64 m ((hEm m).1 hm)
 have V:=fun h K=>ziO (h:=h) (K:=K) (D.map eU)
 have S:=fun(h:aA) (K:jA)=>ziL (h:=h++[.box [.p (.sl none (D.map eU))]]) (K:=K) D (by omega) (q:=h.length) (by simp)
 have isl:(UB ltU (D.map eU)).length=D.length:=by rw[NU,List.length_map]
 have C:=fun(h:aA) (K:jA)=>z4H (h:=h++[.box [.p (.sl none (D.map eU))],.row none (UB ltU (D.map eU)) 0]) (K:=K) (h.length+1) (UB ltU (D.map eU)) (fun x hx=>by obtain⟨n,_,rfl⟩:=List.mem_map.1 (OF.1 hx);rfl) (by rw[isl];omega) (by simp) (q:=fun x y=>decide (unI x=unI y)) (fun x hx y hy=>by
  obtain⟨n,_,rfl⟩:=List.mem_map.1 (OF.1 hx);obtain⟨m,_,rfl⟩:=List.mem_map.1 (OF.1 hy);rfl) (fun x hx y hy=>by
  obtain⟨n,_,rfl⟩:=List.mem_map.1 (OF.1 hx);obtain⟨m,_,rfl⟩:=List.mem_map.1 (OF.1 hy);rfl)
 rw[isl,hE]at C;simp only[List.length_map]at C;have h2:=Nat.two_pow_pos lg
 obtain⟨zz,hzz⟩:∃zz,List.replicate (D.length-E.length) (PV.int .u64 0)=zz:=⟨_,rfl⟩;have hzl:(E.map eU++zz).length=D.length:=by rw[←hzz];simp;omega
 rw[hzz]at C;have st2:∀(a b o:Obj),(h++[a,b]).set (h.length+1) o=h++[a,o]:=fun a b o=>by simp
 simp only[BH,go_sem,c,h1,hz,hlg,h14',h14,M,V,S,C,W,st2];have hcE:∀s,sB E s=sB D s:=fun s=>z8R (fun m=>hEm m) s
 generalize hB0:Obj.box [AV.p (PV.sl none (List.map eU D))]=B0 at *;clear V S C M W st2;refine LA (fun u:Nat×Nat=>⟨[(7,AI lg),(8,.own (h.length+1) D.length 0 E.length),(9,.p (eU (mB D lg u.1))),(36,.p (eU (2^lg-1))),(37,.p (eU u.1))],h++[B0,.row none (E.map eU++zz) u.2],[]⟩) (fun u=>u.1≤2^lg-1) (fun u=>2^lg-1-u.1) (0,0) rfl (Nat.zero_le _) ?_
 rintro⟨s,fz⟩ hs
 dsimp only at hs ⊢;have p14:2^lg≤16384:=Nat.le_trans (Nat.pow_le_pow_right (by omega) (show lg≤14 by omega)) (by decide)
 have hbl:=jX D lg s (by omega)
 have hne:=z3M D lg s
 rcases Nat.lt_or_ge s (2^lg-1) with hlt|hge
 ·have hlt':(s:Int)<((2^lg-1:Nat):Int):=by omega
  have et:mB D lg (s+1)=if UD s (mB D lg s) then mB D lg s else if sB D s then s else mB D lg s:=rfl
  have hneq:s≠mB D lg s:=by omega
  generalize mB D lg s=b at *;have O1:=fun h K=>VW (h:=h) (K:=K) s (by omega)
  have O2:=fun h K=>VW (h:=h) (K:=K) b (by omega)
  have q1:=NP 64 s
  have q2:=NP 64 b
  have e1:IntKind.i64.wrap (((uA 64 s:Nat):Int)-((uA 64 b:Nat):Int))=((uA 64 s:Nat):Int)-((uA 64 b:Nat):Int):=yA _ (by omega) (by omega)
  have hd0:=zly hneq
  have hd:s ^^^ b<2^lg:=Nat.xor_lt_two_pow (by omega) hbl
  have e2:=z1R (a:=s) (b:=b) (by omega) (by omega)
  have e3:=zeK hd0 (by omega)
  have e4:=yE (a:=s ^^^ b) (b:=18446744073709551616-(s ^^^ b)) (by omega) (by omega)
  have e5:=yE (a:=s) (b:=(s ^^^ b) &&& (18446744073709551616-(s ^^^ b))) (by omega) (Nat.lt_of_le_of_lt Nat.and_le_left (by omega))
  have w2:IntKind.u64.wrap ((s:Int)+1)=((s+1:Nat):Int):=TG (a:=s) (b:=1) (by omega)
  have hsk:UD s b=(decide (uA 64 b<uA 64 s)||(decide (uA 64 s=uA 64 b)&&decide (s &&& ((s ^^^ b) &&& (18446744073709551616-(s ^^^ b)))=0))):=rfl
  have EN:=fun(fz:Nat) (K:jA)=>ziS (h:=h++[B0,.row none (E.map eU++zz) fz]) (K:=K) E zz s hE64 (by omega) (by omega) (id:=h.length+1) (n:=D.length) (fz:=fz) hzl (by simp)
  rw[hcE]at EN;have fzE:∀n:Nat,frz [B0,.row none (E.map eU++zz) n] 1 E.length=[B0,.row none (E.map eU++zz) (max n E.length)]:=fun n=>by simp [frz]
  generalize s &&& ((s ^^^ b) &&& (18446744073709551616-(s ^^^ b)))=low at *;rcases Nat.lt_trichotomy (uA 64 s) (uA 64 b) with hp|hp|hp
  ·have g1:¬(0:Int)<((uA 64 s:Nat):Int)-((uA 64 b:Nat):Int):=by omega
   have g2:¬((uA 64 s:Nat):Int)-((uA 64 b:Nat):Int)=0:=by omega
   have hk:UD s b=false:=by rw[hsk];simp [show ¬uA 64 b<uA 64 s by omega,show ¬uA 64 s=uA 64 b by omega]
   rw[hk,if_neg (by simp)]at et
   cases hcv:sB D s with
   | true=>
    rw[hcv]at EN et;rw[if_pos rfl]at et;simp only[go_sem,hlt',O1,O2,e1,e2,g1,g2,EN,fzE,w2];exact⟨(s+1,max fz E.length),by rw[et],by dsimp only;omega,by dsimp only;omega⟩
   | false=>
    rw[hcv]at EN et;rw[if_neg (by simp)]at et
    simp only[go_sem,hlt',O1,O2,e1,e2,g1,g2,EN,fzE,w2];exact⟨(s+1,max fz E.length),by rw[et],by dsimp only;omega,by dsimp only;omega⟩
  ·have g1:¬(0:Int)<((uA 64 s:Nat):Int)-((uA 64 b:Nat):Int):=by omega
   have g2:((uA 64 s:Nat):Int)-((uA 64 b:Nat):Int)=0:=by omega
   by_cases hz:low=0
   ·have hz':((low:Nat):Int)=0:=by omega
    have hk:UD s b=true:=by rw[hsk];simp [hp,hz]
    rw[hk,if_pos rfl]at et;simp only[go_sem,hlt',O1,O2,e1,e2,e3,e4,e5,g1,eq_true g2,eq_true hz',w2];exact⟨(s+1,fz),by rw[et],by dsimp only;omega,by dsimp only;omega⟩
   ·have hz':¬((low:Nat):Int)=0:=by omega
    have hk:UD s b=false:=by rw[hsk];simp [hp,hz]
    rw[hk,if_neg (by simp)]at et
    cases hcv:sB D s with
    | true=>
     rw[hcv]at EN et;rw[if_pos rfl]at et;simp only[go_sem,hlt',O1,O2,e1,e2,e3,e4,e5,g1,eq_true g2,hz',EN,fzE,w2];exact⟨(s+1,max fz E.length),by rw[et],by dsimp only;omega,by dsimp only;omega⟩
    | false=>
     rw[hcv]at EN et;rw[if_neg (by simp)]at et
     simp only[go_sem,hlt',O1,O2,e1,e2,e3,e4,e5,g1,eq_true g2,hz',EN,fzE,w2];exact⟨(s+1,max fz E.length),by rw[et],by dsimp only;omega,by dsimp only;omega⟩
  ·have g1:(0:Int)<((uA 64 s:Nat):Int)-((uA 64 b:Nat):Int):=by omega
   have hk:UD s b=true:=by rw[hsk];simp [hp]
   rw[hk,if_pos rfl]at et;simp only[go_sem,hlt',O1,O2,e1,e2,g1,w2];exact⟨(s+1,fz),by rw[et],by dsimp only;omega,by dsimp only;omega⟩
 ·have es:s=2^lg-1:=by omega
  have hlt':¬(s:Int)<((2^lg-1:Nat):Int):=by omega
  subst es;generalize mB D lg (2^lg-1)=N at *;have hN64:N<18446744073709551616:=by omega
  simp only[go_sem,hlt'];refine LA (fun i:Nat=>⟨[(9,.p (eU N)),(13,.own (h.length+2) (vA i N).length 0 (vA i N).length),(68,AI lg),(69,AI i)],h++[B0,.row none (E.map eU++zz) fz,.row none ((iL (vA i N)).map eI) 0],[]⟩) (fun i=>i≤lg) (fun i=>lg-i) 0 rfl (by omega) ?_
  intro i hi;rw[qF];have w3:IntKind.i64.wrap ((i:Int)+1)=((i+1:Nat):Int):=yA _ (by omega) (by omega)
  have hcl:(vA i N).length≤i:=Nat.le_trans (List.length_filter_le _ _) (by simp)
  have hsc:=HR i N
  rcases Nat.lt_or_ge i lg with ilt|ige
  ·have ilt':(i:Int)<(lg:Int):=by omega
   obtain⟨f1,f2⟩:=DR (N:=N) (i:=i) (by omega) hN64
   generalize vA i N=C at *;have cml:((iL C).map eI).length=C.length:=by unfold iL;rw[List.length_map,List.length_map]
   have ms:C.length+1≤IA:=by unfold IA;omega
   cases hb:N.testBit i with
   | true=>
    rw[hb,if_pos rfl]at hsc f2;simp only[go_sem,ilt',f1,f2,cml,ms,w3,splice];refine⟨i+1,?_,by omega,by omega⟩
    rw[hsc];simp [iL]
   | false=>
    rw[hb,if_neg (by simp),List.append_nil]at hsc
    rw[hb,if_neg (by simp)]at f2
    simp only[go_sem,ilt',f1,f2,w3];exact⟨i+1,by rw[hsc],by omega,by omega⟩
  ·have ei:i=lg:=by omega
   have ilt':¬(i:Int)<(lg:Int):=by omega
   subst ei;have cml:((iL (vA i N)).map eI).length=(vA i N).length:=by unfold iL;rw[List.length_map,List.length_map]
   have wf:win ((iL (vA i N)).map eI) 0 (vA i N).length=(iL (vA i N)).map eI:=ED cml
   simp only[go_sem,ilt',cml,wf]
end Go.Am
end
section
/- Units counted: bins,tests,recovered units,sites;both ways yield the same. Plain lists. -/
set_option linter.all false
namespace Go.Am
end Go.Am
end
section
/- Needed vectors,sets of vectors that are enough: the reference. -/
open Go
set_option linter.all false
set_option maxRecDepth 100000
namespace Go.Am
variable {h:aA} {K:jA}
end Go.Am
end
section
/- Sets of vectors that are enough,and what each fault's vectors are: the reference. -/
open Go
set_option linter.all false
set_option maxRecDepth 100000
namespace Go.Am
variable {h:aA} {K:jA}
theorem zda (c:List Nat):((iL c).map eI).length=c.length:=by unfold iL;rw[List.length_map,List.length_map]
theorem zcZ (w:List Nat)(v:Nat):(iL w).contains (v:Int)=w.contains v:=by
 unfold iL;rw[Bool.eq_iff_iff,List.contains_iff_mem,List.contains_iff_mem,List.mem_map];constructor
 ·rintro⟨n,hn,e⟩
  have:n=v:=by omega
  subst this;exact hn
 ·intro h;exact⟨v,h,rfl⟩
end Go.Am
end
section
/- What a test of some vectors alone does not detect;Undetected. -/
open Go
set_option linter.all false
set_option maxRecDepth 100000
namespace Go.Am
variable {h:aA} {K:jA}
theorem z3T {lg:Nat}(hl:lg≤64):∀t:List (List UInt8),(∀s∈t,oB s=true∧s.length=lg)→VD lg t=0
 | [],_=>rfl
 | s::r,h=>by
  obtain⟨h1,h2⟩:=h s (by simp)
  unfold VD;rw[if_neg (by simp [h1]),if_neg (by omega),if_neg (by omega)]
  exact z3T hl r fun x hx=>h x (by simp [hx])
theorem zjL {t:List (List UInt8)}{lg:Nat}(T:TestOk t lg)(hlg:(t.headD []).length=lg):vC t=0:=by
 have h0:=T.n0
 have h1:=T.n1
 unfold vC;rw[if_neg (by omega),if_neg (by omega),hlg]
 exact z3T T.l t fun s hs=>⟨T.b s hs,T.e s hs⟩
def xB (L:List Nat)(t:List (List UInt8)):List (List UInt8):=t.map (jB L)
theorem IP {t:List (List UInt8)}{lg:Nat}(T:TestOk t lg){L:List Nat}(hL:L.length≤64):TestOk (xB L t) L.length∧((xB L t).headD []).length=L.length∧(xB L t).length=t.length:=by
 have hb:∀s∈xB L t,oB s=true∧s.length=L.length:=fun s hs=>by
  obtain⟨r,hr,rfl⟩:=List.mem_map.1 hs;exact⟨z28 (T.b r hr),HP L r⟩
 have hl:(xB L t).length=t.length:=List.length_map ..
 refine⟨⟨by rw[hl];exact T.n0,by rw[hl];exact T.n1,hL,fun s hs=>(hb s hs).1,fun s hs=>(hb s hs).2⟩,?_,hl⟩
 have h0:=T.n0
 cases hq:xB L t with
 | nil=>rw[hq]at hl;simp at hl;omega
 | cons a r=>exact(hb a (by rw[hq];simp)).2
theorem KP {t:List (List UInt8)}{lg:Nat}(T:TestOk t lg){L:List Nat}(hL:∀ v∈L,v<lg){j:Nat}(hj:j<L.length)(n:Int):(VA ((xB L t).map MA) n).testBit j=(VA (t.map MA) n).testBit L[j]:=by
 unfold VA xB;rw[List.getD_eq_getElem?_getD,List.getD_eq_getElem?_getD,List.map_map,List.getElem?_map,List.getElem?_map];cases hq:t[n.toNat]? with
 | none=>simp
 | some s=>
  have hs:=List.mem_of_getElem? hq
  exact zhZ (T.b s hs) (T.e s hs) hL hj
theorem zic {t:List (List UInt8)}{lg:Nat}(T:TestOk t lg){L:List Nat}(hL:∀ v∈L,v<lg){j:Nat}(hj:j<L.length)(ns:List Int):cH ((xB L t).map MA) j ns=cH (t.map MA) L[j] ns:=by
 unfold cH;apply List.countP_congr
 intro n _;rw[KP T hL hj]
theorem zid {t:List (List UInt8)}{lg:Nat}(T:TestOk t lg){L:List Nat}(hL:∀ v∈L,v<lg){j:Nat}(hj:j<L.length)(f:Flt):tL ((xB L t).map MA) f j=tL (t.map MA) f L[j]:=by
 unfold tL;rw[zic T hL hj,KP T hL hj]
theorem zia {t:List (List UInt8)}{lg:Nat}(T:TestOk t lg)(hlg:(t.headD []).length=lg){L:List Nat}(hL:∀ v∈L,v<lg)(hl:L.length≤64){f:Flt}(hf:uB t.length f=0){j:Nat}(hj:j<L.length) :
 (RC (xB L t) f).testBit j=(RC t f).testBit L[j]:=by
 obtain⟨T2,h2,l2⟩:=IP T hl;have hin:=z1g hf
 have hk:=z1h hf
 have hlt:=hL _ (List.getElem_mem hj)
 rw[Bool.eq_iff_iff,uZ h2 (by rw[l2];exact hin),uZ hlg hin,l2]
 have key:∀n,n<t.length→(hJ ((xB L t).map MA) (2^L.length-1) f n).testBit j=(hJ (t.map MA) (2^lg-1) f n).testBit L[j]∧(MA ((xB L t).getD n [])).testBit j=(MA (t.getD n [])).testBit L[j]:=by
  intro n hn;have e1:=KP T hL hj (n:Int)
  have e0:∀u:List (List UInt8),n<u.length→VA (u.map MA) (n:Int)=MA (u.getD n []):=fun u hu=>by
   unfold VA;simp [List.getD_eq_getElem?_getD,List.getElem?_eq_getElem hu]
  rw[e0 _ (by rw[l2];exact hn),e0 _ hn]at e1
  refine⟨?_,e1⟩;unfold hJ;by_cases hm:(n:Int)∈f.nets
  ·rw[if_pos hm,if_pos hm,z3B hin.1 (by obtain⟨_,_,_,q⟩:=hk;exact⟨q.1,q.2.1⟩) hj,z3B hin.1 (by obtain⟨_,_,_,q⟩:=hk;exact⟨q.1,q.2.1⟩) hlt,zid T hL hj]
  ·rw[if_neg hm,if_neg hm]
   have e2:=KP T hL hj (n:Int)
   unfold VA at e2;rw[Int.toNat_natCast]at e2;exact e2
 constructor
 ·rintro⟨n,h1,h3⟩
  rw[(key n h1).1,(key n h1).2]at h3;exact⟨n,h1,h3⟩
 ·rintro⟨n,h1,h3⟩
  exact⟨n,h1,by rw[(key n h1).1,(key n h1).2];exact h3⟩
theorem zif {t:List (List UInt8)}{lg:Nat}(T:TestOk t lg)(hlg:(t.headD []).length=lg){x:List Flt}(hf:∀ f∈x,uB t.length f=0){s:Nat}(hc:sB (UA t x) s=true){f:Flt}(hfx:f∈x) :
 RC (xB (vA lg s) t) f=0↔RC t f=0:=by
 have hl:=T.l
 have hcl:(vA lg s).length≤lg:=Nat.le_trans (List.length_filter_le _ _) (by simp)
 have hL:∀v∈vA lg s,v<lg:=fun v hv=>(fE.1 hv).1
 have hD:=dI (l:=x) T hlg
 have hm:RC t f∈UA t x:=List.mem_map.2 ⟨f,hfx,rfl⟩
 have hlt:=hD _ hm
 obtain⟨T2,h2,l2⟩:=IP (L:=vA lg s) T (by omega)
 have hlt2:RC (xB (vA lg s) t) f<2^(vA lg s).length:=by unfold RC;rw[h2];exact tZ (PW T2)
 have P:=fun j hj=>zia (f:=f) (j:=j) T hlg hL (by omega) (hf f hfx) hj
 constructor
 ·intro h
  unfold sB at hc;have:=List.all_eq_true.1 hc _ hm;rw[Bool.or_eq_true,decide_eq_true_eq,decide_eq_true_eq]at this;rcases this with e|e
  ·exact e
  ·obtain⟨v,h3,h4⟩:=(mY hlt).1 e
   obtain⟨j,hj,rfl⟩:=List.mem_iff_getElem.1 h4;have:=P j hj;rw[h,Nat.zero_testBit,(fE.1 h3).2]at this;cases this
 ·intro h
  apply Nat.eq_of_testBit_eq
  intro j;rw[Nat.zero_testBit];rcases Nat.lt_or_ge j (vA lg s).length with hj|hj
  ·rw[P j hj,h,Nat.zero_testBit]
  ·exact Nat.testBit_lt_two_pow (Nat.lt_of_lt_of_le hlt2 (Nat.pow_le_pow_right (by omega) hj))
def dD (D:List Nat):Nat→List Nat
 | 0=>[]
 | k+1=>dD D k++if D.getD k 1=0 then [k] else []
theorem qX (D:List Nat):∀k,(dD D k).length≤k
 | 0=>Nat.le_refl _
 | k+1=>by have:=qX D k;rw[dD,List.length_append];split <;> simp <;> omega
theorem z4g {D E:List Nat}:∀k,(∀i,i<k→(D.getD i 1=0↔E.getD i 1=0))→dD D k=dD E k
 | 0,_=>rfl
 | k+1,h=>by
  rw[dD,dD,z4g k fun i hi=>h i (by omega)]
  have:=h k (by omega)
  by_cases h1:D.getD k 1=0
  ·rw[if_pos h1,if_pos (this.1 h1)]
  ·rw[if_neg h1,if_neg (fun e=>h1 (this.2 e))]
def lG (t:List (List UInt8))(x:List Flt):List Int:=iL (dD (UA t x) x.length)
theorem z4h {t:List (List UInt8)}{lg:Nat}(T:TestOk t lg)(hlg:(t.headD []).length=lg){x:List Flt}(hf:∀ f∈x,uB t.length f=0){s:Nat}(hc:sB (UA t x) s=true):lG (xB (vA lg s) t) x=lG t x:=by
 unfold lG;rw[z4g x.length fun i hi=>?_]
 have e:∀u:List (List UInt8),(UA u x).getD i 1=RC u x[i]:=fun u=>by
  unfold UA;simp [List.getD_eq_getElem?_getD,List.getElem?_eq_getElem hi]
 rw[e,e];exact zif T hlg hf hc (List.getElem_mem hi)
set_option maxHeartbeats 1000000 in
theorem WW (t:List (List UInt8))(l:List Flt)(hb:∀ s∈t,s.length≤1000000)(ht:t.length≤1000000)(hf:∀ f∈l,f.nets.length≤1000000)(hn:l.length≤20000) :
 eA X EF [nB t,xC l] h K=K (if PB t l≠0 then .tup [.p (.sl none []),AI (PB t l)] else .tup [AL (lG t l),AI 0]) h []:=by
 refine CA ?_;rw[z74 rfl];have c:=fun h K=>bQ (h:=h) (K:=K) t l hb ht hf hn
 by_cases h1:PB t l=0
 case neg=>simp only[PJ,go_sem,c,h1]
 obtain⟨hT,hF⟩:=YL h1;have T:=uJ hT
 obtain⟨lg,hlg⟩:∃n,(t.headD []).length=n:=⟨_,rfl⟩;rw[hlg]at T;have M:=fun h K=>cQ (h:=h) (K:=K) t l lg T hlg hF hn
 have hDl:(UA t l).length=l.length:=by unfold UA;rw[List.length_map]
 unfold lG;simp only[PJ,go_sem,c,h1,M];rw[←hDl];have hD:=dI (l:=l) T hlg
 generalize UA t l=D at *;refine LA (fun k:Nat=>⟨[(7,.own h.length (dD D k).length 0 (dD D k).length),(18,.p (.sl none (D.map eU))),(19,AI D.length),(20,AI k)],h++[.row none ((iL (dD D k)).map eI) 0],[]⟩) (fun k=>k≤D.length) (fun k=>D.length-k) 0 rfl (by omega) ?_
 intro k hk;rw[qF];have w2:IntKind.i64.wrap ((k:Int)+1)=((k+1:Nat):Int):=yA _ (by omega) (by omega)
 have ul:=qX D k
 have et:dD D (k+1)=dD D k++if D.getD k 1=0 then [k] else []:=rfl
 generalize hU:dD D k=U at *;have uml:((iL U).map eI).length=U.length:=zda U
 rcases Nat.lt_or_ge k D.length with hlt|hge
 ·have hlt':(k:Int)<(D.length:Int):=by omega
  have hg:=aB eU hlt
  have eg:D.getD k 1=D[k]:=by rw[List.getD_eq_getElem?_getD,List.getElem?_eq_getElem hlt];rfl
  rw[eg]at et;have ms:U.length+1≤IA:=by unfold IA;omega
  generalize D[k]=m at *;by_cases h0:m=0
  ·have h0':((m:Nat):Int)=0:=by omega
   rw[if_pos h0]at et;simp only[go_sem,hlt',hlt,hg,eq_true h0',uml,ms,w2,splice];refine⟨k+1,?_,by omega,by omega⟩
   rw[et];simp [iL]
  ·have h0':¬((m:Nat):Int)=0:=by omega
   rw[if_neg h0,List.append_nil]at et;simp only[go_sem,hlt',hlt,hg,h0',w2];exact⟨k+1,by rw[et],by omega,by omega⟩
 ·have ek:k=D.length:=by omega
  have hlt':¬(k:Int)<(D.length:Int):=by omega
  have wf:win ((iL U).map eI) 0 U.length=(iL U).map eI:=ED uml
  have eU:dD D D.length=U:=by rw[←ek];exact hU
  rw[eU];simp only[go_sem,hlt',uml,wf]
end Go.Am
end
section
/- ReducedIsEnough returns true. -/
open Go
set_option linter.all false
set_option maxRecDepth 100000
namespace Go.Am
variable {h:aA} {K:jA}
theorem AR {t:List (List UInt8)}{lg:Nat}(T:TestOk t lg)(hlg:(t.headD []).length=lg){x:List Flt}(hf:∀ f∈x,uB t.length f=0):PB t x=0:=by
 unfold PB;rw[if_neg (by simp [zjL T hlg])]
 have:∀l:List Flt,(∀f∈l,uB t.length f=0)→eF t.length l=0:=by
  intro l;induction l with
  | nil=>intro _;rfl
  | cons f r ih=>
   intro h;unfold eF;rw[if_neg (by simp [h f (by simp)])]
   exact ih fun g hg=>h g (by simp [hg])
 exact this x hf
theorem zfe {f:Nat}{F:AFun}{t:List (List UInt8)}{x:List Flt}{v:AV}(hf:X.fn f=some F)(hr:F.byref=false)(hl:F.nparams=2)(R:∀ h K,eA X f [nB t,xC x] h K=K v h [])(s0:Obj)(fz:Nat)(K:jA) :
 eA X f [.own 1 t.length 0 t.length,xC x] [s0,.row none (t.map PV.str) fz] K=K v [s0,.row none (t.map PV.str) (max fz t.length)] []:=by
 have e:=CR (X:=X) (f:=f) (F:=F) (a:=[.own 1 t.length 0 t.length,xC x]) (vs:=[.sl none (t.map PV.str),.sl (some 2) (x.map Flt.pv)]) (h:=[s0,.row none (t.map PV.str) fz]) (h1:=[s0,.row none (t.map PV.str) (max fz t.length)]) (P:=K) hf hr
  (by
   have:win (t.map PV.str) 0 t.length=t.map PV.str:=ED (by simp)
   simp [nA,pur,rd,frz,this]) rfl (by simp [hl]) rfl
 rw[e];exact R _ _
theorem z4v {s:List UInt8}{v:Nat}(h:v<s.length):win s v 1=[s.getD v 48]:=by
 unfold win;rw[List.drop_eq_getElem_cons h,List.getD_eq_getElem?_getD,List.getElem?_eq_getElem h];rfl
attribute [-go_sem] lU TJ
set_option maxHeartbeats 4000000 in
theorem law_RE (L:List Int){K:jA}:eA X zN [AL L] [] K=K (AB true) [] []:=by
 refine CA ?_;rw[z7M rfl];have p0:OA 2000 0:=by unfold OA;omega
 obtain⟨_,a2,⟨c1,c2,t,ts,hT,h20,rfl⟩,V⟩:=(zcR (L:=L) (a:=0) p0).hd (l:=[]);have hp3:OA 4000 a2:=by unfold OA;omega
 obtain⟨_,a4,⟨e1,e2,x,xl,xs,rfl⟩,V3⟩:=(zcQ (L:=L) (a:=a2) t.length (by have:=ts.1;omega) hp3).hd (l:=[])
 have T:=uJ hT
 obtain⟨lg,hlg⟩:∃n,(t.headD []).length=n:=⟨_,rfl⟩;rw[hlg]at T h20;have hz:=SG T.n0
 by_cases h10:10<lg
 ·have h10':(10:Int)<(lg:Int):=by omega
  simp only[SJ,go_sem,V,V3,hz,hlg,h10',z32]
 have h10':¬(10:Int)<(lg:Int):=by omega
 have hF:∀f∈x,uB t.length f=0:=fun f hf=>(xs f hf).2
 have hb:∀s∈t,s.length≤1000000:=fun s hs=>by rw[T.e s hs];omega
 have ht:t.length≤1000000:=by have:=T.n1;omega
 have hxl:∀g∈x,g.nets.length≤1000000:=fun g hg=>by have:=(xs g hg).1.1;omega
 have N1:=fun h K=>ziI (h:=h) (K:=K) t x hb ht hxl (by omega)
 have R1:=fun h K=>ziJ (h:=h) (K:=K) t x hb ht hxl (by omega)
 have S1:=fun h K=>ziK (h:=h) (K:=K) t x hb ht hxl (by omega)
 have U1:=fun h K=>WW (h:=h) (K:=K) t x hb ht hxl (by omega)
 have ha:=AR T hlg hF
 unfold kX at S1;rw[hlg,if_neg (by simp [ha])]at N1 R1
 rw[if_neg (by simp [ha])]at U1
 rw[hlg,if_neg (by simp [ha]),if_neg (by omega)]at S1
 have hD:=dI (l:=x) T hlg
 have hl64:lg≤64:=T.l
 have h2:=Nat.two_pow_pos lg
 -- what is kept
 have hrc:=z2K hD lg
 have hrl:dC (UA t x) lg lg<2^lg:=by have:=HW (UA t x) lg lg;omega
 have hsc:=iX hD (2^lg-1)
 have hsl:=jX (UA t x) lg (2^lg-1) (by omega)
 have hle:=zjs hrl hrc
 have hnl:=zeI hl64 hD hsc
 have hni:=fun v=>z2q hl64 hD hsc (v:=v)
 rw[DW hl64 hsl,DW hl64 hrl,←MP,←MP]at hle;have up1:=z4h T hlg hF hrc
 have up2:=z4h T hlg hF hsc
 have eR:redT t (UA t x) lg=xB (vA lg (dC (UA t x) lg lg)) t:=rfl
 rw[eR]at R1;have cl:∀d,(vA lg d).length≤lg:=fun d=>Nat.le_trans (List.length_filter_le _ _) (by simp)
 have cv:∀d,∀v∈vA lg d,v<lg:=fun d v hv=>(fE.1 hv).1
 generalize hA:vA lg (dC (UA t x) lg lg)=A at *;generalize hB:vA lg (mB (UA t x) lg (2^lg-1))=B at *;generalize hC:vA lg (aD (UA t x))=C at *;have Al:A.length≤lg:=hA ▸ cl _
 have Bl:B.length≤lg:=hB ▸ cl _
 have Cl:C.length≤lg:=hC ▸ cl _
 have Bv:∀v∈B,v<lg:=hB ▸ cv _
 obtain⟨TA,hA2,lA⟩:=IP (L:=A) T (by omega)
 obtain⟨TB,hB2,lB⟩:=IP (L:=B) T (by omega)
 have U2:=fun h K=>WW (h:=h) (K:=K) (xB A t) x (fun s hs=>by rw[TA.e s hs];omega) (by rw[lA];omega) hxl (by omega)
 have U3:=fun h K=>WW (h:=h) (K:=K) (xB B t) x (fun s hs=>by rw[TB.e s hs];omega) (by rw[lB];omega) hxl (by omega)
 rw[AR TA hA2 (by rw[lA];exact hF),if_neg (by simp),up1]at U2
 rw[AR TB hB2 (by rw[lB];exact hF),if_neg (by simp),up2]at U3
 have ul:(lG t x).length≤6:=by have:=qX (UA t x) x.length;unfold lG iL;rw[List.length_map];omega
 generalize lG t x=U at *;have EU:=fun h K=>ziE (h:=h) (K:=K) U U (by omega)
 simp only[decide_true]at EU;have ER:=fun h K=>ziT (h:=h) (K:=K) [0,0,0,0,0] (by simp)
 have e0:XH [0,0,0,0,0]=0:=rfl
 rw[e0]at ER;simp only[AL,List.map_cons,List.map_nil]at ER;have hzA:=SG TA.n0
 have z1:((xB A t).headD []).length=A.length:=hA2
 have k1:¬((xB A t).length:Int)=(t.length:Int)→False:=fun h=>h (by rw[lA])
 have i1:(iL B).length=B.length:=by unfold iL;rw[List.length_map]
 have i2:(iL C).length=C.length:=by unfold iL;rw[List.length_map]
 have k2:¬(A.length:Int)<(B.length:Int):=by omega
 have k3:¬(B.length:Int)<(C.length:Int):=by omega
 simp only[SJ,go_sem,V,V3,hz,hlg,h10',↓R1,R1,↓N1,N1,↓S1,S1,↓U1,U1,↓U2,U2,↓ER,ER,lA,↓EU,EU,hzA,z1,i1,i2,k2,k3];generalize rA L a4=s0;clear R1 N1 S1 U1 U2 ER V V3;refine LA (fun k:Nat=>⟨[(4,nB t),(5,xC x),(10,AL (iL B)),(12,AL U),(108,AL (iL C)),(109,AI C.length),(110,AI k)],[s0],[]⟩) (fun k=>k≤C.length) (fun k=>C.length-k) 0 rfl (Nat.zero_le _) ?_
 intro k hk;have w2:IntKind.i64.wrap ((k:Int)+1)=((k+1:Nat):Int):=yA _ (by omega) (by omega)
 rcases Nat.lt_or_ge k C.length with hlt|hge
 ·have hlt':(k:Int)<(C.length:Int):=by omega
  have hg:((iL C).map eI)[k]?=some (eI (C[k]:Int)):=by
   unfold iL;rw[List.getElem?_map,List.getElem?_map,List.getElem?_eq_getElem hlt];rfl
  have CI:=fun h K=>UW (h:=h) (K:=K) (iL B) (C[k]:Int) (by omega)
  rw[zcZ,List.contains_iff_mem.2 (hni _ (List.getElem_mem hlt))]at CI;generalize C[k]=v at *;simp only[go_sem,hlt',hlt,i2,hg,CI,w2];exact⟨k+1,rfl,by omega,by omega⟩
 ·have hlt':¬(k:Int)<(C.length:Int):=by omega
  simp only[go_sem,hlt'];rw[lU];simp only[TJ,go_sem];have tn:=T.n1
  refine LA (fun j:Nat=>⟨[(5,xC x),(10,AL (iL B)),(12,AL U),(18,.own 1 j 0 j),(119,nB t),(120,AI t.length),(121,AI j)],[s0,.row none ((xB B (t.take j)).map PV.str) 0],[]⟩) (fun j=>j≤t.length) (fun j=>t.length-j) 0 rfl (Nat.zero_le _) ?_
  intro j hj;rw[qF];have jml:((xB B (t.take j)).map PV.str).length=j:=by unfold xB;rw[List.length_map,List.length_map,List.length_take];omega
  have w4:IntKind.i64.wrap ((j:Int)+1)=((j+1:Nat):Int):=yA _ (by omega) (by omega)
  rcases Nat.lt_or_ge j t.length with jlt|jge
  ·have jlt':(j:Int)<(t.length:Int):=by omega
   have hg:=aB PV.str jlt
   have hsl:=T.e _ (List.getElem_mem jlt)
   have et:xB B (t.take (j+1))=xB B (t.take j)++[jB B t[j]]:=by unfold xB;rw[List.take_succ_eq_append_getElem jlt,List.map_append];rfl
   generalize t[j]=r at *;generalize xB B (t.take j)=R at *;simp only[go_sem,jlt',jlt,hg];refine LA (fun i:Nat=>⟨[(5,xC x),(10,AL (iL B)),(12,AL U),(18,.own 1 j 0 j),(20,AS r),(21,AS (jB (B.take i) r)),(119,nB t),(120,AI t.length),(121,AI j),(125,AL (iL B)),(126,AI B.length),(127,AI i)],[s0,.row none (R.map PV.str) 0],[]⟩) (fun i=>i≤B.length) (fun i=>B.length-i) 0 ?_ (Nat.zero_le _) ?_
   ·simp [jB,i1]
   intro i hi;have w3:IntKind.i64.wrap ((i:Int)+1)=((i+1:Nat):Int):=yA _ (by omega) (by omega)
   rcases Nat.lt_or_ge i B.length with ilt|ige
   ·have ilt':(i:Int)<(B.length:Int):=by omega
    have gB:((iL B).map eI)[i]?=some (eI (B[i]:Int)):=by
     unfold iL;rw[List.getElem?_map,List.getElem?_map,List.getElem?_eq_getElem ilt];rfl
    have hv:=Bv _ (List.getElem_mem ilt)
    have ps:jB (B.take (i+1)) r=jB (B.take i) r++win r B[i] 1:=by
     rw[z4v (by omega),List.take_succ_eq_append_getElem ilt]
     unfold jB;rw[List.map_append];rfl
    have pl:(jB (B.take i) r).length≤64:=by rw[HP,List.length_take];omega
    have wl:(win r B[i] 1).length=1:=by rw[z4v (by omega)];rfl
    generalize B[i]=v at *;have v0:¬(v:Int)<0:=by omega
    have v1:¬(r.length:Int)≤(v:Int):=by omega
    have w5:IntKind.i64.wrap ((v:Int)+1)=((v+1:Nat):Int):=yA _ (by omega) (by omega)
    have y1:v≤v+1:=by omega
    have y2:v+1-v=1:=by omega
    have y3:v+1≤r.length:=by omega
    have ml:(jB (B.take i) r).length+(win r v 1).length≤zD:=by unfold zD;omega
    simp only[go_sem,ilt',ilt,i1,gB,v0,v1,w5,y1,y2,y3,ml,w3];exact⟨i+1,by rw[ps],by omega,by omega⟩
   ·have ei:i=B.length:=by omega
    have ilt':¬(i:Int)<(B.length:Int):=by omega
    have eB:B.take i=B:=List.take_of_length_le (by omega)
    have ms:j+1≤IA:=by unfold IA;omega
    rw[eB];simp only[go_sem,ilt',jml,ms,w4,splice];refine⟨j+1,?_,by omega,by omega⟩
    rw[et,List.map_append];rfl
  ·have ej:j=t.length:=by omega
   have jlt':¬(j:Int)<(t.length:Int):=by omega
   have et:t.take j=t:=List.take_of_length_le (by omega)
   rw[et]at jml ⊢;have O:=zfe (f:=EF) z40 rfl rfl U3
   rw[lB,←ej]at O;simp only[go_sem,jlt',↓O,O,↓EU,EU,z32]
end Go.Am
end
section
/- From a law that is true here tov the model's calls at what came in. -/
open Go
namespace Go.Am
variable {P:Program}
theorem law_nil {X:Ctx}(HX:Fits P X){f:Nat}{F:AFun}(hF:X.fn f=some F)(H:∀ L:List Int,eA X f [LP L] [] fun v _ _=>v = .p (.bool true))(W:World)(hG:fD X.gl (imm [] [] W)) :
 Calls P f #[.slice none 0 0] W fun e W'=>e = .returned (.bool true)∧RowKit.Below W.heap.size W W':=by
 refine(HY HX hF (H []) (W:=W) (vs:=[.slice none 0 0]) hG rfl (fun j y v hy hv=>?_)).mono fun e W' he=>?_
 ·cases j with
  | zero=>cases hy;cases hv;exact z88 W
  | succ j=>cases hy
 ·cases e with
  | returned r=>
   obtain⟨⟨v,h,x,μ,hk,hr⟩,hb⟩:=he;subst hk;exact⟨by rw[hr.p_bool],hb⟩
  | panicked _=>exact he.elim
  | outgrown=>exact he.elim
theorem law_ints {X:Ctx}(HX:Fits P X){f:Nat}{F:AFun}(hF:X.fn f=some F)(H:∀ L:List Int,eA X f [LP L] [] fun v _ _=>v = .p (.bool true)){W:World}(hG:fD X.gl (imm [] [] W)){a:Addr}{len cap:Nat}{zs:List Int}
 (hl:len≤cap) (hz:len≤zs.length) (hc:∀i,i<zs.length→W.cell? (a.add i)=some (.int .i64 (zs.getD i 0))) :
 Calls P f #[.slice (some a) len cap] W fun e W'=>e = .returned (.bool true)∧RowKit.Below W.heap.size W W':=by
 refine(HY HX hF (H (zs.take len)) (W:=W) (vs:=[.slice (some a) len cap]) hG rfl (fun j y v hy hv=>?_)).mono fun e W' he=>?_
 ·cases j with
  | zero=>
   cases hy;cases hv
   rcases Nat.eq_zero_or_pos len with h0|h0
   ·subst h0
    exact .p _ _ (.nils _ _ _)
   ·exact z87 (by simpa [Addr.add] using World.cell?_spot (hc 0 (by omega))) hl hz hc
  | succ j=>cases hy
 ·cases e with
  | returned r=>
   obtain⟨⟨v,h,x,μ,hk,hr⟩,hb⟩:=he;subst hk;exact⟨by rw[hr.p_bool],hb⟩
  | panicked _=>exact he.elim
  | outgrown=>exact he.elim
end Go.Am
namespace Go.ChangeShapes
open Go.RowKit Go.WideShapes
end Go.ChangeShapes
end
section
/- The abstract machine,part L2: the kit's contracts asv rows. -/
set_option linter.unusedSimpArgs false
set_option linter.unusedVariables false
namespace Go.Am
variable {P:Program} {gl:Nat→Option PV}
open Go.Shelf
end Go.Am
end
section
/- The abstract machine,part L4: strings.Repeat,strings.Trim,math/bits.TrailingZeros64 asv rows. -/
set_option linter.all false
namespace Go.Am
variable {P:Program} {gl:Nat→Option PV}
open Go.Shelf
theorem tY {w w':World}(h:Go.RowKit.Below w.heap.size w w'):WExt w w':=⟨h.size,fun b hb=>h.block b hb,by unfold zed;rw[h.os,h.tape,h.output]⟩
theorem z1Z (s:List UInt8):∀c,Go.Lib.repeatL s c=CD s c
 | 0=>rfl
 | c+1=>by rw[Go.Lib.repeatL,CD,z1Z s c]
theorem zl4 {ρ:Ren}(L:Go.Proofs.Lays.n105 P ρ)(E:Go.Proofs.Builder.Extra P ρ)(he:∀ us w,(callFunc (ρ.f 105) us).run P w = .ok (.enter (ρ.f 105) us) w):PureRow P gl (ρ.f 105) fJ where
 enter:=he
 run M w vs r us hc hb hG hl hr hs:=by
  unfold fJ at hs;split at hs
  ·rename_i s c
   split at hs
   ·rename_i hbd
    match us,hl with
    | [u,v],_=>
     have q:=hr 0 _ u rfl rfl
     cases q;have q2:=hr 1 _ v rfl rfl
     cases q2;simp only[Option.some.injEq]at hs
     subst hs;obtain⟨n,rfl⟩:=Int.eq_ofNat_of_zero_le hbd.1;have hsz:(⟨s.toArray⟩:ByteArray).size=s.length:=by simp [ByteArray.size]
     simp only[Int.toNat_natCast]at hbd ⊢;refine(Go.Proofs.Any.strings_Repeat L E ⟨s.toArray⟩ n w (by omega) (by rw[hsz];omega)).mono fun e w' h=>?_
     obtain⟨rfl,h⟩:=h;exact⟨_,rfl,tY h,by rw[z1Z];exact .p _ _ (.str _)⟩
   ·cases hs
  ·cases hs
theorem ze0 (s cs:List UInt8):Go.Lib.trimS s cs=yL s cs:=rfl
theorem trimRow {ρ:Ren}(L:Go.Proofs.Lays.n160 P ρ)(h116:(P.info? (ρ.t 116)).map (fun i=>(i.zero,i.size))=some (some (.agg (Array.replicate 256 (.bool false))),256))(he:∀ us w,(callFunc (ρ.f 160) us).run P w = .ok (.enter (ρ.f 160) us) w):PureRow P gl (ρ.f 160) trimS where
 enter:=he
 run M w vs r us hc hb hG hl hr hs:=by
  unfold trimS at hs;split at hs
  ·rename_i s cs
   split at hs
   ·rename_i hbd
    match us,hl with
    | [u,v],_=>
     have q:=hr 0 _ u rfl rfl
     cases q;have q2:=hr 1 _ v rfl rfl
     cases q2;simp only[Option.some.injEq]at hs
     subst hs;have hsz:∀l:List UInt8,(⟨l.toArray⟩:ByteArray).size=l.length:=fun l=>by simp [ByteArray.size]
     refine(Go.Proofs.Any.strings_Trim_laid L h116 ⟨s.toArray⟩ ⟨cs.toArray⟩ w (by rw[hsz];omega) (by rw[hsz];omega) (Go.Proofs.ascii_of_all hbd.2.2)).mono fun e w' h=>?_
     obtain⟨rfl,h⟩:=h;exact⟨_,rfl,tY h,by rw[←ze0];exact .p _ _ (.str _)⟩
   ·cases hs
  ·cases hs
end Go.Am
end
