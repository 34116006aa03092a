/- Texts of the proof, laid together: PUnt, SpUAg1, SpMap, SpPath, SpReady, SpArg, SpKeep, SpRight, PSplit, PTxt, PNum, PFlt, PFltR, PWrit, SpIdx, SpStrs, SpTxt, AmL4, AmL5, SpSplit, SpLines, SpNum, SpNums, SpQNum, SpFlt1, SpFlt2, SpWords, SpJoin, SpBld, PBits, SpFlt3, SpFlt4, SpFlt5, SpFlt6, SpFltT, PRecT, SpEach, SpFltR, SpFltR2, SpFltR3, SpSortO, SpGenF, SpChg, SpGenA2, SpDelF, SpGenF2, SpInts, SpFltE, SpRecT, SpRecT2, SpRecT3, SpRecT4, SpRecT5, SpRecT6, SpRecT7, SpUAg2, SpDel, PTight, SpVal, SpFin, SpCut, SpMapN, PThr, SpThr, SpThr2, SpThr3, PThr2, SpDelR, SpUni, SpCnt, SpCnt2, SpThr4, SpYld, SpLawUA, Bridge, AmL2, AmL3. -/
import Derived.KernelRfl
import Derived.Shelf.Strings.Repeat
import Derived.Shelf.Strings.SlTrimAscii
import Derived.Shelf.Spec.TrailingZeros
import Derived.Shelf.Strings.Count
import Derived.Shelf.Strings.OnBuilder
import Derived.ProofKit
import Derived.Shelf.Strconv.Itoa3
import Derived.Lib.LaidTab
import Derived.Shelf.Strconv.AtoiAll
import Derived.Test.YtpmbmbgfmcmlhaaGreatDoorlawUA7
set_option linter.all false
section
/- Units add up: gB parts,bins,yields: plainly. -/
set_option linter.all false
namespace Go.Am
theorem zj8 {α:Type}{c:α→α→Int}{q:α→α→Bool}(o:Ordr c)(hq:∀ x y,q x y=true↔x=y){x a b:List α}(sx:FC c x)(ha:a.Sublist x)(hb:b.Sublist x)(hc:∀ e∈x,e∈a∨e∈b) :
 kE c q a b=false∧vA (ltO c) (a++b.filter (OE c a))=x:=by
 have same:∀{y z:α},y∈a→z∈b→c y z=0→y=z:=fun hy hz e=>xM o sx (ha.subset hy) (hb.subset hz) e
 constructor
 ·unfold kE
  rw[List.any_eq_false];intro z hz;rw[Bool.not_eq_true,List.any_eq_false];intro y hy;rw[Bool.not_eq_true,Bool.and_eq_false_iff];by_cases e:c y z=0
  ·right;rw[(hq _ _).2 (same hy hz e)];rfl
  ·left;simpa using e
 ·refine PQ o (QY o ?_) sx fun e=>?_
  ·refine List.pairwise_append.2 ⟨(List.Pairwise.sublist ha sx).imp fun h=>by omega,(List.Pairwise.sublist (List.filter_sublist.trans hb) sx).imp fun h=>by omega,fun y hy z hz=>?_⟩
   have:=(List.mem_filter.1 hz).2;unfold OE at this;simp only[Bool.not_eq_true',List.any_eq_false,decide_eq_true_eq]at this;exact this y hy
  ·rw[qD,List.mem_append,List.mem_filter]
   constructor
   ·rintro (h|⟨h,_⟩)
    ·exact ha.subset h
    ·exact hb.subset h
   ·intro h
    rcases hc e h with k|k
    ·exact .inl k
    ·cases hn:OE c a e with
     | true=>exact .inr ⟨k,rfl⟩
     | false=>
      left;unfold OE at hn
      simp only[Bool.not_eq_false',List.any_eq_true,decide_eq_true_eq]at hn;obtain⟨y,hy,h2⟩:=hn;rw[←same hy k h2];exact hy
def rC (l:List Lim)(rule:Int)(r:List Rec):Nat→Nat→List (Nat×Nat)
 | _,0=>[]
 | b,k+1=>(if 0<dB l rule r b then [(b,dB l rule r b)] else [])++rC l rule r (b+1) k
def nSS (p:Nat × Nat):SS:=(itoa p.1,itoa p.2)
theorem z0h (l:List Lim)(rule:Int)(r:List Rec):∀(k b:Nat),lC l rule r b k=(rC l rule r b k).map nSS
 | 0,_=>rfl
 | k+1,b=>by
  show _++lC l rule r (b+1) k=List.map nSS (_++rC l rule r (b+1) k)
  rw[List.map_append,z0h l rule r k (b+1)];congr 1
  split <;> rfl
theorem CS (l:List Lim)(rule:Int)(r:List Rec):∀(k b:Nat) (p:Nat×Nat),p∈rC l rule r b k→b≤p.1∧1≤p.2∧p.2=dB l rule r p.1
 | 0,_,_,h=>by cases h
 | k+1,b,p,h=>by
  rcases List.mem_append.1 (show p∈_++rC l rule r (b+1) k from h) with h|h
  ·split at h
   ·rename_i hp
    rw[List.mem_singleton]at h;subst h;exact⟨Nat.le_refl _,hp,rfl⟩
   ·cases h
  ·have:=CS l rule r k (b+1) p h
   exact⟨by omega,this.2.1,this.2.2⟩
theorem z0k (l:List Lim)(rule:Int)(r:List Rec):∀(k b:Nat),((rC l rule r b k).map Prod.snd).sum=(VA l rule r).countP fun x=>decide ((b:Int)≤FA l x)&&decide (FA l x<((b+k:Nat):Int))
 | 0,b=>by
  refine(List.countP_eq_zero.2 fun x _=>?_).symm
  simp only[Bool.and_eq_true,decide_eq_true_eq];omega
 | k+1,b=>by
  have e:((rC l rule r b (k+1)).map Prod.snd).sum=dB l rule r b+((rC l rule r (b+1) k).map Prod.snd).sum:=by
   show(List.map Prod.snd (_++rC l rule r (b+1) k)).sum=_
   rw[List.map_append,List.sum_append];congr 1
   split
   ·simp
   ·simp;omega
  rw[e,z0k l rule r k (b+1)];unfold dB;induction VA l rule r with
  | nil=>rfl
  | cons x t ih=>
   simp only[List.countP_cons];have:(if(decide ((b:Int)≤FA l x)&&decide (FA l x<((b+(k+1):Nat):Int)))=true then 1 else 0)=(if decide (FA l x=(b:Int))=true then 1 else 0)+(if(decide (((b+1:Nat):Int)≤FA l x)&&decide (FA l x<((b+1+k:Nat):Int)))=true then 1 else 0):=by
    simp only[Bool.and_eq_true,decide_eq_true_eq];by_cases h1:FA l x=(b:Int)
    ·rw[if_pos (by omega),if_pos h1,if_neg (by omega)]
    ·by_cases h2:((b+1:Nat):Int)≤FA l x∧FA l x<((b+1+k:Nat):Int)
     ·rw[if_pos (by omega),if_neg h1,if_pos h2]
     ·rw[if_neg (by omega),if_neg h1,if_neg h2]
   omega
def KE (ps:List (Nat × Nat)):Nat:=ps.foldl (fun g p=>if p.1=1 then p.2 else g) 0
theorem zes (ps:List (Nat × Nat))(p:Nat × Nat):KE (ps++[p])=if p.1=1 then p.2 else KE ps:=by unfold KE;rw[List.foldl_append];rfl
theorem z3o:∀ (ps:List (Nat × Nat))(g:Nat),(∀p∈ps,2≤p.1)→ps.foldl (fun g p=>if p.1=1 then p.2 else g) g=g
 | [],g,_=>rfl
 | p::r,g,h=>by
  rw[List.foldl_cons,if_neg (by have:=h p List.mem_cons_self;omega)]
  exact z3o r g fun y hy=>h y (List.mem_cons_of_mem _ hy)
theorem zet (l:List Lim)(rule:Int)(r:List Rec)(k:Nat):KE (rC l rule r 1 (k+1))=dB l rule r 1:=by
 have kp:∀g,(rC l rule r 2 k).foldl (fun g p=>if p.1=1 then p.2 else g) g=g:=fun g=>z3o _ g fun p hp=>(CS l rule r k 2 p hp).1
 unfold KE;show List.foldl _ 0 ((if 0<dB l rule r ((1:Nat):Int) then [(1,dB l rule r ((1:Nat):Int))] else [])++rC l rule r 2 k)=_
 rw[List.foldl_append];by_cases h:0<dB l rule r ((1:Nat):Int)
 ·rw[if_pos h,kp];first|done|rfl
 ·rw[if_neg h,kp];show 0=dB l rule r ((1:Nat):Int);omega
theorem z7X (l:List Lim){rule:Int}(hr:1≤rule∧rule≤3)(r:List Rec)(hb:∀ x,FA l x=1↔kC l x=false):dB l rule r 1≤dB l 3 r 1:=by
 unfold dB;rw[z29 l hr r,z29 l (show(1:Int)≤3∧(3:Int)≤3 by omega) r,List.countP_map,List.countP_map]
 refine List.countP_mono_left fun u hu h=>?_
 simp only[Function.comp,decide_eq_true_eq,hb]at h ⊢;have hf:=zgv hu
 rw[z9T hf];rw[Bool.not_eq_false',List.any_eq_true];exact⟨_,z9U (rule:=rule) hf,by rw[h];rfl⟩
theorem z5D (l:List Lim)(rule:Int)(r:List Rec):(VA l rule r).length=(yF r).length:=by
 rw[←OV l rule r,List.length_map]
theorem fW (a b:Int):(low a b).1*b=(low a b).2*a:=by
 have h1:=QO a b
 have h2:=gW a b
 generalize (low a b).1=x at *;generalize (low a b).2=y at *;generalize (Int.gcd a b:Int)=g at *;rw[←h1,←h2,←Int.mul_assoc,Int.mul_comm x y,Int.mul_assoc,Int.mul_comm x g,←Int.mul_assoc,Int.mul_comm y g]
theorem zfO {a a' n:Int}(hn:0<n)(h:a≤a'):(low a n).1*(low a' n).2≤(low a' n).1*(low a n).2:=by
 have h1:=fW a n
 have h2:=fW a' n
 have d1:=OI a n hn
 have d2:=OI a' n hn
 generalize (low a n).1=x at *;generalize (low a n).2=y at *;generalize (low a' n).1=x' at *;generalize (low a' n).2=y' at *
 -- x n=y a,x' n=y' a'
 have:(x*y')*n≤(x'*y)*n:=by
  have e1:x*y'*n=y*y'*a:=by rw[Int.mul_assoc,Int.mul_comm y' n,←Int.mul_assoc,h1,Int.mul_assoc,Int.mul_comm a y',←Int.mul_assoc]
  have e2:x'*y*n=y*y'*a':=by rw[Int.mul_assoc,Int.mul_comm y n,←Int.mul_assoc,h2,Int.mul_assoc,Int.mul_comm a' y,←Int.mul_assoc,Int.mul_comm y' y]
  rw[e1,e2];exact Int.mul_le_mul_of_nonneg_left h (Int.mul_nonneg (by omega) (by omega))
 exact Int.le_of_mul_le_mul_right this hn
end Go.Am
end
section
/- Records gB: up tov 39 of them. -/
open Go
set_option linter.all false
set_option maxRecDepth 100000
namespace Go.Am
variable {h:aA} {K:kA}
attribute [-go_sem] GK KF gI GG FK PH
set_option maxHeartbeats 4000000 in
theorem z4S (l:List Lim)(a b:List Rec)(hl:LimOk l)(ha:∀ x∈a,RecOk x)(hb:∀ x∈b,RecOk x)(hn:a.length+b.length≤39) :
 gA X mI [JA l,UA a,UA b] h K=K (.tup [UA (ML l a b).1,AI (ML l a b).2]) h []:=by
 refine rule ?_;rw[z8C rfl];have q1:=fun h K=>DY (h:=h) (K:=K) l a hl ha (by omega)
 have q2:=fun h K=>DY (h:=h) (K:=K) l b hl hb (by omega)
 have q3:=fun h K=>zkl (h:=h) (K:=K) [QA l a,QA l b] (by simp)
 simp only[AL,List.map_cons,List.map_nil]at q3;unfold ML;by_cases he:orL [QA l a,QA l b]=0
 ·rw[he]at q3
  have hfa:QA l a=0:=by
   unfold orL at he;split at he
   ·assumption
   ·omega
  have hfb:QA l b=0:=by
   rw[hfa]at he;unfold orL at he;rw[if_neg (by simp)]at he
   unfold orL at he;split at he
   ·assumption
   ·omega
  obtain⟨sa,ta⟩:=AQ hfa;obtain⟨sb,tb⟩:=AQ hfb;have hres:∀x∈a++b,x.res.length≤1000:=fun x hx=>by
   rcases List.mem_append.1 hx with h1|h1
   ·exact(ha x h1).n
   ·exact(hb x h1).n
  have q4:=fun h K=>zkj (h:=h) (K:=K) [a.map Rec.pv,b.map Rec.pv] (fun z hz=>by
   simp only[List.mem_cons,List.not_mem_nil,or_false]at hz;rcases hz with rfl|rfl <;> exact PJ) (by simp) (by simp;omega)
  have ef:[a.map Rec.pv,b.map Rec.pv].flatten=(a++b).map Rec.pv:=by simp
  simp only[ef,List.map_cons,List.map_nil,lsl,List.length_map]at q4;have e0:∀o o',(h++[o]).set h.length o'=h++[o']:=fun o o'=>by rw[List.set_append_right _ _ (by simp)];simp
  have st:=fun K=>zkV (h:=h++[Obj.row (some 4) ((a++b).map Rec.pv) 0]) (K:=K) h.length ((a++b).map Rec.pv) PJ (by simp;omega) (by simp) (g:=HE) (caps:=[]) (c:=fun x y=>EA (yB x) (yB y))
   (fun o x hx y hy K=>by
    obtain⟨p,_,rfl⟩:=List.mem_map.1 hx;obtain⟨q,_,rfl⟩:=List.mem_map.1 hy;dsimp only;rw[LD,LD];exact FY p q) (show Ordr (fun x y:PV=>EA (yB x) (yB y)) from⟨fun x y=>VI.neg _ _,fun x y z h1 h2=>VI.trans _ _ _ h1 h2⟩).weak (by simp [AV.top,AV.tops])
  have em:vA (ltC fun x y=>EA (yB x) (yB y)) ((a++b).map Rec.pv)=(vA (ltO EA) (a++b)).map Rec.pv:=z35 Rec.pv (fun x y=>by simp only[ltC,ltO,LD]) _
  rw[em]at st;simp only[e0,List.length_map]at st;have il:=MI (ltO EA) (a++b)
  have cp:=fun K=>sZ (h:=h++[Obj.row (some 4) ((vA (ltO EA) (a++b)).map Rec.pv) 0]) (K:=K) h.length ((vA (ltO EA) (a++b)).map Rec.pv) PJ (by simp [il];omega) (by simp) (g:=QG) (caps:=[]) (q:=fun x y=>tD (yB x) (yB y))
   (fun o x hx y hy K=>by
    obtain⟨p,hp,rfl⟩:=List.mem_map.1 hx;obtain⟨q,_,rfl⟩:=List.mem_map.1 hy;dsimp only;rw[LD,LD];exact zk9 p q (hres p (qD.1 hp)))
  have ec:iB (fun x y=>tD (yB x) (yB y)) ((vA (ltO EA) (a++b)).map Rec.pv)=(gB EA tD a b).map Rec.pv:=z9W Rec.pv (fun x y=>by simp only[LD]) _
  rw[ec]at cp;simp only[e0,List.length_map,il]at cp;obtain⟨C,hC⟩:∃C,C=gB EA tD a b:=⟨_,rfl⟩;have mo:(∀i (h:i+1<C.length),EA C[i+1] C[i]≠0)→kE EA tD a b=false∧C=vA (ltO EA) (a++b.filter (OE EA a)):=by
   subst hC;exact fun hadj=>zfV (a:=a) (b:=b) VI LQ sa sb hadj
  have mc:∀i (h:i+1<C.length),EA C[i+1] C[i]=0→kE EA tD a b=true:=by
   subst hC;exact fun i h he=>zfT (a:=a) (b:=b) (i:=i) VI LQ sa sb h he
  have hcl:C.length≤(a++b).length:=by
   have:=z0E tD (vA (ltO EA) (a++b));rw[il]at this;rw[hC];exact this
  have hcr:∀x∈C,x.res.length≤1000:=fun x hx=>hres x (qD.1 (fN (by rw[hC]at hx;exact hx)))
  rw[←hC]at cp;clear ec hC;have hab:(a++b).length≤39:=by simp;omega
  generalize hNN:(a++b).length=N at *;have hrow:(C.map Rec.pv++List.replicate (N-C.length) (PV.agg [.str [],.int .i64 0,.str [],.sl none []])).length=N:=by simp;omega
  have hw:win (C.map Rec.pv++List.replicate (N-C.length) (PV.agg [.str [],.int .i64 0,.str [],.sl none []])) 0 C.length=C.map Rec.pv:=by simp [win]
  generalize C.map Rec.pv++List.replicate (N-C.length) (PV.agg [.str [],.int .i64 0,.str [],.sl none []])=row at *;simp only[sK,go_sem,↓q1,q1,↓q2,q2,↓q3,q3,↓q4,q4,↓st,st,↓cp,cp];refine CA (fun k:Nat=>⟨[(9,.own h.length N 0 C.length),(34,.own h.length N 0 C.length),(35,AI C.length),(36,AI k)],h++[.row (some 4) row 0],[]⟩) (fun k=>k≤C.length∧okAdj C k) (fun k=>C.length-k) 0 rfl ⟨by omega,fun i h1 h2=>by omega⟩ ?_
  rintro k ⟨hk,hok⟩
  have hg:∀j (hj:j<C.length),row[j]?=some C[j].pv:=fun j hj=>by
   have h1:(win row 0 C.length)[j]?=some C[j].pv:=by rw[hw];exact bB Rec.pv hj
   rw[win,List.drop_zero,List.getElem?_take_of_lt hj]at h1;exact h1
  rcases Nat.lt_or_ge k C.length with hlt|hge
  ·have w2:IntKind.i64.wrap ((k:Int)+1)=((k+1:Nat):Int):=nA _ (by omega) (by omega)
   have g1:=hg k hlt
   have c1:MA (some 4) 0 C[k].pv=some C[k].pv:=rfl
   simp only[Rec.pv]at g1 c1;rcases Nat.eq_zero_or_pos k with h0|h0
   ·subst h0
    have l0:(0:Int)<(C.length:Int):=by omega
    simp only[go_sem,hlt,l0,hrow,g1,c1,hcl,w2,show IntKind.i64.wrap 1=1 from rfl]
    exact⟨1,rfl,⟨by omega,fun i h1 h2=>by omega⟩,by omega⟩
   ·have hk1:k-1<C.length:=by omega
    have g2:=hg (k-1) hk1
    have c2:MA (some 4) 0 C[k-1].pv=some C[k-1].pv:=rfl
    have bt:=fun h K=>FY (h:=h) (K:=K) C[k] C[k-1]
    simp only[Rec.pv]at g2 c2 bt;have b1:(0:Int)<(k:Int):=by omega
    have w3:IntKind.i64.wrap ((k:Int)-1)=((k-1:Nat):Int):=by rw[nA _ (by omega) (by omega)];omega
    by_cases hz:EA C[k] C[k-1]=0
    ·obtain⟨j,rfl⟩:∃j,k=j+1:=⟨k-1,by omega⟩
     have hcf:=mc j hlt hz
     rw[hz]at bt;simp only[go_sem,hlt,hrow,g1,c1,hcl,w2,b1,w3,hk1,g2,c2,↓bt,bt];simp only[he,refM,hcf,UA];simp
    ·simp only[go_sem,hlt,hrow,g1,c1,hcl,w2,b1,w3,hk1,g2,c2,↓bt,bt,hz]
     refine⟨k+1,rfl,⟨by omega,fun i h1 h2=>?_⟩,by omega⟩
     by_cases hik:i+1=k
     ·have e:i=k-1:=by omega
      subst hik;exact hz
     ·exact hok i h1 (by omega)
  ·have ek:k=C.length:=by omega
   subst ek;obtain⟨m1,m2⟩:=mo (fun i h1=>hok i h1 h1)
   simp only[go_sem,Nat.lt_irrefl];simp only[@GK,bA,Nat.reduceEqDiff,if_true,if_false];refine zfU C N row h.length hcr (by omega) hrow hw (by simp) (by omega) rfl _ (fun h2 y hy hh=>?_)
   subst hy;subst hh
   have hwc:win (C.map Rec.pv) 0 C.length=C.map Rec.pv:=UE (by simp)
   simp only[go_sem,hwc];simp only[he,refM,m1,m2];simp
 ·simp only[sK,go_sem,↓q1,q1,↓q2,q2,↓q3,q3,he]
  simp [he]
end Go.Am
end
section
/- Maps,asv lists of keys with values. -/
open Go
set_option linter.all false
namespace Go.Am
section
variable {α β:Type} [DecidableEq α]
def FD (key:α→PV)(val:β→AV):Nat→List (α×β)→List ME
 | _,[]=>[]
 | n,e::r=>⟨key e.1,val e.2,n⟩::FD key val (n+1) r
def oB (key:α→PV)(val:β→AV)(l:List (α × β)):Obj:=.amap (FD key val 0 l) l.length
def fC (k:α):List (α×β)→Option Nat
 | []=>none
 | e::r=>if k=e.1 then some 0 else(fC k r).map (· + 1)
def IA (k:α):List (α×β)→Option β
 | []=>none
 | e::r=>if k=e.1 then some e.2 else IA k r
def XB (k:α)(v:β):List (α×β)→List (α×β)
 | []=>[(k,v)]
 | e::r=>if k=e.1 then(k,v)::r else e::XB k v r
def dK (key:α→PV):Prop:=∀a b,PV.eqv (key a) (key b)=some (decide (a=b))
theorem ZV:dK PV.str:=fun a b=>rfl
theorem EL:dK (fun n:Int=>PV.int .i64 n):=fun a b=>by simp [PV.eqv,PV.eq1]
theorem bW {s:List UInt8}:tC (none,[2]) (.p (.str s))=some (.str s):=by simp [tC,PV.key,PV.shp,PV.sc,PV.cells,PV.kind]
theorem FL {n:Int}{k:IntKind}:tC (none,[0]) (.p (.int k n))=some (.int k n):=by simp [tC,PV.key,PV.shp,PV.sc,PV.cells,PV.kind]
variable {key:α→PV} {val:β→AV}
theorem jW (hk:dK key)(k:α):∀(l:List (α×β)) (n:Nat),TB (key k) (FD key val n l)=some (fC k l)
 | [],n=>rfl
 | e::r,n=>by
  simp only[FD,TB,hk k e.1,fC];by_cases h:k=e.1
  ·simp [h]
  ·simp [h,jW hk k r (n+1)]
theorem RO:∀ (l:List (α × β))(n i:Nat),(FD key val n l)[i]?=(l[i]?).map fun e=>⟨key e.1,val e.2,n+i⟩
 | [],n,i=>rfl
 | e::r,n,0=>rfl
 | e::r,n,i+1=>by simp only[FD,List.getElem?_cons_succ,RO r (n+1) i];rw[show n+1+i=n+(i+1) by omega]
theorem z5L {k:α}:∀{l:List (α×β)} {i:Nat},fC k l=some i→i<l.length
 | [],i,h=>by cases h
 | e::r,i,h=>by
  unfold fC at h;split at h
  ·cases h;simp
  ·obtain⟨j,hj,e2⟩:=Option.map_eq_some_iff.1 h
   have:=z5L hj;simp;omega
theorem dZ {k:α}:∀{l:List (α×β)} {i:Nat},fC k l=some i→l[i]?=(IA k l).map fun v=>(k,v)
 | [],i,h=>by cases h
 | e::r,i,h=>by
  unfold fC at h;unfold IA;split at h
  ·rename_i hk;cases h;simp [hk]
  ·rename_i hk
   obtain⟨j,hj,e2⟩:=Option.map_eq_some_iff.1 h;subst e2;rw[if_neg hk,List.getElem?_cons_succ];exact dZ hj
theorem z5M {k:α}:∀{l:List (α×β)},fC k l=none→IA k l=none
 | [],h=>rfl
 | e::r,h=>by
  unfold fC at h;unfold IA;split at h
  ·cases h
  ·rename_i hk
   rw[if_neg hk];exact z5M (by simpa using h)
theorem eZ {k:α}:∀{l:List (α×β)} {i:Nat},fC k l=some i→(IA k l).isSome=true
 | [],i,h=>by cases h
 | e::r,i,h=>by
  unfold fC at h;unfold IA;split at h
  ·rename_i hk;simp [hk]
  ·rename_i hk
   obtain⟨j,hj,e2⟩:=Option.map_eq_some_iff.1 h;rw[if_neg hk];exact eZ hj
theorem zfN {k:α}{l:List (α × β)}{n:Nat}:((fC k l).bind fun i=>(FD key val n l)[i]?).map ME.val=(IA k l).map val:=by
 cases h:fC k l with
 | none=>rw[z5M h];rfl
 | some i=>
  simp only[Option.bind_some,RO,dZ h];cases IA k l <;> rfl
theorem cZ {k:α}{v:β}:∀{l:List (α×β)},fC k l=none→XB k v l=l++[(k,v)]
 | [],h=>rfl
 | e::r,h=>by
  unfold fC at h;unfold XB;split at h
  ·cases h
  ·rename_i hk
   rw[if_neg hk,cZ (by simpa using h)];rfl
theorem z5F {k:α}{v:β}:∀{l:List (α×β)} {i:Nat},fC k l=some i→XB k v l=l.set i (k,v)
 | [],i,h=>by cases h
 | e::r,i,h=>by
  unfold fC at h;unfold XB;split at h
  ·rename_i hk;cases h;simp [hk]
  ·rename_i hk
   obtain⟨j,hj,e2⟩:=Option.map_eq_some_iff.1 h;subst e2;rw[if_neg hk,z5F hj];rfl
theorem z3Q (k:α)(v:β):∀(l:List (α×β)) (n:Nat),FD key val n (l++[(k,v)])=FD key val n l++[⟨key k,val v,n+l.length⟩]
 | [],n=>rfl
 | e::r,n=>by simp only[List.cons_append,FD,z3Q k v r (n+1),List.length_cons];rw[show n+1+r.length=n+(r.length+1) by omega]
theorem zfY {k:α}{v:β}{l:List (α × β)}{i n:Nat}(h:fC k l=some i):(FD key val n l).modify i (fun e=>{ e with val:=val v })=FD key val n (l.set i (k,v)):=by
 apply List.ext_getElem?
 intro j;rw[List.getElem?_modify,RO,RO,List.getElem?_set];have hi:=z5L h
 have hg:=dZ h
 by_cases hij:i=j
 ·subst hij
  rw[hg];simp only[if_true,hi];obtain⟨w,hw⟩:=Option.isSome_iff_exists.1 (eZ h);rw[hw];rfl
 ·simp [hij]
variable {h:aA} {id:Nat} {l:List (α × β)} {kk:Sh × List Nat} {k:α}
theorem z3R (hh:h[id]?=some (oB key val l)):NB h (.mp id)=some (id,FD key val 0 l,l.length):=by
 simp only[NB,hh,oB]
theorem JL (hk:dK key)(hh:h[id]?=some (oB key val l))(hq:tC kk (.p (key k))=some (key k)){ok:Bool}{z:AV} :
 WB kk ok z (.mp id) (.p (key k)) h=some (bif ok then .tup [((IA k l).map val).getD z,AV.p (.bool (IA k l).isSome)] else((IA k l).map val).getD z):=by
 simp only[WB,hq,z3R hh,Option.map_some,jW hk,zfN,Option.isSome_map];rfl
theorem mW (hk:dK key)(hh:h[id]?=some (oB key val l))(hq:tC kk (.p (key k))=some (key k)){v:β}(hv:fG (val v)=true) :
 uC kk (.mp id) (.p (key k)) (val v) h=some (.und,h.set id (oB key val (XB k v l)),bC id (val v)):=by
 simp only[uC,hq,z3R hh,hv,jW hk];cases hw:fC k l with
 | none=>
  simp only[oB,cZ hw,z3Q,List.length_append,List.length_cons,List.length_nil,Nat.zero_add]
 | some i=>
  simp only[oB,z5F hw,zfY hw,List.length_set]
theorem z3n (k k':α)(v:β):∀(l:List (α×β)),IA k' (XB k v l)=if k'=k then some v else IA k' l
 | []=>by simp [XB,IA]
 | e::r=>by
  unfold XB;by_cases h1:k=e.1
  ·rw[if_pos h1];simp only[IA]
   by_cases h2:k'=k
   ·simp [h2]
   ·rw[if_neg h2,if_neg h2,if_neg (by rw[←h1];exact h2)]
  ·rw[if_neg h1];simp only[IA,z3n k k' v r]
   by_cases h2:k'=e.1
   ·rw[if_pos h2,if_pos h2,if_neg (by rw[h2];exact fun h=>h1 h.symm)]
   ·rw[if_neg h2,if_neg h2]
end
end Go.Am
end
section
/- The shortest way between two states of a test access port: a search over a queue. -/
open Go
set_option linter.all false
namespace Go.Am
variable {h:aA} {K:kA}
attribute [-go_sem] WB uC cG dG
def nxtT:List (List Nat):=[[1,0],[1,2],[3,9],[4,5],[4,5],[6,8],[6,7],[4,8],[1,2],[10,0],[11,12],[11,12],[13,15],[13,14],[11,15],[1,2]]
def nxt (s t:Nat):Nat:=(nxtT.getD s []).getD t 0
theorem zgs {s t:Nat}(hs:s<16)(ht:t<2):([AI 1,AI 0,AI 1,AI 2,AI 3,AI 9,AI 4,AI 5,AI 4,AI 5,AI 6,AI 8,AI 6,AI 7,AI 4,AI 8,AI 1,AI 2,AI 10,AI 0,AI 11,AI 12,AI 11,AI 12,AI 13,AI 15,AI 13,AI 14,AI 11,AI 15,AI 1,AI 2]:List AV)[s*2+t*1]?=some (AI (nxt s t)):=by
 have hs':s=0∨s=1∨s=2∨s=3∨s=4∨s=5∨s=6∨s=7∨s=8∨s=9∨s=10∨s=11∨s=12∨s=13∨s=14∨s=15:=by omega
 have ht':t=0∨t=1:=by omega
 rcases hs' with rfl|rfl|rfl|rfl|rfl|rfl|rfl|rfl|rfl|rfl|rfl|rfl|rfl|rfl|rfl|rfl <;> rcases ht' with rfl|rfl <;> rfl
theorem zeq {Y:Ctx}(hY:Y.fn aH=some fK)(s t:Nat)(hs:s<16)(ht:t<2):gA Y aH [AI s,AI t] h K=K (AI (nxt s t)) h []:=by
 refine rule ?_;rw[yA hY rfl (show oA h [AI s,AI t]=some ([AI s,AI t],h) from rfl) rfl,zdw]
 show eV _ _ _ _ _ _ (mA [.t 4] false _ _)
 have g:=zgs hs ht
 simp only[eV,go_sem,hs,ht,g]
abbrev GC:=List (Int × List UInt8)
def KC (n:Int):PV:=.int .i64 n
def LC (s:List UInt8):AV:=.p (.str s)
def yG (t:Nat):List UInt8:=[UInt8.ofNat (48+t)]
def rG (at_ t:Nat)(s:GC × List Nat):GC×List Nat:=
 if(IA (nxt at_ t:Int) s.1).isSome then s else(XB (nxt at_ t:Int) ((IA (at_:Int) s.1).getD []++yG t) s.1,s.2++[nxt at_ t])
def AF (at_:Nat):Nat→GC×List Nat→GC×List Nat
 | 0,s=>s
 | t+1,s=>rG at_ t (AF at_ t s)
def popS (s:GC × List Nat):GC×List Nat:=match s.2 with
 | []=>s
 | a::r=>AF a 2 (s.1,r)
def bfs (a:Nat):Nat→GC×List Nat
 | 0=>([((a:Int),[])],[a])
 | k+1=>popS (bfs a k)
def fY (a b:Nat):List UInt8:=(IA (b:Int) (bfs a 16).1).getD []
def HI (s:GC × List Nat):Bool:=decide (s.1.length≤16)&&decide (s.2.length≤16)&&s.2.all (fun x=>decide (x<16))&&s.1.all (fun e=>decide (e.2.length≤16))
theorem z0g:(List.range 16).all (fun a=>(List.range 16).all (fun k=>HI (bfs a k) && !(bfs a k).2.isEmpty)&&HI (bfs a 16)&&(bfs a 16).2.isEmpty)=true:=by kernel_rfl
theorem z7Z {a k:Nat}(ha:a<16)(hk:k<16):HI (bfs a k)=true∧(bfs a k).2≠[]:=by
 have h1:=List.all_eq_true.1 z0g a (List.mem_range.2 ha)
 simp only[Bool.and_eq_true]at h1;have h2:=List.all_eq_true.1 h1.1.1 k (List.mem_range.2 hk)
 simp only[Bool.and_eq_true,Bool.not_eq_true',List.isEmpty_eq_false_iff]at h2;exact h2
theorem z7Y {a:Nat}(ha:a<16):HI (bfs a 16)=true∧(bfs a 16).2=[]:=by
 have h1:=List.all_eq_true.1 z0g a (List.mem_range.2 ha)
 simp only[Bool.and_eq_true,List.isEmpty_iff]at h1;exact⟨h1.1.2,h1.2⟩
theorem zdY {s:GC × List Nat}(hf:HI s=true):s.1.length≤16∧s.2.length≤16∧(∀x∈s.2,x<16)∧∀e∈s.1,e.2.length≤16:=by
 unfold HI at hf;simp only[Bool.and_eq_true,decide_eq_true_eq,List.all_eq_true]at hf;exact⟨hf.1.1.1,hf.1.1.2,hf.1.2,hf.2⟩
theorem z3I {hp:aA}{id:Nat}{m:GC}{b:Int}(hh:hp[id]?=some (oB KC LC m)):WB (none,[0]) false (.p (.str [])) (.mp id) (AI b) hp=some (.p (.str ((IA b m).getD []))):=by
 have:=JL (key:=KC) (val:=LC) (fun a b=>EL a b) hh (kk:=(none,[0])) (k:=b) FL (ok:=false) (z:=.p (.str []))
 rw[cond_false]at this;refine this.trans ?_;cases IA b m <;> rfl
theorem lookQ {hp:aA}{id:Nat}{m:GC}{b:Int}(hh:hp[id]?=some (oB KC LC m)):WB (none,[0]) true (.p (.str [])) (.mp id) (AI b) hp=some (.tup [.p (.str ((IA b m).getD [])),AB (IA b m).isSome]):=by
 have:=JL (key:=KC) (val:=LC) (fun a b=>EL a b) hh (kk:=(none,[0])) (k:=b) FL (ok:=true) (z:=.p (.str []))
 rw[cond_true]at this;refine this.trans ?_;cases IA b m <;> rfl
theorem updP {hp:aA}{id:Nat}{m:GC}{b:Int}{v:List UInt8}(hh:hp[id]?=some (oB KC LC m)):uC (none,[0]) (.mp id) (AI b) (.p (.str v)) hp=some (.und,hp.set id (oB KC LC (XB b v m)),[]):=
 mW (key:=KC) (val:=LC) (fun a b=>EL a b) hh (kk:=(none,[0])) (k:=b) FL (v:=v) rfl
structure Que (R:aA) (i:Nat) (xs:List Nat) (off:Nat) (q:List Nat):Prop where
 get:R[i]?=some (.row none (xs.map fun n:Nat=>eI n) 0)
 le:off≤xs.length
 eq:xs.drop off=q
theorem zgr {hp:aA}{id:Nat}{xs:List Nat}{off:Nat}{n:Int}{k:AV→aA→Esc→Prop}(hh:hp[id]?=some (.row none (xs.map fun n:Nat=>eI n) 0))(ho:off≤xs.length)(hm:xs.length≤1000000)
 (k1:k (.own id (xs.length+1) off (xs.length-off+1)) (hp.set id (.row none (xs.map (fun n:Nat=>eI n)++[eI n]) 0)) [])
 (k2:k (.own hp.length (xs.length-off+1) 0 (xs.length-off+1)) (hp++[.row none ((xs.drop off).map (fun n:Nat=>eI n)++[eI n]) 0]) []) :
 nqK (some none) [.own id xs.length off (xs.length-off),.p (.sl none [eI n])] hp k:=by
 have hx:xs.length-off+1≤PA:=by unfold PA;omega
 have hr:rds hp (.p (.sl none [eI n]))=some (none,[eI n]):=rfl
 have hw:win (xs.map fun n:Nat=>eI n) off (xs.length-off)=(xs.drop off).map fun n:Nat=>eI n:=by
  unfold win;rw[←List.map_drop];exact List.take_of_length_le (by simp)
 unfold nqK EG appq;simp only[hr,if_true,hh,List.length_map,List.length_cons,List.length_nil,Nat.zero_add];rw[if_pos ⟨trivial,trivial,by omega,hx,Nat.zero_le _⟩,hw]
 refine⟨by simp,fun y hy=>?_⟩
 simp only[List.mem_cons,List.not_mem_nil,or_false]at hy;rcases hy with rfl|rfl
 ·exact k1
 ·exact k2
theorem z3N {α β:Type}[DecidableEq α]{k:α}{v:β}:∀{l:List (α×β)} {e:α×β},e∈XB k v l→e∈l∨e=(k,v)
 | [],e,h=>by simp [XB]at h;exact .inr h
 | x::r,e,h=>by
  unfold XB at h;split at h
  ·rcases List.mem_cons.1 h with h|h
   ·exact .inr h
   ·exact .inl (List.mem_cons_of_mem _ h)
  ·rcases List.mem_cons.1 h with h|h
   ·exact .inl (h ▸ List.mem_cons_self)
   ·rcases z3N h with h|h
    ·exact .inl (List.mem_cons_of_mem _ h)
    ·exact .inr h
theorem z3m {α β:Type}[DecidableEq α]{k:α}{v:β}:∀{l:List (α×β)},IA k l=some v→(k,v)∈l
 | [],h=>by cases h
 | x::r,h=>by
  unfold IA at h;split at h
  ·rename_i he;cases h;subst he;simp
  ·exact List.mem_cons_of_mem _ (z3m h)
theorem z5K {n:Nat}{w:GC}(hw:∀ e∈w,e.2.length≤n)(k:Int):((IA k w).getD []).length≤n:=by
 cases hg:IA k w with
 | none=>simp
 | some v=>exact hw _ (z3m hg)
theorem zlP {n at_ t:Nat}{s:GC × List Nat}(hw:∀ e∈s.1,e.2.length≤n):∀e∈(rG at_ t s).1,e.2.length≤n+1:=by
 unfold rG;split
 ·intro e he;have:=hw e he;omega
 ·intro e he
  rcases z3N he with h|h
  ·have:=hw e h;omega
  ·subst h
   have:=z5K hw (at_:Int);simp [yG];omega
theorem z5G {n at_:Nat}{s:GC × List Nat}(hw:∀ e∈s.1,e.2.length≤n):∀(t:Nat),∀e∈(AF at_ t s).1,e.2.length≤n+t
 | 0=>hw
 | t+1=>zlP (z5G hw t)
set_option maxHeartbeats 1000000 in
theorem zep {Y:Ctx}(hY1:Y.fn bH=some QM)(hY2:Y.fn aH=some fK)(a b:Nat)(ha:a<16)(hb:b<16):gA Y bH [AI a,AI b] h K=K (.p (.str (fY a b))) h []:=by
 refine rule ?_;rw[z0u hY1 rfl (show oA h [AI a,AI b]=some ([AI a,AI b],h) from rfl) rfl]
 simp only[zdx];show ∃v h' x,_∧nO _ _ _ _ _ _ _ _ (mA [.t 4] false _ _)
 simp only[nO];refine⟨_,_,_,⟨rfl,rfl,rfl⟩,?_⟩;have em:oB KC LC [((a:Int),([]:List UInt8))] = .amap [⟨.int .i64 a,.p (.str []),0⟩] 1:=rfl
 have u0:=fun(hp:aA) (hh:hp[h.length]?=some (oB KC LC []))=>updP (b:=(a:Int)) (v:=[]) hh
 have e0:XB (a:Int) [] ([]:GC)=[((a:Int),[])]:=rfl
 have em0:oB KC LC ([]:GC) = .amap [] 0:=rfl
 rw[e0]at u0;simp only[em0]at u0;simp only[go_sem,u0];refine CA (fun t:Nat×aA×Nat×List Nat×Nat×Option Nat=>⟨[(1,AI b),(5,.mp h.length),(6,.own (h.length+(t.2.2.1+1)) t.2.2.2.1.length t.2.2.2.2.1 (t.2.2.2.1.length-t.2.2.2.2.1))]++(match t.2.2.2.2.2 with|none=>[]|some q=>[(7,AI q),(25,AI 2),(26,AB false)]),h++oB KC LC (bfs a t.1).1::t.2.1,[]⟩)
  (fun t=>t.1≤16∧Que t.2.1 t.2.2.1 t.2.2.2.1 t.2.2.2.2.1 (bfs a t.1).2∧t.2.2.2.1.length≤1+2*t.1) (fun t=>16-t.1) (0,[.row none [eI a] 0],0,[a],0,none) (by simp [bfs]) ⟨by simp,⟨rfl,by simp,rfl⟩,by simp⟩ ?_
 rintro⟨k,R,i,xs,off,oq⟩ ⟨h1,hq,h2⟩
 dsimp only at h1 hq h2 ⊢;have hqg:=hq.get
 have hle:=hq.le
 have heq:=hq.eq
 have hln:xs.length-off=(bfs a k).2.length:=by rw[←heq];simp
 by_cases hk:k<16
 ·obtain⟨hf,hne⟩:=z7Z ha hk
  obtain⟨f1,f2,f3,f4⟩:=zdY hf;have hpos:0<xs.length-off:=by rw[hln];exact List.length_pos_iff.2 hne
  have hoff:off<xs.length:=by omega
  obtain⟨q0,qr,hqe⟩:∃q0 qr,(bfs a k).2=q0::qr:=by
   cases hb2:(bfs a k).2 with
   | nil=>exact absurd hb2 hne
   | cons x y=>exact⟨x,y,rfl⟩
  have hx0:xs[off]?=some q0:=by
   have:(xs.drop off)[0]?=some q0:=by rw[heq,hqe];rfl
   rwa [List.getElem?_drop,Nat.add_zero]at this
  have hdr:xs.drop (off+1)=qr:=by
   rw[←List.drop_drop,heq,hqe];rfl
  have hq0:q0<16:=f3 q0 (by rw[hqe];simp)
  have hgq:(xs.map fun n:Nat=>eI n)[off]?=some (eI q0):=by rw[List.getElem?_map,hx0];rfl
  have hpi:(0:Int)<((xs.length-off:Nat):Int):=by omega
  have hl1:1≤xs.length-off:=by omega
  have hbn:bfs a (k+1)=AF q0 2 ((bfs a k).1,qr):=by show popS _=_;unfold popS;rw[hqe]
  have e3:xs.length-off-1=xs.length-(off+1):=by omega
  have hcond:off+(xs.length-off)≤xs.length:=by omega
  have hNL:∀(e:List (Nat×AV)),xA (some [1,5,6,7,25]) e=xA (some [1,5,6,7,25]) e:=fun _=>rfl
  rcases oq with _|oq
  all_goals
  simp only[List.append_nil,List.cons_append,List.nil_append,go_sem,List.getElem?_cons_succ,hqg,hpi,hpos,hgq,hl1,hcond];all_goals
  clear u0 em em0 e0;generalize hw0:((bfs a k).1,qr)=s0 at *;have es1:(bfs a k).1=s0.1:=by rw[←hw0]
  have es2:qr=s0.2:=by rw[←hw0]
  rw[es1,e3];refine CA (fun t:Nat×aA×Nat×List Nat×Nat=>⟨[(1,AI b),(5,.mp h.length),(6,.own (h.length+(t.2.2.1+1)) t.2.2.2.1.length t.2.2.2.2 (t.2.2.2.1.length-t.2.2.2.2)),(7,AI q0),(25,AI t.1)],h++oB KC LC (AF q0 t.1 s0).1::t.2.1,[]⟩)
   (fun t=>t.1≤2∧Que t.2.1 t.2.2.1 t.2.2.2.1 t.2.2.2.2 (AF q0 t.1 s0).2∧t.2.2.2.1.length≤1+2*k+t.1) (fun t=>2-t.1) (0,R,i,xs,off+1) rfl ⟨by simp,⟨hqg,hoff,by rw[hdr,es2];rfl⟩,by simp;omega⟩ ?_
  rintro⟨j,R',i',ys,of'⟩ ⟨j1,jq,j2⟩
  dsimp only at j1 jq j2 ⊢;have jg:=jq.get
  have jle:=jq.le
  have jeq:=jq.eq
  by_cases hj:j<2
  ·have hji:(j:Int)<2:=by omega
   have qn:=fun h K=>zeq (h:=h) (K:=K) hY2 q0 j hq0 hj
   have hvis:AF q0 (j+1) s0=rG q0 j (AF q0 j s0):=rfl
   generalize hsj:AF q0 j s0=s at *;have lq:=fun(hp:aA) (hh:hp[h.length]?=some (oB KC LC s.1))=>lookQ (b:=(nxt q0 j:Int)) hh
   have lp:=fun(hp:aA) (hh:hp[h.length]?=some (oB KC LC s.1))=>z3I (b:=(q0:Int)) hh
   have up:=fun(hp:aA) (v:List UInt8) (hh:hp[h.length]?=some (oB KC LC s.1))=>updP (b:=(nxt q0 j:Int)) (v:=v) hh
   have w1:IntKind.i64.wrap ((j:Int)+1)=((j+1:Nat):Int):=nA _ (by omega) (by omega)
   cases hs:(IA (nxt q0 j:Int) s.1).isSome with
   | true=>
    have hv:rG q0 j s=s:=by unfold rG;rw[if_pos hs]
    rw[hv]at hvis;simp only[go_sem,hji,↓qn,qn,lq,hs,w1];exact⟨(j+1,R',i',ys,of'),by dsimp only;rw[hvis],⟨by dsimp only;omega,by dsimp only;rw[hvis];exact jq,by dsimp only;omega⟩,by dsimp only;omega⟩
   | false=>
    have hv:rG q0 j s=(XB (nxt q0 j:Int) ((IA (q0:Int) s.1).getD []++yG j) s.1,s.2++[nxt q0 j]):=by unfold rG;rw[hs];rfl
    rw[hv]at hvis;have w2:IntKind.i64.wrap (48+(j:Int))=((48+j:Nat):Int):=nA _ (by omega) (by omega)
    have w3:IntKind.i32.wrap ((48+j:Nat):Int)=((48+j:Nat):Int):=by
     have:j=0∨j=1:=by omega
     rcases this with rfl|rfl <;> rfl
    have w4:(0:Int)≤((48+j:Nat):Int)∧((48+j:Nat):Int)<128:=by omega
    have hln2:=z5K (z5G (n:=16) (at_:=q0) (s:=s0) (by rw[←es1];exact f4) j) (q0:Int)
    rw[hsj]at hln2;have w5:((IA (q0:Int) s.1).getD []).length+(yG j).length≤LL:=by have:(yG j).length=1:=rfl;unfold LL;omega
    have w6:[UInt8.ofNat ((48+j:Nat):Int).toNat]=yG j:=rfl
    simp only[go_sem,hji,↓qn,qn,lq,hs,lp,up,w1,w2,w3,w4,w5,w6];have hh1:(h++oB KC LC (XB (nxt q0 j:Int) ((IA (q0:Int) s.1).getD []++yG j) s.1)::R')[h.length+(i'+1)]?=some (.row none (ys.map fun n:Nat=>eI n) 0):=by
     rw[List.getElem?_append_right (by omega)];simpa using jg
    have hi':i'<R'.length:=tA jg
    refine zgr hh1 jle (by omega) ?_ ?_
    ·refine⟨(j+1,R'.set i' (.row none (ys.map (fun n:Nat=>eI n)++[eI (nxt q0 j)]) 0),i',ys++[nxt q0 j],of'),?_,⟨by dsimp only;omega,⟨?_,?_,?_⟩,?_⟩,by dsimp only;omega⟩
     ·dsimp only
      rw[hvis,List.set_append_right _ _ (by omega)]
      simp only[List.length_append,List.length_cons,List.length_nil,Nat.add_sub_cancel_left,List.set_cons_succ];rw[show ys.length+1-of'=ys.length-of'+1 by omega]
     ·dsimp only
      rw[List.getElem?_set_self hi'];simp
     ·simp;omega
     ·dsimp only
      rw[hvis,List.drop_append_of_le_length jle,jeq]
     ·simp;omega
    ·refine⟨(j+1,R'++[.row none ((ys.drop of').map (fun n:Nat=>eI n)++[eI (nxt q0 j)]) 0],R'.length,ys.drop of'++[nxt q0 j],0),?_,⟨by dsimp only;omega,⟨?_,?_,?_⟩,?_⟩,by dsimp only;omega⟩
     ·dsimp only
      rw[hvis];simp
     ·simp
     ·simp
     ·dsimp only
      rw[hvis,jeq,List.drop_zero]
     ·simp;omega
  ·have hj2:j=2:=by omega
   subst hj2;simp only[go_sem];refine⟨(k+1,R',i',ys,of',some q0),?_,⟨by dsimp only;omega,by dsimp only;rw[hbn];exact jq,by dsimp only;omega⟩,by dsimp only;omega⟩
   dsimp only;rw[hbn]
 ·have hk16:k=16:=by omega
  subst hk16;obtain⟨_,hne⟩:=z7Y ha;have hz:xs.length-off=0:=by rw[hln,hne];rfl
  have lk:=fun(hp:aA) (hh:hp[h.length]?=some (oB KC LC (bfs a 16).1))=>z3I (b:=(b:Int)) hh
  have hpv:(IA (b:Int) (bfs a 16).1).getD []=fY a b:=rfl
  rcases oq with _|oq <;> simp only[List.append_nil,List.cons_append,List.nil_append,go_sem,hz,lk,hpv]
end Go.Am
end
section
/- ready: a zB call,computed. -/
open Go
set_option linter.all false
namespace Go.Am
def orcP (f:Nat)(a:List AV):Option AV:=bif Nat.beq f bH then match a with
 | [.p (.int .i64 x),.p (.int .i64 y)]=>bif decide (0≤x)&&decide (x<16)&&decide (0≤y)&&decide (y<16) then some (.p (.str (fY x.toNat y.toNat))) else none
 | _=>none else none
theorem zg0:∀ f a v,orcP f a=some v→∀h (K:kA),K v h []→gA X0 f a h K:=by
 intro f a v hv h K hK;unfold orcP at hv;cases hf:Nat.beq f bH with
 | false=>rw[hf]at hv;cases hv
 | true=>
  have hf':=Nat.eq_of_beq_eq_true hf
  rw[hf]at hv;subst hf';simp only[cond_true]at hv;split at hv
  ·rename_i x y
   cases hc:(decide (0≤x)&&decide (x<16)&&decide (0≤y)&&decide (y<16)) with
   | false=>rw[hc]at hv;cases hv
   | true=>
    rw[hc]at hv;simp only[cond_true,Option.some.injEq]at hv;simp only[Bool.and_eq_true,decide_eq_true_eq]at hc;obtain⟨a,rfl⟩:=Int.eq_ofNat_of_zero_le hc.1.1.1;obtain⟨b,rfl⟩:=Int.eq_ofNat_of_zero_le hc.1.2;have:=zep (h:=h) (K:=K) zlX zlW a b (by omega) (by omega)
    rw[this];subst hv;exact hK
  ·cases hv
theorem zjK:IK X0 orcP 1000 60 RG [] []=some (AB true,[],[]):=by kernel_rfl
theorem znx:gA X0 RG [] [] fun v h x=>v=AB true∧h=[]∧x=[]:=(z5Q zg0 1000 60 zjK _).2 ⟨rfl,rfl,rfl⟩
theorem z5j {h:aA}{K:kA}:gA X RG [] h K=K (AB true) h []:=NO (by kernel_rfl) rfl
end Go.Am
end
section
/- Rows that are handed tov a function: it sees their values. -/
open Go
namespace Go.Am
end Go.Am
end
section
/- What all laws of the keep package use. -/
open Go
set_option linter.all false
namespace Go.Am
variable {h:aA} {K:kA}
theorem z5f (l:List Int)(hl:l.length≤1000):gA X RF [AL l] h K=K (AI (cH l)) h []:=by
 refine rule ?_;rw[z8Y rfl];simp only[HN,go_sem];refine CA (fun k:Nat=>⟨[(5,AL l),(6,AI l.length),(7,AI k)],h,[]⟩) (fun k=>k≤l.length∧cH (l.drop k)=cH l) (fun k=>l.length-k) 0 rfl (by simp) ?_
 rintro k ⟨hk,hp⟩
 rcases Nat.lt_or_ge k l.length with hlt|hge
 ·have hg:=bB eI hlt
  have w2:IntKind.i64.wrap ((k:Int)+1)=((k+1:Nat):Int):=nA _ (by omega) (by omega)
  rw[List.drop_eq_getElem_cons hlt,cH]at hp;by_cases he:l[k]=0
  ·rw[if_pos he]at hp
   simp only[go_sem,hlt,hg,w2,he];exact⟨k+1,rfl,⟨by omega,hp⟩,by omega⟩
  ·rw[if_neg he]at hp
   simp only[go_sem,hlt,hg,w2,he];rw[hp]
 ·have e1:k=l.length:=by omega
  subst e1;simp only[go_sem,Nat.lt_irrefl];rw[List.drop_length]at hp;rw[←hp];rfl
end Go.Am
end
section
/- What is drawn and right: limits,records. -/
open Go
set_option linter.all false
namespace Go.Am
variable {L:List Int} {a:Int} {h l:aA} {id:Nat} {K:kA}
theorem z3D {l:List Lim}(h2:l.length≤3)(hb:∀ x∈l,LimBd x):LimOk l:=⟨by omega,fun x hx=>(hb x hx).k⟩
theorem zel (hp:LA 200 a):qC YK [] L a (fun v a2=>a≤a2∧a2≤a+72∧∃l:List Lim,1≤l.length∧l.length≤3∧(∀x∈l,LimBd x)∧PC l=0∧v=JA l):=by
 refine qC.of fun h id hid=>?_
 rw[z9j rfl];simp only[PN,go_sem,hid];refine CA (fun t:Nat×Int=>⟨[(0,.ref id 0),(4,AI t.1)],h.set id (AA L t.2),[]⟩) (fun t=>t.1≤6∧a≤t.2∧t.2≤a+12*t.1) (fun t=>6-t.1) (0,a) rfl ⟨by simp,by simp,by simp⟩ ?_
 rintro⟨k,b⟩ ⟨h1,h2,h3⟩
 dsimp only at h1 h2 h3 ⊢;rcases Nat.lt_or_ge k 6 with hlt|hge
 ·have hk:(k:Int)<6:=by omega
  have w1:IntKind.i64.wrap ((k:Int)+1)=((k+1:Nat):Int):=nA _ (by omega) (by omega)
  obtain⟨_,a2,⟨c1,c2,l,l1,l2,lb,rfl⟩,V⟩:=(zej (L:=L) (a:=b) (sE hp h2 (by omega))).set (h:=h) hid
  have F:=fun h K=>z4R (h:=h) (K:=K) l (z3D l2 lb).k (by omega)
  by_cases hf:PC l=0
  ·simp only[go_sem,hid,hk,↓V,V,↓F,F,hf]
   exact⟨a2,⟨by omega,by omega,l,l1,l2,lb,hf,rfl⟩,rfl⟩
  ·simp only[go_sem,hid,hk,↓V,V,↓F,F,hf,w1]
   exact⟨(k+1,a2),rfl,⟨by dsimp only;omega,by dsimp only;omega,by dsimp only;omega⟩,by dsimp only;omega⟩
 ·have hk:¬(k:Int)<6:=by omega
  simp only[go_sem,hid,hk];refine⟨b,⟨by omega,by omega,[⟨[118,111,108,116],0,10,5⟩],by simp,by simp,fun x hx=>?_,by decide,rfl⟩,rfl⟩
  rw[List.mem_singleton]at hx;subst hx;exact⟨by simp,by simp,by simp⟩
theorem zem (hp:LA 20000 a)(l:List Lim)(hl1:1≤l.length)(hl2:l.length≤3)(hl:LimOk l)(hz:PC l=0)(n:Nat)(hn:n≤19) :
 qC ZK [JA l,AI n] L a (fun v a2=>a≤a2∧a2≤a+12000∧∃rs:List Rec,rs.length≤n∧(∀r∈rs,RecOk r)∧QA l rs=0∧v=UA rs):=by
 refine qC.of fun h id hid=>?_
 rw[z9k rfl];simp only[QN,go_sem,hid];refine CA (fun t:Nat×Int=>⟨[(0,.ref id 0),(1,JA l),(2,AI n),(8,AI t.1)],h.set id (AA L t.2),[]⟩) (fun t=>t.1≤6∧a≤t.2∧t.2≤a+2000*t.1) (fun t=>6-t.1) (0,a) rfl ⟨by simp,by simp,by simp⟩ ?_
 rintro⟨k,b⟩ ⟨h1,h2,h3⟩
 dsimp only at h1 h2 h3 ⊢;rcases Nat.lt_or_ge k 6 with hlt|hge
 ·have hk:(k:Int)<6:=by omega
  have w1:IntKind.i64.wrap ((k:Int)+1)=((k+1:Nat):Int):=nA _ (by omega) (by omega)
  obtain⟨_,a2,⟨c1,c2,rs,r1,r2,rfl⟩,V⟩:=(zek (L:=L) (a:=b) (sE hp h2 (by omega)) l hl1 hl2 n hn).set (h:=h) hid
  have F:=fun h K=>zko (h:=h) (K:=K) l rs hl r2 (by omega)
  by_cases hf:QA l rs=0
  ·simp only[go_sem,hid,hk,↓V,V,↓F,F,hf]
   exact⟨a2,⟨by omega,by omega,rs,r1,r2,hf,rfl⟩,rfl⟩
  ·simp only[go_sem,hid,hk,↓V,V,↓F,F,hf,w1]
   exact⟨(k+1,a2),rfl,⟨by dsimp only;omega,by dsimp only;omega,by dsimp only;omega⟩,by dsimp only;omega⟩
 ·have hk:¬(k:Int)<6:=by omega
  simp only[go_sem,hid,hk];refine⟨b,⟨by omega,by omega,[],by simp,by simp,?_,rfl⟩,rfl⟩
  unfold QA;rw[if_neg (by simp [hz])]
  rfl
end Go.Am
end
section
/- A text split at a byte. -/
set_option linter.all false
namespace Go.Am
end Go.Am
end
section
/- A text read line by line. -/
set_option linter.all false
namespace Go.Am
end Go.Am
end
section
/- Numbers in texts. -/
set_option linter.all false
namespace Go.Am
end Go.Am
end
section
/- Faults of nets: what the words mean,in plain Lean. -/
set_option linter.all false
namespace Go.Am
structure Flt where
 kind:Int
 nets:List Int
 deriving DecidableEq
end Go.Am
end
section
/- Faults read: the program's line and the reference's line agree. -/
set_option linter.all false
namespace Go.Am
end Go.Am
end
section
/- What is written is read: numbers,words,lines. -/
set_option linter.all false
namespace Go.Am
end Go.Am
end
section
/- Where a byte stands in a text. -/
open Go
set_option linter.all false
namespace Go.Am
variable {h:aA} {K:kA}
end Go.Am
end
section
/- Lists of strings sorted,left out: printed by program. -/
open Go
set_option linter.unusedSimpArgs false
namespace Go.Am
attribute [-go_sem] PV.cells splice
variable {h:aA} {K:kA}
end Go.Am
end
section
/- Lists of strings. -/
open Go
set_option linter.all false
namespace Go.Am
variable {h:aA} {K:kA}
end Go.Am
end
section
/- The abstract machine,part L4: strings.Repeat,strings.Trim,math/bits.TrailingZeros64 asv rows. -/
set_option linter.all false
namespace Go.Am
variable {P:Program} {gl:Nat→Option PV}
open Go.Shelf
theorem z7V {w w':World}(h:Go.RowKit.Below w.heap.size w w'):WExt w w':=⟨h.size,fun b hb=>h.block b hb,by unfold zed;rw[h.os,h.tape,h.output]⟩
theorem zfH (s cs:List UInt8):Go.Lib.trimS s cs=z58 s cs:=rfl
theorem trimRow {ρ:Ren}(L:Go.Proofs.Lays.n160 P ρ)(h116:(P.info? (ρ.t 116)).map (fun i=>(i.zero,i.size))=some (some (.agg (Array.replicate 256 (.bool false))),256))(he:∀ us w,(callFunc (ρ.f 160) us).run P w = .ok (.enter (ρ.f 160) us) w):PureRow P gl (ρ.f 160) trimS where
 enter:=he
 run M w vs r us hc hb hG hl hr hs:=by
  unfold trimS at hs;split at hs
  ·rename_i s cs
   split at hs
   ·rename_i hbd
    match us,hl with
    | [u,v],_=>
     have q:=hr 0 _ u rfl rfl
     cases q;have q2:=hr 1 _ v rfl rfl
     cases q2;simp only[Option.some.injEq]at hs
     subst hs;have hsz:∀l:List UInt8,(⟨l.toArray⟩:ByteArray).size=l.length:=fun l=>by simp [ByteArray.size]
     refine(Go.Proofs.Any.strings_Trim_laid L h116 ⟨s.toArray⟩ ⟨cs.toArray⟩ w (by rw[hsz];omega) (by rw[hsz];omega) (Go.Proofs.ascii_of_all hbd.2.2)).mono fun e w' h=>?_
     obtain⟨rfl,h⟩:=h;exact⟨_,rfl,z7V h,by rw[←zfH];exact .p _ _ (.str _)⟩
   ·cases hs
  ·cases hs
end Go.Am
end
section
/- The abstract machine,part L5: strings.Count at one byte,strings.Join asv rows. -/
set_option linter.all false
namespace Go.Am
variable {P:Program} {gl:Nat→Option PV}
open Go.Shelf
end Go.Am
end
section
/- Texts split at a byte. -/
open Go
set_option linter.all false
namespace Go.Am
variable {h:aA} {K:kA}
end Go.Am
end
section
/- Lines of a text. -/
open Go
set_option linter.all false
namespace Go.Am
variable {h:aA} {K:kA}
end Go.Am
end
section
/- Numbers read. -/
open Go
set_option linter.all false
namespace Go.Am
variable {h:aA} {K:kA}
end Go.Am
end
section
/- Several numbers read. -/
open Go
set_option linter.all false
namespace Go.Am
variable {h:aA} {K:kA}
end Go.Am
end
section
/- Numbers read,the reference's way. -/
open Go
set_option linter.all false
namespace Go.Am
variable {h:aA} {K:kA}
end Go.Am
end
section
/- Tests and faults: what is wrong with them,both ways. -/
open Go
set_option linter.all false
namespace Go.Am
variable {h:aA} {K:kA}
end Go.Am
end
section
/- Faults: what is wrong with them,both ways. -/
open Go
set_option linter.all false
namespace Go.Am
variable {h:aA} {K:kA}
def Flt.pv (f:Flt):PV:=.agg [eI f.kind,.sl none (f.nets.map eI)]
end Go.Am
end
section
/- Where a string stands among strings;words. -/
open Go
set_option linter.all false
namespace Go.Am
variable {h:aA} {K:kA}
end Go.Am
end
section
/- Numbers written,joined. -/
open Go
set_option linter.all false
namespace Go.Am
variable {h:aA} {K:kA}
end Go.Am
end
section
/- A builder of strings. -/
open Go
set_option linter.all false
namespace Go.Am
variable {h:aA} {K:kA}
end Go.Am
end
section
/- Numbers asv sets of bits;rows of a test asv numbers. -/
set_option linter.all false
namespace Go.Am
end Go.Am
end
section
/- Lists of faults: what is wrong with them,both ways. -/
open Go
set_option linter.all false
namespace Go.Am
variable {h:aA} {K:kA}
end Go.Am
end
section
/- Rows of a test asv numbers. -/
open Go
set_option linter.all false
namespace Go.Am
variable {h:aA} {K:kA}
end Go.Am
end
section
/- Faults on rows: what the program makes of them. -/
open Go
set_option linter.all false
namespace Go.Am
variable {h:aA} {K:kA}
end Go.Am
end
section
/- Responses,asv the program computes them. -/
open Go
set_option linter.all false
namespace Go.Am
variable {h:aA} {K:kA}
end Go.Am
end
section
/- Faults written. -/
open Go
set_option linter.all false
namespace Go.Am
variable {h:aA} {K:kA}
end Go.Am
end
section
/- Records asv texts,plainly: read both ways. -/
set_option linter.all false
namespace Go.Am
end Go.Am
end
section
/- A text taken line by line: base.Each,scanref2.Lines. -/
open Go
set_option linter.all false
namespace Go.Am
variable {h:aA} {K:kA}
end Go.Am
end
section
/- Faults read. -/
open Go
set_option linter.all false
namespace Go.Am
variable {h:aA} {K:kA}
end Go.Am
end
section
/- Lists of faults read. -/
open Go
set_option linter.all false
namespace Go.Am
variable {h:aA} {K:kA}
end Go.Am
end
section
/- fault.Read,scanref2.FaultsRead. -/
open Go
set_option linter.all false
namespace Go.Am
variable {h:aA} {K:kA}
end Go.Am
end
section
/- Sorting the middle of a row: printed by program. -/
open Go
set_option linter.unusedSimpArgs false
namespace Go.Am
attribute [-go_sem] PV.cells splice
variable {h:aA} {K:kA}
end Go.Am
end
section
/- What is drawn: orders,tests. -/
open Go
set_option linter.all false
namespace Go.Am
variable {L:List Int} {a:Int} {h l:aA} {id:Nat} {K:kA}
def GenK (f:Nat)(args:List AV)(L:List Int)(a:Int)(sh:Sh)(Q:List PV→Int→Prop):Prop:=∀(h:aA) (id:Nat),h[id]?=some (AA L a)→∃xs a2,Q xs a2∧∀K:kA,gA X f (.ref id 0::args) h K=K (.own h.length xs.length 0 xs.length) (h.set id (AA L a2)++[.row sh xs 0]) []
theorem GenK.of {f:Nat}{args:List AV}{L:List Int}{a:Int}{sh:Sh}{Q:List PV→Int→Prop}(H:∀ (h:aA) (id:Nat),id<h.length→gA X f (.ref id 0::args) (h.set id (AA L a)) fun v1 h1 x1=>∃ xs a2,Q xs a2∧v1 = .own h.length xs.length 0 xs.length∧h1=h.set id (AA L a2)++[.row sh xs 0]∧x1=[]):GenK f args L a sh Q:=by
 intro h id hh;have hid:=ED hh
 have k:=H h id hid
 rw[xF hh]at k;obtain⟨v,h',x,⟨xs,a2,q,e0,e1,e2⟩,r⟩:=gA.one NZ k;subst e0;subst e1;subst e2
 exact⟨xs,a2,q,r⟩
end Go.Am
end
section
/- A text changed at random. -/
open Go
set_option linter.all false
namespace Go.Am
variable {L:List Int} {a:Int} {h l:aA} {id:Nat} {K:kA}
end Go.Am
end
section
/- What is drawn: faults. -/
open Go
set_option linter.all false
namespace Go.Am
variable {L:List Int} {a:Int} {h l:aA} {id:Nat} {K:kA}
end Go.Am
end
section
/- Deleting faults: printed by program. -/
open Go
set_option linter.unusedSimpArgs false
namespace Go.Am
attribute [-go_sem] PV.cells splice
variable {h:aA} {K:kA}
attribute [-go_sem] AV.cells cut
attribute [go_sem] AV.cells cut
end Go.Am
end
section
/- What is drawn: lists of faults. -/
open Go
set_option linter.all false
namespace Go.Am
variable {L:List Int} {a:Int} {h l:aA} {id:Nat} {K:kA}
end Go.Am
end
section
/- Stable sorts of numbers: printed by program. -/
open Go
set_option linter.unusedSimpArgs false
namespace Go.Am
attribute [-go_sem] PV.cells splice
variable {h:aA} {K:kA}
end Go.Am
end
section
/- Faults compared;texts of faults drawn. -/
open Go
set_option linter.all false
namespace Go.Am
variable {L:List Int} {a:Int} {h:aA} {K:kA}
end Go.Am
end
section
/- Records read: a line,both ways. -/
open Go
set_option linter.all false
set_option maxRecDepth 100000
namespace Go.Am
variable {h:aA} {K:kA}
end Go.Am
end
section
/- Records read: the program's line. -/
open Go
set_option linter.all false
set_option maxRecDepth 100000
namespace Go.Am
variable {h:aA} {K:kA}
end Go.Am
end
section
/- Records read: all lines. -/
open Go
set_option linter.all false
set_option maxRecDepth 100000
namespace Go.Am
variable {h:aA} {K:kA}
end Go.Am
end
section
/- lot.Read,scanref2.RecordsRead. -/
open Go
set_option linter.all false
set_option maxRecDepth 100000
namespace Go.Am
variable {h:aA} {K:kA}
end Go.Am
end
section
/- scanref2.RecordsRead. -/
open Go
set_option linter.all false
set_option maxRecDepth 100000
namespace Go.Am
variable {h:aA} {K:kA}
end Go.Am
end
section
/- Records compared. -/
open Go
set_option linter.all false
set_option maxRecDepth 100000
namespace Go.Am
variable {h:aA} {K:kA}
theorem zkp (x y:Rec)(hx:x.res.length≤1000000):gA X SF [.p x.pv,.p y.pv] h K=K (AB (decide (x=y))) h []:=by
 refine rule ?_;rw[z9q rfl];have q:=fun h K=>z4M (h:=h) (K:=K) x.res y.res (by omega)
 have fx:Rec.pv x = .agg [.str x.unit,eI x.time,.str x.site,.sl none (x.res.map eI)]:=rfl
 have fy:Rec.pv y = .agg [.str y.unit,eI y.time,.str y.site,.sl none (y.res.map eI)]:=rfl
 have e:decide (x=y)=(decide (x.unit=y.unit)&&decide (x.time=y.time)&&decide (x.site=y.site)&&decide (x.res=y.res)):=by
  obtain⟨a,b,c,d⟩:=x;obtain⟨a2,b2,c2,d2⟩:=y
  simp [Rec.mk.injEq,Bool.and_assoc]
 rw[fx,fy,e];by_cases h1:x.unit=y.unit
 ·by_cases h2:x.time=y.time
  ·by_cases h3:x.site=y.site
   ·simp only[JG,go_sem,h1,h2,h3,↓q,q,splice]
   ·simp only[JG,go_sem,h1,h2,h3,splice]
  ·simp only[JG,go_sem,h1,h2,splice]
 ·simp only[JG,go_sem,h1,splice]
end Go.Am
end
section
/- Records compared,all. -/
open Go
set_option linter.all false
set_option maxRecDepth 100000
namespace Go.Am
variable {h:aA} {K:kA}
theorem qY {r:Rec}:MA (some 4) 0 r.pv=some r.pv:=rfl
theorem zkk (x y:List Rec)(ha:x.length≤1000000)(hr:∀ f∈x,f.res.length≤1000000):gA X CI [UA x,UA y,.fn SF []] h K=K (AB (decide (x=y))) h []:=by
 refine rule ?_;rw[z94 rfl];by_cases hl:x.length=y.length
 ·have hl':(x.length:Int)=(y.length:Int):=by omega
  simp only[DK,go_sem,eq_true hl'];refine CA (fun k:Nat=>⟨[(1,UA y),(2,.fn SF []),(15,UA x),(16,AI x.length),(17,AI k)],h,[]⟩) (fun k=>k≤x.length∧x.take k=y.take k) (fun k=>x.length-k) 0 rfl ⟨by omega,rfl⟩ ?_
  rintro k ⟨hk,hp⟩
  rcases Nat.lt_or_ge k x.length with hlt|hge
  ·have hkb:k<y.length:=by omega
   have g1:=bB Rec.pv hlt
   have g2:=bB Rec.pv hkb
   have c1:=qY (r:=x[k])
   have c2:=qY (r:=y[k])
   have q:=fun h K=>zkp (h:=h) (K:=K) x[k] y[k] (hr _ (List.getElem_mem hlt))
   simp only[Rec.pv]at q g1 g2 c1 c2;have w2:IntKind.i64.wrap ((k:Int)+1)=((k+1:Nat):Int):=nA _ (by omega) (by omega)
   by_cases hs:x[k]=y[k]
   ·rw[decide_eq_true hs]at q
    simp only[go_sem,hlt,hkb,g1,g2,c1,c2,↓q,q,w2];refine⟨k+1,rfl,⟨by omega,?_⟩,by omega⟩
    rw[List.take_succ_eq_append_getElem hlt,List.take_succ_eq_append_getElem hkb,hp,hs]
   ·rw[decide_eq_false hs]at q
    have:¬x=y:=fun e=>by subst e;exact hs rfl
    simp only[go_sem,hlt,hkb,g1,g2,c1,c2,↓q,q,this]
  ·have ek:k=x.length:=by omega
   subst ek;have:x=y:=by rw[List.take_length,hl,List.take_length]at hp;exact hp
   simp only[go_sem,Nat.lt_irrefl,eq_true this]
 ·have hl':¬(x.length:Int)=(y.length:Int):=by omega
  have:¬x=y:=fun e=>hl (by rw[e])
  simp only[DK,go_sem,hl',this]
end Go.Am
end
section
/- Records drawn into two parts. -/
open Go
set_option linter.all false
set_option maxRecDepth 100000
namespace Go.Am
variable {L:List Int} {a:Int} {h:aA} {K:kA}
attribute [-go_sem] kH
structure PtsR (rs:List Rec) (k:Nat) (p q:List Rec):Prop where
 hp:p.Sublist (rs.take k)
 hq:q.Sublist (rs.take k)
 c:∀e∈rs.take k,e∈p∨e∈q
theorem PtsR.len {rs:List Rec}{k:Nat}{p q:List Rec}(I:PtsR rs k p q):p.length≤k∧q.length≤k:=by
 have h1:=I.hp.length_le
 have h2:=I.hq.length_le
 rw[List.length_take]at h1 h2;omega
theorem PtsR.step {rs:List Rec}{k:Nat}{p q:List Rec}(I:PtsR rs k p q)(hk:k<rs.length):PtsR rs (k+1) (p++[rs[k]]) q∧PtsR rs (k+1) p (q++[rs[k]])∧PtsR rs (k+1) (p++[rs[k]]) (q++[rs[k]]):=by
 have e:=List.take_succ_eq_append_getElem hk
 have p1:(p++[rs[k]]).Sublist (rs.take (k+1)):=by rw[e];exact I.hp.append (List.Sublist.refl _)
 have q1:(q++[rs[k]]).Sublist (rs.take (k+1)):=by rw[e];exact I.hq.append (List.Sublist.refl _)
 have p2:p.Sublist (rs.take (k+1)):=by rw[e];exact I.hp.trans (List.sublist_append_left ..)
 have q2:q.Sublist (rs.take (k+1)):=by rw[e];exact I.hq.trans (List.sublist_append_left ..)
 refine⟨⟨p1,q2,fun x hx=>?_⟩,⟨p2,q1,fun x hx=>?_⟩,⟨p1,q1,fun x hx=>?_⟩⟩ <;>
 ·rw[e,List.mem_append,List.mem_singleton]at hx
  rcases hx with hx|hx
  ·rcases I.c x hx with y|y <;> simp [y]
  ·simp [hx]
set_option maxHeartbeats 4000000 in
theorem zeo (rs:List Rec)(hl:rs.length≤100)(hp:LA 200 a) :
 qC VK [UA rs] L a (fun v a2=>a≤a2∧a2≤a+100∧∃p q:List Rec,p.Sublist rs∧q.Sublist rs∧(∀e∈rs,e∈p∨e∈q)∧v = .tup [UA p,UA q]):=by
 refine qC.of fun h id hid=>?_
 rw[z8Z rfl];simp only[IN,go_sem,hid,List.length_map];refine CA (fun t:Nat×Int×List Rec×List Rec=>⟨[(0,.ref id 0),(6,.own h.length t.2.2.1.length 0 t.2.2.1.length),(7,.own (h.length+1) t.2.2.2.length 0 t.2.2.2.length),(10,UA rs),(11,AI rs.length),(12,AI t.1)],h.set id (AA L t.2.1)++[.row (some 4) (t.2.2.1.map Rec.pv) 0,.row (some 4) (t.2.2.2.map Rec.pv) 0],[]⟩)
  (fun t=>t.1≤rs.length∧(a≤t.2.1∧t.2.1≤a+t.1)∧PtsR rs t.1 t.2.2.1 t.2.2.2) (fun t=>rs.length-t.1) (0,a,[],[]) rfl ⟨by simp,by simp,⟨by simp,by simp,by simp⟩⟩ ?_
 rintro⟨k,b,p,q⟩ ⟨q1,⟨q3,q4⟩,q5⟩
 dsimp only at q1 q3 q4 q5;have f2:h.length+1≤h.length+2:=by omega
 have f3:h.length+1+1≤h.length+2:=by omega
 have f1:id+1≤h.length+2:=by omega
 obtain⟨pl,ql⟩:=q5.len;rcases Nat.lt_or_ge k rs.length with hlt|hge
 ·have P:=jG (sE hp q3 (show b+14≤a+200 by omega))
  have w1:IntKind.i64.wrap ((k:Int)+1)=((k+1:Nat):Int):=nA _ (by omega) (by omega)
  have hlt':(k:Int)<(rs.length:Int):=by omega
  have fp:∀y:Rec,Rec.pv y = .agg [.str y.unit,eI y.time,.str y.site,.sl none (y.res.map eI)]:=fun _=>rfl
  have hg:=bB Rec.pv hlt
  have cx:=qY (r:=rs[k])
  obtain⟨s1,s2,s3⟩:=q5.step hlt;generalize rs[k]=e at *;have mp:p.length+1≤PA:=by unfold PA;omega
  have mq:q.length+1≤PA:=by unfold PA;omega
  have zp:(p.map Rec.pv).length=p.length:=List.length_map ..
  have zq:(q.map Rec.pv).length=q.length:=List.length_map ..
  have nb:=ZF L b 3 (by omega) (by omega)
  have ep:p.map Rec.pv++[PV.agg [.str e.unit,eI e.time,.str e.site,.sl none (e.res.map eI)]]=(p++[e]).map Rec.pv:=by rw[List.map_append];rfl
  have eq:q.map Rec.pv++[PV.agg [.str e.unit,eI e.time,.str e.site,.sl none (e.res.map eI)]]=(q++[e]).map Rec.pv:=by rw[List.map_append];rfl
  have lp:p.length+1=(p++[e]).length:=by simp
  have lq:q.length+1=(q++[e]).length:=by simp
  by_cases n0:jB L b 3=0
  ·simp only[go_sem,hlt,hlt',hg,cx,fp,splice,hid,P,w1,n0,mp,mq,zp,zq,f1,f2,f3]
   refine⟨(k+1,b+1,p++[e],q),?_,⟨by omega,⟨by dsimp only;omega,by dsimp only;omega⟩,s1⟩,by dsimp only;omega⟩
   rw[←ep,←lp]
  ·by_cases n1:jB L b 3=1
   ·simp only[go_sem,hlt,hlt',hg,cx,fp,splice,hid,P,w1,n0,n1,mp,mq,zp,zq,f1,f2,f3]
    refine⟨(k+1,b+1,p,q++[e]),?_,⟨by omega,⟨by dsimp only;omega,by dsimp only;omega⟩,s2⟩,by dsimp only;omega⟩
    rw[←eq,←lq]
   ·simp only[go_sem,hlt,hlt',hg,cx,fp,splice,hid,P,w1,n0,n1,mp,mq,zp,zq,f1,f2,f3]
    refine⟨(k+1,b+1,p++[e],q++[e]),?_,⟨by omega,⟨by dsimp only;omega,by dsimp only;omega⟩,s3⟩,by dsimp only;omega⟩
    rw[←ep,←eq,←lp,←lq]
 ·have e:k=rs.length:=by omega
  subst e;simp only[go_sem,Nat.lt_irrefl];have tk:rs.take rs.length=rs:=List.take_length
  have i1:=q5.hp
  have i2:=q5.hq
  have i3:=q5.c
  rw[tk]at i1 i2 i3;refine⟨b,⟨q3,by omega,p,q,i1,i2,i3,?_⟩,rfl⟩
  rw[UE (show(p.map Rec.pv).length=p.length from List.length_map ..),UE (show(q.map Rec.pv).length=q.length from List.length_map ..)]
end Go.Am
end
section
/- Deleting values: printed by program. -/
open Go
set_option linter.unusedSimpArgs false
namespace Go.Am
attribute [-go_sem] PV.cells splice
variable {h:aA} {K:kA}
end Go.Am
end
section
/- Plain lists: the narrowest window of a sorted list,and the narrowest of all z4m that leave few values outside. -/
namespace Go.Am
def outTi (g:List Int)(u v:Int):Nat:=g.countP fun n=>!(decide (u≤n)&&decide (n≤v))
def zj7 (g:List Int)(most:Int)(i:Nat):List (Int×Int):=((g.drop i).map fun v=>(g.getD i 0,v)).filter fun p=>decide ((outTi g p.1 p.2:Int)≤most)
def z4m (g:List Int)(most:Int):List (Int×Int):=(List.range g.length).flatMap (zj7 g most)
end Go.Am
end
section
/- Values of a test;limits asv narrow asv can be: package lot. -/
open Go
set_option linter.unusedSimpArgs false
namespace Go.Am
variable {h:aA} {K:kA}
def ordB (x:Rec):Option Rec→Bool
 | some q=>decide (EA x q≤0)
 | none=>false
theorem zjN {l:List Lim}{p:Option Rec}{x:Rec}{r:List Rec}:wC l p (x::r)=if GB l x≠0 then GB l x else if ordB x p=true then 7 else wC l (some x) r:=by cases p <;> rfl
theorem z4w {l:List Lim}:∀{r:List Rec} {p:Option Rec},wC l p r=0→∀x∈r,GB l x=0
 | [],_,_,x,hx=>by cases hx
 | y::r,p,h,x,hx=>by
  rw[zjN]at h;by_cases h1:GB l y=0
  ·rw[if_neg (by simp [h1])]at h
   by_cases h2:ordB y p=true
   ·rw[if_pos h2]at h
    exact absurd h (by decide)
   ·rw[if_neg h2]at h
    rcases List.mem_cons.1 hx with rfl|hx
    ·exact h1
    ·exact z4w h x hx
  ·rw[if_pos h1]at h
   exact absurd h h1
theorem sY {l:List Lim}{r:List Rec}(h:QA l r=0):∀x∈r,GB l x=0:=by
 unfold QA tH at h;split at h
 ·rename_i h1;exact absurd h h1
 ·split at h
  ·cases h
  ·exact z4w h
end Go.Am
end
section
/- Retests: which record of a unit counts,asv the program finds it. -/
open Go
set_option linter.all false
namespace Go.Am
variable {h:aA} {K:kA}
theorem zkv (a b:Rec):gA X qI [.p a.pv,.p b.pv] h K=K (AI (TE a b)) h []:=by
 refine rule ?_;rw[z8K rfl];simp only[xN,Rec.pv,go_sem,KQ];rfl
def xC (ru:Int):Int:=if 1≤ru∧ru≤3 then 0 else 4
theorem KY (l:List Lim)(r:List Rec)(ru:Int)(hl:LimOk l)(hr:∀ x∈r,RecOk x)(hn:r.length≤1000000):gA X PG [JA l,UA r,AI ru] h K=K (AI (orL [QA l r,xC ru])) h []:=by
 refine rule ?_;rw[z8T rfl];have q:=fun h K=>DY (h:=h) (K:=K) l r hl hr hn
 by_cases h1:QA l r=0
 ·by_cases h2:1≤ru∧ru≤3
  ·have e:inB 1 ru 3=true:=by simp [inB,h2]
   simp only[SH,go_sem,q,h1,oG,e,orL,xC,h2]
  ·have e:inB 1 ru 3=false:=by simp only[inB];simp;omega
   simp only[SH,go_sem,q,h1,oG,e,orL,xC,h2]
 ·simp only[SH,go_sem,q,h1,orL]
def KD (p:SS):PV:=.agg [.str p.1,.str p.2]
abbrev ASS (l:List SS):AV:=.p (.sl (some 2) (l.map KD))
theorem z4Q (n:Int)(h0 : -9223372036854775808≤n)(h1:n≤9223372036854775807):gA X mL [AI n] h K=K (AS (itoa n)) h []:=by
 refine NO (X:=X) (by kernel_rfl) ?_
 first|rw[show X.ex2=qE GRL PRL from rfl]|skip
 exact z3B (vs:=[.int .i64 n]) (by kernel_rfl) (s:=NI) rfl rfl (by simp [NI,h0,h1])
theorem z5i (s:List UInt8)(n:Int)(h0 : -9223372036854775808≤n)(h1:n≤9223372036854775807):gA X tI [AS s,AI n] h K=K (.p (KD (s,itoa n))) h []:=by
 refine rule ?_;rw[z8P rfl];have q:=fun h K=>z4Q (h:=h) (K:=K) n h0 h1
 simp only[CN,go_sem,q];rfl
def yE (out:List Rec):List (List UInt8×Int):=out.zipIdx.map fun y=>(y.1.unit,(y.2:Int))
theorem z5C {u:List UInt8}:∀(out:List Rec) (n:Nat),IA u ((out.zipIdx n).map fun y=>(y.1.unit,(y.2:Int)))=if XA u out<out.length then some ((n+XA u out:Nat):Int) else none
 | [],n=>by simp [IA,XA]
 | o::out,n=>by
  simp only[List.zipIdx_cons,List.map_cons,IA];by_cases hu:u=o.unit
  ·have e:XA u (o::out)=0:=by simp [XA,List.findIdx_cons,hu]
   rw[if_pos hu,e];simp
  ·have e:XA u (o::out)=XA u out+1:=by
    have:¬o.unit=u:=fun h=>hu h.symm
    simp [XA,List.findIdx_cons,this]
   rw[if_neg hu,z5C out (n+1),e];simp only[List.length_cons,Nat.add_lt_add_iff_right];split
   ·congr 2;omega
   ·rfl
theorem ZY {u:List UInt8}(out:List Rec):IA u (yE out)=if XA u out<out.length then some ((XA u out:Nat):Int) else none:=by
 have:=z5C (u:=u) out 0;simpa [yE] using this
theorem zlL {out:List Rec}{x:Rec}(h:¬ XA x.unit out<out.length):XB x.unit (out.length:Int) (yE out)=yE (out++[x]):=by
 have h1:fC x.unit (yE out)=none:=by
  cases hw:fC x.unit (yE out) with
  | none=>rfl
  | some i=>
   have:=eZ hw;rw[ZY,if_neg h]at this;cases this
 rw[cZ h1];simp [yE,List.zipIdx_append]
theorem zlK {out:List Rec}{i:Nat}{x:Rec}(hi:i<out.length)(h:x.unit=out[i].unit):yE (out.set i x)=yE out:=by
 apply List.ext_getElem?
 intro j;simp only[yE,List.getElem?_map,List.getElem?_zipIdx,List.getElem?_set];by_cases hij:i=j
 ·subst hij
  simp [hi,h]
 ·simp [hij]
def gE (out:List Rec):Obj:=oB PV.str (fun n:Int=>AI n) (yE out)
attribute [-go_sem] WB uC
set_option maxHeartbeats 2000000 in
theorem HY (l:List Lim)(ru:Int)(r:List Rec)(hf:∀ x∈r,uB l x.res=true)(hl:l.length≤1000)(hn:r.length≤12):gA X NG [JA l,UA r,AI ru] h K=K (UA (VA l ru r)) h []:=by
 refine rule ?_;rw[z8J rfl];simp only[wN,go_sem];refine CA (fun k:Nat=>⟨[(0,JA l),(2,AI ru),(7,.mp h.length),(8,.own (h.length+1) ((r.take k).foldl (lB l ru) []).length 0 ((r.take k).foldl (lB l ru) []).length),(14,UA r),(15,AI r.length),(16,AI k)],h++[gE ((r.take k).foldl (lB l ru) []),.row (some 4) (((r.take k).foldl (lB l ru) []).map Rec.pv) 0],[]⟩)
  (fun k=>k≤r.length) (fun k=>r.length-k) 0 rfl (by omega) ?_
 intro k hk;rcases Nat.lt_or_ge k r.length with hlt|hge
 ·have hg:=bB Rec.pv hlt
  have cx:MA (some 4) 0 (r[k].pv)=some r[k].pv:=rfl
  have w2:IntKind.i64.wrap ((k:Int)+1)=((k+1:Nat):Int):=nA _ (by omega) (by omega)
  have et:(r.take (k+1)).foldl (lB l ru) []=lB l ru ((r.take k).foldl (lB l ru) []) r[k]:=by
   rw[List.take_succ_eq_append_getElem hlt,List.foldl_append];rfl
  have hI:=KV l ru (r.take k) [] [] (z28 l ru)
  simp only[List.nil_append]at hI;have hxf:=hf _ (List.getElem_mem hlt)
  generalize (r.take k).foldl (lB l ru) []=out at *;generalize hx:r[k]=x at *;have ho:out.length≤12:=by have:=hI.le;simp at this;omega
  have hoff:∀o∈out,uB l o.res=true:=fun o hm=>hf o (List.mem_of_mem_take (hI.mem o hm))
  by_cases hp:XA x.unit out<out.length
  ·have lk:∀(hp:aA) (z:AV),hp[h.length]?=some (gE out)→WB (none,[2]) true z (.mp h.length) (AS x.unit) hp=some (.tup [AI (XA x.unit out),AB true]):=fun hp' z hh=>by
    have:=JL (val:=fun n:Int=>AI n) ZV hh (kk:=(none,[2])) bW (ok:=true) (z:=z) (k:=x.unit)
    rw[ZY,if_pos hp]at this;exact this
   have hgo:=bB Rec.pv hp
   have co:MA (some 4) 0 (out[XA x.unit out].pv)=some out[XA x.unit out].pv:=rfl
   have fl:=fun h K=>GY (h:=h) (K:=K) l out[XA x.unit out] (hoff _ (List.getElem_mem hp)) hl
   have hpu:=sH hp
   have epu:lB l ru out x=out.set (XA x.unit out) (nB l ru out[XA x.unit out] x):=by unfold lB;rw[dif_pos hp]
   have hun:=zlK (i:=XA x.unit out) (x:=nB l ru out[XA x.unit out] x) hp (by rw[bZ hpu,hpu])
   have hpx:(XA x.unit out:Int)<out.length:=by omega
   have hset:∀y:Rec,(out.map Rec.pv).set (XA x.unit out) y.pv=(out.set (XA x.unit out) y).map Rec.pv:=fun y=>by rw[List.map_set]
   have hself:out.set (XA x.unit out) out[XA x.unit out]=out:=List.set_getElem_self hp
   have st:=cE (sh:=some 4) (x:=x.pv) (y:=(out[XA x.unit out]).pv) rfl rfl
   generalize XA x.unit out=p at *;generalize hop:out[p]=o at *;have fin:∀y:Rec,nB l ru o x=y→∃u,(⟨[(0,JA l),(2,AI ru),(7,AV.mp h.length),(8,AV.own (h.length+1) out.length 0 out.length),(14,UA r),(15,AI r.length),(16,AI ((k+1:Nat):Int))],h++[gE out,Obj.row (some 4) ((out.set p y).map Rec.pv) 0],[]⟩:St) =
    ⟨[(0,JA l),(2,AI ru),(7,.mp h.length),(8,.own (h.length+1) ((r.take u).foldl (lB l ru) []).length 0 ((r.take u).foldl (lB l ru) []).length),(14,UA r),(15,AI r.length),(16,AI u)],h++[gE ((r.take u).foldl (lB l ru) []),.row (some 4) (((r.take u).foldl (lB l ru) []).map Rec.pv) 0],[]⟩∧u≤r.length∧r.length-u<r.length-k:=fun y hy=>by
    refine⟨k+1,?_,by omega,by omega⟩
    simp only[et,epu,hy,List.length_set];rw[←hy];unfold gE;rw[hun]
   simp only[Rec.pv]at hg cx hgo co fl lk hset st;by_cases r2:ru=2
   ·have e:nB l ru o x=x:=by simp [nB,r2]
    have f1:h.length+2≤h.length+2:=by omega
    simp only[go_sem,hlt,hg,cx,lk,r2,hp,hgo,co,st,hset,w2];rw[←r2];exact fin x e
   ·by_cases r3:ru=3
    ·by_cases hb:0≤cC l o.res
     ·have e:nB l ru o x=x:=by simp [nB,r3,kC,hb]
      simp only[go_sem,hlt,hg,cx,lk,r2,r3,hp,hgo,co,st,hset,w2,fl,hb];rw[←r3];exact fin x e
     ·have e:nB l ru o x=o:=by simp [nB,r3,kC,hb]
      simp only[go_sem,hlt,hg,cx,lk,r2,r3,hp,hgo,co,st,hset,w2,fl,hb];rw[←r3];have:=fin o e;rw[hself]at this;exact this
    ·have e:nB l ru o x=o:=by simp [nB,r2,r3]
     simp only[go_sem,hlt,hg,cx,lk,r2,r3,hp,hgo,co,st,hset,w2,fl];have:=fin o e;rw[hself]at this;exact this
  ·have lk:∀(hp:aA),hp[h.length]?=some (gE out)→WB (none,[2]) true (AI 0) (.mp h.length) (AS x.unit) hp=some (.tup [AI 0,AB false]):=fun hp' hh=>by
    have:=JL (val:=fun n:Int=>AI n) ZV hh (kk:=(none,[2])) bW (ok:=true) (z:=AI 0) (k:=x.unit)
    rw[ZY,if_neg hp]at this;exact this
   have ud:∀(hp:aA),hp[h.length]?=some (gE out)→uC (none,[2]) (.mp h.length) (AS x.unit) (AI out.length) hp=some (.und,hp.set h.length (gE (out++[x])),[]):=fun hp' hh=>by
    have:=mW (val:=fun n:Int=>AI n) ZV hh (kk:=(none,[2])) bW (k:=x.unit) (v:=(out.length:Int)) rfl
    rw[zlL hp]at this;exact this
   have epu:lB l ru out x=out++[x]:=by unfold lB;rw[dif_neg hp]
   have hmx:out.length+1≤PA:=by unfold PA;omega
   have ems:out.map Rec.pv++[PV.agg [.str x.unit,eI x.time,.str x.site,.sl none (x.res.map eI)]]=(out++[x]).map Rec.pv:=by simp [Rec.pv]
   simp only[Rec.pv]at hg cx;simp only[go_sem,hlt,hg,cx,lk,ud,w2,hmx];refine⟨k+1,?_,by omega,by omega⟩
   simp only[et,epu,ems,List.length_append,List.length_cons,List.length_nil]
 ·have ek:k=r.length:=by omega
  subst ek;rw[List.take_length];have eo:(r.foldl (lB l ru) []).length≤r.length:=(rL l ru r).le
  show _
  have hfl:VA l ru r=vA (ltO TE) (r.foldl (lB l ru) []):=rfl
  rw[hfl];generalize r.foldl (lB l ru) []=out at *;have so:=fun K=>z6q (h:=h++[gE out,Obj.row (some 4) (out.map Rec.pv) 0]) (K:=K) (h.length+1) (out.map Rec.pv) PJ (by simp;omega) (by simp) (g:=qI) (caps:=[]) (c:=fun x y=>TE (yB x) (yB y))
   (fun o x hx y hy K=>by
    obtain⟨p,_,rfl⟩:=List.mem_map.1 hx;obtain⟨q,_,rfl⟩:=List.mem_map.1 hy;dsimp only;rw[LD,LD];exact zkv p q)
  have em:vA (ltC fun x y=>TE (yB x) (yB y)) (out.map Rec.pv)=(vA (ltO TE) out).map Rec.pv:=z35 Rec.pv (fun x y=>by simp only[ltC,ltO,LD]) _
  rw[em]at so;have il:=MI (ltO TE) out
  generalize vA (ltO TE) out=ss at *;simp only[List.length_map]at so;have hw:win (ss.map Rec.pv) 0 out.length=ss.map Rec.pv:=UE (by simp [il])
  have e0:∀o:Obj,(h++[gE out,Obj.row (some 4) (out.map Rec.pv) 0]).set (h.length+1) o=h++[gE out,o]:=fun o=>by rw[List.set_append_right _ _ (by omega)];simp
  simp only[e0]at so;have b1:¬(h.length+1<h.length):=by omega
  have b2:h.length≤h.length+1:=by omega
  simp only[go_sem,Nat.lt_irrefl,so,il,hw,b1,b2]
end Go.Am
end
section
/- Cut at a byte;where a pair stands among z4m. -/
open Go
set_option linter.all false
namespace Go.Am
variable {h:aA} {K:kA}
end Go.Am
end
section
/- Maps from numbers tov numbers. -/
open Go
set_option linter.all false
namespace Go.Am
attribute [-go_sem] WB uC
end Go.Am
end
section
/- Products of fractions by prime factors: plain numbers. -/
set_option linter.all false
namespace Go.Am
end Go.Am
end
section
/- The product of fractions,the program's way: counting the prime factors. -/
open Go
set_option linter.all false
namespace Go.Am
variable {h:aA} {K:kA}
attribute [-go_sem] WB uC cG dG
end Go.Am
end
section
/- The product of fractions,the program's way. -/
open Go
set_option linter.all false
namespace Go.Am
variable {h:aA} {K:kA}
attribute [-go_sem] WB uC cG dG
end Go.Am
end
section
/- The product of fractions,the reference's way. -/
open Go
set_option linter.all false
namespace Go.Am
variable {h:aA} {K:kA}
attribute [-go_sem] WB uC cG dG
variable {N:Nat}
end Go.Am
end
section
/- Parts raw and in lowest terms: the same product. -/
set_option linter.all false
namespace Go.Am
end Go.Am
end
section
/- Finding and deleting records,strings: printed by program. -/
open Go
set_option linter.unusedSimpArgs false
namespace Go.Am
attribute [-go_sem] PV.cells splice
variable {h:aA} {K:kA}
attribute [-go_sem] AV.cells cut
attribute [go_sem] AV.cells cut
end Go.Am
end
section
/- Units,and the record of each that counts: the reference's way. -/
open Go
set_option linter.all false
namespace Go.Am
variable {h:aA} {K:kA}
end Go.Am
end
section
/- Final bins,both ways. -/
open Go
set_option linter.all false
namespace Go.Am
variable {h:aA} {K:kA}
theorem z3F:∀ {l pre:List Lim},NE pre l=0→∀x∈l,IL x=false
 | [],_,_,x,hx=>by cases hx
 | y::l,pre,hf,x,hx=>by
  unfold NE at hf;split at hf
  ·cases hf
  ·split at hf
   ·cases hf
   ·split at hf
    ·cases hf
    ·rename_i hb
     rcases List.mem_cons.1 hx with e|e
     ·subst e;simpa using hb
     ·exact z3F hf x e
theorem zfI {l:List Lim}(hf:PC l=0):∀x∈l,2≤x.bin∧x.bin≤100:=by
 unfold PC at hf;split at hf
 ·cases hf
 ·split at hf
  ·cases hf
  ·intro x hx
   have:=z3F hf x hx;unfold IL inB at this;simp at this;omega
theorem TM {l:List Lim}(hf:PC l=0)(x:Rec):1≤FA l x∧FA l x≤100∧(FA l x=1↔kC l x=false):=by
 have hb:=zfI hf
 unfold FA DH kC;rcases HV l x.res with⟨e,_⟩|⟨k,e,hk,_⟩
 ·rw[e];simp
 ·rw[e]
  have hkl:k<l.length:=by unfold RB at hk;simp at hk;omega
  have:=hb l[k] (List.getElem_mem hkl);rw[if_pos (by omega),Int.toNat_natCast,List.getD_eq_getElem?_getD,List.getElem?_eq_getElem hkl,Option.getD_some]
  refine⟨by omega,by omega,?_⟩
  constructor
  ·intro h;omega
  ·intro h;simp at h
theorem tY {l:List Lim}{r:List Rec}(h:QA l r=0):PC l=0:=by
 unfold QA at h;split at h
 ·rename_i h1;exact absurd h h1
 ·rename_i h1
  by_cases h2:PC l=0
  ·exact h2
  ·exact absurd h2 h1
theorem zk0 (l:List Lim)(r:List Rec)(ru:Int)(hl:LimOk l)(hr:∀ x∈r,RecOk x)(hn:r.length≤12) :
 gA X OK [JA l,UA r,AI ru] h K=K (if orL [QA l r,xC ru]=0 then .tup [ASS (sL l ru r),AI 0] else .tup [ASS [],AI (orL [QA l r,xC ru])]) h []:=by
 refine rule ?_;rw[z8B rfl];have q1:=fun h K=>KY (h:=h) (K:=K) l r ru hl hr (by omega)
 by_cases he:orL [QA l r,xC ru]=0
 case neg=>
  simp only[rK,go_sem,↓q1,q1,he];rfl
 have hz:QA l r=0:=by unfold orL at he;split at he <;> simp_all
 have hfm:∀x∈r,uB l x.res=true:=fun x hx=>oY (sY hz x hx)
 have q2:=fun h K=>HY (h:=h) (K:=K) l ru r hfm hl.n hn
 have hul:(VA l ru r).length≤12:=by have:=GI l ru r;omega
 have hmem:∀x∈VA l ru r,uB l x.res=true:=fun x hx=>hfm x (NV hx)
 unfold sL;simp only[rK,go_sem,↓q1,q1,he,↓q2,q2];generalize VA l ru r=fs at *;refine CA (fun k:Nat=>⟨[(0,JA l),(9,.own h.length k 0 k),(22,UA fs),(23,AI fs.length),(24,AI k)],h++[.row (some 2) (((fs.take k).map fun x=>(x.unit,itoa (FA l x))).map KD) 0],[]⟩)
  (fun k=>k≤fs.length) (fun k=>fs.length-k) 0 rfl (by omega) ?_
 intro k hk;rcases Nat.lt_or_ge k fs.length with hlt|hge
 ·have hg:=bB Rec.pv hlt
  have cx:MA (some 4) 0 (fs[k].pv)=some fs[k].pv:=rfl
  have w2:IntKind.i64.wrap ((k:Int)+1)=((k+1:Nat):Int):=nA _ (by omega) (by omega)
  have hmx:k+1≤PA:=by unfold PA;omega
  have hln:min k fs.length=k:=by omega
  have hum:=List.getElem_mem hlt
  have et:((fs.take (k+1)).map fun x=>(x.unit,itoa (FA l x))).map KD=((fs.take k).map fun x=>(x.unit,itoa (FA l x))).map KD++[KD (fs[k].unit,itoa (FA l fs[k]))]:=by rw[List.take_succ_eq_append_getElem hlt,List.map_append,List.map_append];rfl
  have hcf:=hmem _ hum
  generalize fs[k]=c at *;have q3:=fun h K=>z5c (h:=h) (K:=K) l c hcf hl.n
  have hbd:=TM (tY hz) c
  have q4:=fun h K=>z5i (h:=h) (K:=K) c.unit (FA l c) (by omega) (by omega)
  have ebr:DH l (cC l c.res)=FA l c:=rfl
  rw[ebr]at q3;simp only[Rec.pv]at q3 hg cx;simp only[KD]at et q4;simp only[go_sem,hlt,hg,cx,w2,hmx,hln,List.length_take,↓q3,q3,↓q4,q4];refine⟨k+1,?_,by omega,by omega⟩
  simp only[et]
 ·have ek:k=fs.length:=by omega
  subst ek;simp only[go_sem,Nat.lt_irrefl,List.take_length];rw[UE (by simp)]
attribute [-go_sem] WB uC
def LE (n:Int):PV:=.int .i64 n
def vI (n:Int):AV:=.p (.int .i64 n)
def EE (l:List Lim)(xs:List Rec):List (Int×Int):=xs.foldl (fun m x=>XB (FA l x) ((IA (FA l x) m).getD 0+1) m) []
theorem z09 (l:List Lim)(b:Int):∀(xs:List Rec) (m:List (Int×Int)),(IA b (xs.foldl (fun m x=>XB (FA l x) ((IA (FA l x) m).getD 0+1) m) m)).getD 0=(IA b m).getD 0+(xs.countP fun x=>decide (FA l x=b):Nat)
 | [],m=>by simp
 | x::xs,m=>by
  simp only[List.foldl_cons];rw[z09 l b xs,z3n,List.countP_cons];by_cases hb:b=FA l x
  ·subst hb;simp;omega
  ·have:¬FA l x=b:=fun e=>hb e.symm
   simp [hb,this]
theorem z08 (l:List Lim)(b:Int)(xs:List Rec):(IA b (EE l xs)).getD 0=(xs.countP fun x=>decide (FA l x=b):Nat):=by
 have:=z09 l b xs [];simpa [EE,IA] using this
theorem z3H {hp:aA}{id:Nat}{m:List (Int × Int)}{b:Int}(hh:hp[id]?=some (oB LE vI m)):WB (none,[0]) false (AI 0) (.mp id) (AI b) hp=some (AI ((IA b m).getD 0)):=by
 have:=JL (key:=LE) (val:=vI) (fun a b=>EL a b) hh (kk:=(none,[0])) (k:=b) FL (ok:=false) (z:=AI 0)
 rw[cond_false]at this;refine this.trans ?_;cases IA b m <;> rfl
theorem updI {hp:aA}{id:Nat}{m:List (Int × Int)}{b v:Int}(hh:hp[id]?=some (oB LE vI m)):uC (none,[0]) (.mp id) (AI b) (AI v) hp=some (.und,hp.set id (oB LE vI (XB b v m)),[]):=
 mW (key:=LE) (val:=vI) (fun a b=>EL a b) hh (kk:=(none,[0])) (k:=b) FL (v:=v) rfl
theorem z0i (l:List Lim)(ru:Int)(r:List Rec):∀(k b:Nat),(lC l ru r b k).length≤k
 | 0,b=>by simp [lC]
 | k+1,b=>by
  have:=z0i l ru r k (b+1);unfold lC;split <;> simp <;> omega
set_option maxHeartbeats 1000000 in
theorem zkg (l:List Lim)(r:List Rec)(ru:Int)(hl:LimOk l)(hr:∀ x∈r,RecOk x)(hn:r.length≤12) :
 gA X MK [JA l,UA r,AI ru] h K=K (if orL [QA l r,xC ru]=0 then .tup [ASS (DS l ru r),AI 0] else .tup [ASS [],AI (orL [QA l r,xC ru])]) h []:=by
 refine rule ?_;rw[z88 rfl];have q1:=fun h K=>KY (h:=h) (K:=K) l r ru hl hr (by omega)
 by_cases he:orL [QA l r,xC ru]=0
 case neg=>
  simp only[oK,go_sem,↓q1,q1,he];rfl
 have hz:QA l r=0:=by unfold orL at he;split at he <;> simp_all
 have hfm:∀x∈r,uB l x.res=true:=fun x hx=>oY (sY hz x hx)
 have q2:=fun h K=>HY (h:=h) (K:=K) l ru r hfm hl.n hn
 have hul:(VA l ru r).length≤12:=by have:=GI l ru r;omega
 have hmem:∀x∈VA l ru r,uB l x.res=true:=fun x hx=>hfm x (NV hx)
 have hnb:∀b,(IA b (EE l (VA l ru r))).getD 0=(dB l ru r b:Nat):=fun b=>z08 l b _
 have hnl:∀b,dB l ru r b≤12:=fun b=>by
  have:dB l ru r b≤(VA l ru r).length:=List.countP_le_length
  omega
 unfold DS;simp only[oK,go_sem,↓q1,q1,he,↓q2,q2];generalize VA l ru r=fs at *;refine CA (fun k:Nat=>⟨[(0,JA l),(9,.mp h.length),(25,UA fs),(26,AI fs.length),(27,AI k)],h++[oB LE vI (EE l (fs.take k))],[]⟩)
  (fun k=>k≤fs.length) (fun k=>fs.length-k) 0 rfl (by omega) ?_
 intro k hk;rcases Nat.lt_or_ge k fs.length with hlt|hge
 ·have hg:=bB Rec.pv hlt
  have cx:MA (some 4) 0 (fs[k].pv)=some fs[k].pv:=rfl
  have w2:IntKind.i64.wrap ((k:Int)+1)=((k+1:Nat):Int):=nA _ (by omega) (by omega)
  have hum:=List.getElem_mem hlt
  have et:EE l (fs.take (k+1))=XB (FA l fs[k]) ((IA (FA l fs[k]) (EE l (fs.take k))).getD 0+1) (EE l (fs.take k)):=by
   unfold EE;rw[List.take_succ_eq_append_getElem hlt,List.foldl_append];rfl
  have hcf:=hmem _ hum
  have hct:=z08 l (FA l fs[k]) (fs.take k)
  have hcl:(fs.take k).countP (fun x=>decide (FA l x=FA l fs[k]))≤(fs.take k).length:=List.countP_le_length
  simp only[List.length_take]at hcl;generalize EE l (fs.take k)=m at *;generalize hcc:(fs.take k).countP (fun x=>decide (FA l x=FA l fs[k]))=cc at *
  generalize fs[k]=c at *;have q3:=fun h K=>z5c (h:=h) (K:=K) l c hcf hl.n
  have ebr:DH l (cC l c.res)=FA l c:=rfl
  rw[ebr]at q3;have w3:IntKind.i64.wrap ((IA (FA l c) m).getD 0+1)=(IA (FA l c) m).getD 0+1:=nA _ (by omega) (by omega)
  have lk:=fun(hp:aA) (b:Int) (hh:hp[h.length]?=some (oB LE vI m))=>z3H (b:=b) hh
  have ud:=fun(hp:aA) (b v:Int) (hh:hp[h.length]?=some (oB LE vI m))=>updI (b:=b) (v:=v) hh
  simp only[Rec.pv]at q3 hg cx;simp only[go_sem,hlt,hg,cx,w2,↓q3,q3,lk,ud,w3];refine⟨k+1,?_,by omega,by omega⟩
  simp only[et]
 ·have ek:k=fs.length:=by omega
  subst ek;rw[List.take_length];generalize EE l fs=m at *;have lk:=fun(hp:aA) (b:Int) (hh:hp[h.length]?=some (oB LE vI m))=>z3H (b:=b) hh
  simp only[go_sem,Nat.lt_irrefl];refine CA (fun b:Nat=>⟨[(9,.mp h.length),(12,.own (h.length+1) (lC l ru r 1 b).length 0 (lC l ru r 1 b).length),(13,AI ((b+1:Nat):Int))],h++[oB LE vI m,.row (some 2) ((lC l ru r 1 b).map KD) 0],[]⟩)
   (fun b=>b≤100) (fun b=>100-b) 0 rfl (by omega) ?_
  intro b hb;by_cases hlt:b<100
  ·have hlt':((b+1:Nat):Int)≤100:=by omega
   have w2:IntKind.i64.wrap (((b+1:Nat):Int)+1)=((b+1+1:Nat):Int):=nA _ (by omega) (by omega)
   have hbl:=z0i l ru r b 1
   have hmx:(lC l ru r 1 b).length+1≤PA:=by unfold PA;omega
   have hsn:=z0j l ru r b 1
   rw[show 1+b=b+1 by omega]at hsn
   have hnn:=hnl ((b+1:Nat):Int)
   have hnb1:=hnb ((b+1:Nat):Int)
   have q3:=fun h K=>z4Q (h:=h) (K:=K) ((b+1:Nat):Int) (by omega) (by omega)
   by_cases hpos:0<dB l ru r ((b+1:Nat):Int)
   ·rw[if_pos hpos]at hsn
    have hpos':(0:Int)<(dB l ru r ((b+1:Nat):Int):Nat):=by omega
    have q4:=fun h K=>z5i (h:=h) (K:=K) (itoa ((b+1:Nat):Int)) (dB l ru r ((b+1:Nat):Int)) (by omega) (by omega)
    simp only[KD]at q4;generalize dB l ru r ((b+1:Nat):Int)=c at *;have em:(lC l ru r 1 b).map KD++[PV.agg [.str (itoa ((b+1:Nat):Int)),.str (itoa c)]]=(lC l ru r 1 (b+1)).map KD:=by rw[hsn,List.map_append];rfl
    have el:(lC l ru r 1 b).length+1=(lC l ru r 1 (b+1)).length:=by rw[hsn];simp
    simp only[go_sem,hlt',lk,hnb1,hpos',↓q3,q3,↓q4,q4,hmx,w2];refine⟨b+1,?_,by omega,by omega⟩
    rw[em,el]
   ·rw[if_neg hpos,List.append_nil]at hsn
    have hpos':¬(0:Int)<(dB l ru r ((b+1:Nat):Int):Nat):=by omega
    generalize dB l ru r ((b+1:Nat):Int)=c at *;simp only[go_sem,hlt',lk,hnb1,hpos',w2];refine⟨b+1,?_,by omega,by omega⟩
    rw[hsn]
  ·have eb:b=100:=by omega
   subst eb;simp only[go_sem];rw[UE (by simp)]
end Go.Am
end
section
/- Bins,the reference's way. -/
open Go
set_option linter.all false
namespace Go.Am
variable {h:aA} {K:kA}
theorem zae {α:Type}(p:α→Bool)(l:List α)(k:Nat)(hk:k<l.length):(l.take (k+1)).countP p=(l.take k).countP p+if p l[k] then 1 else 0:=by
 rw[List.take_succ_eq_append_getElem hk,List.countP_append];simp [List.countP_cons]
end Go.Am
end
section
/- The yields of all tests together,both ways. -/
open Go
set_option linter.all false
namespace Go.Am
variable {h:aA} {K:kA}
end Go.Am
end
section
/- Yields,both ways. -/
open Go
set_option linter.all false
namespace Go.Am
variable {h:aA} {K:kA}
theorem z2G {l:List Lim}{r:List Rec}{ru:Int}(hz:r.length≠0):0<(VA l ru r).length:=by
 obtain⟨x,hx⟩:=List.exists_mem_of_length_pos (Nat.pos_of_ne_zero hz);have h1:x.unit∈yF r:=aZ.2 ⟨x,hx,rfl⟩
 rw[←OV l ru r]at h1;obtain⟨y,hy,_⟩:=List.mem_map.1 h1;exact List.length_pos_of_mem hy
def yldV (l:List Lim)(r:List Rec)(ru:Int):AV:=
 if orL [QA l r,xC ru]≠0 then .tup [.p (.agg [eI 0,eI 0]),AI (orL [QA l r,xC ru])]
 else if r.length=0 then .tup [.p (.agg [eI 0,eI 0]),AI 8]
 else .tup [.p (.agg [eI (low (dB l ru r 1:Nat) (VA l ru r).length).1,eI (low (dB l ru r 1:Nat) (VA l ru r).length).2]),AI 0]
theorem z5b (l:List Lim)(r:List Rec)(ru:Int)(hl:LimOk l)(hr:∀ x∈r,RecOk x)(hn:r.length≤12) :
 gA X nI [JA l,UA r,AI ru] h K=K (yldV l r ru) h []:=by
 refine rule ?_;rw[z8D rfl];have q1:=fun h K=>KY (h:=h) (K:=K) l r ru hl hr (by omega)
 unfold yldV;by_cases he:orL [QA l r,xC ru]=0
 case neg=>
  simp only[QH,go_sem,↓q1,q1,he]
 by_cases hz:r.length=0
 ·simp only[QH,go_sem,↓q1,q1,he,hz]
 have hz':¬((r.length:Int)=0):=by omega
 have hrf:QA l r=0:=by unfold orL at he;split at he <;> simp_all
 have hfm:∀x∈r,uB l x.res=true:=fun x hx=>oY (sY hrf x hx)
 have q2:=fun h K=>HY (h:=h) (K:=K) l ru r hfm hl.n hn
 have hul:(VA l ru r).length≤12:=by have:=GI l ru r;omega
 have hps:0<(VA l ru r).length:=z2G hz
 have hmem:∀x∈VA l ru r,uB l x.res=true:=fun x hx=>hfm x (NV hx)
 unfold dB;simp only[QH,go_sem,↓q1,q1,he,hz,hz',↓q2,q2];generalize VA l ru r=fs at *;refine CA (fun k:Nat=>⟨[(0,JA l),(6,.ref h.length 0),(9,AI ((fs.take k).countP fun x=>decide (FA l x=1):Nat)),(10,UA fs),(32,UA fs),(33,AI fs.length),(34,AI k)],h++[.box [AI 0,AI 0]],[]⟩)
  (fun k=>k≤fs.length) (fun k=>fs.length-k) 0 rfl (by omega) ?_
 intro k hk;rcases Nat.lt_or_ge k fs.length with hlt|hge
 ·have hg:=bB Rec.pv hlt
  have cx:MA (some 4) 0 (fs[k].pv)=some fs[k].pv:=rfl
  have w2:IntKind.i64.wrap ((k:Int)+1)=((k+1:Nat):Int):=nA _ (by omega) (by omega)
  have hum:=List.getElem_mem hlt
  have hcf:=hmem _ hum
  have hct:=zae (fun x:Rec=>decide (FA l x=1)) fs k hlt
  have hcl:(fs.take k).countP (fun x=>decide (FA l x=1))≤(fs.take k).length:=List.countP_le_length
  simp only[List.length_take]at hcl;generalize (fs.take k).countP (fun x=>decide (FA l x=1))=cc at *
  have w5:IntKind.i64.wrap ((cc:Int)+1)=((cc+1:Nat):Int):=nA _ (by omega) (by omega)
  have hbd:=(TM (tY hrf) fs[k]).2.2
  generalize fs[k]=c at *;have q3:=fun h K=>GY (h:=h) (K:=K) l c hcf hl.n
  unfold kC at hbd;simp only[Rec.pv]at q3 hg cx;by_cases hp:cC l c.res<0
  ·have hb1:FA l c=1:=hbd.2 (by simp;omega)
   simp only[hb1,decide_true,if_true]at hct;simp only[go_sem,hlt,hg,cx,↓q3,q3,hp,w2,w5];exact⟨k+1,by rw[hct],by omega,by omega⟩
  ·have hb1:¬FA l c=1:=fun e=>by have:=hbd.1 e;simp at this;omega
   simp only[hb1,decide_false,Bool.false_eq_true,if_false,Nat.add_zero]at hct;simp only[go_sem,hlt,hg,cx,↓q3,q3,hp,w2];exact⟨k+1,by rw[hct],by omega,by omega⟩
 ·have ek:k=fs.length:=by omega
  subst ek;rw[List.take_length];have hcl:fs.countP (fun x=>decide (FA l x=1))≤fs.length:=List.countP_le_length
  generalize fs.countP (fun x=>decide (FA l x=1))=cc at *
  have q4:=fun h K=>zkm (h:=h) (K:=K) (cc:Int) (fs.length:Int) (by omega) (by omega)
  simp only[go_sem,Nat.lt_irrefl,↓q4,q4]
end Go.Am
end
section
/- UnitsAddUp returns true. -/
open Go
set_option linter.all false
set_option maxRecDepth 100000
namespace Go.Am
variable {h:aA} {K:kA}
attribute [-go_sem] kH splice
theorem zkf (n:Nat)(hn:n<1000000):gA X zO [AS (itoa n)] h K=K (.tup [AI n,.nili]) h []:=by
 refine NO (X:=X) (by kernel_rfl) ?_
 first|rw[show X.ex2=qE GRL PRL from rfl]|skip
 exact z3B (vs:=[.str (itoa n)]) (by kernel_rfl) (s:=xG) rfl rfl (z7R (by omega))
theorem z39:itoa 1=[49]:=by
 unfold itoa;rw[if_neg (by decide)]
 show aC 1=_
 rw[GE (by decide)]
 rfl
theorem z40 {l:List Lim}:∀{r:List Rec} {p:Option Rec},(∀x∈r,GB l x=0)→(∀x∈r,∀q,p=some q→EA q x<0)→FC EA r→wC l p r=0
 | [],_,_,_,_=>by unfold wC;rfl
 | x::r,p,h1,h2,h3=>by
  rw[zQ,if_neg (by simp [h1 x List.mem_cons_self])]
  obtain⟨s1,s2⟩:=List.pairwise_cons.1 h3;rw[if_neg]
  ·exact z40 (fun y hy=>h1 y (List.mem_cons_of_mem _ hy)) (fun y hy q hq=>by cases hq;exact s1 y hy) s2
  ·cases p with
   | none=>simp
   | some q=>
    have:=h2 x List.mem_cons_self q rfl;have e:=yQ q x
    simp only[decide_eq_true_eq];omega
theorem z4z {l:List Lim}:∀{r:List Rec} {p:Option Rec},wC l p r=0→∀x∈r,GB l x=0
 | [],_,_,x,hx=>by cases hx
 | y::r,p,h,x,hx=>by
  obtain⟨h1,_,h3⟩:=rY h;rcases List.mem_cons.1 hx with e|e
  ·rw[e];exact h1
  ·exact z4z h3 x e
theorem z41 {l:List Lim}{r p:List Rec}(hp:p.Sublist r)(h:QA l r=0):QA l p=0:=by
 have hs:=(AQ h).1
 unfold QA tH at h ⊢;split at h
 ·rename_i h1;exact absurd h h1
 ·rename_i h1
  rw[if_neg h1];split at h
  ·omega
  ·rename_i h2
   have:=hp.length_le;rw[if_neg (by omega)]
   exact z40 (fun x hx=>z4z h x (hp.subset hx)) (fun x _ q hq=>by cases hq) (List.Pairwise.sublist hp hs)
theorem z3O {l:List Lim}{r p q:List Rec}(h:QA l r=0)(hp:p.Sublist r)(hq:q.Sublist r)(hc:∀ e∈r,e∈p∨e∈q):ML l p q=(r,0):=by
 obtain⟨c1,c2⟩:=zj8 (c:=EA) (q:=tD) VI LQ (AQ h).1 hp hq hc;unfold ML refM;rw[z41 hp h,z41 hq h,c1,c2];rfl
theorem mulb {x y:Int}(h1:0≤x∧x≤1000)(h2:0≤y∧y≤1000):IntKind.i64.wrap (x*y)=x*y:=by
 have a1:=Int.mul_nonneg h1.1 h2.1
 have a2:=Int.mul_le_mul h1.2 h2.2 h2.1 (by omega)
 exact nA _ (by omega) (by omega)
theorem zln {α:Type}(f:α→Nat)(l:List α)(k:Nat)(hk:k<l.length):((l.take (k+1)).map f).sum=((l.take k).map f).sum+f l[k]:=by
 rw[List.take_succ_eq_append_getElem hk,List.map_append,List.sum_append];simp only[List.map_cons,List.map_nil,List.sum_cons,List.sum_nil,Nat.add_zero]
theorem z5z {α:Type}(f:α→Nat)(B:Nat):∀(l:List α),(∀x∈l,f x≤B)→(l.map f).sum≤B*l.length
 | [],_=>by simp
 | x::l,h=>by
  have h1:=z5z f B l fun y hy=>h y (List.mem_cons_of_mem _ hy)
  have h2:=h x List.mem_cons_self
  simp only[List.map_cons,List.sum_cons,List.length_cons];rw[Nat.mul_add];omega
attribute [-go_sem] lV TH
theorem ua_k3 (l:List Lim)(r:List Rec)(ru:Int)(F:List SS)(hl:LimOk l)(hr:∀ x∈r,RecOk x)(hn:r.length≤12)(hz:QA l r=0)(hru:1≤ru∧ru≤3)(A G:Nat)(hA:A=(VA l ru r).length)(hF:F.length=A)(hG:G=dB l ru r 1)(H:aA)(K:Ex→St→Prop)(hK:∀ h x,x=[]→K .ret ⟨[(2,AB true)],h,x⟩) :
 NW (gA X) X.gl XL ⟨[(4,JA l),(5,UA r),(6,AI ru),(15,ASS F),(17,AI A),(18,AI G)],H,[]⟩ K:=by
 rw[lV];have S1:=fun h K=>z5b (h:=h) (K:=K) l r ru hl hr hn
 have S2:=fun h K=>z5b (h:=h) (K:=K) l r 3 hl hr hn
 have ho:∀ru:Int,1≤ru∧ru≤3→orL [QA l r,xC ru]=0:=fun ru h=>by
  have:xC ru=0:=by unfold xC;rw[if_pos h]
  rw[this,hz];rfl
 have hlen:(VA l 3 r).length=A:=by rw[hA,z5D,z5D]
 unfold yldV at S1 S2;rw[if_neg (by simp [ho ru hru])]at S1
 rw[if_neg (by simp [ho 3 (by omega)])]at S2
 by_cases h0:r.length=0
 ·rw[if_pos h0]at S1 S2
  have hA0:A=0:=by have:=GI l ru r;omega
  subst hA0;simp only[TH,go_sem,↓S1,S1,↓S2,S2,h0,z5j];exact hK _ _ rfl
 ·rw[if_neg h0]at S1 S2
  rw[←hG,←hA]at S1;rw[hlen]at S2;have hAp:0<A:=by rw[hA];exact z2G h0
  have hAl:A≤12:=by have:=GI l ru r;omega
  have hb:=z7X l hru r fun x=>(TM (tY hz) x).2.2
  rw[←hG]at hb;have hGl:dB l 3 r 1≤A:=by
   have:dB l 3 r 1≤(VA l 3 r).length:=List.countP_le_length
   omega
  generalize dB l 3 r 1=G3 at *;have hAi:(0:Int)<(A:Int):=by omega
  have c1:=fW (G:Int) (A:Int)
  have c2:=zfO (a:=(G:Int)) (a':=(G3:Int)) (n:=(A:Int)) hAi (by omega)
  have b1:=eW (G:Int) (A:Int) hAi
  have b2:=eW (G3:Int) (A:Int) hAi
  have n1:=QO (G:Int) (A:Int)
  have n2:=QO (G3:Int) (A:Int)
  have g1:=II (G:Int) (A:Int) hAi
  have g2:=II (G3:Int) (A:Int) hAi
  have p1:0≤(low (G:Int) (A:Int)).1:=by
   by_cases h:(low (G:Int) (A:Int)).1<0
   ·have:=Int.mul_neg_of_neg_of_pos h g1;omega
   ·omega
  have p2:0≤(low (G3:Int) (A:Int)).1:=by
   by_cases h:(low (G3:Int) (A:Int)).1<0
   ·have:=Int.mul_neg_of_neg_of_pos h g2;omega
   ·omega
  have d1:=OI (G:Int) (A:Int) hAi
  have d2:=OI (G3:Int) (A:Int) hAi
  have e1:=iW (G:Int) (A:Int) hAi
  have e2:=iW (G3:Int) (A:Int) hAi
  clear n1 n2 g1 g2;generalize (low (G:Int) (A:Int)).1=N1 at *;generalize (low (G:Int) (A:Int)).2=D1 at *;generalize (low (G3:Int) (A:Int)).1=N3 at *;generalize (low (G3:Int) (A:Int)).2=D3 at *;have w1:=mulb (x:=N1) (y:=(A:Int)) (by omega) (by omega)
  have w2:=mulb (x:=D1) (y:=(G:Int)) (by omega) (by omega)
  have w3:=mulb (x:=N1) (y:=D3) (by omega) (by omega)
  have w4:=mulb (x:=N3) (y:=D1) (by omega) (by omega)
  have ER:=fun h K=>z5f (h:=h) (K:=K) [0,0] (by simp)
  have e0:cH [0,0]=0:=rfl
  rw[e0]at ER;simp only[AL,List.map_cons,List.map_nil]at ER;have h0':¬((r.length:Int)=0):=by omega
  simp only[TH,go_sem,↓S1,S1,↓S2,S2,h0,h0',↓ER,ER,splice,hF,w1,w2,w3,w4,c1,c2,z5j];exact hK _ _ rfl
set_option maxHeartbeats 4000000 in
theorem law_UA (L:List Int){K:kA}:gA X yO [AL L] [] K=K (AB true) [] []:=by
 refine rule ?_;rw[z8X rfl];obtain⟨_,a1,⟨b1,b2,l,hl1,hl2,hlb,hlz,rfl⟩,V⟩:=(zel (L:=L) (a:=0) (by unfold LA;omega)).hd (l:=[])
 have hl:=z3D hl2 hlb
 have P1:LA 0 a1:=by unfold LA;omega
 obtain⟨n1,n2⟩:=oM (u:=0) (v:=12) L a1 (by omega) (by omega)
 obtain⟨n,hn⟩:=Int.eq_ofNat_of_zero_le n1;obtain⟨_,a2,⟨b3,b4,r,hr1,hr2,hrz,rfl⟩,R⟩:=(zem (L:=L) (a:=a1+1) (by unfold LA;omega) l hl1 hl2 hl hlz n (by omega)).hd (l:=[])
 have P2:LA 0 a2:=by unfold LA;omega
 obtain⟨m1,m2⟩:=oM (u:=1) (v:=3) L a2 (by omega) (by omega)
 have hrn:r.length≤12:=by omega
 generalize hru:YD 1 3 L a2=ru at *;obtain⟨_,a3,⟨d1,d2,p,q,hp,hq,hc,rfl⟩,V3⟩:=(zeo (L:=L) (a:=a2+1) r (by omega) (by unfold LA;omega)).hd (l:=[])
 have lp:=hp.length_le
 have lq:=hq.length_le
 have M1:=fun h K=>z4S (h:=h) (K:=K) l p q hl (fun c hc=>hr2 c (hp.subset hc)) (fun c hc=>hr2 c (hq.subset hc)) (by omega)
 have M2:=fun h K=>z4S (h:=h) (K:=K) l q p hl (fun c hc=>hr2 c (hq.subset hc)) (fun c hc=>hr2 c (hp.subset hc)) (by omega)
 rw[z3O hrz hp hq hc]at M1;rw[z3O hrz hq hp (fun e he=>(hc e he).symm)]at M2
 have hof:orL [QA l r,xC ru]=0:=by
  have:xC ru=0:=by unfold xC;rw[if_pos ⟨m1,m2⟩]
  rw[this,hrz];rfl
 have S1:=fun h K=>zkg (h:=h) (K:=K) l r ru hl hr2 hrn
 have S2:=fun h K=>zk0 (h:=h) (K:=K) l r ru hl hr2 hrn
 simp only[hof,if_true]at S1 S2;have ER:=fun h K=>z5f (h:=h) (K:=K) [0,0,0,0] (by simp)
 have e0:cH [0,0,0,0]=0:=rfl
 rw[e0]at ER;simp only[AL,List.map_cons,List.map_nil]at ER;have E1:=fun h K=>zkk (h:=h) (K:=K) r r (by omega) (fun f hf=>by have:=(hr2 f hf).n;omega)
 simp only[decide_true]at E1;have eB:DS l ru r=(rC l ru r 1 100).map nSS:=z0h l ru r 100 1
 rw[eB]at S1;have hFl:(sL l ru r).length=(VA l ru r).length:=by unfold sL;simp
 have hBm:=CS l ru r 100 1
 have hBs:=z0k l ru r 100 1
 have hall:((VA l ru r).countP fun x=>decide (((1:Nat):Int)≤FA l x)&&decide (FA l x<((1+100:Nat):Int)))=(VA l ru r).length:=by
  rw[List.countP_eq_length];intro x _;have:=TM hlz x;simp only[Bool.and_eq_true,decide_eq_true_eq];omega
 rw[hall]at hBs;have hgd:=zet l ru r 99
 have hfl:=GI l ru r
 have hnb:∀b,dB l ru r b≤(VA l ru r).length:=fun b=>List.countP_le_length
 have hBl:(rC l ru r 1 100).length≤100:=by
  have:∀(k b:Nat),(rC l ru r b k).length≤k:=by
   intro k;induction k with
   | zero=>intro b;exact Nat.le_refl _
   | succ k ih=>
    intro b;show(_++rC l ru r (b+1) k).length≤_
    rw[List.length_append];have:=ih (b+1);split <;> simp <;> omega
  exact this 100 1
 have hBb:∀y∈rC l ru r 1 100,1≤y.2∧y.2≤12:=fun y hy=>by
  have h1:=hBm y hy
  have h2:=hnb y.1
  omega
 generalize hF:sL l ru r=F at *;have k3:=fun H K hK=>ua_k3 l r ru F hl hr2 hrn hrz ⟨m1,m2⟩ (VA l ru r).length (dB l ru r 1) rfl hFl rfl H K hK
 rw[show(99+1:Nat)=100 from rfl]at hgd
 generalize rC l ru r 1 100=B at *;simp only[GN,go_sem,↓V,V,P1,hn,↓R,R,P2,hru,↓V3,V3,splice,↓M1,M1,↓M2,M2,↓S1,S1,↓S2,S2,↓ER,ER,↓E1,E1];refine CA (fun k:Nat=>⟨[(4,JA l),(5,UA r),(6,AI ru),(15,ASS F),(17,AI (((B.take k).map Prod.snd).sum:Nat)),(18,AI (KE (B.take k):Nat)),(92,ASS (B.map nSS)),(93,AI B.length),(94,AI k)],[AA L a3],[]⟩) (fun k=>k≤B.length) (fun k=>B.length-k) 0 (by simp [KE]) (by omega) ?_
 intro k hk;rcases Nat.lt_or_ge k B.length with hlt|hge
 ·have hlt':k<(B.map nSS).length:=by simpa using hlt
  have hg:=bB KD hlt'
  rw[List.getElem_map]at hg;have w2:IntKind.i64.wrap ((k:Int)+1)=((k+1:Nat):Int):=nA _ (by omega) (by omega)
  have b3:=hBb _ (List.getElem_mem hlt)
  have hst:=zln (fun y:Nat×Nat=>y.2) B k hlt
  have hle:=z5z (fun y:Nat×Nat=>y.2) 12 (B.take k) fun x hx=>(hBb x (List.mem_of_mem_take hx)).2
  simp only[List.length_take]at hle;have gs:KE (B.take (k+1))=if B[k].1=1 then B[k].2 else KE (B.take k):=by rw[List.take_succ_eq_append_getElem hlt,zes]
  have st1:(B.take (k+1)).map Prod.snd=(B.take (k+1)).map fun y=>y.2:=rfl
  have st2:(B.take k).map Prod.snd=(B.take k).map fun y=>y.2:=rfl
  rw[st2];generalize KE (B.take k)=gk at *;generalize B[k]=y at *;obtain⟨i,m⟩:=y;dsimp only at b3 hst gs;simp only[KD,nSS]at hg;have A1:=fun h K=>zkf (h:=h) (K:=K) m (by omega)
  generalize ((B.take k).map fun y=>y.2).sum=sm at *
  have w1:IntKind.i64.wrap ((sm:Int)+m)=((sm+m:Nat):Int):=by rw[nA _ (by omega) (by omega)];omega
  have m1:¬(m:Int)<1:=by omega
  by_cases hi:i=1
  ·subst hi
   rw[if_pos rfl]at gs;have e1:itoa ((1:Nat):Int)=[49]:=z39
   rw[e1]at hg;simp only[go_sem,hlt,hg,w1,w2,splice,↓A1,A1,m1];exact⟨k+1,by rw[st1,hst,gs],by omega,by omega⟩
  ·rw[if_neg hi]at gs
   have ne:¬itoa (i:Int)=[49]:=fun e=>by
    rw[←z39]at e;have:=zeE e;omega
   simp only[go_sem,hlt,hg,w1,w2,splice,↓A1,A1,m1,ne];exact⟨k+1,by rw[st1,hst,gs],by omega,by omega⟩
 ·have ek:k=B.length:=by omega
  subst ek;rw[List.take_length,hBs,hgd];simp only[go_sem,Nat.lt_irrefl];refine k3 _ _ fun h x hx=>?_
  subst hx;simp only[go_sem]
end Go.Am
end
section
/- From a law that is true here tov the model's calls at what came in. -/
open Go
namespace Go.Am
variable {P:Program}
theorem law_nil {X:Ctx}(HX:Fits P X){f:Nat}{F:AFun}(hF:X.fn f=some F)(H:∀ L:List Int,gA X f [sQ L] [] fun v _ _=>v = .p (.bool true))(W:World)(hG:TC X.gl (imm [] [] W)) :
 Calls P f #[.slice none 0 0] W fun e W'=>e = .returned (.bool true)∧RowKit.Below W.heap.size W W':=by
 refine(z0v HX hF (H []) (W:=W) (vs:=[.slice none 0 0]) hG rfl (fun j y v hy hv=>?_)).mono fun e W' he=>?_
 ·cases j with
  | zero=>cases hy;cases hv;exact z9L W
  | succ j=>cases hy
 ·cases e with
  | returned r=>
   obtain⟨⟨v,h,x,μ,hk,hr⟩,hb⟩:=he;subst hk;exact⟨by rw[hr.p_bool],hb⟩
  | panicked _=>exact he.elim
  | outgrown=>exact he.elim
theorem law_ints {X:Ctx}(HX:Fits P X){f:Nat}{F:AFun}(hF:X.fn f=some F)(H:∀ L:List Int,gA X f [sQ L] [] fun v _ _=>v = .p (.bool true)){W:World}(hG:TC X.gl (imm [] [] W)){a:Addr}{len cap:Nat}{zs:List Int}
 (hl:len≤cap) (hz:len≤zs.length) (hc:∀i,i<zs.length→W.cell? (a.add i)=some (.int .i64 (zs.getD i 0))) :
 Calls P f #[.slice (some a) len cap] W fun e W'=>e = .returned (.bool true)∧RowKit.Below W.heap.size W W':=by
 refine(z0v HX hF (H (zs.take len)) (W:=W) (vs:=[.slice (some a) len cap]) hG rfl (fun j y v hy hv=>?_)).mono fun e W' he=>?_
 ·cases j with
  | zero=>
   cases hy;cases hv
   rcases Nat.eq_zero_or_pos len with h0|h0
   ·subst h0
    exact .p _ _ (.nils _ _ _)
   ·exact z9K (by simpa [Addr.add] using World.cell?_spot (hc 0 (by omega))) hl hz hc
  | succ j=>cases hy
 ·cases e with
  | returned r=>
   obtain⟨⟨v,h,x,μ,hk,hr⟩,hb⟩:=he;subst hk;exact⟨by rw[hr.p_bool],hb⟩
  | panicked _=>exact he.elim
  | outgrown=>exact he.elim
end Go.Am
namespace Go.ChangeShapes
open Go.RowKit Go.WideShapes
section
variable {H:Type} {enc:TypeId × Value→H} {P:Program}
end
end Go.ChangeShapes
end
section
/- The abstract machine,part L2: the kit's contracts asv rows. -/
set_option linter.unusedSimpArgs false
set_option linter.unusedVariables false
namespace Go.Am
variable {P:Program} {gl:Nat→Option PV}
open Go.Shelf
theorem z3C:∀ n:Nat,Go.Lib.decDigits n=aC n:=by
 intro n;induction n using Nat.strongRecOn with
 | _ n ih=>
  rw[Go.Lib.decDigits,aC];split
  ·rfl
  ·rw[ih _ (by omega)];rfl
theorem zfG (n:Int):Go.Lib.itoa n=itoa n:=by
 unfold Go.Lib.itoa itoa;split
 ·rw[z3C]
 ·rw[z3C];congr 1;omega
theorem zl0 {M:Mem}{w:World}{g:Nat}{name:String}{k:IntKind}{zs:List Int}(hn:P.globalNamed name=some g)(hg:gl g=some (.agg (zs.map (PV.int k))))(hc:∀ b o v,M.c b o=some v→w.cell? ⟨b,o,none⟩=some v)(hb:∀ b o,M.b b=some o→w.heap[b]?=some o)(hG:TC gl M) :
 Go.Lib.TabIs P w name k zs:=by
 obtain⟨hv,cs,t,x,h2,h3⟩:=hG g _ hg;have h4:=hb _ _ h2
 unfold Go.Lib.TabIs World.var?;rw[hn];simp only[Option.bind_some,h4,Option.some.injEq];simp only[PV.cells,List.length_map]at h3;apply Array.ext
 ·simpa using h3
 ·intro i hi1 hi2
  have hi:i<zs.length:=by omega
  cases hv with
  | vp _ _ _ f hm hr=>
   have hy:(PV.agg (zs.map (PV.int k))).cells[i]?=some (.int k zs[i]):=by simp [PV.cells,hi]
   have q1:=hc _ _ _ (hm i _ hy)
   have q2:=hr i _ hy
   have q3:f i = .int k zs[i]:=by
    generalize f i=u at q2;cases q2;rfl
   rw[q3]at q1;have q4:cs[i]?=some (.int k zs[i]):=by simpa [World.cell?,h4] using q1
   rw[Array.getElem?_eq_getElem hi1]at q4;simpa using q4
theorem ginv_tab {W:World}{g:Nat}{name:String}{k:IntKind}{zs:List Int}{v:PV}(hn:P.globalNamed name=some g)(ht:Go.Lib.TabIs P W name k zs)(hv:v = .agg (zs.map (PV.int k))):TC (wL [(g,v)]) (imm [] [] W):=by
 intro n v' hv';unfold wL at hv';cases hq:Nat.beq n g with
 | false=>rw[hq]at hv';cases hv'
 | true=>
  rw[hq]at hv';have e:=Nat.eq_of_beq_eq_true hq
  subst e;simp only[cond_true,Option.some.injEq]at hv';subst hv';subst hv;unfold Go.Lib.TabIs World.var? at ht;rw[hn]at ht;simp only[Option.bind_some]at ht;cases hb:W.heap[n]? with
  | none=>rw[hb]at ht;cases ht
  | some o=>
   rw[hb]at ht;cases o with
   | cells cs t x=>
    simp only[Option.some.injEq]at ht;refine⟨.vp _ n 0 (fun j=>(zs.map fun z=>Value.int k z).getD j undef) (fun j y hy=>?_) (fun j y hy=>?_),cs,t,x,z3t hb,by rw[ht];simp [PV.cells]⟩
    ·have hj:j<zs.length:=by have:=tA hy;simpa [PV.cells] using this
     refine z3u ?_;simp [World.cell?,hb,ht,hj,List.getD_eq_getElem?_getD]
    ·have hj:j<zs.length:=by have:=tA hy;simpa [PV.cells] using this
     have e1:y = .int k zs[j]:=by simpa [PV.cells,hj] using hy.symm
     have e2:(zs.map fun z=>Value.int k z).getD j undef = .int k zs[j]:=by simp [List.getD_eq_getElem?_getD,hj]
     rw[e1,e2];exact .int k _
   | _=>cases ht
theorem zeu (w:World)(k:Nat)(os:Array Go.Obj):WExt w (Go.Sort.grow (w.drewN k) os):=by
 refine⟨?_,fun b hb=>?_,rfl⟩
 ·show w.heap.size≤(w.heap++os).size
  simp
 ·show(w.heap++os)[b]?=_
  rw[Array.getElem?_append_left hb]
theorem itoaRow {ρ:Ren}(L:Go.Proofs.LaysM.n171 P ρ)(g:Nat)(hn:P.globalNamed "internal/strconv.uint64pow10" = some g)(hg:gl g=some uQ)(he:∀ us w,(callFunc (ρ.f 171) us).run P w = .ok (.enter (ρ.f 171) us) w):PureRow P gl (ρ.f 171) NI where
 enter:=he
 run M w vs r us hc hb hG hl hr hs:=by
  unfold NI at hs;split at hs
  ·rename_i n
   match us,hl with
   | [u],_=>
    have q:=hr 0 _ u rfl rfl
    cases q;cases hbd:(decide (-9223372036854775808≤n)&&decide (n≤9223372036854775807)) with
    | false=>rw[hbd]at hs;cases hs
    | true=>
     rw[hbd]at hs;simp only[cond_true,Option.some.injEq]at hs;subst hs;simp only[Bool.and_eq_true,decide_eq_true_eq]at hbd;have hpw:uQ = .agg (Go.Lib.pow10Tab.map (PV.int .u64)):=by unfold uQ Go.Lib.pow10Tab;rw[List.map_map];rfl
     rw[hpw]at hg;refine(Go.Proofs.Any.strconv_Itoa L n hbd.1 hbd.2 w (zl0 hn hg hc hb hG)).mono fun e w' h=>?_
     obtain⟨rfl,k,os,rfl⟩:=h;exact⟨_,rfl,zeu w k os,by rw[zfG];exact .p _ _ (.str _)⟩
  ·cases hs
end Go.Am
end
section
/- The abstract machine,part L3: strconv.Atoi asv a row. -/
set_option linter.all false
namespace Go.Am
variable {P:Program} {gl:Nat→Option PV}
open Go.Shelf
theorem dW:∀ (l:List UInt8)(acc n k:Nat),ZC acc l=some n→acc<10^k→l.length+k≤18→Go.Lib.parseUint10 acc l = .ok n∧n<10^(k+l.length)
 | [],acc,n,k,h,ha,hl=>by
  simp only[ZC,Option.some.injEq]at h;subst h;exact⟨rfl,by simpa using ha⟩
 | c::r,acc,n,k,h,ha,hl=>by
  simp only[ZC]at h;split at h
  ·rename_i hc
   simp only[List.length_cons]at hl ⊢;have h18:10^(k+1)≤10^18:=Nat.pow_le_pow_right (by omega) (by omega)
   have e18:(10:Nat)^18=1000000000000000000:=rfl
   have hp:acc*10+(c.toNat-48)<10^(k+1):=by rw[Nat.pow_succ];omega
   obtain⟨q1,q2⟩:=dW r _ n (k+1) h hp (by omega)
   refine⟨?_,by rw[show k+(r.length+1)=k+1+r.length by omega];exact q2⟩
   unfold Go.Lib.parseUint10;rw[if_pos hc,if_neg (by omega),if_neg (by omega)]
   exact q1
  ·cases h
theorem zfE {s:List UInt8}{n:Nat}(h1:1≤s.length)(h2:s.length≤18)(h:ZC 0 s=some n):Go.Lib.atoiAll s = .ok (n:Int):=by
 obtain⟨q1,q2⟩:=dW s 0 n 0 h (by simp) (by omega)
 have h18:10^(0+s.length)≤10^18:=Nat.pow_le_pow_right (by omega) (by omega)
 have e18:(10:Nat)^18=1000000000000000000:=rfl
 cases s with
 | nil=>simp at h1
 | cons c r=>
  have hc:48≤c.toNat∧c.toNat≤57:=by
   simp only[ZC]at h;split at h
   ·assumption
   ·cases h
  unfold Go.Lib.atoiAll;dsimp only;rw[if_neg (by omega)]
  have hm:Go.Lib.parseMag (c::r) = .ok n:=by unfold Go.Lib.parseMag;rw[if_neg (by simp)];exact q1
  rw[hm];dsimp only;rw[if_neg (by omega),if_neg (by omega),if_neg (by omega)]
theorem zfF {s:List UInt8}{n:Nat}(h1:2≤s.length)(h2:s.length≤18)(h0:s.head?=some 45)(h:ZC 0 s.tail=some n):Go.Lib.atoiAll s = .ok (-(n:Int)):=by
 cases s with
 | nil=>simp at h1
 | cons c r=>
  simp only[List.head?_cons,Option.some.injEq]at h0;subst h0;simp only[List.tail_cons,List.length_cons]at h h1 h2;obtain⟨q1,q2⟩:=dW r 0 n 0 h (by simp) (by omega)
  have h18:10^(0+r.length)≤10^18:=Nat.pow_le_pow_right (by omega) (by omega)
  have e18:(10:Nat)^18=1000000000000000000:=rfl
  have hm:Go.Lib.parseMag r = .ok n:=by
   unfold Go.Lib.parseMag;rw[if_neg (by intro e;subst e;simp at h1)]
   exact q1
  have e45:(45:UInt8).toNat=45:=rfl
  unfold Go.Lib.atoiAll;dsimp only;rw[if_pos (Or.inr e45),hm];dsimp only;rw[if_neg (by simp [e45]),if_neg (by omega),if_pos e45]
theorem z8u (w:World)(e:TypeId)(t:ByteArray):WExt w (Go.Lib.bytesWorld w e t):=
 ⟨by rw[Go.Lib.bytesWorld_size];omega,fun b hb=>Go.Lib.bytesWorld_at_old w e t b hb,by unfold zed Go.Lib.bytesWorld World.freeze;split <;> rfl⟩
theorem atoiRow {ρ:Ren}(L:Go.Proofs.LaysC.n172 P ρ)(he:∀ us w,(callFunc (ρ.f 172) us).run P w = .ok (.enter (ρ.f 172) us) w):PureRow P gl (ρ.f 172) xG where
 enter:=he
 run M w vs r us hc hb hG hl hr hs:=by
  unfold xG at hs;split at hs
  ·rename_i s
   match us,hl with
   | [u],_=>
    have q:=hr 0 _ u rfl rfl
    cases q;split at hs
    ·rename_i hbd
     have hv:∃v:Int,Go.Lib.atoiAll s = .ok v∧r = .tup [.p (.int .i64 v),.nili]:=by
      split at hs
      ·rename_i n hn
       simp only[Option.some.injEq]at hs;exact⟨_,zfE hbd.1 hbd.2 hn,hs.symm⟩
      ·split at hs
       ·rename_i h45
        obtain⟨n,hn,rfl⟩:=Option.map_eq_some_iff.1 hs;exact⟨_,zfF h45.2 hbd.2 h45.1 hn,rfl⟩
       ·cases hs
     obtain⟨n,hn,rfl⟩:=hv;have hsz:(⟨s.toArray⟩:ByteArray).size=s.length:=by simp [ByteArray.size]
     refine(Go.Proofs.Any.strconv_Atoi_ok L ⟨s.toArray⟩ (by rw[hsz];omega) n hn w).mono fun e w' h=>?_
     obtain⟨rfl,h⟩:=h;refine⟨_,rfl,?_,?_⟩
     ·rcases h with h|⟨t,h⟩
      ·rw[h];exact WExt.refl _
      ·rw[h];exact z8u _ _ t
     ·refine .tup _ [.int .i64 n,.nilIface] rfl (fun j y v h1 h2=>?_)
      match j with
      | 0=>simp at h1 h2;subst h1;subst h2;exact .p _ _ (.int _ _)
      | 1=>simp at h1 h2;subst h1;subst h2;exact .nili
      | j+2=>simp at h1
    ·cases hs
  ·cases hs
end Go.Am
end
