import Derived.KernelRfl
import Derived.Test.YthlhdniejglcnaaGreatDoorlawPY9
set_option linter.all false
set_option maxRecDepth 100000
set_option maxHeartbeats 0
namespace Go.Am
section
variable {h:aA} {K:jA}
attribute [-go_sem] SA FB LB z0L nO
def jF (ds:List TDev)(k:Nat)(l:List Cmd):List Cmd:=dD (oE (mC (ds.drop (k+1)))) (oE (mC (ds.take k))) (zs (ds.length-1-k)) (zs k) l
def PadQ (ds:List TDev)(nm:List UInt8)(l:List Cmd)(h:aA)(K:jA):Prop:=
 if nF ds l≠0 then K (.tup [ACs [],AI (nF ds l)]) h []
 else if YF ds nm<0 then K (.tup [ACs [],AI 8]) h []
 else if qB kA (jF ds (YF ds nm).toNat l)=0 then K (.tup [.own h.length (4+l.length) 0 (4+l.length),AI 0]) (h++[.row (some 6) ((jF ds (YF ds nm).toNat l).map xA) 0]) []
 else K (.tup [ACs [],AI (qB kA (jF ds (YF ds nm).toNat l):Nat)]) h []
theorem zgv (ds:List TDev)(nm:List UInt8):YF ds nm<ds.length:=by
 unfold YF XD;split
 ·rename_i h;rw[List.length_map]at h;omega
 ·omega
theorem OW {ds:List TDev}{b:Nat}(h:∀ d∈ds,d.long<=b):mC ds<=b*ds.length:=by
 induction ds with
 | nil=>simp [mC]
 | cons d l ih=>
  have h1:=h d List.mem_cons_self
  have:=ih λx hx=>h x (List.mem_cons_of_mem _ hx)
  unfold mC at *;rw[List.map_cons,List.sum_cons,List.length_cons,Nat.mul_add];omega
theorem zpf (ds:List TDev)(hB:∀ d∈ds,DevB d)(h3:ds.length<=20)(nm:List UInt8)(l:List Cmd)(hl:l.length<=1000)(hb:∀ c∈l,c.b.length<=5000/\c.w.length<=5000/\c.m.length<=5000) :
 bA X zP [nC ds,AS nm,ACs l] h K=PadQ ds nm l h K:=by
 have rf:=λh K=>za4 (h:=h) (K:=K) ds hB (by omega) l (λc hc=>⟨by have:=(hb c hc).1;omega,by have:=(hb c hc).2.1;omega,by have:=(hb c hc).2.2;omega⟩) (by omega)
 have da:=λK=>zpt (h:=h) (K:=K) ds (by omega) nm
 unfold PadQ;by_cases hr:nF ds l=0
 ·rw[if_neg (by simpa using hr)]
  obtain⟨hz,hp⟩:=z9U hr;have O:=(z5Z hz).1
  have dl:=zgv ds nm
  by_cases hn:YF ds nm<0
  ·rw[if_pos hn]
   refine sA ?_;rw[PY rfl];simp (config:={maxSteps:=40000000}) only[RK];refine⟨_,_,_,⟨rfl,rfl,rfl⟩,?_⟩;simp (config:={maxSteps:=40000000}) only[go_sem,↓rf,rf,hr,↓da,da,hn];rfl
  ·rw[if_neg hn]
   obtain⟨k,hk⟩:=Int.eq_ofNat_of_zero_le (show 0<=YF ds nm by omega)
   rw[hk]at da dl ⊢;have hkl:k<ds.length:=by omega
   have w1:IntKind.i64.wrap ((k:Int)+1)=((k+1:Nat):Int):=BA _ (by omega) (by omega)
   have w2:IntKind.i64.wrap ((ds.length:Int)-1)=((ds.length-1:Nat):Int):=by rw[BA _ (by omega) (by omega)];omega
   have w3:IntKind.i64.wrap (((ds.length-1:Nat):Int)-(k:Int))=((ds.length-1-k:Nat):Int):=by rw[BA _ (by omega) (by omega)];omega
   have bd:∀d∈ds,0<=d.long/\d.long<=1000:=λd hd=>by have:=O d hd;exact⟨by have:=this.lo;omega,by have:=this.hi;omega⟩
   have x1:win (ds.map RA) (k+1) (ds.length-(k+1))=(ds.drop (k+1)).map RA:=by
    unfold win;rw[<-List.map_drop,List.take_of_length_le (by simp)]
   have x2:win (ds.map RA) 0 k=(ds.take k).map RA:=by unfold win;rw[List.drop_zero,List.map_take]
   have o1:=λh K=>zaz (h:=h) (K:=K) (ds.drop (k+1)) (by simp;omega) (λd hd=>bd d (List.mem_of_mem_drop hd))
   have o2:=λh K=>zaz (h:=h) (K:=K) (ds.take k) (by simp;omega) (λd hd=>bd d (List.mem_of_mem_take hd))
   have r1:=λh K=>JF (h:=h) (K:=K) ((ds.length-1-k:Nat):Int) (by omega) (by omega)
   have r2:=λh K=>JF (h:=h) (K:=K) (k:Int) (by omega) (by omega)
   rw[Int.toNat_natCast]at r1 r2;have sl1:=OW (ds:=ds.drop (k+1)) (b:=1000) (λd hd=>(bd d (List.mem_of_mem_drop hd)).2)
   have sl2:=OW (ds:=ds.take k) (b:=1000) (λd hd=>(bd d (List.mem_of_mem_take hd)).2)
   have q1:k+1<=ds.length:=by omega
   have q2:k<=ds.length:=by omega
   have bl:∀d∈ds,d.long<=(32:Nat):=λd hd=>by have:=(O d hd).hi;omega
   have sm1:=OW (ds:=ds.drop (k+1)) (b:=32) (λd hd=>bl d (List.mem_of_mem_drop hd))
   have sm2:=OW (ds:=ds.take k) (b:=32) (λd hd=>bl d (List.mem_of_mem_take hd))
   rw[List.length_drop]at sm1;rw[List.length_take]at sm2;have lens:(oE (mC (ds.drop (k+1)))).length<=5000/\(oE (mC (ds.take k))).length<=5000/\(zs (ds.length-1-k)).length<=5000/\(zs k).length<=5000:=by
    refine⟨?_,?_,?_,?_⟩ <;> simp only[oE,zs,List.length_replicate] <;> omega
   have fin0:=λ(P:jA) (hP) (o:Obj) (M:List (Int×List UInt8)) (hM:MoreM M (oE (mC (ds.drop (k+1)))) (oE (mC (ds.take k))) (zs (ds.length-1-k)) (zs k))=>znP (h:=h) (o:=o) hM lens l hl hb (P:=P) rfl hP
   rw[Int.toNat_natCast];obtain⟨V,hH,eK,fin⟩:∃(V:AV) (hH:aA),(if qB kA (jF ds k l)=0 then K (.tup [.own h.length (4+l.length) 0 (4+l.length),AI 0]) (h++[.row (some 6) ((jF ds k l).map xA) 0]) [] else K (.tup [ACs [],AI (qB kA (jF ds k l):Nat)]) h [])=K V hH []/\∀(o:Obj) (M:List (Int×List UInt8)) (hM:MoreM M (oE (mC (ds.drop (k+1)))) (oE (mC (ds.take k))) (zs (ds.length-1-k)) (zs k)),NW (bA X) X.gl FM ⟨[(2,ACs l),(11,.mp (h.length+1))],h++[o,OA kPV tAV M],[]⟩ (dG [.o 6,.t 7] h.length λv1 h1 x1=>v1=V/\h1=hH/\x1=[]):=by
    have ep:jF ds k l=dD (oE (mC (ds.drop (k+1)))) (oE (mC (ds.take k))) (zs (ds.length-1-k)) (zs k) l:=rfl
    by_cases hz:qB kA (jF ds k l)=0
    ·rw[if_pos hz]
     refine⟨_,_,rfl,λo M hM=>fin0 _ ?_ o M hM⟩
     rw[<-ep,if_pos hz];exact⟨rfl,rfl,rfl⟩
    ·rw[if_neg hz]
     refine⟨_,_,rfl,λo M hM=>fin0 _ ?_ o M hM⟩
     rw[<-ep,if_neg hz];exact⟨rfl,rfl,rfl⟩
   rw[eK];refine sA ?_;rw[PY rfl];have nk:¬(k:Int)<0:=by omega
   generalize oE (mC (ds.drop (k+1)))=s1 at *;generalize oE (mC (ds.take k))=s2 at *;generalize zs (ds.length-1-k)=s3 at *;generalize zs k=s4 at *;simp (config:={maxSteps:=40000000}) only[RK];refine⟨_,_,_,⟨rfl,rfl,rfl⟩,?_⟩;simp (config:={maxSteps:=40000000}) only[go_sem,↓rf,rf,hr,↓da,da,nk,w1,List.length_map,q1,q2,x1,x2,↓o1,o1,↓o2,o2,↓r1,r1,↓r2,r2,w2,w3,map0,updC2];repeat' apply And.intro
   all_goals exact fin _ _ ⟨rfl,rfl,rfl,rfl⟩
 ·rw[if_pos hr]
  refine sA ?_;rw[PY rfl];simp (config:={maxSteps:=40000000}) only[RK];refine⟨_,_,_,⟨rfl,rfl,rfl⟩,?_⟩;simp (config:={maxSteps:=40000000}) only[go_sem,↓rf,rf,hr];rfl
end
def DG (k:Int):Bool:=k==1||k==3||k==4||k==7
def ofS (se:Sett)(k:Int):Cmd:=if k=1 then se.e1 else if k=2 then se.e2 else if k=3 then se.h1 else if k=4 then se.t1 else if k=5 then se.h2 else se.t2
def uK (k:Int):List Cmd->Bool
 | []=>false
 | x::r=>if x.k=k then false else if(x.k=7∨x.k=8)/\DG x.k=DG k then true else uK k r
abbrev NP (k:Int):Prop:=1<=k/\k<=6
def bH (se:Sett)(st:Nat)(c:Cmd)(l:List Cmd):Prop:=(NP c.k/\(uK c.k l=false∨ofS se c.k=c))∨(c.k=9/\c.cl=0/\st=1)∨(c.k=10/\c.s=st)
instance (se:Sett) (st:Nat) (c:Cmd) (l:List Cmd):Decidable (bH se st c l):=inferInstanceAs (Decidable (_∨_))
def z3V (se:Sett)(c:Cmd):Sett:=if NP c.k then se.put c else se
def z3W (se:Sett)(st:Nat)(c:Cmd):Nat:=if NP c.k then st else if c.k=7 then se.e1.s.toNat else if c.k=8 then se.e2.s.toNat else if c.k=9 then 1 else c.s.toNat
def wo (se:Sett)(st:Nat):List Cmd->List Cmd
 | []=>[]
 | c::l=>if bH se st c l then wo se st l else c::wo (z3V se c) (z3W se st c) l
theorem z4g:∀ (l:List Cmd) (se:Sett) (st:Nat),(wo se st l).Sublist l
 | [],_,_=>.slnil
 | c::l,se,st=>by
  unfold wo;split
  ·exact(z4g l se st).cons c
  ·exact(z4g l _ _).cons_cons c
theorem zq2 (r:Run)(c:Cmd)(hc:MA c=0):(r.step kA c).se=z3V r.se c/\(r.step kA c).st=z3W r.se r.st c:=by
 unfold z3V z3W;cases TD hc with
 | set h hs e=>rw[AH kA (by omega),if_pos (by omega),if_pos (by omega)];exact⟨rfl,rfl⟩
 | pad h0 h1 hb hl e=>rw[AH kA (by omega),if_pos (by omega),if_pos (by omega)];exact⟨rfl,rfl⟩
 | go h hs e=>
  rw[pN kA h,if_neg (by omega),if_neg (by omega),if_neg (by omega),if_neg (by omega),if_neg (by omega)]
  obtain⟨a,b,_⟩:=EB kA r c.s.toNat;exact⟨a,b⟩
 | idle h h0 h1 e=>
  rw[qK kA h,if_neg (by omega),if_neg (by omega),if_neg (by omega),if_neg (by omega),if_pos h]
  obtain⟨a,b,_⟩:=EB kA r 1;obtain⟨a2,b2,_⟩:=RC (r.go kA 1) (List.replicate c.cl.toNat (48,48,120));exact⟨a2.trans a,b2.trans b⟩
 | scan h hs e=>
  rw[rK kA h,if_neg (by omega),if_neg (by omega)]
  refine⟨(z3P c).2.2,?_⟩;show(r.scn kA c).st=_
  rcases h with h|h
  ·rw[if_pos h,(IW h).1];exact(EB kA _ _).2.1
  ·rw[if_neg (by omega),if_pos h,(HW h).1];exact(EB kA _ _).2.1
structure SimR (r r':Run):Prop where
 st:r.st=r'.st
 ck:r.ck=r'.ck
 tms:r.tms=r'.tms
 tdi:r.tdi=r'.tdi
 want:r.want=r'.want
 wr:r.wr=r'.wr
theorem SimR.clk {r r':Run}(H:SimR r r')(l:List (UInt8 × UInt8 × UInt8)):SimR (r.clk l) (r'.clk l):=by
 obtain⟨a,b,c,d,e,f⟩:=H;unfold Run.clk;rw[f];split
 ·exact⟨a,by dsimp only;rw[b],by dsimp only;rw[c],by dsimp only;rw[d],by dsimp only;rw[e],rfl⟩
 ·exact⟨a,by dsimp only;rw[b],c,d,e,rfl⟩
theorem SimR.go {r r':Run}(H:SimR r r')(n:Nat):SimR (r.go kA n) (r'.go kA n):=by
 unfold Run.go;rw[H.st];obtain⟨a,b,c,d,e,f⟩:=H.clk ((kA r'.st n).map λc=>(c,48,120))
 exact⟨rfl,b,c,d,e,f⟩
theorem SimR.put {r r':Run}(H:SimR r r')(s s':List Nat)(f f':List Nat):SimR { r with sts:=s,frs:=f } { r' with sts:=s',frs:=f' }:=⟨H.st,H.ck,H.tms,H.tdi,H.want,H.wr⟩
theorem SimR.trans {a b c:Run}(h1:SimR a b)(h2:SimR b c):SimR a c:=⟨h1.st.trans h2.st,h1.ck.trans h2.ck,h1.tms.trans h2.tms,h1.tdi.trans h2.tdi,h1.want.trans h2.want,h1.wr.trans h2.wr⟩
section
variable {h:aA} {K:jA}
end
section
variable {h:aA} {K:jA}
end
section
variable {h:aA} {K:jA}
end
section
variable {h:aA} {K:jA}
end
section
variable {h:aA} {K:jA}
end
section
variable {h:aA} {K:jA}
end
section
variable {h:aA} {K:jA}
end
section
variable {L:List Int} {a:Int} {h l:aA} {id:Nat} {K:jA}
end
section
variable {L:List Int} {a:Int} {h l:aA} {id:Nat} {K:jA}
end
section
attribute [-go_sem] PV.cells splice
variable {h:aA} {K:jA}
attribute [-go_sem] AV.cells cut
attribute [go_sem] AV.cells cut
end
section
variable {L:List Int} {a:Int} {h l:aA} {id:Nat} {K:jA}
end
section
attribute [-go_sem] PV.cells splice
variable {h:aA} {K:jA}
end
section
variable {L:List Int} {a:Int} {h:aA} {K:jA}
end
section
variable {h l2:aA} {K:jA} {r:Run} {n:Nat} {o:Obj} {x:Esc}
attribute [-go_sem] SA
theorem zav (n:Int):bA X yL [AI n] h K=K (AB (DG n)) h []:=by
 refine sA ?_;rw[zf3 rfl];unfold DG;by_cases h1:n=1
 ·subst h1;simp only[YH,go_sem]
 by_cases h3:n=3
 ·subst h3;simp only[YH,go_sem]
 by_cases h4:n=4
 ·subst h4;simp only[YH,go_sem]
 by_cases h7:n=7
 ·subst h7;simp only[YH,go_sem]
 ·have e:(n==1||n==3||n==4||n==7)=false:=by simp [h1,h3,h4,h7]
  rw[e];simp only[YH,go_sem,h1,h3,h4,h7]
theorem eqaB (a b:Bool):SA [] false (AB a) (AB b)=some (AB (a==b)):=by
 cases a <;> cases b <;> rfl
theorem zpM (c:Cmd)(l:List Cmd)(hl:l.length<=1000000):bA X EP [ACm c,ACs l] h K=K (AB (uK c.k l)) h []:=by
 refine sA ?_;rw[zfH rfl];simp only[mT,go_sem];refine bB (λk:Nat=>⟨[(2,.ref h.length 0),(7,ACs l),(8,AI l.length),(9,AI k)],h++[.box [AI c.k,AI c.s,AI c.cl,AS c.b,AS c.w,AS c.m]],[]⟩) (λk=>k<=l.length/\uK c.k l=uK c.k (l.drop k)) (λk=>l.length-k) 0 rfl ⟨Nat.zero_le _,rfl⟩ ?_
 rintro k ⟨hk,hu⟩
 rcases Nat.lt_or_ge k l.length with hlt|hge
 ·have hg:=VB xA hlt
  have w2:IntKind.i64.wrap ((k:Int)+1)=((k+1:Nat):Int):=BA _ (by omega) (by omega)
  rw[List.drop_eq_getElem_cons hlt,uK]at hu;generalize l[k]=d at *;by_cases h1:d.k=c.k
  ·rw[if_pos h1]at hu
   rw[hu];simp only[go_sem,hlt,hg,splice,h1]
  ·rw[if_neg h1]at hu
   have f1:=λ(h':aA) (K':jA)=>pF (h:=h') (K:=K') d.k
   have f2:=λ(h':aA) (K':jA)=>zav (h:=h') (K:=K') d.k
   have f3:=λ(h':aA) (K':jA)=>zav (h:=h') (K:=K') c.k
   by_cases h2:d.k=7∨d.k=8
   ·have e2:(decide (d.k=7)||decide (d.k=8))=true:=by simpa using h2
    rw[e2]at f1;by_cases h3:DG d.k=DG c.k
    ·rw[if_pos ⟨h2,h3⟩]at hu
     rw[hu];have e3:(DG d.k==DG c.k)=true:=by simpa using h3
     simp only[go_sem,hlt,hg,splice,h1,f1,f2,f3,eqaB,e3]
    ·rw[if_neg (λq=>h3 q.2)]at hu
     have e3:(DG d.k==DG c.k)=false:=by simpa using h3
     simp only[go_sem,hlt,hg,splice,h1,f1,f2,f3,eqaB,e3,w2];exact⟨k+1,rfl,⟨by omega,hu⟩,by omega⟩
   ·rw[if_neg (λq=>h2 q.1)]at hu
    have e2:(decide (d.k=7)||decide (d.k=8))=false:=by simpa using h2
    rw[e2]at f1;simp only[go_sem,hlt,hg,splice,h1,f1,w2];exact⟨k+1,rfl,⟨by omega,hu⟩,by omega⟩
 ·obtain rfl:k=l.length:=by omega
  rw[List.drop_length]at hu;rw[hu];simp only[go_sem,Nat.lt_irrefl,Int.lt_irrefl];rfl
theorem ld_rc {s:Sett}{st ck ni nd:Int}{a b c d e:AV}{w:Bool}{k:Int}(hk:NP k):ldB (some 6) (sH k) (some (.box (rc s st ck ni nd a b c d e w)))=some (ACm (ofS s k)):=by
 have h2:k=1∨k=2∨k=3∨k=4∨k=5∨k=6:=by omega
 rcases h2 with rfl|rfl|rfl|rfl|rfl|rfl <;> rfl
attribute [local go_sem] mG NI vH wH LG fK oW pW tQ mF GF
theorem zoG {l:aA}:(rh h r l)[h.length+7]?=l[1]?:=vH (n:=1)
theorem zoH {l:aA}:(rh h r l).set (h.length+7) o=rh h r (l.set 1 o):=wH (n:=1)
theorem zoI {l:aA}:(rh h r l).take (h.length+7)=rh h r (l.take 1):=LG (n:=1)
attribute [local go_sem] zoG zoH zoI
theorem z68 (c d:Cmd):SA [0,0,0,2,2,2] false (ACm c) (ACm d)=some (AB (decide (c=d))):=by
 obtain⟨k,s,cl,b,w,m⟩:=c;obtain⟨k',s',cl',b',w',m'⟩:=d;unfold SA;dsimp only;rw[if_pos ⟨rfl,rfl,by simp⟩,eqs6]
 rfl
theorem winD (l:List Cmd)(k:Nat):win (l.map xA) k (l.length-k)=(l.drop k).map xA:=by
 unfold win;rw[<-List.map_drop];exact List.take_of_length_le (by simp)
theorem zpo (l:List Cmd)(hok:∀ c∈l,CmdOk c)(hl:l.length<=40)(h0:qB kA l=0):bA X BP [ACs l] h K=K (.tup [.own h.length (wo rF 0 l).length 0 (wo rF 0 l).length,AI 0]) (h++[.row (some 6) ((wo rF 0 l).map xA) 0]) []:=by
 refine sA ?_;rw[zf2 rfl];have hk:=λ(h':aA) (K':jA)=>zoS (h:=h') (K:=K') l hok hl
 obtain⟨hc,hn,_⟩:=z3q h0;have hp:=λ(h':aA) (K':jA)=>za2 (h:=h') (K:=K') [] (by simp) (by simp)
 have p0:(OB false).play kA []=OB false:=rfl
 simp only[ACs,List.map_nil,p0]at hp;rw[h0]at hk;simp only[aT,go_sem,hk,hp,show((0:Nat):Int)=0 from rfl]
 refine bB (λt:Nat×Run×List Cmd=>⟨[(0,ACs l),(5,.ref (h.length+5) 0),(6,.own (h.length+6) t.2.2.length 0 t.2.2.length),(15,ACs l),(16,AI l.length),(17,AI t.1)],rh h t.2.1 [.row (some 6) (t.2.2.map xA) 0],[]⟩)
  (λt=>t.1<=l.length/\RunI t.2.1 t.2.2.length/\t.2.1.ck<=20016*t.1/\t.2.2.length<=t.1/\t.2.2++wo t.2.1.se t.2.1.st (l.drop t.1)=wo rF 0 l) (λt=>l.length-t.1) (0,OB false,[]) rfl ⟨Nat.zero_le _,z9V false,Nat.zero_le _,Nat.zero_le _,rfl⟩ ?_
 rintro⟨k,r,out⟩ ⟨hkl,I,hck,hol,hw⟩
 dsimp only at hkl I hck hol hw ⊢;rcases Nat.lt_or_ge k l.length with hlt|hge
 ·have hg:=VB xA hlt
  have w2:IntKind.i64.wrap ((k:Int)+1)=((k+1:Nat):Int):=BA _ (by omega) (by omega)
  have hcf:=hc _ (List.getElem_mem hlt)
  rw[List.drop_eq_getElem_cons hlt,wo]at hw;have hin:k+1<=l.length:=hlt
  have hin':((k+1:Nat):Int)<=(l.length:Int):=by omega
  have hwin:=winD l (k+1)
  generalize l[k]=c at *;have fs:=λ(h':aA) (K':jA)=>MG (h:=h') (K:=K') c.k
  have fu:=λ(h':aA) (K':jA)=>zpM (h:=h') (K:=K') c (l.drop (k+1)) (by rw[List.length_drop];omega)
  have fo:=λ(l2:aA) (K':jA)=>zay (h:=rh h r l2) (K:=K') (id:=h.length+5) (by rw[mG];omega) c.k
  have hsp:=λ(l2:aA) (K':jA)=>za6 (h:=h) (l:=l2) (K:=K') I.R I.N (by omega) I.st I.S (by rw[I.sl];omega) (by rw[I.fl];omega) c hcf
  obtain⟨I2,c2⟩:=z9W I hcf;obtain⟨t1,t2⟩:=zq2 r c hcf;have hsh:PV.shp (some 6) (xA c)=true:=rfl
  have hmx:out.length+1<=LA:=by unfold LA;omega
  have hml:(out.map xA).length=out.length:=List.length_map ..
  by_cases hs:NP c.k
  ·have e1:(decide (1<=c.k)&&decide (c.k<=6))=true:=by simp [hs]
   have n9:¬c.k=9:=by omega
   have n10:¬c.k=10:=by omega
   rw[e1]at fs;have hld:=λ(a b d e f:AV)=>ld_rc (s:=r.se) (st:=r.st) (ck:=r.ck) (ni:=r.ni) (nd:=r.nd) (a:=a) (b:=b) (c:=d) (d:=e) (e:=f) (w:=r.wr) hs
   cases hu:uK c.k (l.drop (k+1)) with
   | false=>
    rw[hu]at fu;rw[if_pos (.inl ⟨hs,.inl hu⟩)]at hw;simp only[go_sem,hlt,hg,splice,fs,fu,hin,hin',w2,hwin,List.length_map];exact⟨(k+1,r,out),rfl,⟨by dsimp only;omega,I,by dsimp only;omega,by dsimp only;omega,hw⟩,by dsimp only;omega⟩
   | true=>
    rw[hu]at fu;by_cases he:ofS r.se c.k=c
    ·rw[if_pos (.inl ⟨hs,.inr he⟩)]at hw
     have hq:=z68 (ofS r.se c.k) c
     rw[decide_eq_true he]at hq;simp only[go_sem,hlt,hg,splice,fs,fu,fo,hin,hin',w2,hwin,List.length_map,↓hld,hld,↓hq,hq];exact⟨(k+1,r,out),rfl,⟨by dsimp only;omega,I,by dsimp only;omega,by dsimp only;omega,hw⟩,by dsimp only;omega⟩
    ·have nd:¬bH r.se r.st c (l.drop (k+1)):=by
      rintro (⟨_,h|h⟩|⟨h,_⟩|⟨h,_⟩)
      ·rw[hu]at h;cases h
      ·exact he h
      ·exact n9 h
      ·exact n10 h
     rw[if_neg nd,<-t1,<-t2]at hw;have hq:=z68 (ofS r.se c.k) c
     rw[decide_eq_false he]at hq;simp only[go_sem,hlt,hg,splice,fs,fu,fo,hin,hin',w2,hwin,List.length_map,↓hld,hld,↓hq,hq,n9,n10,hsp,hmx,hsh,hml];exact⟨(k+1,r.step kA c,out++[c]),by simp,⟨by dsimp only;omega,by simpa using I2,by dsimp only;omega,by simp;omega,by rw[<-hw];simp⟩,by dsimp only;omega⟩
  ·have e1:(decide (1<=c.k)&&decide (c.k<=6))=false:=by rw[<-Bool.decide_and];exact decide_eq_false hs
   rw[e1]at fs;have kinds:c.k=7∨c.k=8∨c.k=9∨c.k=10:=by cases TD hcf <;> omega
   have keep:¬bH r.se r.st c (l.drop (k+1))->∃t',(⟨[(0,ACs l),(5,.ref (h.length+5) 0),(6,.own (h.length+6) (out.length+1) 0 (out.length+1)),(15,ACs l),(16,AI l.length),(17,AI (k+1:Nat))],rh h (r.step kA c) [.row (some 6) (out.map xA++[xA c]) 0],[]⟩:St)=(λt:Nat×Run×List Cmd=>(⟨[(0,ACs l),(5,.ref (h.length+5) 0),(6,.own (h.length+6) t.2.2.length 0 t.2.2.length),(15,ACs l),(16,AI l.length),(17,AI t.1)],rh h t.2.1 [.row (some 6) (t.2.2.map xA) 0],[]⟩:St)) t'/\(t'.1<=l.length/\RunI t'.2.1 t'.2.2.length/\t'.2.1.ck<=20016*t'.1/\t'.2.2.length<=t'.1/\t'.2.2++wo t'.2.1.se t'.2.1.st (l.drop t'.1)=wo rF 0 l)/\l.length-t'.1<l.length-k:=λnd=>by
    rw[if_neg nd,<-t1,<-t2]at hw;exact⟨(k+1,r.step kA c,out++[c]),by simp,⟨by dsimp only;omega,by simpa using I2,by dsimp only;omega,by simp;omega,by rw[<-hw];simp⟩,by dsimp only;omega⟩
   clear fu fo;obtain⟨ck,cs,ccl,cb,cw,cm⟩:=c;dsimp only at kinds fs hg hsp hsh keep hw e1 hs;have sz:∀z:Int,z=7∨z=8∨z=9∨z=10->(decide (1<=z)&&decide (z<=6))=false:=λz hz=>by rw[<-Bool.decide_and];exact decide_eq_false (by omega)
   rcases kinds with rfl|rfl|rfl|rfl
   ·have nd:¬bH r.se r.st ⟨7,cs,ccl,cb,cw,cm⟩ (l.drop (k+1)):=by
     rintro (⟨⟨_,h⟩,_⟩|⟨h,_⟩|⟨h,_⟩) <;> exact absurd h (by dsimp only;omega)
    simp only[go_sem,hlt,hg,splice,fs,hin,hin',w2,hwin,List.length_map,hsp,hmx,hsh,hml];exact keep nd
   ·have nd:¬bH r.se r.st ⟨8,cs,ccl,cb,cw,cm⟩ (l.drop (k+1)):=by
     rintro (⟨⟨_,h⟩,_⟩|⟨h,_⟩|⟨h,_⟩) <;> exact absurd h (by dsimp only;omega)
    simp only[go_sem,hlt,hg,splice,fs,hin,hin',w2,hwin,List.length_map,hsp,hmx,hsh,hml];exact keep nd
   ·by_cases hcl:ccl=0
    ·subst hcl
     by_cases hst:r.st=1
     ·have hst':(r.st:Int)=1:=by omega
      rw[if_pos (.inr (.inl ⟨rfl,rfl,hst⟩))]at hw;simp only[go_sem,hlt,hg,splice,fs,hin,hin',w2,hwin,List.length_map,hst',mF,GF];exact⟨(k+1,r,out),rfl,⟨by dsimp only;omega,I,by dsimp only;omega,by dsimp only;omega,hw⟩,by dsimp only;omega⟩
     ·have hst':¬(r.st:Int)=1:=by omega
      have nd:¬bH r.se r.st ⟨9,cs,0,cb,cw,cm⟩ (l.drop (k+1)):=by
       rintro (⟨⟨_,h⟩,_⟩|⟨_,_,h⟩|⟨h,_⟩)
       ·exact absurd h (by dsimp only;omega)
       ·exact hst h
       ·exact absurd h (by dsimp only;omega)
      simp only[go_sem,hlt,hg,splice,fs,hin,hin',w2,hwin,List.length_map,hst',mF,GF,hsp,hmx,hsh,hml];exact keep nd
    ·have nd:¬bH r.se r.st ⟨9,cs,ccl,cb,cw,cm⟩ (l.drop (k+1)):=by
      rintro (⟨⟨_,h⟩,_⟩|⟨_,h,_⟩|⟨h,_⟩)
      ·exact absurd h (by dsimp only;omega)
      ·exact hcl h
      ·exact absurd h (by dsimp only;omega)
     simp only[go_sem,hlt,hg,splice,fs,hin,hin',w2,hwin,List.length_map,hcl,mF,GF,hsp,hmx,hsh,hml];exact keep nd
   ·by_cases hst:cs=(r.st:Int)
    ·rw[if_pos (.inr (.inr ⟨rfl,hst⟩))]at hw
     simp only[go_sem,hlt,hg,splice,fs,hin,hin',w2,hwin,List.length_map,hst,mF,GF];exact⟨(k+1,r,out),rfl,⟨by dsimp only;omega,I,by dsimp only;omega,by dsimp only;omega,hw⟩,by dsimp only;omega⟩
    ·have nd:¬bH r.se r.st ⟨10,cs,ccl,cb,cw,cm⟩ (l.drop (k+1)):=by
      rintro (⟨⟨_,h⟩,_⟩|⟨h,_⟩|⟨_,h⟩)
      ·exact absurd h (by dsimp only;omega)
      ·exact absurd h (by dsimp only;omega)
      ·exact hst h
     simp only[go_sem,hlt,hg,splice,fs,hin,hin',w2,hwin,List.length_map,hst,mF,GF,hsp,hmx,hsh,hml];exact keep nd
 ·obtain rfl:k=l.length:=by omega
  rw[List.drop_length,wo,List.append_nil]at hw;subst hw;simp only[go_sem,Nat.lt_irrefl,Int.lt_irrefl,List.length_map];unfold rh;rw[zoE];exact⟨rfl,rfl,rfl⟩
end
section
variable {h:aA} {K:jA}
attribute [-go_sem] SA splice
theorem zoU (l:List Cmd)(hl:l.length<=1000000):bA X SO [.p (.sl (some 6) (l.map xA))] h K=K (.own h.length l.length 0 l.length) (h++[.row (some 6) (l.map xA) 0]) []:=by
 refine sA ?_;rw[zeN rfl];simp only[fS];cases l with
 | nil=>
  refine⟨_,_,_,⟨rfl,rfl,rfl⟩,?_⟩;simp only[List.map_nil,List.length_nil,go_sem];have:max h.length (h.length+1)=h.length+1:=by omega
  rw[this,List.take_of_length_le (by simp)]
  try trivial
 | cons x r=>
  refine⟨_,_,_,⟨rfl,rfl,rfl⟩,?_⟩;have hm:r.length+1<=LA:=by simp only[List.length_cons]at hl;unfold LA;omega
  simp only[List.map_cons,List.length_cons,go_sem,hm];have:max h.length (h.length+1)=h.length+1:=by omega
  rw[this,List.take_of_length_le (by simp)]
end
section
variable {h:aA} {K:jA}
attribute [-go_sem] SA splice
def cU (n:Nat):List UInt8:=List.replicate n 49
def JL (c:Cmd)(s:List UInt8):Cmd:=if TC c=true then { c with w:=s,m:=cU s.length } else c
def cD (l:List Cmd)(RV:List (List UInt8))(k:Nat):List Cmd:=(List.range l.length).map λi=>if i<k then JL (l.getD i z1m) (RV.getD i []) else l.getD i z1m
def KL (l:List Cmd)(RV:List (List UInt8)):List Cmd:=cD l RV l.length
theorem RP (l:List Cmd)(RV:List (List UInt8))(k:Nat):(cD l RV k).length=l.length:=by simp [cD]
theorem zl6 (l:List Cmd)(RV:List (List UInt8)):cD l RV 0=l:=by
 apply List.ext_getElem
 ·simp [cD]
 ·intro i h1 h2
  simp [cD,List.getD_eq_getElem?_getD,List.getElem?_eq_getElem h2]
theorem z8Q (l:List Cmd)(RV:List (List UInt8)){k:Nat}(hk:k<l.length):(cD l RV k)[k]?=some l[k]:=by
 rw[List.getElem?_eq_getElem (by rw[RP];exact hk)]
 simp [cD,List.getD_eq_getElem?_getD,List.getElem?_eq_getElem hk]
theorem z8R (l:List Cmd)(RV:List (List UInt8)){k:Nat}(hk:k<l.length){s:List UInt8}(hs:RV[k]?=some s):cD l RV (k+1)=(cD l RV k).set k (JL l[k] s):=by
 apply List.ext_getElem
 ·simp [cD]
 ·intro j h1 h2
  rw[List.getElem_set];by_cases hj:k=j
  ·subst hj
   simp [cD,List.getD_eq_getElem?_getD,List.getElem?_eq_getElem hk,hs]
  ·rw[if_neg hj]
   simp only[cD,List.getElem_map,List.getElem_range];by_cases h3:j<k
   ·rw[if_pos h3,if_pos (by omega)]
   ·rw[if_neg h3,if_neg (by omega)]
theorem zl7 (l:List Cmd)(RV:List (List UInt8)){k:Nat}(hk:k<l.length){s:List UInt8}(hs:RV[k]?=some s)(hc:TC l[k]=false):cD l RV (k+1)=cD l RV k:=by
 rw[z8R l RV hk hs];have:JL l[k] s=l[k]:=by unfold JL;rw[if_neg (by rw[hc];simp)]
 rw[this];have g:=z8Q l RV hk
 apply List.ext_getElem?
 intro j;rw[List.getElem?_set];split
 ·rename_i e;subst e
  rw[g,RP,if_pos hk]
 ·rfl
theorem zpj (n:Int)(h0:0<=n)(h1:n<=1000000):bA X DA [AS [49],AI n] h K=K (AS (cU n.toNat)) h []:=by
 rw[wQ [49] n h0 (by simp;omega) h1,cN];rfl
theorem zpe (ds:List TDev)(hB:∀ d∈ds,DevB d)(h3:ds.length<=1000)(l:List Cmd)(hok:∀ c∈l,CmdOk c)(hl:l.length<=1000000) :
 bA X yP [nC ds,ACs l] h K=if nF ds l=0 then K (.tup [.own h.length l.length 0 l.length,AI 0]) (h++[.row (some 6) ((KL l (KG ds l)).map xA) 0]) [] else K (.tup [ACs [],AI (nF ds l)]) h []:=by
 have q1:=λh K=>za4 (h:=h) (K:=K) ds hB h3 l hok hl
 by_cases e:nF ds l=0
 ·obtain⟨e1,e2⟩:=z9U e
  have q2:=λh K=>zp8 (h:=h) (K:=K) ds hB e1 l e2
  have q3:=λh K=>zoU (h:=h) (K:=K) l hl
  rw[if_pos e];refine sA ?_;rw[z5x rfl];rw[e]at q1;obtain⟨hc,hn,hl⟩:=z3q e2;have tl:=zaZ (ds:=ds) hc
  have rl:(KG ds l).length=l.length:=z30 kA l [] 0 0 (LF ds l)
  have rs:=λk hk=>zo1 (R:=LF ds l) l (by omega) k hk
  have hRV:lF kA [] 0 l 0 (LF ds l)=KG ds l:=rfl
  rw[hRV]at rs;simp only[fO,go_sem,↓q1,q1,↓q2,q2,↓q3,q3];unfold KL;generalize KG ds l=RV at *;refine bB (λk:Nat=>⟨[(7,.own h.length l.length 0 l.length),(20,z4w RV),(21,.p (.int .i64 (RV.length:Nat))),(22,AI k)],h++[.row (some 6) ((cD l RV k).map xA) 0],[]⟩) (λk=>k<=l.length) (λk=>l.length-k) 0 (by rw[zl6];rfl) (by omega) ?_
  intro k hk;have lml:((cD l RV k).map xA).length=l.length:=by rw[List.length_map,RP]
  rcases Nat.lt_or_ge k l.length with hlt|hge
  ·have hlt':(k:Int)<(RV.length:Int):=by omega
   obtain⟨s,x1,x2⟩:=rs k hlt;have hgs:(RV.map PV.str)[k]?=some (.str s):=by rw[List.getElem?_map,x1];rfl
   have w2:IntKind.i64.wrap ((k:Int)+1)=((k+1:Nat):Int):=BA _ (by omega) (by omega)
   have hg:((cD l RV k).map xA)[k]?=some (xA l[k]):=by rw[List.getElem?_map,z8Q l RV hlt];rfl
   have ls:=z8R l RV hlt x1
   have lsm:=λhq=>zl7 l RV hlt x1 hq
   have ml:=zlP (hc _ (List.getElem_mem hlt))
   generalize hLI:cD l RV (k+1)=L1 at *;generalize cD l RV k=LI at *;generalize l[k]=c at *;have fp:xA c = .agg [eI c.k,eI c.s,eI c.cl,.str c.b,.str c.w,.str c.m]:=rfl
   rw[fp]at hg;cases hs:TC c with
   | true=>
    have is:(decide (c.k=7)||decide (c.k=8))=true:=by rcases IE.1 hs with e|e <;> simp [e]
    have sl:s.length<=2000:=by
     rcases ml with⟨m1,m2,_⟩|⟨m1,_⟩
     ·rw[if_pos hs]at x2;omega
     ·rw[hs]at m1;cases m1
    have ro:=λh K=>zpj (h:=h) (K:=K) (s.length:Int) (by omega) (by omega)
    simp only[Int.toNat_natCast]at ro;have el:JL c s=⟨c.k,c.s,c.cl,c.b,s,cU s.length⟩:=by unfold JL;rw[if_pos hs]
    have e2:L1.map xA=(LI.map xA).set k (.agg [eI c.k,eI c.s,eI c.cl,.str c.b,.str s,.str (cU s.length)]):=by rw[ls,el,List.map_set]
    have gs:∀v,((LI.map xA).set k v)[k]?=some v:=λv=>List.getElem?_set_self (by omega)
    have ss:∀v w,((LI.map xA).set k v).set k w=(LI.map xA).set k w:=λv w=>List.set_set ..
    have lls:∀v,((LI.map xA).set k v).length=l.length:=λv=>by rw[List.length_set,lml]
    simp only[z0H,iO,z0I,jO,go_sem,splice,hlt',hlt,hgs,hg,pF,is,lml,↓ro,ro,gs,ss,lls,w2];exact⟨k+1,by rw[hLI,e2],by omega,by omega⟩
   | false=>
    have is:(decide (c.k=7)||decide (c.k=8))=false:=by
     cases q:(decide (c.k=7)||decide (c.k=8)) with
     | false=>rfl
     | true=>
      have:c.k=7∨c.k=8:=by simpa using q
      rw[IE.2 this]at hs;cases hs
    have e2:=lsm hs
    simp only[z0H,iO,z0I,jO,go_sem,splice,hlt',hlt,hgs,hg,pF,is,lml,w2];exact⟨k+1,by rw[hLI,e2],by omega,by omega⟩
  ·have ek:k=l.length:=by omega
   have hlt':¬(k:Int)<(RV.length:Int):=by omega
   rw[ek]at lml ⊢;rw[ek]at hlt';simp only[z6w,VS,go_sem,hlt'];rw[zoC];exact⟨rfl,rfl,rfl⟩
 ·rw[if_neg e]
  refine sA ?_;rw[z5x rfl];simp only[fO,go_sem,↓q1,q1,e,List.map_nil];rfl
end
section
variable {h:aA} {K:jA}
attribute [-go_sem] SA
theorem eqa6n (c d:Cmd):SA [0,0,0,2,2,2] true (ACm c) (ACm d)=some (AB (!decide (c=d))):=by
 obtain⟨k,s,cl,b,w,m⟩:=c;obtain⟨k',s',cl',b',w',m'⟩:=d;exact BO
theorem zpd (l m:List Cmd)(hl:l.length<=1000000000):bA X aP [ACs l,ACs m] h K=K (AB (decide (l=m))) h []:=by
 refine sA ?_;rw[zeV rfl];by_cases he:l.length=m.length
 ·have he':(l.length:Int)=(m.length:Int):=by omega
  simp only[VN,go_sem,he'];refine bB (λk:Nat=>⟨[(0,ACs l),(1,ACs m),(12,AI m.length),(13,AI k)],h,[]⟩) (λk=>k<=l.length/\l.take k=m.take k) (λk=>l.length-k) 0 rfl (by simp) ?_
  rintro k ⟨hk,hp⟩
  rcases Nat.lt_or_ge k l.length with hlt|hge
  ·have hlt2:k<m.length:=by omega
   have hlt3:(k:Int)<(m.length:Int):=by omega
   have g1:=VB xA hlt
   have g2:=VB xA hlt2
   have w2:IntKind.i64.wrap ((k:Int)+1)=((k+1:Nat):Int):=BA _ (by omega) (by omega)
   have hq:=eqa6n l[k] m[k]
   by_cases h1:l[k]=m[k]
   ·rw[decide_eq_true h1]at hq
    simp only[go_sem,hlt,hlt2,hlt3,g1,g2,↓hq,hq,w2];refine⟨k+1,rfl,⟨by omega,?_⟩,by omega⟩
    rw[List.take_succ_eq_append_getElem hlt,List.take_succ_eq_append_getElem hlt2,hp,h1]
   ·rw[decide_eq_false h1]at hq
    have hne:¬l=m:=λe=>h1 (by subst e;rfl)
    simp only[go_sem,hlt,hlt2,hlt3,g1,g2,↓hq,hq,hne]
  ·obtain rfl:k=l.length:=by omega
   rw[List.take_length,he,List.take_length]at hp;subst hp;simp only[go_sem,Nat.lt_irrefl,Int.lt_irrefl,decide_true]
 ·have he':¬(l.length:Int)=(m.length:Int):=by omega
  have hne:¬l=m:=λe=>he (by rw[e])
  simp only[VN,go_sem,he',hne]
end
section
variable {h:aA} {K:jA}
attribute [-go_sem] SA
def zeC:PV:=.agg [eI 0,eI 0,eI 0,.str [],.str [],.str []]
theorem zpH:bA X mI [ACs []] h K=K (.tup []) h []:=by
 refine sA ?_;rw[z5v];simp only[QN,go_sem,List.map_nil];refine bB (λk:Nat=>⟨[(0,ACs []),(2,.ref h.length 0),(5,AI 0),(6,AI k)],h++[.box [AI 0,AI 0,AI 0,AS [],AS [],AS []]],[]⟩) (λk=>k=0) (λk=>0) 0 rfl rfl ?_
 intro k hk;subst hk;simp only[pT,IK,go_sem,Int.lt_irrefl]
theorem z3K (l:List Cmd)(hl:l.length<=1000000):bA X mI [.own h.length l.length 0 l.length] (h++[.row (some 6) (l.map xA) 0]) K=K (.tup []) (h++[.row (some 6) (List.replicate l.length zeC) 0]) []:=by
 refine sA ?_;rw[z5v];simp only[QN,go_sem,List.length_map];refine bB (λk:Nat=>⟨[(0,.own h.length l.length 0 l.length),(2,.ref (h.length+1) 0),(5,AI l.length),(6,AI k)],h++[.row (some 6) (List.replicate k zeC++(l.drop k).map xA) 0,.box [AI 0,AI 0,AI 0,AS [],AS [],AS []]],[]⟩) (λk=>k<=l.length) (λk=>l.length-k) 0 (by simp) (by omega) ?_
 intro k hk;have lml:(List.replicate k zeC++(l.drop k).map xA).length=l.length:=by simp;omega
 rcases Nat.lt_or_ge k l.length with hlt|hge
 ·have hlt':(k:Int)<(l.length:Int):=by omega
  have w2:IntKind.i64.wrap ((k:Int)+1)=((k+1:Nat):Int):=BA _ (by omega) (by omega)
  have hg:(List.replicate k zeC++(l.drop k).map xA)[k]?=some (xA l[k]):=by
   rw[List.getElem?_append_right (by simp),List.length_replicate,Nat.sub_self,List.drop_eq_getElem_cons hlt];rfl
  have fp:∀c:Cmd,xA c = .agg [eI c.k,eI c.s,eI c.cl,.str c.b,.str c.w,.str c.m]:=λ_=>rfl
  rw[fp]at hg;have e1:(List.replicate k zeC++(l.drop k).map xA).set k zeC=List.replicate (k+1) zeC++(l.drop (k+1)).map xA:=by
   rw[List.set_append_right _ _ (by simp),List.length_replicate,Nat.sub_self,List.drop_eq_getElem_cons hlt,List.map_cons,List.set_cons_zero,List.replicate_succ',List.append_assoc];rfl
  have ez:(PV.agg [eI 0,eI 0,eI 0,.str [],.str [],.str []])=zeC:=rfl
  generalize (List.replicate k zeC++(l.drop k).map xA)=M at *;simp only[pT,IK,go_sem,splice,hlt',hlt,hg,lml,w2];exact⟨k+1,by rw[<-e1];rfl,by omega,by omega⟩
 ·have ek:k=l.length:=by omega
  subst ek;rw[List.drop_length,List.map_nil,List.append_nil]at lml ⊢;simp only[pT,IK,go_sem,Int.lt_irrefl]
theorem zpc (l:List TReg)(hl:l.length<=1000000):bA X cP [.p (.sl (some 2) (l.map NA)),.p (.sl (some 2) (l.map NA))] h K=K (AB true) h []:=by
 refine sA ?_;rw[zeX rfl];simp only[sS,go_sem,List.length_map];refine bB (λk:Nat=>⟨[(0,.p (.sl (some 2) (l.map NA))),(1,.p (.sl (some 2) (l.map NA))),(12,AI l.length),(13,AI k)],h,[]⟩) (λk=>k<=l.length) (λk=>l.length-k) 0 rfl (by omega) ?_
 intro k hk;rcases Nat.lt_or_ge k l.length with hlt|hge
 ·have hlt':(k:Int)<(l.length:Int):=by omega
  have hg:=VB NA hlt
  have w2:IntKind.i64.wrap ((k:Int)+1)=((k+1:Nat):Int):=BA _ (by omega) (by omega)
  have cx:rB (some 2) 0 (NA l[k])=some (NA l[k]):=rfl
  have hq:SA [2,0] true (.p (NA l[k])) (.p (NA l[k]))=some (AB false):=by simp [SA,NA,eqs,PV.eq1,PV.kind,pbool]
  generalize NA l[k]=r at *;simp only[z0A,XN,go_sem,hlt',hlt,hg,cx,↓hq,hq,w2];exact⟨k+1,rfl,by omega,by omega⟩
 ·have ek:k=l.length:=by omega
  subst ek;simp only[z0A,XN,z6q,tS,go_sem,Int.lt_irrefl]
theorem zpb (l:List TIns)(hl:l.length<=1000000):bA X bP [.p (.sl (some 2) (l.map mB)),.p (.sl (some 2) (l.map mB))] h K=K (AB true) h []:=by
 refine sA ?_;rw[zeW rfl];simp only[qS,go_sem,List.length_map];refine bB (λk:Nat=>⟨[(0,.p (.sl (some 2) (l.map mB))),(1,.p (.sl (some 2) (l.map mB))),(12,AI l.length),(13,AI k)],h,[]⟩) (λk=>k<=l.length) (λk=>l.length-k) 0 rfl (by omega) ?_
 intro k hk;rcases Nat.lt_or_ge k l.length with hlt|hge
 ·have hlt':(k:Int)<(l.length:Int):=by omega
  have hg:=VB mB hlt
  have w2:IntKind.i64.wrap ((k:Int)+1)=((k+1:Nat):Int):=BA _ (by omega) (by omega)
  have cx:rB (some 2) 0 (mB l[k])=some (mB l[k]):=rfl
  have hq:SA [2,2] true (.p (mB l[k])) (.p (mB l[k]))=some (AB false):=by simp [SA,mB,eqs,PV.eq1,PV.kind,pbool]
  generalize mB l[k]=r at *;simp only[z09,WN,go_sem,hlt',hlt,hg,cx,↓hq,hq,w2];exact⟨k+1,rfl,by omega,by omega⟩
 ·have ek:k=l.length:=by omega
  subst ek;simp only[z09,WN,z6p,rS,go_sem,Int.lt_irrefl]
theorem zp9 (d:TDev)(B:DevB d):bA X yJ [.p (RA d),.p (RA d)] h K=K (AB true) h []:=by
 refine sA ?_;rw[zex rfl];have q1:=λh K=>zpc (h:=h) (K:=K) d.regs (by have:=B.rs;omega)
 have q2:=λh K=>zpb (h:=h) (K:=K) d.ins (by have:=B.is;omega)
 simp only[IR,go_sem,RA,↓q1,q1,↓q2,q2]
theorem zpa (ds:List TDev)(hB:∀ d∈ds,DevB d)(hl:ds.length<=1000):bA X ZO [nC ds,nC ds,.fn yJ []] h K=K (AB true) h []:=by
 refine sA ?_;rw[zeU rfl];simp only[oS,go_sem,List.length_map];refine bB (λk:Nat=>⟨[(1,nC ds),(2,.fn yJ []),(15,nC ds),(16,AI ds.length),(17,AI k)],h,[]⟩) (λk=>k<=ds.length) (λk=>ds.length-k) 0 rfl (by omega) ?_
 intro k hk;rw[qG];rcases Nat.lt_or_ge k ds.length with hlt|hge
 ·have hlt':(k:Int)<(ds.length:Int):=by omega
  have hg:=VB RA hlt
  have w2:IntKind.i64.wrap ((k:Int)+1)=((k+1:Nat):Int):=BA _ (by omega) (by omega)
  have hB:=hB _ (List.getElem_mem hlt)
  generalize ds[k]=d at *;have sd:=λh K=>zp9 (h:=h) (K:=K) d hB
  have fp:∀y:TDev,RA y = .agg [.str y.name,eI y.long,eI y.id,.sl (some 2) (y.regs.map NA),.sl (some 2) (y.ins.map mB)]:=λ_=>rfl
  rw[fp]at hg sd;simp only[z08,UN,go_sem,splice,hlt',hlt,hg,↓sd,sd,w2];exact⟨k+1,rfl,by omega,by omega⟩
 ·have ek:k=ds.length:=by omega
  subst ek;simp only[z08,UN,z6o,pS,go_sem,Int.lt_irrefl]
end
section
variable {L:List Int} {a:Int} {h l:aA} {id:Nat} {K:jA}
attribute [-go_sem] SA
attribute [-go_sem] cH WF zG yF aG WE qT JK rT rJ
attribute [local go_sem] z8c z8d win1 win2 z84 z83
theorem zkl (hp:jB 200 a):oD nI [] L a (λv a2=>a<=a2/\a2<=a+60/\∃ds:List TDev,1<=ds.length/\ds.length<=3/\(∀d∈ds,DvG d)/\v=nC ds):=by
 refine oD.of λh id hid=>?_
 rw[ze0 rfl];have hid':id<=h.length:=by omega
 simp only[KR,go_sem];refine bB (λt:Nat×Int×List TDev=>⟨[(0,.ref id 0),(3,.own h.length t.2.2.length 0 t.2.2.length),(8,.p (.sl none (uvw.map .str))),(9,AI 3),(10,AI t.1)],h.set id (uA L t.2.1)++[.row (some 5) (t.2.2.map RA) 0],[]⟩)
  (λt=>(t.1<=3/\(1<=t.1->1<=t.2.2.length))/\(a<=t.2.1/\t.2.1<=a+10*t.1)/\t.2.2.length<=t.1/\∀d∈t.2.2,DvG d) (λt=>3-t.1) (0,a,[]) rfl ⟨⟨by simp,by simp⟩,⟨by simp,by simp⟩,by simp,by simp⟩ ?_
 rintro⟨k,b,ds⟩ ⟨⟨i1,i2⟩,⟨i3,i4⟩,i5,i6⟩
 dsimp only at i1 i2 i3 i4 i5 i6 ⊢;rw[qG];have hlen:∀(b:Int) (t:aA),(h.set id (uA L b) ++ .row (some 5) (ds.map RA) 0::t).length=h.length+1+t.length:=λb t=>by simp;omega
 rcases Nat.lt_or_ge k 3 with hlt|hge
 ·have P:=PM (WC hp i3 (show b+14<=a+200 by omega))
  have hlt':(k:Int)<3:=by omega
  have w1:IntKind.i64.wrap ((k:Int)+1)=((k+1:Nat):Int):=BA _ (by omega) (by omega)
  have hk3:k<uvw.length:=hlt
  have hg:=VB PV.str hk3
  have cc:∀v:List UInt8,rB none 0 (PV.str v)=some (PV.str v):=λ_=>rfl
  have nl:uvw[k].length<=10:=by
   have:k=0∨k=1∨k=2:=by omega
   rcases this with rfl|rfl|rfl <;> simp [uvw]
  generalize uvw[k]=nm at *;by_cases hf:CB L b 3=0/\0<ds.length
  ·obtain⟨f1,f2⟩:=hf
   have f2':(0:Int)<(ds.length:Int):=by omega
   simp only[aG,WE,zG,yF,go_sem,hid,hid',P,hlt',hg,cc,f1,f2',w1];refine⟨(k+1,b+1,ds),rfl,⟨⟨by dsimp only;omega,λ_=>by dsimp only;omega⟩,⟨by dsimp only;omega,by dsimp only;omega⟩,by dsimp only;omega,i6⟩,by dsimp only;omega⟩
  ·obtain⟨m1,m2⟩:=SV (u:=2) (v:=4) L (b+1) (by omega) (by omega)
   obtain⟨j1,j2⟩:=z3n (L:=L) (l:=[0,0,5,257]) (lo:=0) (hi:=257) (by simp) (by simp) (by simp) (b+1+1)
   obtain⟨n1,n2⟩:=SV (u:=1) (v:=4) L (b+1+1+1) (by omega) (by omega)
   generalize hm:kG 2 4 L (b+1)=m at *;generalize hi:GC [0,0,5,257] L (b+1+1)=i at *;generalize hn:kG 1 4 L (b+1+1+1)=n at *;have rz:=λh K=>JF (h:=h) (K:=K) m (by omega) (by omega)
   have rz2:=λh K=>JF (h:=h) (K:=K) (m-1) (by omega) (by omega)
   have zl:(zs m.toNat).length<=4:=by simp [zs];omega
   have zl2:(zs (m-1).toNat).length<=3:=by simp [zs];omega
   have hzz:∃k:Nat,zs m.toNat=zs k:=⟨_,rfl⟩
   generalize zs m.toNat=z at *;generalize zs (m-1).toNat=z2 at *;have w3:IntKind.i64.wrap (m-1)=m-1:=BA _ (by omega) (by omega)
   have ml:1+z2.length<=QA:=by unfold QA;omega
   have dsl:(ds.map RA).length=ds.length:=List.length_map ..
   have ms:ds.length+1<=LA:=by unfold LA;omega
   have cond:CB L b 3=0/\¬(0:Int)<(ds.length:Int)∨¬CB L b 3=0:=by
    by_cases q:CB L b 3=0
    ·exact .inl ⟨q,λc=>hf ⟨q,by omega⟩⟩
    ·exact .inr q
   have fin:∀(d:TDev) (b2:Int),b<=b2->b2<=b+10->DvG d->∀M:List PV,M=(ds++[d]).map RA->∃u:Nat×Int×List TDev,(⟨[(0,.ref id 0),(3,.own h.length (ds.length+1) 0 (ds.length+1)),(8,.p (.sl none (uvw.map .str))),(9,AI 3),(10,.p (.int .i64 ((k+1:Nat):Int)))],h.set id (uA L b2)++[.row (some 5) M 0],[]⟩:St)=⟨[(0,.ref id 0),(3,.own h.length u.2.2.length 0 u.2.2.length),(8,.p (.sl none (uvw.map .str))),(9,AI 3),(10,AI u.1)],h.set id (uA L u.2.1)++[.row (some 5) (u.2.2.map RA) 0],[]⟩/\((u.1<=3/\(1<=u.1->1<=u.2.2.length))/\(a<=u.2.1/\u.2.1<=a+10*u.1)/\u.2.2.length<=u.1/\∀d∈u.2.2,DvG d)/\3-u.1<3-k:=λd b2 h1 h2 hd M hM=>by
    subst hM;refine⟨(k+1,b2,ds++[d]),by simp,⟨⟨by dsimp only;omega,λ_=>by simp⟩,⟨by dsimp only;omega,by dsimp only;omega⟩,by simp;omega,λy hy=>?_⟩,by dsimp only;omega⟩
    rcases List.mem_append.1 hy with e|e
    ·exact i6 y e
    ·rw[List.mem_singleton.1 e];exact hd
   have D1:DvG ⟨nm,m,i,[⟨ZC,n⟩],[⟨z,ZC⟩]⟩:=⟨nl,by dsimp only;omega,by dsimp only;omega,⟨n,rfl,n1,n2⟩,by simp,λx hx=>by simp at hx;rw[hx];exact⟨zl,by simp [ZC]⟩,by obtain⟨q,hq⟩:=hzz;exact⟨q,[],by rw[hq],by simp⟩⟩
   have D2:DvG ⟨nm,m,i,[⟨ZC,n⟩],[⟨z,ZC⟩,⟨49::z2,GB⟩]⟩:=⟨nl,by dsimp only;omega,by dsimp only;omega,⟨n,rfl,n1,n2⟩,by simp,λx hx=>by
    simp at hx;rcases hx with e|e
    ·rw[e];exact⟨zl,by simp [ZC]⟩
    ·rw[e];exact⟨by simp;omega,by simp [GB]⟩,by obtain⟨q,hq⟩:=hzz;exact⟨q,[⟨49::z2,GB⟩],by rw[hq],λx hx=>by simp at hx;rw[hx];rfl⟩⟩
   rcases cond with⟨f1,f2⟩|f1
   ·by_cases hz:i=0
    ·simp (config:={maxSteps:=4000000}) only[aG,WE,zG,yF,cH,WF,go_sem,hid,hid',P,hlt',hg,cc,w1,hm,hi,hn,↓rz,rz,splice,f1,f2,eq_true hz,dsl,ms]
     rw[tN (b:=h.length+1) (by repeat first|exact fL (by omega)|refine dL ?_ ?_)]
     simp only[go_sem,hid'];refine fin ⟨nm,m,i,[⟨ZC,n⟩],[⟨z,ZC⟩]⟩ (b+1+1+1+1) (by omega) (by omega) ?_ _ ?_
     ·exact D1 
     ·rw[List.map_append];rfl
    ·by_cases hfl:CB L (b+1+1+1+1) 2=0
     ·simp (config:={maxSteps:=4000000}) only[aG,WE,zG,yF,cH,WF,go_sem,hid,hid',P,hlt',hg,cc,w1,hm,hi,hn,↓rz,rz,splice,f1,f2,hz,hfl,w3,↓rz2,rz2,ml,dsl,ms]
      rw[tN (b:=h.length+1) (by repeat first|exact fL (by omega)|refine dL ?_ ?_)]
      simp only[go_sem,hid'];refine fin ⟨nm,m,i,[⟨ZC,n⟩],[⟨z,ZC⟩,⟨49::z2,GB⟩]⟩ (b+1+1+1+1+1) (by omega) (by omega) ?_ _ ?_
      ·exact D2 
      ·rw[List.map_append];rfl
     ·simp (config:={maxSteps:=4000000}) only[aG,WE,zG,yF,cH,WF,go_sem,hid,hid',P,hlt',hg,cc,w1,hm,hi,hn,↓rz,rz,splice,f1,f2,hz,hfl,dsl,ms]
      rw[tN (b:=h.length+1) (by repeat first|exact fL (by omega)|refine dL ?_ ?_)]
      simp only[go_sem,hid'];refine fin ⟨nm,m,i,[⟨ZC,n⟩],[⟨z,ZC⟩]⟩ (b+1+1+1+1+1) (by omega) (by omega) ?_ _ ?_
      ·exact D1 
      ·rw[List.map_append];rfl
   ·by_cases hz:i=0
    ·simp (config:={maxSteps:=4000000}) only[aG,WE,zG,yF,cH,WF,go_sem,hid,hid',P,hlt',hg,cc,w1,hm,hi,hn,↓rz,rz,splice,f1,eq_true hz,dsl,ms]
     rw[tN (b:=h.length+1) (by repeat first|exact fL (by omega)|refine dL ?_ ?_)]
     simp only[go_sem,hid'];refine fin ⟨nm,m,i,[⟨ZC,n⟩],[⟨z,ZC⟩]⟩ (b+1+1+1+1) (by omega) (by omega) ?_ _ ?_
     ·exact D1 
     ·rw[List.map_append];rfl
    ·by_cases hfl:CB L (b+1+1+1+1) 2=0
     ·simp (config:={maxSteps:=4000000}) only[aG,WE,zG,yF,cH,WF,go_sem,hid,hid',P,hlt',hg,cc,w1,hm,hi,hn,↓rz,rz,splice,f1,hz,hfl,w3,↓rz2,rz2,ml,dsl,ms]
      rw[tN (b:=h.length+1) (by repeat first|exact fL (by omega)|refine dL ?_ ?_)]
      simp only[go_sem,hid'];refine fin ⟨nm,m,i,[⟨ZC,n⟩],[⟨z,ZC⟩,⟨49::z2,GB⟩]⟩ (b+1+1+1+1+1) (by omega) (by omega) ?_ _ ?_
      ·exact D2 
      ·rw[List.map_append];rfl
     ·simp (config:={maxSteps:=4000000}) only[aG,WE,zG,yF,cH,WF,go_sem,hid,hid',P,hlt',hg,cc,w1,hm,hi,hn,↓rz,rz,splice,f1,hz,hfl,dsl,ms]
      rw[tN (b:=h.length+1) (by repeat first|exact fL (by omega)|refine dL ?_ ?_)]
      simp only[go_sem,hid'];refine fin ⟨nm,m,i,[⟨ZC,n⟩],[⟨z,ZC⟩]⟩ (b+1+1+1+1+1) (by omega) (by omega) ?_ _ ?_
      ·exact D1 
      ·rw[List.map_append];rfl
 ·have ek:k=3:=by omega
  subst ek;have hn1:1<=ds.length:=i2 (by omega)
  simp only[aG,WE,go_sem,hid'];refine zfS hid (WC hp i3 (by omega)) hn1 i5 i6 rfl ?_
  intro ds' b' q1 q2 q3 q4;exact⟨b',⟨by omega,by omega,ds',by omega,by omega,q4,rfl⟩,rfl,rfl⟩
end
section
variable {L:List Int} {a:Int} {h l:aA} {id:Nat} {K:jA}
attribute [-go_sem] SA VF
theorem zef (a:Int):LD [[48],[49]] L a=[48]∨LD [[48],[49]] L a=[49]:=by
 have:=nQ (l:=[[48],[49]]) (L:=L) (a:=a) (by simp) (by simp)
 simpa using this
theorem MT (n:Nat)(hn:n<=1000)(hp:jB 1200 a):oD AF [AI n] L a (λv a2=>a2=a+n/\∃s:List UInt8,GA s=true/\s.length=n/\v=AS s):=by
 refine oD.of λh id hid=>?_
 rw[ze8 rfl];simp only[SR,go_sem];refine bB (λt:Nat×List UInt8=>⟨[(0,.ref id 0),(5,AS t.2),(6,AI n),(7,AI t.1)],h.set id (uA L (a+t.1)),[]⟩) (λt=>t.1<=n/\t.2.length=t.1/\GA t.2=true) (λt=>n-t.1) (0,[]) (by simp) ⟨Nat.zero_le _,rfl,rfl⟩ ?_
 rintro⟨k,s⟩ ⟨hk,hs,hb⟩
 dsimp only at hk hs hb ⊢;rcases Nat.lt_or_ge k n with hlt|hge
 ·have w2:IntKind.i64.wrap ((k:Int)+1)=((k+1:Nat):Int):=BA _ (by omega) (by omega)
  have P:=WC (n:=0) hp (show a<=a+(k:Int) by omega) (by omega)
  have hlt':(k:Int)<(n:Int):=by omega
  have e:a+((k+1:Nat):Int)=a+(k:Int)+1:=by omega
  rcases zef (L:=L) (a+(k:Int)) with e1|e1
  ·have hl:s.length+1<=QA:=by unfold QA;omega
   simp only[go_sem,hlt,hlt',hid,P,w2,e1,hl];exact⟨(k+1,s++[48]),by dsimp only;rw[e],⟨by dsimp only;omega,by simp [hs],by unfold GA at *;rw[List.all_append,hb];rfl⟩,by dsimp only;omega⟩
  ·have hl:s.length+1<=QA:=by unfold QA;omega
   simp only[go_sem,hlt,hlt',hid,P,w2,e1,hl];exact⟨(k+1,s++[49]),by dsimp only;rw[e],⟨by dsimp only;omega,by simp [hs],by unfold GA at *;rw[List.all_append,hb];rfl⟩,by dsimp only;omega⟩
 ·obtain rfl:k=n:=by omega
  simp only[go_sem,Nat.lt_irrefl,Int.lt_irrefl];exact⟨a+(k:Int),⟨rfl,s,hb,hs,rfl⟩,rfl⟩
structure CmdB (m:Nat) (c:Cmd):Prop where
 k : -1152921504606846976<=c.k/\c.k<=1152921504606846976
 s : -1152921504606846976<=c.s/\c.s<=1152921504606846976
 cl : -1152921504606846976<=c.cl/\c.cl<=1152921504606846976
 b:c.b.length<=m
 w:c.w.length<=m
 m:c.m.length<=m
theorem CmdB.ok {m:Nat}{c:Cmd}(hm:m<=100000)(H:CmdB m c):CmdOk c:=⟨by have:=H.b;omega,by have:=H.w;omega,by have:=H.m;omega⟩
abbrev cmdV (c:Cmd):List AV:=[AI c.k,AI c.s,AI c.cl,AS c.b,AS c.w,AS c.m]
theorem ac_k4 (hid:id<h.length){b:Int}(hp:jB 60 b)(c:Cmd)(hc:CmdB 8 c){z1 z2 z3:Int}{z4 z5 z6:List UInt8}{Kx:Ex->St->Prop}
 (hK:∀(c2:Cmd) (b2:Int),b<=b2->b2<=b+8->CmdB 2100 c2->Kx .ret ⟨[(2,.ref h.length 0)],h.set id (uA L b2)++[.box (cmdV c2),.box (cmdV c2)],[]⟩) :
 VF (bA X) X.gl cQ (.ref id 0) (.ref h.length 0) (.ref (h.length+1) 0) (h.set id (uA L b)++[.box [AI z1,AI z2,AI z3,AS z4,AS z5,AS z6],.box (cmdV c)]) [] Kx:=by
 have hid':id<=h.length:=by omega
 have P:=PM (WC hp (Int.le_refl b) (by omega))
 obtain⟨k,s,cl,bb,w,m⟩:=c;obtain⟨q1,q2,q3,q4,q5,q6⟩:=hc;dsimp only at q1 q2 q3 q4 q5 q6;by_cases hf:CB L b 60=0
 ·obtain⟨m1,m2⟩:=MJ L (b+1) 4 (by omega) (by omega)
  generalize hn:CB L (b+1) 4=nx at m1 m2;have:nx=0∨nx=1∨nx=2∨nx=3:=by omega
  rcases this with rfl|rfl|rfl|rfl
  ·obtain⟨kv,a3,c1,c2,c3,c4,O⟩:=z8x (L:=L) (a:=b+1+1) (WC hp (by omega) (by omega)) 1 10 (by omega) (by omega) (by omega)
   have O':=λl K=>O.app (h:=h) (id:=id) (l:=l) (K:=K) hid
   simp only[VF,go_sem,hid,hid',P,hf,hn,O'];exact hK ⟨kv,s,cl,bb,w,m⟩ a3 (by omega) (by omega) ⟨by dsimp only;omega,q2,q3,by dsimp only;omega,by dsimp only;omega,by dsimp only;omega⟩
  ·obtain⟨kv,a3,c1,c2,c3,c4,O⟩:=z8x (L:=L) (a:=b+1+1) (WC hp (by omega) (by omega)) 0 15 (by omega) (by omega) (by omega)
   have O':=λl K=>O.app (h:=h) (id:=id) (l:=l) (K:=K) hid
   have P3:jB 0 a3:=WC hp (by omega) (by omega)
   have pm:=JV (l:=[0,1,-1,20000,20001]) (L:=L) (a:=a3) (by simp) (by simp)
   simp only[List.mem_cons,List.not_mem_nil,or_false]at pm;simp only[VF,go_sem,hid,hid',P,P3,hf,hn,O'];exact hK ⟨k,kv,GC [0,1,-1,20000,20001] L a3,bb,w,m⟩ (a3+1) (by omega) (by omega) ⟨q1,by dsimp only;omega,by dsimp only;omega,by dsimp only;omega,by dsimp only;omega,by dsimp only;omega⟩
  ·have w1:IntKind.i64.wrap (2000-(bb.length:Int))=((2000-bb.length:Nat):Int):=by
    rw[show(2000:Int)-(bb.length:Int)=((2000-bb.length:Nat):Int) by omega];exact BA _ (by omega) (by omega)
   have r1:=λ(h':aA) (K':jA)=>JF (h:=h') (K:=K') ((2000-bb.length:Nat):Int) (by omega) (by omega)
   have r2:=λ(h':aA) (K':jA)=>JF (h:=h') (K:=K') 2001 (by omega) (by omega)
   simp only[Int.toNat_natCast]at r1;have pm:=nQ (l:=[[120],[],zs (2000-bb.length),zs (Int.toNat 2001)]) (L:=L) (a:=b+1+1) (by simp) (by simp)
   have pl:(LD [[120],[],zs (2000-bb.length),zs (Int.toNat 2001)] L (b+1+1)).length<=2001:=by
    simp only[List.mem_cons,List.not_mem_nil,or_false]at pm;rcases pm with e|e|e|e
    ·rw[e];decide
    ·rw[e];decide
    ·rw[e];simp only[zs,List.length_replicate];omega
    ·rw[e];simp only[zs,List.length_replicate];omega
   generalize hps:LD [[120],[],zs (2000-bb.length),zs (Int.toNat 2001)] L (b+1+1)=ps at pl;have hl:bb.length+ps.length<=QA:=by unfold QA;omega
   simp only[VF,go_sem,hid,hid',P,hf,hn,w1,r1,r2,hps,hl];exact hK ⟨k,s,cl,bb++ps,w,m⟩ (b+1+1+1) (by omega) (by omega) ⟨q1,q2,q3,by simp;omega,by dsimp only;omega,by dsimp only;omega⟩
  ·have pm:=nQ (l:=[[],[48],w++[49]]) (L:=L) (a:=b+1+1) (by simp) (by simp)
   have pl:(LD [[],[48],w++[49]] L (b+1+1)).length<=9:=by
    simp only[List.mem_cons,List.not_mem_nil,or_false]at pm;rcases pm with e|e|e
    ·rw[e];decide
    ·rw[e];decide
    ·rw[e,List.length_append,List.length_singleton];omega
   have pm2:=nQ (l:=[[],[49],[120],m]) (L:=L) (a:=b+1+1+1) (by simp) (by simp)
   have pl2:(LD [[],[49],[120],m] L (b+1+1+1)).length<=9:=by
    simp only[List.mem_cons,List.not_mem_nil,or_false]at pm2;rcases pm2 with e|e|e|e
    ·rw[e];decide
    ·rw[e];decide
    ·rw[e];decide
    ·rw[e];omega
   have hl:w.length+1<=QA:=by unfold QA;omega
   generalize hps:LD [[],[48],w++[49]] L (b+1+1)=ps at pl;generalize hps2:LD [[],[49],[120],m] L (b+1+1+1)=ps2 at pl2;simp only[VF,go_sem,hid,hid',P,hf,hn,hps,hps2,hl];exact hK ⟨k,s,cl,bb,ps,ps2⟩ (b+1+1+1+1) (by omega) (by omega) ⟨q1,q2,q3,by dsimp only;omega,by dsimp only;omega,by dsimp only;omega⟩
 ·simp only[VF,go_sem,hid,hid',P,hf]
  exact hK ⟨k,s,cl,bb,w,m⟩ (b+1) (by omega) (by omega) ⟨q1,q2,q3,by dsimp only;omega,by dsimp only;omega,by dsimp only;omega⟩
theorem NM {l:List Int}{lo hi:Int}(hl:0<l.length)(hl2:l.length<4611686018427387904)(h:∀ x∈l,lo<=x/\x<=hi)(a:Int):lo<=GC l L a/\GC l L a<=hi:=h _ (JV hl hl2)
theorem zkk (hp:jB 2000 a):oD LO [] L a (λv a2=>a<=a2/\a2<=a+60/\∃c:Cmd,CmdB 2100 c/\v=ACm c):=by
 refine oD.of λh id hid=>?_
 rw[zez rfl];have hid':id<=h.length:=by omega
 have P:=PM (WC hp (Int.le_refl a) (by omega))
 obtain⟨k1,k2⟩:=NM (L:=L) (l:=[7,7,8,8,8,1,2,3,4,5,6,9,10]) (lo:=1) (hi:=10) (by simp) (by simp) (by simp) a
 generalize hkd:GC [7,7,8,8,8,1,2,3,4,5,6,9,10] L a=kd at k1 k2;have hb2:∀o1 o2:Obj,(h.set id (uA L a)++[o1,o2]).length=h.length+2:=λo1 o2=>by simp
 have fin:∀(c:Cmd) (b:Int),a<=b->b<=a+50->CmdB 8 c->VF (bA X) X.gl cQ (.ref id 0) (.ref h.length 0) (.ref (h.length+1) 0) (h.set id (uA L b)++[.box [AI 0,AI 0,AI 0,AS [],AS [],AS []],.box (cmdV c)]) []
  (oA [.cell 2 (some 6)] false h.length λv1 h1 x1=>∃a2,(a<=a2/\a2<=a+60/\∃c:Cmd,CmdB 2100 c/\v1=ACm c)/\h1=h.set id (uA L a2)/\x1=[]):=by
  intro c b hb1 hb2 hc;refine ac_k4 hid (WC hp hb1 (by omega)) c hc λc2 b2 q1 q2 q3=>?_
  simp only[go_sem];exact⟨b2,⟨by omega,by omega,c2,q3,rfl⟩,rfl⟩
 have z:(-1152921504606846976:Int)<=0/\(0:Int)<=1152921504606846976:=by omega
 have ck:∀k:Int,1<=k->k<=10 -> -1152921504606846976<=k/\k<=1152921504606846976:=λk _ _=>by omega
 by_cases hs:kd=1∨kd=2∨kd=10
 ·obtain⟨s1,s2⟩:=NM (L:=L) (l:=[0,1,1,6,13]) (lo:=0) (hi:=13) (by simp) (by simp) (by simp) (a+1)
  generalize hsv:GC [0,1,1,6,13] L (a+1)=sv at s1 s2;have hf:=fin ⟨kd,sv,0,[],[],[]⟩ (a+1+1) (by omega) (by omega) ⟨ck _ k1 k2,by dsimp only;omega,z,Nat.zero_le _,Nat.zero_le _,Nat.zero_le _⟩
  rcases hs with rfl|rfl|rfl
  ·simp only[xF,go_sem,hid,hid',P,hkd,hsv]
   exact hf
  ·simp only[xF,go_sem,hid,hid',P,hkd,hsv]
   exact hf
  ·simp only[xF,go_sem,hid,hid',P,hkd,hsv]
   exact hf
 have n1:¬kd=1:=λe=>hs (.inl e)
 have n2:¬kd=2:=λe=>hs (.inr (.inl e))
 have n10:¬kd=10:=λe=>hs (.inr (.inr e))
 by_cases h9:kd=9
 ·obtain⟨s1,s2⟩:=NM (L:=L) (l:=[0,0,1,3]) (lo:=0) (hi:=3) (by simp) (by simp) (by simp) (a+1)
  generalize hsv:GC [0,0,1,3] L (a+1)=sv at s1 s2;have hf:=fin ⟨9,0,sv,[],[],[]⟩ (a+1+1) (by omega) (by omega) ⟨ck 9 (by omega) (by omega),z,by dsimp only;omega,Nat.zero_le _,Nat.zero_le _,Nat.zero_le _⟩
  subst h9;simp only[xF,go_sem,hid,hid',P,hkd,hsv];exact hf
 by_cases h78:kd=7∨kd=8
 ·obtain⟨s1,s2⟩:=NM (L:=L) (l:=[1,2,3,5,8]) (lo:=1) (hi:=8) (by simp) (by simp) (by simp) (a+1)
  generalize hsv:GC [1,2,3,5,8] L (a+1)=sv at s1 s2;obtain⟨n,rfl⟩:∃n:Nat,sv=n:=⟨sv.toNat,by omega⟩
  obtain⟨_,a3,⟨e3,s,sb,sl,rfl⟩,V⟩:=(MT (L:=L) (a:=a+1+1) n (by omega) (WC hp (by omega) (by omega))).app (h:=h) (l:=[.box [AI 0,AI 0,AI 0,AS [],AS [],AS []],.box [AI kd,AI 0,AI 0,AS [],AS [],AS []]]) hid
  have P3:jB 0 a3:=WC hp (by omega) (by omega)
  have hid2:id<(h.set id (uA L (a3+1))++[Obj.box [AI 0,AI 0,AI 0,AS [],AS [],AS []],.box [AI kd,AI 0,AI 0,AS s,AS [],AS []]]).length:=by simp;omega
  obtain⟨_,a4,⟨e4,t,tb,tl,rfl⟩,V2⟩:=(MT (L:=L) (a:=a3+1) s.length (by omega) (WC hp (by omega) (by omega))).app (h:=h) (l:=[.box [AI 0,AI 0,AI 0,AS [],AS [],AS []],.box [AI kd,AI 0,AI 0,AS s,AS [],AS []]]) hid
  obtain⟨_,a5,⟨e5,u,ub,ul,rfl⟩,V3⟩:=(MT (L:=L) (a:=a4) s.length (by omega) (WC hp (by omega) (by omega))).app (h:=h) (l:=[.box [AI 0,AI 0,AI 0,AS [],AS [],AS []],.box [AI kd,AI 0,AI 0,AS s,AS [],AS []]]) hid
  have hf:=fin ⟨kd,0,0,s,[],[]⟩ (a3+1) (by omega) (by omega) ⟨ck _ k1 k2,z,z,by dsimp only;omega,Nat.zero_le _,Nat.zero_le _⟩
  have hf2:=fin ⟨kd,0,0,s,t,u⟩ a5 (by omega) (by omega) ⟨ck _ k1 k2,z,z,by dsimp only;omega,by dsimp only;omega,by dsimp only;omega⟩
  by_cases hfl:CB L a3 2=0
  ·rcases h78 with rfl|rfl
   ·simp only[xF,go_sem,hid,hid',P,P3,hkd,hsv,V,V2,V3,hfl]
    exact hf2
   ·simp only[xF,go_sem,hid,hid',P,P3,hkd,hsv,V,V2,V3,hfl]
    exact hf2
  ·rcases h78 with rfl|rfl
   ·simp only[xF,go_sem,hid,hid',P,P3,hkd,hsv,V,hfl]
    exact hf
   ·simp only[xF,go_sem,hid,hid',P,P3,hkd,hsv,V,hfl]
    exact hf
 ·have n7:¬kd=7:=λe=>h78 (.inl e)
  have n8:¬kd=8:=λe=>h78 (.inr e)
  obtain⟨s1,s2⟩:=NM (L:=L) (l:=[0,0,1,2,3]) (lo:=0) (hi:=3) (by simp) (by simp) (by simp) (a+1)
  generalize hsv:GC [0,0,1,2,3] L (a+1)=sv at s1 s2;obtain⟨n,rfl⟩:∃n:Nat,sv=n:=⟨sv.toNat,by omega⟩
  obtain⟨_,a3,⟨e3,s,sb,sl,rfl⟩,V⟩:=(MT (L:=L) (a:=a+1+1) n (by omega) (WC hp (by omega) (by omega))).app (h:=h) (l:=[.box [AI 0,AI 0,AI 0,AS [],AS [],AS []],.box [AI kd,AI 0,AI 0,AS [],AS [],AS []]]) hid
  have hf:=fin ⟨kd,0,0,s,[],[]⟩ a3 (by omega) (by omega) ⟨ck _ k1 k2,z,z,by dsimp only;omega,Nat.zero_le _,Nat.zero_le _⟩
  simp only[xF,go_sem,hid,hid',P,hkd,hsv,n1,n2,n10,h9,n7,n8,V];exact hf
end
section
variable {L:List Int} {a:Int} {h l:aA} {id:Nat} {K:jA}
attribute [-go_sem] SA
theorem zoz (n:Int)(h0:0<=n)(h1:n<=1000000)(h:aA)(K:jA):bA X DA [AS [49],AI n] h K=K (AS (List.replicate n.toNat 49)) h []:=by
 rw[wQ [49] n h0 (by simp;omega) h1,cN]
theorem zkm (n:Nat)(hn:n<=20)(hp:jB 4000 a):oD MO [AI n] L a (λv a2=>a<=a2/\a2<=a+1300/\∃l:List Cmd,l.length<=n+11/\(∀c∈l,CmdB 2100 c)/\v=ACs l):=by
 refine oD.of λh id hid=>?_
 rw[ze1 rfl];have hid':id<=h.length:=by omega
 have hz:PV.shp (some 6) (.agg [.int .i64 0,.int .i64 0,.int .i64 0,.str [],.str [],.str []])=true:=rfl
 simp only[LR,go_sem];refine bB (λt:List Cmd×Int=>⟨[(0,.ref id 0),(5,.own h.length t.1.length 0 t.1.length),(6,AI n),(7,AI t.1.length)],h.set id (uA L t.2)++[.row (some 6) (t.1.map xA) 0],[]⟩)
  (λt=>t.1.length<=n/\(∀c∈t.1,CmdB 2100 c)/\a<=t.2/\t.2<=a+60*t.1.length) (λt=>n-t.1.length) ([],a) rfl ⟨by simp,by simp,by simp,by simp⟩ ?_
 rintro⟨cs,b⟩ ⟨q1,q2,q3,q4⟩
 dsimp only at q1 q2 q3 q4 ⊢;have hcz:∀c:Cmd,PV.shp (some 6) (xA c)=true:=λc=>rfl
 rcases Nat.lt_or_ge cs.length n with hlt|hge
 ·have w2:IntKind.i64.wrap ((cs.length:Int)+1)=((cs.length+1:Nat):Int):=BA _ (by omega) (by omega)
  obtain⟨_,a3,⟨d1,d2,c,hc,rfl⟩,V⟩:=(zkk (L:=L) (a:=b) (WC hp (by omega) (by omega))).app (h:=h) (l:=[.row (some 6) (cs.map xA) 0]) hid
  have hmx:cs.length+1<=LA:=by unfold LA;omega
  have hc':=hcz c
  have hlt':(cs.length:Int)<(n:Int):=by omega
  simp only[go_sem,hid,hid',hlt,hlt',V,hmx,hz,hc',w2];refine⟨(cs++[c],a3),by simp,⟨by simp;omega,λg hg=>?_,by dsimp only;omega,by simp;omega⟩,by simp;omega⟩
  rcases List.mem_append.1 hg with hg|hg
  ·exact q2 g hg
  ·rw[List.mem_singleton.1 hg];exact hc
 ·have hge':¬cs.length<n:=by omega
  have P:=WC (n:=0) hp q3 (by omega)
  by_cases hf:CB L b 80=0
  ·simp only[go_sem,hid,hid',hge',P,hf]
   refine bB (λt:List Cmd×Int×Nat=>⟨[(0,.ref id 0),(5,.own h.length t.1.length 0 t.1.length),(17,AI t.2.2)],h.set id (uA L t.2.1)++[.row (some 6) (t.1.map xA) 0],[]⟩)
    (λt=>t.2.2<=11/\t.1.length=cs.length+t.2.2/\(∀c∈t.1,CmdB 2100 c)/\t.2.1=b+1+t.2.2) (λt=>11-t.2.2) (cs,b+1,0) rfl ⟨by simp,by simp,q2,by simp⟩ ?_
   rintro⟨ds,b2,k⟩ ⟨r1,r2,r3,r4⟩
   dsimp only at r1 r2 r3 r4 ⊢;subst r4;have P2:=WC (n:=0) (b:=b+1+(k:Int)) hp (by omega) (by omega)
   rcases Nat.lt_or_ge k 11 with hk|hk
   ·have w2:IntKind.i64.wrap ((k:Int)+1)=((k+1:Nat):Int):=BA _ (by omega) (by omega)
    obtain⟨s1,s2⟩:=NM (L:=L) (l:=[1800,1830,2000]) (lo:=1800) (hi:=2000) (by simp) (by simp) (by simp) (b+1+(k:Int))
    generalize hsv:GC [1800,1830,2000] L (b+1+(k:Int))=sv at s1 s2;have r0:=λ(h':aA) (K':jA)=>zoz sv (by omega) (by omega) h' K'
    have hmx:ds.length+1<=LA:=by unfold LA;omega
    have hk':(k:Int)<11:=by omega
    have hc':=hcz ⟨8,0,0,List.replicate sv.toNat 49,[],[]⟩
    simp only[go_sem,hid,hid',hk',P2,hsv,r0,hmx,hz,hc',w2];refine⟨(ds++[⟨8,0,0,List.replicate sv.toNat 49,[],[]⟩],b+1+(k:Int)+1,k+1),by simp,⟨by dsimp only;omega,by simp;omega,λg hg=>?_,by dsimp only;omega⟩,by dsimp only;omega⟩
    rcases List.mem_append.1 hg with hg|hg
    ·exact r3 g hg
    ·rw[List.mem_singleton.1 hg]
     exact⟨by dsimp only;omega,by dsimp only;omega,by dsimp only;omega,by simp;omega,Nat.zero_le _,Nat.zero_le _⟩
   ·obtain rfl:k=11:=by omega
    have hk':¬((11:Nat):Int)<11:=by omega
    simp only[go_sem,hid,hid',hk'];refine⟨b+1+((11:Nat):Int),⟨by omega,by omega,ds,by omega,r3,?_⟩,rfl⟩
    exact congrArg (λx=>AV.p (PV.sl (some 6) x)) (List.take_of_length_le (by simp))
  ·simp only[go_sem,hid,hid',hge',P,hf]
   refine⟨b+1,⟨by omega,by omega,cs,by omega,q2,?_⟩,rfl⟩
   exact congrArg (λx=>AV.p (PV.sl (some 6) x)) (List.take_of_length_le (by simp))
end
section
variable {L:List Int} {a:Int} {h l:aA} {id:Nat} {K:jA}
theorem zkn (n:Nat)(hn:n<=20)(hp:jB 20000 a):oD pI [AI n] L a (λv a2=>a<=a2/\a2<=a+7800/\∃l:List Cmd,l.length<=n/\(∀c∈l,CmdB 2100 c)/\qB kA l=0/\v=ACs l):=by
 refine oD.of λh id hid=>?_
 rw[ze6 rfl];simp only[PR,go_sem,hid];refine bB (λt:Nat×Int=>⟨[(0,.ref id 0),(1,AI n),(6,AI t.1)],h.set id (uA L t.2),[]⟩) (λt=>t.1<=6/\a<=t.2/\t.2<=a+1300*t.1) (λt=>6-t.1) (0,a) rfl ⟨by simp,by simp,by simp⟩ ?_
 rintro⟨k,b⟩ ⟨h1,h2,h3⟩
 dsimp only at h1 h2 h3 ⊢;rcases Nat.lt_or_ge k 6 with hlt|hge
 ·have hk:(k:Int)<6:=by omega
  have w1:IntKind.i64.wrap ((k:Int)+1)=((k+1:Nat):Int):=BA _ (by omega) (by omega)
  obtain⟨_,a2,⟨c1,c2,l,l1,lb,rfl⟩,V⟩:=(zkm (L:=L) (a:=b) n hn (WC hp h2 (by omega))).set (h:=h) hid
  have F:=λh K=>zoX (h:=h) (K:=K) l (λc hc=>(lb c hc).ok (by omega)) (by omega)
  by_cases hf:qB kA l=0
  ·have hf':((qB kA l:Nat):Int)=0:=by omega
   by_cases hl:l.length<=n
   ·have hl':(l.length:Int)<=(n:Int):=by omega
    simp only[go_sem,hid,hk,↓V,V,↓F,F,hf,hf',hl,hl'];exact⟨a2,⟨by omega,by omega,l,hl,lb,hf,rfl⟩,rfl⟩
   ·have hl':¬(l.length:Int)<=(n:Int):=by omega
    simp only[go_sem,hid,hk,↓V,V,↓F,F,hf,hf',hl,hl',w1];exact⟨(k+1,a2),rfl,⟨by dsimp only;omega,by dsimp only;omega,by dsimp only;omega⟩,by dsimp only;omega⟩
  ·have hf':¬((qB kA l:Nat):Int)=0:=by omega
   simp only[go_sem,hid,hk,↓V,V,↓F,F,hf,hf',w1];exact⟨(k+1,a2),rfl,⟨by dsimp only;omega,by dsimp only;omega,by dsimp only;omega⟩,by dsimp only;omega⟩
 ·have hk:¬(k:Int)<6:=by omega
  simp only[go_sem,hid,hk];exact⟨b,⟨by omega,by omega,[],by simp,by simp,rfl,rfl⟩,rfl⟩
end
def orcP (f:Nat)(a:List AV):Option AV:=bif Nat.beq f CG then match a with
 | [.p (.int .i64 x),.p (.int .i64 y)]=>bif decide (0<=x)&&decide (x<16)&&decide (0<=y)&&decide (y<16) then some (.p (.str (kA x.toNat y.toNat))) else none
 | _=>none else none
theorem zm3:∀ f a v,orcP f a=some v->∀ h (K:jA),K v h []->bA X0 f a h K:=by
 intro f a v hv h K hK;unfold orcP at hv;cases hf:Nat.beq f CG with
 | false=>rw[hf]at hv;cases hv
 | true=>
  have hf':=Nat.eq_of_beq_eq_true hf
  rw[hf]at hv;subst hf';simp only[cond_true]at hv;split at hv
  ·rename_i x y
   cases hc:(decide (0<=x)&&decide (x<16)&&decide (0<=y)&&decide (y<16)) with
   | false=>rw[hc]at hv;cases hv
   | true=>
    rw[hc]at hv;simp only[cond_true,Option.some.injEq]at hv;simp only[Bool.and_eq_true,decide_eq_true_eq]at hc;obtain⟨a,rfl⟩:=Int.eq_ofNat_of_zero_le hc.1.1.1;obtain⟨b,rfl⟩:=Int.eq_ofNat_of_zero_le hc.1.2;have:=z81 (h:=h) (K:=K) zrA zr9 a b (by omega) (by omega)
    rw[this];subst hv;exact hK
  ·cases hv
theorem zon:EO X0 orcP 1000 60 mL [] []=some (AB true,[],[]):=by kernel_rfl
theorem ztp:bA X0 mL [] [] λv h x=>v=AB true/\h=[]/\x=[]:=(zb2 zm3 1000 60 zon _).2 ⟨rfl,rfl,rfl⟩
theorem FW {h:aA}{K:jA}:bA X mL [] h K=K (AB true) h []:=RT (by kernel_rfl) rfl
section
structure Loc where
 h:aA
 id:Nat
 lt:id<h.length
def Loc.r (R:Loc):Nat->Nat
 | 0=>R.id
 | k+1=>R.h.length+k
def Loc.rt (R:Loc):Nat->Nat
 | 0=>0
 | k+1=>R.r k+1
mutual
def AV.ren (r:Nat->Nat):AV->AV
 | .own id g off len=>.own (r id) g off len
 | .ref id off=>.ref (r id) off
 | .rref id g i off=>.rref (r id) g i off
 | .mp id=>.mp (r id)
 | .it id=>.it (r id)
 | .bt k t id g=>.bt k t (r id) g
 | .fn f cs=>.fn f (AV.rens r cs)
 | .agg cs=>.agg (AV.rens r cs)
 | .tup vs=>.tup (AV.rens r vs)
 | .p v=>.p v
 | .sl0 sh=>.sl0 sh
 | .vp v=>.vp v
 | .nilp=>.nilp
 | .nilm=>.nilm
 | .nilf=>.nilf
 | .nili=>.nili
 | .ifc=>.ifc
 | .anyb=>.anyb
 | .skp=>.skp
 | .und=>.und
 | .anyp=>.anyp
def AV.rens (r:Nat->Nat):List AV->List AV
 | []=>[]
 | v::l=>v.ren r::AV.rens r l
end
theorem NE (r:Nat->Nat):∀l,AV.rens r l=l.map (AV.ren r)
 | []=>rfl
 | v::l=>by rw[AV.rens,NE r l];rfl
def ME.ren (r:Nat->Nat)(e:ME):ME:={ e with val:=e.val.ren r }
def Obj.ren (r:Nat->Nat):Obj->Obj
 | .box cs=>.box (cs.map (AV.ren r))
 | .row sh xs fz=>.row sh xs fz
 | .amap es c=>.amap (es.map (ME.ren r)) c
 | .iter m s l k=>.iter (m.map r) s l k
 | .arow sh cs=>.arow sh (cs.map (AV.ren r))
def Loc.T (R:Loc):aA->aA
 | []=>R.h
 | o::G=>R.h.set R.id (o.ren R.r)++G.map (Obj.ren R.r)
def Loc.xr (R:Loc)(x:Esc):Esc:=x.map λy=>(R.r y.1,R.rt y.2)
variable (R:Loc)
theorem Loc.r_lt {i j:Nat}:R.r i<R.r j↔i<j:=by
 have:=R.lt;cases i <;> cases j <;> simp only[Loc.r] <;> omega
theorem Loc.r_inj {i j:Nat}:R.r i=R.r j↔i=j:=by
 have:=R.lt;cases i <;> cases j <;> simp only[Loc.r] <;> omega
theorem Loc.r_le {i j:Nat}:R.r i<=R.r j↔i<=j:=by
 have:=R.lt;cases i <;> cases j <;> simp only[Loc.r] <;> omega
theorem Loc.r_add {k:Nat}(h:1<=k)(n:Nat):R.r (k+n)=R.r k+n:=by
 obtain⟨m,rfl⟩:∃m,k=m+1:=⟨k-1,by omega⟩
 have:m+1+n=(m+n)+1:=by omega
 rw[this];simp only[Loc.r];omega
theorem Loc.T_len {H:aA}(h:H≠[]):(R.T H).length=R.r H.length:=by
 cases H with
 | nil=>exact absurd rfl h
 | cons o G=>simp [Loc.T,Loc.r]
theorem Loc.T_get {H:aA}(h:H≠[])(i:Nat):(R.T H)[R.r i]?=(H[i]?).map (Obj.ren R.r):=by
 have:=R.lt;cases H with
 | nil=>exact absurd rfl h
 | cons o G=>
  cases i with
  | zero=>simp only[Loc.T,Loc.r];rw[List.getElem?_append_left (by simpa using R.lt),List.getElem?_set_self (by exact R.lt)];rfl
  | succ k=>simp only[Loc.T,Loc.r];rw[List.getElem?_append_right (by simp),List.length_set,Nat.add_sub_cancel_left,List.getElem?_map];rfl
theorem Loc.T_set {H:aA}(h:H≠[])(i:Nat)(o:Obj):R.T (H.set i o)=(R.T H).set (R.r i) (o.ren R.r):=by
 cases H with
 | nil=>exact absurd rfl h
 | cons o' G=>
  cases i with
  | zero=>
   simp only[List.set_cons_zero,Loc.T,Loc.r];rw[List.set_append_left _ _ (by simpa using R.lt),List.set_set]
  | succ k=>
   simp only[List.set_cons_succ,Loc.T,Loc.r];rw[List.set_append_right _ _ (by simp),List.length_set,Nat.add_sub_cancel_left,List.map_set]
theorem Loc.T_app {H:aA}(h:H≠[])(G:aA):R.T (H++G)=R.T H++G.map (Obj.ren R.r):=by
 cases H with
 | nil=>exact absurd rfl h
 | cons o G'=>simp [Loc.T]
theorem Loc.T_take {H:aA}(h:H≠[]){n:Nat}(hn:1<=n):R.T (H.take n)=(R.T H).take (R.r n):=by
 cases H with
 | nil=>exact absurd rfl h
 | cons o G=>
  obtain⟨m,rfl⟩:∃m,n=m+1:=⟨n-1,by omega⟩
  simp only[List.take_succ_cons,Loc.T,Loc.r];rw[List.take_append,List.length_set,Nat.add_sub_cancel_left,List.map_take];congr 1
  exact(List.take_of_length_le (by simp)).symm
theorem Loc.rt_le {i j:Nat}(h:i<=j):R.rt i<=R.rt j:=by
 cases i with
 | zero=>simp [Loc.rt]
 | succ i=>
  cases j with
  | zero=>omega
  | succ j=>simp only[Loc.rt];have:=(R.r_le (i:=i) (j:=j)).2 (by omega);omega
theorem Loc.rt_max (i j:Nat):R.rt (max i j)=max (R.rt i) (R.rt j):=by
 rcases Nat.le_total i j with h|h
 ·rw[Nat.max_eq_right h,Nat.max_eq_right (R.rt_le h)]
 ·rw[Nat.max_eq_left h,Nat.max_eq_left (R.rt_le h)]
theorem Loc.lt_rt {i t:Nat}:R.r i<R.rt t↔i<t:=by
 cases t with
 | zero=>simp [Loc.rt]
 | succ t=>simp only[Loc.rt];have:=R.r_le (i:=i) (j:=t);omega
theorem Loc.rt_le_r {t n:Nat}:R.rt t<=R.r n↔t<=n:=by
 have:=R.lt;cases t with
 | zero=>simp [Loc.rt]
 | succ t=>simp only[Loc.rt];have:=R.r_lt (i:=t) (j:=n);omega
theorem Loc.rt_le_rt {s t:Nat}:R.rt s<=R.rt t↔s<=t:=by
 cases s with
 | zero=>simp [Loc.rt]
 | succ s=>
  cases t with
  | zero=>simp [Loc.rt]
  | succ t=>simp only[Loc.rt];have:=R.r_le (i:=s) (j:=t);omega
theorem Loc.rt_two {t:Nat}(h:2<=t):R.rt t=R.r t:=by
 obtain⟨m,rfl⟩:∃m,t=m+1+1:=⟨t-2,by omega⟩
 simp only[Loc.rt,Loc.r];omega
mutual
theorem Loc.top:∀ v:AV,(v.ren R.r).top=R.rt v.top
 | .own id _ _ _=>by simp [AV.ren,AV.top,Loc.rt]
 | .ref id _=>by simp [AV.ren,AV.top,Loc.rt]
 | .rref id _ _ _=>by simp [AV.ren,AV.top,Loc.rt]
 | .mp id=>by simp [AV.ren,AV.top,Loc.rt]
 | .it id=>by simp [AV.ren,AV.top,Loc.rt]
 | .bt _ _ id _=>by simp [AV.ren,AV.top,Loc.rt]
 | .fn _ cs=>by simp only[AV.ren,AV.top];exact Loc.tops cs
 | .agg cs=>by simp only[AV.ren,AV.top];exact Loc.tops cs
 | .tup cs=>by simp only[AV.ren,AV.top];exact Loc.tops cs
 | .p _ | .sl0 _ | .vp _ | .nilp | .nilm | .nilf | .nili | .ifc | .anyb | .skp | .und | .anyp=>by simp [AV.ren,AV.top,Loc.rt]
theorem Loc.tops:∀ l:List AV,AV.tops (AV.rens R.r l)=R.rt (AV.tops l)
 | []=>by simp [AV.rens,AV.tops,Loc.rt]
 | v::l=>by simp only[AV.rens,AV.tops,Loc.top v,Loc.tops l,Loc.rt_max]
end
mutual
theorem aN (r:Nat->Nat):∀v:AV,v.top=0->v.ren r=v
 | .own id _ _ _,h=>by simp [AV.top]at h
 | .ref id _,h=>by simp [AV.top]at h
 | .rref id _ _ _,h=>by simp [AV.top]at h
 | .mp id,h=>by simp [AV.top]at h
 | .it id,h=>by simp [AV.top]at h
 | .bt _ _ id _,h=>by simp [AV.top]at h
 | .fn _ cs,h=>by simp only[AV.ren];rw[rQ r cs h]
 | .agg cs,h=>by simp only[AV.ren];rw[rQ r cs h]
 | .tup cs,h=>by simp only[AV.ren];rw[rQ r cs h]
 | .p _,_ | .sl0 _,_ | .vp _,_ | .nilp,_ | .nilm,_ | .nilf,_ | .nili,_ | .ifc,_ | .anyb,_ | .skp,_ | .und,_ | .anyp,_=>by simp [AV.ren]
theorem rQ (r:Nat->Nat):∀l:List AV,AV.tops l=0->AV.rens r l=l
 | [],_=>rfl
 | v::l,h=>by
  simp only[AV.tops]at h;rw[AV.rens,aN r v (by omega),rQ r l (by omega)]
end
theorem z1t {r:Nat->Nat}{l:List AV}(h:AV.tops l=0):l.map (AV.ren r)=l:=by rw[<-NE];exact rQ r l h
variable {r:Nat->Nat}
@[simp] theorem ren_p (v:PV):(AV.p v).ren r = .p v:=rfl
theorem zpW (v:AV):(v.ren r).sc=v.sc:=by cases v <;> rfl
theorem CK (v:AV):(v.ren r).cells=v.cells.map (List.map (AV.ren r)):=by
 cases v with
 | p v=>
  cases v with
  | agg cs=>
   simp only[AV.ren,AV.cells];split
   ·simp [Function.comp_def,AV.ren]
   ·rfl
  | _=>rfl
 | agg cs=>
  have e:(AV.rens r cs).all AV.sc=cs.all AV.sc:=by rw[NE,List.all_map];congr 1;funext v;exact zpW v
  simp only[AV.ren,AV.cells,e];split
  ·rw[NE];rfl
  ·rfl
 | _=>rfl
theorem uN:∀ l:List AV,unp (l.map (AV.ren r))=unp l
 | []=>rfl
 | v::l=>by cases v <;> simp [unp,AV.ren,uN l]
theorem z1x (cs:List AV):mkA (cs.map (AV.ren r))=(mkA cs).ren r:=by
 unfold mkA;rw[uN];split
 ·rfl
 ·rw[AV.ren,NE]
theorem AR (sh:Sh)(off:Nat)(cs:List AV):cut sh off (cs.map (AV.ren r))=(cut sh off cs).map (AV.ren r):=by
 unfold cut;cases sh with
 | none=>simp only[List.getElem?_map]
 | some n=>
  simp only[List.length_map];split
  ·rw[<-List.map_drop,<-List.map_take,z1x];rfl
  ·rfl
theorem z3U {α β:Type}(f:α->β)(cs vs:List α)(off:Nat):splice (cs.map f) off (vs.map f)=(splice cs off vs).map f:=by
 unfold splice;simp [List.map_take,List.map_drop]
theorem zkC (cs:List AV):eF (cs.map (AV.ren r))=eF cs:=by
 match cs with
 | []=>rfl
 | [a]=>rfl
 | [a,b]=>
  cases b with
  | bt k t id g=>
   match k with
   | 0=>rfl
   | 1=>rfl
   | (k+2)=>rfl
  | _=>rfl
 | a::b::c::l=>
  simp [eF]
theorem DI (v:AV):sB (v.ren r)=sB v:=by cases v <;> rfl
theorem z9h (v:AV):n64 (v.ren r)=n64 v:=by cases v <;> rfl
theorem z11 (v:AV):GG (v.ren r)=GG v:=by cases v <;> rfl
theorem zmp (k:Nat)(v:AV):NJ k (v.ren r)=NJ k v:=by
 match k with
 | 0=>
  cases v with
  | bt k t id g=>cases k <;> rfl
  | p v=>rfl
  | _=>rfl
 | 1=>cases v <;> rfl
 | 2=>cases v <;> rfl
 | 3=>cases v <;> rfl
 | k+4=>cases v <;> rfl
theorem zmn (k:Nat)(v:AV):gG k (v.ren r)=gG k v:=by cases v <;> rfl
theorem QT (kk:Sh × List Nat)(v:AV):bD kk (v.ren r)=bD kk v:=by cases v <;> rfl
theorem TP (k:PV):∀es:List ME,PB k (es.map (ME.ren r))=PB k es
 | []=>rfl
 | e::es=>by simp only[List.map_cons,PB,TP k es];rfl
theorem CO (id:Nat)(v:AV):rC (R.r id) (v.ren R.r)=R.xr (rC id v):=by
 unfold rC;rw[R.top];by_cases h:id<v.top
 ·rw[if_pos h,if_pos (R.lt_rt.2 h)];rfl
 ·rw[if_neg h,if_neg (by rw[R.lt_rt];exact h)];rfl
theorem zj6 (id:Nat)(cs:List AV)(v:AV):GD (R.r id) (cs.map (AV.ren R.r)) (v.ren R.r)=R.xr (GD id cs v):=by
 unfold GD;rw[zkC,R.top,<-NE,R.tops,CO];have:decide (R.rt v.top<=R.rt (AV.tops cs))=decide (v.top<=AV.tops cs):=by
  by_cases h:v.top<=AV.tops cs
  ·rw[decide_eq_true h,decide_eq_true (R.rt_le_rt.2 h)]
  ·rw[decide_eq_false h,decide_eq_false (by rw[R.rt_le_rt];exact h)]
 rw[this];cases (eF cs&&decide (v.top<=AV.tops cs)) <;> rfl
variable {H:aA}
theorem dK (hH:H≠[])(v:AV):rd (R.T H) (v.ren R.r)=rd H v:=by
 cases v with
 | own id g off len=>
  simp only[AV.ren,rd,R.T_get hH];cases H[id]? with
  | none=>rfl
  | some o=>cases o <;> rfl
 | p v=>cases v <;> rfl
 | _=>rfl
theorem kW (hH:H≠[])(v:AV):rds (R.T H) (v.ren R.r)=rds H v:=by
 unfold rds;cases v with
 | p v=>cases v <;> rfl
 | own id g off len=>exact dK R hH (.own id g off len)
 | _=>rfl
theorem IP {id k:Nat}(hH:H≠[]):frz H id k≠[]:=by
 unfold frz;split
 ·intro e;exact hH (by have:=congrArg List.length e;simpa using this)
 ·exact hH
theorem JT (hH:H≠[])(id k:Nat):frz (R.T H) (R.r id) k=R.T (frz H id k):=by
 unfold frz;rw[R.T_get hH];cases H[id]? with
 | none=>rfl
 | some o=>
  cases o with
  | row sh xs fz=>simp only[Option.map_some,Obj.ren];rw[R.T_set hH];rfl
  | _=>rfl
abbrev Loc.y2 {α:Type}(y:α × aA):α×aA:=(y.1,R.T y.2)
theorem znZ (hH:H≠[])(v:AV):qE (R.T H) (v.ren R.r)=(qE H v).map R.y2:=by
 cases v with
 | own id g off len=>
  have:=dK R hH (.own id g off len);simp only[AV.ren]at this;simp only[AV.ren,qE,this,JT R hH];cases rd H (.own id g off len) <;> rfl
 | _=>rfl
theorem z96 {v:AV}{y:PV × aA}(hH:H≠[])(h:qE H v=some y):y.2≠[]:=by
 cases v with
 | own id g off len=>
  simp only[qE]at h;obtain⟨z,_,rfl⟩:=Option.map_eq_some_iff.1 h;exact IP hH
 | p v=>simp only[qE,Option.some.injEq]at h;subst h;exact hH
 | sl0 v=>simp only[qE,Option.some.injEq]at h;subst h;exact hH
 | nilp=>simp only[qE,Option.some.injEq]at h;subst h;exact hH
 | _=>simp [qE]at h
theorem z97:∀ {H:aA} (hH:H≠[]) (l:List AV),aE (R.T H) (l.map (AV.ren R.r))=(aE H l).map R.y2
 | H,hH,[]=>rfl
 | H,hH,v::l=>by
  simp only[List.map_cons,aE,znZ R hH];cases hv:qE H v with
  | none=>rfl
  | some y=>
   obtain⟨x,h1⟩:=y;have:=z96 hH hv;simp only[Option.map_some,z97 this l];cases aE h1 l <;> rfl
theorem z3r:∀ {H:aA} (hH:H≠[]) (l:List AV) {y:List PV × aA},aE H l=some y->y.2≠[]
 | H,hH,[],y,h=>by simp only[aE,Option.some.injEq]at h;subst h;exact hH
 | H,hH,v::l,y,h=>by
  simp only[aE]at h;split at h
  ·rename_i x h1 hv
   split at h
   ·rename_i xs h2 hl
    cases h;exact z3r (y:=(xs,h2)) (z96 hH hv) l hl
   ·cases h
  ·cases h
theorem zoc (hH:H≠[])(id g:Nat):II (R.T H) (R.r id) g=(II H id g).map R.y2:=by
 unfold II;rw[R.T_get hH];cases H[id]? with
 | none=>rfl
 | some o=>
  cases o with
  | arow sh cs=>
   simp only[Option.map_some,Obj.ren,List.length_map];split
   ·rw[z97 R hH]
    cases hp:aE H cs with
    | none=>rfl
    | some y=>
     obtain⟨vs,h1⟩:=y;have hne:=z3r hH cs hp
     simp only[Option.map_some];have e:(R.T h1).set (R.r id) (.row sh (QC sh g vs) 0)=R.T (h1.set id (.row sh (QC sh g vs) 0)):=by rw[R.T_set hne];rfl
     rw[e,JT R (by intro q;exact hne (by have:=congrArg List.length q;simpa using this))]
   ·rfl
  | _=>rfl
theorem eD {o:Obj}{id:Nat}(hH:H≠[]):H.set id o≠[]:=λq=>hH (by have:=congrArg List.length q;simpa using this)
theorem zod {id g:Nat}{y:PV × aA}(hH:H≠[])(h:II H id g=some y):y.2≠[]:=by
 unfold II at h;split at h
 ·split at h
  ·split at h
   ·rename_i vs h1 hv
    cases h;exact IP (eD (z3r hH _ hv))
   ·cases h
  ·cases h
 ·cases h
mutual
theorem LV:∀ {H:aA} (hH:H≠[]) (v:AV),pur (R.T H) (v.ren R.r)=(pur H v).map R.y2
 | H,hH,.own id g off len=>by
  have:=dK R hH (.own id g off len);simp only[AV.ren]at this;simp only[AV.ren,pur,this,JT R hH];cases rd H (.own id g off len) <;> rfl
 | H,hH,.bt k t id g=>by
  simp only[AV.ren,pur,zoc R hH];cases Nat.beq k 3 <;> rfl
 | H,hH,.agg cs=>by
  simp only[AV.ren,pur,z9B hH cs];cases rE H cs <;> rfl
 | H,hH,.p _|H,hH,.sl0 _|H,hH,.vp _|H,hH,.nilp|H,hH,.nilm|H,hH,.nilf|H,hH,.nili|H,hH,.ifc|H,hH,.anyb|H,hH,.skp|H,hH,.und|H,hH,.anyp
 | H,hH,.ref _ _|H,hH,.rref _ _ _ _|H,hH,.mp _|H,hH,.it _|H,hH,.fn _ _|H,hH,.tup _=>by simp [AV.ren,pur]
theorem z9B:∀ {H:aA} (hH:H≠[]) (l:List AV),rE (R.T H) (AV.rens R.r l)=(rE H l).map R.y2
 | H,hH,[]=>by simp [AV.rens,rE]
 | H,hH,v::l=>by
  simp only[AV.rens,rE,LV hH v];cases hv:pur H v with
  | none=>rfl
  | some y=>
   obtain⟨x,h1⟩:=y;have:=bK hH v hv;simp only[Option.map_some,z9B this l];cases rE h1 l <;> rfl
theorem bK:∀ {H:aA} (hH:H≠[]) (v:AV) {y:PV × aA},pur H v=some y->y.2≠[]
 | H,hH,.own id g off len,y,h=>by
  simp only[pur]at h;obtain⟨z,_,rfl⟩:=Option.map_eq_some_iff.1 h;exact IP hH
 | H,hH,.bt k t id g,y,h=>by
  simp only[pur]at h;cases hk:Nat.beq k 3 with
  | true=>rw[hk]at h;exact zod hH h
  | false=>rw[hk]at h;cases h
 | H,hH,.agg cs,y,h=>by
  simp only[pur]at h;split at h
  ·rename_i vs h1 hp
   cases h;exact z9C hH cs hp
  ·cases h
 | H,hH,.p v,y,h=>by simp only[pur,Option.some.injEq]at h;subst h;exact hH
 | H,hH,.sl0 v,y,h=>by simp only[pur,Option.some.injEq]at h;subst h;exact hH
 | H,hH,.nilp,y,h=>by simp only[pur,Option.some.injEq]at h;subst h;exact hH
 | H,hH,.vp _,y,h|H,hH,.nilm,y,h|H,hH,.nilf,y,h|H,hH,.nili,y,h|H,hH,.ifc,y,h|H,hH,.anyb,y,h|H,hH,.skp,y,h|H,hH,.und,y,h|H,hH,.anyp,y,h
 | H,hH,.ref _ _,y,h|H,hH,.rref _ _ _ _,y,h|H,hH,.mp _,y,h|H,hH,.it _,y,h|H,hH,.fn _ _,y,h|H,hH,.tup _,y,h=>by simp [pur]at h
theorem z9C:∀ {H:aA} (hH:H≠[]) (l:List AV) {y:List PV × aA},rE H l=some y->y.2≠[]
 | H,hH,[],y,h=>by simp only[rE,Option.some.injEq]at h;subst h;exact hH
 | H,hH,v::l,y,h=>by
  simp only[rE]at h;split at h
  ·rename_i x h1 hv
   split at h
   ·rename_i xs h2 hl
    cases h;exact z9C (y:=(xs,h2)) (bK hH v hv) l hl
   ·cases h
  ·cases h
end
theorem qH (hH:H≠[])(v:AV):WB (R.T H) (v.ren R.r)=(WB H v).map λy=>(R.r y.1,y.2.1.map (ME.ren R.r),y.2.2):=by
 cases v with
 | mp id=>
  simp only[AV.ren,WB,R.T_get hH];cases H[id]? with
  | none=>rfl
  | some o=>cases o <;> rfl
 | _=>rfl
end
section
variable (R:Loc) {H:aA}
def Opd.cl:Opd->Bool
 | .c v=>v.top==0
 | _=>true
def AO.opds:AO->List Opd
 | .mv x | .box x | .load _ x | .nilchk x | .isnil _ _ x | .mkif x | .un _ x | .conv _ x | .faddr _ _ x | .field _ _ x | .ext x _ | .len x | .lens x | .lenm x | .clr _ _ x | .mrange x | .mentry x=>[x]
 | .pick a b c | .mupd _ a b c | .estore a b c=>[a,b,c]
 | .build _ ps=>ps.map λy=>y.2.2
 | .bsl _ _ _ _ ps=>ps.map λy=>y.2
 | .store _ a b | .bin _ a b | .eqa _ _ a b | .mksl _ _ a b | .iaddr _ a b | .iaddra _ _ a b | .idxa _ _ a b | .idxs a b | .look _ _ _ a b | .ment _ _ a b | .mdel _ a b | .app _ a b | .copy _ a b=>[a,b]
 | .slice _ x lo hi m=>x::(lo.toList++hi.toList++m.toList)
 | .slstr x lo hi=>x::(lo.toList++hi.toList)
 | .mkfn _ l | .mx l | .mn l | .mnext _ l | .uns _ _ l | .call _ l=>l
 | .callv f l=>f::l
 | .alloc _ | .mkmap | .new0 _=>[]
def AO.cons:AO->List AV
 | .alloc z | .build z _=>z
 | .look _ _ z _ _ | .ment _ z _ _=>[z]
 | _=>[]
def AO.cl (o:AO):Bool:=o.opds.all Opd.cl&&AV.tops o.cons==0
def Res (o o':Option (AV × aA × Esc)):Prop:=∀v h x,o=some (v,h,x)->o'=some (v.ren R.r,R.T h,R.xr x)/\h≠[]
theorem cC {G:aA}(hH:H≠[]):H++G≠[]:=λe=>hH (List.append_eq_nil_iff.1 e).1
theorem z7I {ev ev':Opd->AV}{r:Nat->Nat}:∀(ps:List (Nat×Nat×Opd)),(∀y∈ps,ev' y.2.2=(ev y.2.2).ren r)->∀cs,DF ev' ps (cs.map (AV.ren r))=(DF ev ps cs).map (List.map (AV.ren r))
 | [],_,cs=>rfl
 | (off,n,x)::l,h,cs=>by
  simp only[DF,h (off,n,x) List.mem_cons_self,CK];cases (ev x).cells with
  | none=>rfl
  | some vs=>
   simp only[Option.map_some,List.length_map];split
   ·rw[z3U];exact z7I l (λy hy=>h y (List.mem_cons_of_mem _ hy)) _
   ·rfl
theorem z7J {ev ev':Opd->AV}{sh:Sh}:∀(ps:List (Nat×Opd)),(∀y∈ps,ev' y.2=(ev y.2).ren R.r)->∀{H:aA},H≠[]->∀xs,mE ev' sh ps (R.T H) xs=(mE ev sh ps H xs).map R.y2
 | [],_,H,hH,xs=>rfl
 | (i,x)::l,h,H,hH,xs=>by
  simp only[mE,h (i,x) List.mem_cons_self,LV R hH];cases hp:pur H (ev x) with
  | none=>rfl
  | some y=>
   obtain⟨v,h1⟩:=y;have hne:=bK R hH _ hp
   simp only[Option.map_some];split
   ·exact z7J l (λy hy=>h y (List.mem_cons_of_mem _ hy)) hne _
   ·rfl
theorem z7L (R:Loc){ev:Opd->AV}{sh:Sh}:∀(ps:List (Nat×Opd)) {H:aA},H≠[]->∀xs {y:List PV×aA},mE ev sh ps H xs=some y->y.2≠[]
 | [],H,hH,xs,y,h=>by simp only[mE,Option.some.injEq]at h;subst h;exact hH
 | (i,x)::l,H,hH,xs,y,h=>by
  simp only[mE]at h;split at h
  ·rename_i v h1 hp
   split at h
   ·exact z7L R l (bK R hH _ hp) _ h
   ·cases h
  ·cases h
theorem RF {ev ev':Opd->AV}{d:Nat}{o:Option Opd}(h:∀ x∈o.toList,ev' x=(ev x).ren R.r):bnd ev' d o=bnd ev d o:=by
 cases o with
 | none=>rfl
 | some x=>simp only[bnd,h x (by simp),DI]
theorem asl_T {ev ev':Opd->AV}{sh:Sh}{x:AV}{lo hi mx:Option Opd}(hH:H≠[])(h1:∀ x∈lo.toList,ev' x=(ev x).ren R.r)(h2:∀ x∈hi.toList,ev' x=(ev x).ren R.r)(h3:∀ x∈mx.toList,ev' x=(ev x).ren R.r) :
 asl sh ev' (R.T H) (x.ren R.r) lo hi mx=(asl sh ev H x lo hi mx).map (AV.ren R.r):=by
 cases x with
 | p v=>
  cases v with
  | sl sh' xs=>
   simp only[AV.ren,asl,RF R h1,RF R h2,RF R h3];split
   ·split
    ·split <;> rfl
    ·rfl
   ·rfl
  | _=>rfl
 | sl0 sh'=>
  simp only[AV.ren,asl,RF R h1,RF R h2,RF R h3];split
  ·split <;> rfl
  ·rfl
 | own id g off len=>
  simp only[AV.ren,asl,R.T_get hH];cases H[id]? with
  | none=>rfl
  | some o=>
   cases o with
   | row rsh xs fz=>
    simp only[Option.map_some,Obj.ren,RF R h1,RF R h2,RF R h3];split
    ·split
     ·split <;> rfl
     ·rfl
    ·rfl
   | _=>rfl
 | _=>rfl
theorem NC (hH:H≠[])(o:Obj):R.T (H++[o])=R.T H++[o.ren R.r]:=by rw[R.T_app hH];rfl
theorem zdi (hH:H≠[])(c:Cv)(v:AV):BD (R.T H) c (v.ren R.r)=(BD H c v).map λy=>(y.1.ren R.r,R.T y.2):=by
 cases c with
 | b2s=>
  simp only[BD,dK R hH];cases rd H v with
  | none=>rfl
  | some y=>simp only;cases PE y.2 <;> rfl
 | s2b=>
  cases v with
  | p v=>
   cases v with
   | str s=>
    simp only[AV.ren,BD];split
    ·simp only[Option.map_some,AV.ren,R.T_len hH,NC R hH];rfl
    ·rfl
   | _=>rfl
  | _=>rfl
 | i k=>
  cases v with
  | p v=>cases v <;> rfl
  | _=>rfl
 | r2s=>
  cases v with
  | p v=>
   cases v with
   | int k n=>simp only[AV.ren,BD];split <;> rfl
   | _=>rfl
  | _=>rfl
 | same=>
  cases v with
  | p v=>cases v <;> rfl
  | _=>rfl
theorem zdj {c:Cv}{v:AV}{y:AV × aA}(hH:H≠[])(h:BD H c v=some y):y.2≠[]:=by
 unfold BD at h;split at h
 ·split at h
  ·cases h;exact hH
  ·cases h
 ·split at h
  ·split at h
   ·cases h;exact cC hH
   ·cases h
  ·cases h
 ·split at h
  ·obtain⟨_,_,rfl⟩:=Option.map_eq_some_iff.1 h;exact hH
  ·cases h
 ·split at h
  ·split at h
   ·cases h;exact hH
   ·cases h
  ·cases h
 ·split at h
  ·cases h;exact hH
  ·cases h
theorem ldA_T (hH:H≠[])(sh:Sh)(k off id g:Nat):ldA sh k off (R.r id) g (R.T H)=(ldA sh k off id g H).map (AV.ren R.r):=by
 unfold ldA;cases Nat.beq k 4 with
 | false=>rfl
 | true=>
  simp only[cond_true,R.T_get hH];cases H[id]? with
  | none=>rfl
  | some o=>
   cases o with
   | arow rsh cs=>
    simp only[Option.map_some,Obj.ren,List.length_map];split
    ·exact AR ..
    ·rfl
   | _=>rfl
theorem stA_T (hH:H≠[])(sh:Sh)(k off id g:Nat)(x:AV):Res R (stA sh k off id g x H) (stA sh k off (R.r id) g (x.ren R.r) (R.T H)):=by
 intro v h y hs;unfold stA at hs ⊢;cases hk:Nat.beq k 4 with
 | false=>rw[hk]at hs;cases hs
 | true=>
  rw[hk]at hs;simp only[cond_true,R.T_get hH,CK]at hs ⊢;split at hs
  ·rename_i rsh cs vs h1 h2
   simp only[h1,h2,Option.map_some,Obj.ren,List.length_map];split at hs
   ·rename_i hc
    cases hs;rw[if_pos hc]
    refine⟨?_,eD hH⟩;rw[R.T_set hH,z3U,CO];rfl
   ·cases hs
  ·cases hs
theorem iaA_T (hH:H≠[])(sh:Sh)(k id g i:Nat):iaA sh k (R.r id) g i (R.T H)=(iaA sh k id g i H).map (AV.ren R.r):=by
 unfold iaA;cases Nat.beq k 3 with
 | false=>rfl
 | true=>
  simp only[cond_true,R.T_get hH];cases H[id]? with
  | none=>rfl
  | some o=>
   cases o with
   | arow rsh cs=>
    simp only[Option.map_some,Obj.ren,List.length_map];split <;> rfl
   | _=>rfl
theorem faA_T (k off o id g:Nat):faA k off o (R.r id) g=(faA k off o id g).map (AV.ren R.r):=by
 unfold faA;cases Nat.beq k 4 <;> rfl
theorem lnA_T (k g:Nat):lnA k g=(lnA k g).map (AV.ren R.r):=by
 unfold lnA;cases Nat.beq k 3 <;> rfl
theorem nlA_T (k:Nat)(x:AV):nlA k (x.ren R.r)=(nlA k x).map (AV.ren R.r):=by
 unfold nlA;cases Nat.beq k 4 <;> rfl
theorem zrg (cs:List AV):AV.tops (cs.map (AV.ren R.r))=R.rt (AV.tops cs):=by rw[<-NE];exact R.tops cs
theorem UW (x y:Esc):R.xr (x++y)=R.xr x++R.xr y:=by simp [Loc.xr]
theorem apA_T (hH:H≠[])(sh:Sh)(s x:AV):Res R (apA sh H s x) (apA sh (R.T H) (s.ren R.r) (x.ren R.r)):=by
 intro v h y hs;unfold apA at hs;split at hs
 ·rename_i k t id g k' t' id' g'
  simp only[AV.ren,apA];cases hk:(Nat.beq k 3&&Nat.beq k' 3) with
  | false=>rw[hk]at hs;cases hs
  | true=>
   rw[hk]at hs;simp only[cond_true,R.T_get hH]at hs ⊢;split at hs
   ·rename_i rsh cs rsh' ds h1 h2
    simp only[h1,h2,Option.map_some,Obj.ren,List.length_map];split at hs
    ·rename_i hc
     cases hs;rw[if_pos hc]
     refine⟨?_,eD hH⟩;rw[R.T_set hH,zrg];have hd:decide (R.r id<R.rt (AV.tops ds))=decide (id<AV.tops ds):=by
      by_cases q:id<AV.tops ds
      ·rw[decide_eq_true q,decide_eq_true (R.lt_rt.2 q)]
      ·rw[decide_eq_false q,decide_eq_false (by rw[R.lt_rt];exact q)]
     rw[hd];cases decide (id<AV.tops ds) <;> simp [AV.ren,Obj.ren,Loc.xr]
    ·cases hs
   ·cases hs
 ·cases hs
theorem zgs (hH:H≠[])(t:Nat)(s:AV):Res R (aI t H s) (aI t (R.T H) (s.ren R.r)):=by
 intro v h y hs;unfold aI at hs;split at hs
 ·rename_i t' id g
  simp only[AV.ren,aI,R.T_get hH];split at hs
  ·rename_i xs fz h1
   simp only[h1,Option.map_some,Obj.ren];split at hs
   ·rename_i hc
    rw[if_pos hc];split at hs
    ·rename_i hg;cases hs;rw[if_pos hg];exact⟨rfl,hH⟩
    ·rename_i hg;cases hs;rw[if_neg hg];exact⟨rfl,hH⟩
   ·cases hs
  ·cases hs
 ·cases hs
theorem zqE (hH:H≠[])(t:Nat)(p:AV)(n:Nat):Res R (BH t H p n) (BH t (R.T H) (p.ren R.r) n):=by
 intro v h y hs;unfold BH at hs;split at hs
 ·simp only[AV.ren,BH]
  split at hs
  ·rename_i hc;cases hs;rw[if_pos hc];exact⟨rfl,hH⟩
  ·cases hs
 ·rename_i t' id g
  simp only[AV.ren,BH,R.T_get hH];split at hs
  ·rename_i xs fz h1
   simp only[h1,Option.map_some,Obj.ren];split at hs
   ·rename_i hc
    rw[if_pos hc];obtain⟨s,e1,e2⟩:=Option.map_eq_some_iff.1 hs;cases e2;rw[e1];refine⟨?_,eD hH⟩;rw[R.T_set hH];rfl
   ·cases hs
  ·cases hs
 ·cases hs
theorem zd0 (hH:H≠[])(t:Nat)(s x:AV):Res R (JH t H s x) (JH t (R.T H) (s.ren R.r) (x.ren R.r)):=by
 intro v h y hs;unfold JH at hs;split at hs
 ·rename_i ys hy
  split at hs
  ·rename_i t' id g
   simp only[JH,kW R hH,hy];split at hs
   ·rename_i xs fz h1
    simp only[AV.ren,R.T_get hH,h1,Option.map_some,Obj.ren];split at hs
    ·rename_i hc
     cases hs;rw[if_pos hc]
     refine⟨?_,eD hH⟩;rw[R.T_set hH];rfl
    ·cases hs
   ·cases hs
  ·cases hs
 ·cases hs
theorem zry (hH:H≠[])(t:Nat)(x:AV):Res R (tK t H x) (tK t (R.T H) (x.ren R.r)):=by
 intro v h y hs;unfold tK at hs;split at hs
 ·rename_i id
  split at hs
  ·rename_i t' id' g' b h1
   simp only[AV.ren,tK,R.T_get hH,h1,Option.map_some,Obj.ren,List.map_cons,List.map_nil];split at hs
   ·rename_i hc
    cases hs;rw[if_pos ⟨hc.1,by rw[hc.2]⟩]
    exact⟨rfl,hH⟩
   ·cases hs
  ·cases hs
 ·cases hs
theorem zma (hH:H≠[])(x z:AV):Res R (KJ H x z) (KJ (R.T H) (x.ren R.r) (z.ren R.r)):=by
 intro v h y hs;unfold KJ at hs;split at hs
 ·rename_i id o id' o'
  simp only[AV.ren,KJ];split at hs
  ·rename_i hc
   cases hs;rw[if_pos ⟨by rw[hc.1],hc.2⟩]
   exact⟨rfl,hH⟩
  ·cases hs
 ·cases hs
theorem zpN (hH:H≠[])(t:Nat)(f x:AV):Res R (mK t H f x) (mK t (R.T H) (f.ren R.r) (x.ren R.r)):=by
 intro v h y hs;unfold mK at hs;split at hs
 ·rename_i g
  simp only[AV.ren,AV.rens,mK];split at hs
  ·rename_i hc
   cases hs;rw[if_pos hc]
   exact⟨rfl,hH⟩
  ·cases hs
 ·cases hs
theorem zlA {r:Nat->Nat}(v:AV):SP (v.ren r)=SP v:=by
 cases v with
 | bt k t id g=>
  match k with
  | 0=>rfl
  | 1=>rfl
  | k+2=>rfl
 | _=>rfl
theorem wW:∀ (l:List AV) {H:aA},H≠[]->cE (l.map (AV.ren R.r)) (R.T H)=((cE l H).1.map (AV.ren R.r),R.T (cE l H).2)
 | [],H,hH=>rfl
 | v::l,H,hH=>by
  cases v with
  | sl0 sh=>
   have e:R.T H++[Obj.row sh [] 0]=R.T (H++[.row sh [] 0]):=by rw[NC R hH];rfl
   simp only[List.map_cons,AV.ren,cE,e,wW l (cC hH),R.T_len hH]
  | bt k t id g=>
   have e:R.T H++[Obj.arow (aC t) []]=R.T (H++[.arow (aC t) []]):=by rw[NC R hH];rfl
   simp only[List.map_cons,AV.ren,cE,e,wW l (cC hH),R.T_len hH]
  | _=>simp only[List.map_cons,AV.ren,cE,wW l hH]
theorem xW:∀ (l:List AV) {H:aA},H≠[]->(cE l H).2≠[]
 | [],H,hH=>hH
 | v::l,H,hH=>by
  cases v with
  | sl0 sh=>exact xW l (cC hH)
  | bt k t id g=>exact xW l (cC hH)
  | _=>exact xW l hH
theorem sW (t:Nat):∀(l:List AV) {H:aA},H≠[]->dB t (l.map (AV.ren R.r)) (R.T H)=((dB t l H).1.map (AV.ren R.r),R.T (dB t l H).2)
 | [],H,hH=>rfl
 | v::l,H,hH=>by
  cases v with
  | sl0 sh=>
   have e:R.T H++[Obj.row sh [] 0]=R.T (H++[.row sh [] 0]):=by rw[NC R hH];rfl
   have e2:R.T H++[Obj.arow (aC (t-1)) []]=R.T (H++[.arow (aC (t-1)) []]):=by rw[NC R hH];rfl
   simp only[List.map_cons,AV.ren,dB];cases ML t sh with
   | true=>simp only[cond_true,e2,sW t l (cC hH),R.T_len hH,List.map_cons,AV.ren]
   | false=>simp only[cond_false,e,sW t l (cC hH),R.T_len hH,List.map_cons,AV.ren]
  | _=>simp only[List.map_cons,AV.ren,dB,sW t l hH]
theorem tW (t:Nat):∀(l:List AV) {H:aA},H≠[]->(dB t l H).2≠[]
 | [],H,hH=>hH
 | v::l,H,hH=>by
  cases v with
  | sl0 sh=>
   simp only[dB];cases ML t sh with
   | true=>exact tW t l (cC hH)
   | false=>exact tW t l (cC hH)
  | _=>exact tW t l hH
theorem zrv (hH:H≠[])(k t:Nat)(vs:List AV):Res R (DB k t vs H) (DB k t (vs.map (AV.ren R.r)) (R.T H)):=by
 intro v h y hs;have box:∀(cs:List AV) {G:aA},G≠[]->R.T G++[Obj.box (cs.map (AV.ren R.r))]=R.T (G++[.box cs]):=λcs G hG=>by rw[NC R hG];rfl
 match k,vs with
 | 0,[v0]=>
  simp only[DB]at hs;simp only[List.map_cons,List.map_nil,DB,z9h];split at hs
  ·rename_i te he
   cases hs;refine⟨?_,cC hH⟩
   have l1:1<=H.length:=List.length_pos_iff.2 hH
   have q1:=R.r_add l1 1
   have q2:=R.r_add l1 2
   have q3:R.rt (H.length+2)=R.r H.length+2:=by rw[R.rt_two (by omega),q2]
   rw[R.T_app hH];simp only[AV.ren,Obj.ren,Loc.xr,List.map_cons,List.map_nil,R.T_len hH,q1,q3]
  ·cases hs
 | 1,[x]=>exact zry R hH t x v h y hs
 | 2,[x,z]=>exact zma R hH x z v h y hs
 | 3,[s,x]=>exact zd0 R hH t s x v h y hs
 | 4,[s]=>
  simp only[DB]at hs;simp only[List.map_cons,List.map_nil,DB,zlA];obtain⟨n,e1,e2⟩:=Option.map_eq_some_iff.1 hs;cases e2;rw[e1];exact⟨rfl,hH⟩
 | 5,[s]=>exact zgs R hH t s v h y hs
 | 6,[p,n]=>
  simp only[DB]at hs;simp only[List.map_cons,List.map_nil,DB,z9h];split at hs
  ·rename_i m hm
   exact zqE R hH t p m v h y hs
  ·cases hs
 | 7,[f,x]=>exact zpN R hH t f x v h y hs
 | 8,vs=>
  simp only[DB,Option.some.injEq,Prod.mk.injEq]at hs;obtain⟨rfl,rfl,rfl⟩:=hs;simp only[DB,wW R vs hH];have hne:=xW vs hH
  refine⟨?_,cC hne⟩;rw[box _ hne];simp only[AV.ren,R.T_len hne];rfl
 | 9,[x]=>
  simp only[DB]at hs;simp only[List.map_cons,List.map_nil,DB,CK];split at hs
  ·rename_i cs hc
   simp only[hc,Option.map_some,List.length_map];split at hs
   ·rename_i hl
    cases hs;rw[if_pos hl]
    refine⟨?_,cC hH⟩;rw[NC R hH];simp only[AV.ren,R.T_len hH];rfl
   ·cases hs
  ·cases hs
 | 10,[]=>
  simp only[DB,Option.some.injEq,Prod.mk.injEq]at hs;obtain⟨rfl,rfl,rfl⟩:=hs;refine⟨?_,cC hH⟩;simp only[List.map_nil,DB];rw[NC R hH];simp only[AV.ren,R.T_len hH];rfl
 | 11,[s,x]=>exact apA_T R hH (aC t) s x v h y hs
 | 12,[x]=>
  simp only[DB]at hs;simp only[List.map_cons,List.map_nil,DB,CK];split at hs
  ·rename_i cs hc
   simp only[Option.some.injEq,Prod.mk.injEq]at hs;obtain⟨rfl,rfl,rfl⟩:=hs;simp only[hc,Option.map_some,sW R t cs hH];have hne:=tW t cs hH
   refine⟨?_,cC hne⟩;rw[box _ hne];simp only[AV.ren,R.T_len hne];rfl
  ·cases hs
 | 0,[]|0,_::_::_|1,[]|1,_::_::_|2,[]|2,[_]|2,_::_::_::_|3,[]|3,[_]|3,_::_::_::_|4,[]|4,_::_::_|5,[]|5,_::_::_|6,[]|6,[_]|6,_::_::_::_
 | 7,[]|7,[_]|7,_::_::_::_|9,[]|9,_::_::_|10,_::_|11,[]|11,[_]|11,_::_::_::_|12,[]|12,_::_::_=>cases hs
 | k+13,vs=>cases hs
end
section
variable (R:Loc) {H:aA}
theorem Res.vals (hH:H≠[])(o:Option AV):Res R (o.map λv=>(v,H,[])) ((o.map (AV.ren R.r)).map λv=>(v,R.T H,[])):=by
 intro v h x hs;obtain⟨a,rfl,e⟩:=Option.map_eq_some_iff.1 hs;cases e;exact⟨rfl,hH⟩
theorem Res.pv (hH:H≠[])(o:Option PV):Res R (o.map λv=>(AV.p v,H,[])) (o.map λv=>(AV.p v,R.T H,[])):=by
 intro v h x hs;obtain⟨a,rfl,e⟩:=Option.map_eq_some_iff.1 hs;cases e;exact⟨rfl,hH⟩
theorem zj1 (es:List ME)(b:Nat)(r:Nat->Nat):(es.map (ME.ren r)).findIdx? (λe=>e.born==b)=es.findIdx? (λe=>e.born==b):=by
 rw[List.findIdx?_map];rfl
theorem zj2 (es:List ME)(b:Nat)(r:Nat->Nat):(es.map (ME.ren r)).find? (λe=>e.born==b)=(es.find? (λe=>e.born==b)).map (ME.ren r):=by
 rw[List.find?_map];rfl
theorem z6C (es:List ME)(i:Nat)(x:AV)(r:Nat->Nat):(es.map (ME.ren r)).modify i (λe=>{ e with val:=x.ren r })=(es.modify i λe=>{ e with val:=x }).map (ME.ren r):=by
 apply List.ext_getElem?
 intro j;simp only[List.getElem?_modify,List.getElem?_map];cases es[j]? with
 | none=>rfl
 | some e=>
  simp only[Option.map_some];split <;> rfl
theorem z6B {α β:Type}(f:α->β):∀(l:List α) (i:Nat),(l.eraseIdx i).map f=(l.map f).eraseIdx i
 | [],i=>rfl
 | a::l,0=>rfl
 | a::l,i+1=>by simp only[List.eraseIdx_cons_succ,List.map_cons,z6B f l i]
theorem z4V {o:AO}{ev ev':Opd->AV}(hz:AV.tops o.cons=0)(hE:∀ x∈o.opds,ev' x=(ev x).ren R.r)(hH:H≠[]):Res R (aop o ev H) (aop o ev' (R.T H)):=by
 have hLen:=R.T_len hH
 intro v h y hs;cases o with
 | mv x=>
  have e1:=hE x (by simp [AO.opds])
  simp only[aop,Option.some.injEq,Prod.mk.injEq]at hs ⊢;obtain⟨rfl,rfl,rfl⟩:=hs;exact⟨⟨e1,rfl,rfl⟩,hH⟩
 | pick c a b=>
  have e1:=hE c (by simp [AO.opds]);have e2:=hE a (by simp [AO.opds]);have e3:=hE b (by simp [AO.opds])
  simp only[aop]at hs ⊢;split at hs
  ·rename_i t hc
   rw[e1,hc];cases hs;cases t
   ·exact⟨by simp only[ren_p,cond_false,e3];rfl,hH⟩
   ·exact⟨by simp only[ren_p,cond_true,e2];rfl,hH⟩
  ·cases hs
 | alloc z=>
  simp only[aop,Option.some.injEq,Prod.mk.injEq]at hs ⊢;obtain⟨rfl,rfl,rfl⟩:=hs;refine⟨⟨by simp only[AV.ren,hLen],?_,rfl⟩,cC hH⟩
  have hz:AV.tops z=0:=hz
  rw[NC R hH,Obj.ren,z1t hz]
 | box x=>
  have e1:=hE x (by simp [AO.opds])
  simp only[aop]at hs ⊢;rw[e1,CK];split at hs
  ·rename_i cs hc
   cases hs;try rw[hc]
   refine⟨?_,cC hH⟩;rw[NC R hH];simp only[Option.map_some,AV.ren,hLen];rfl
  ·cases hs
 | build z ps=>
  simp only[aop]at hs ⊢;have hf:=z7I (ev:=ev) (ev':=ev') (r:=R.r) ps (λy hy=>hE _ (List.mem_map.2 ⟨y,hy,rfl⟩)) z
  have hz:AV.tops z=0:=hz
  rw[z1t hz]at hf;try rw[hf]
  obtain⟨cs,e1,e2⟩:=Option.map_eq_some_iff.1 hs;cases e2;rw[e1];exact⟨by simp only[Option.map_some,z1x];rfl,hH⟩
 | bsl own sh n z ps=>
  simp only[aop]at hs ⊢;have hf:=z7J R (ev:=ev) (ev':=ev') (sh:=sh) ps (λy hy=>hE _ (List.mem_map.2 ⟨y,hy,rfl⟩)) hH (List.replicate n z)
  try rw[hf]
  split at hs
  ·rename_i xs h' hp
   have hne:=z7L R ps hH _ hp
   try rw[hp]
   simp only[Option.map_some];split at hs
   ·cases hs
   ·rename_i hc
    rw[if_neg hc];simp only[Option.some.injEq]at hs;cases own with
    | true=>
     simp only[cond_true]at hs;cases hs;refine⟨?_,cC hne⟩;rw[NC R hne];simp only[cond_true,AV.ren,R.T_len hne];rfl
    | false=>
     simp only[cond_false]at hs;cases hs;exact⟨rfl,hne⟩
  ·cases hs
 | load sh a=>
  have e1:=hE a (by simp [AO.opds])
  simp only[aop]at hs ⊢;rw[e1];split at hs
  ·rename_i id off ha
   try rw[ha]
   simp only[AV.ren,R.T_get hH];split at hs
   ·rename_i cs hc
    try rw[hc]
    simp only[Option.map_some,Obj.ren,AR];exact Res.vals R hH _ v h y hs
   ·cases hs
  ·rename_i id g i off ha
   try rw[ha]
   simp only[AV.ren,R.T_get hH];split at hs
   ·rename_i rsh xs fz hc
    try rw[hc]
    simp only[Option.map_some,Obj.ren];split at hs
    ·rename_i hg
     rw[if_pos hg];exact Res.pv R hH _ v h y hs
    ·cases hs
   ·cases hs
  ·rename_i w ha
   try rw[ha]
   exact Res.pv R hH _ v h y hs
  ·rename_i k off id g ha
   try rw[ha]
   simp only[AV.ren,ldA_T R hH];exact Res.vals R hH _ v h y hs
  ·cases hs
 | store sh a x=>
  have e1:=hE a (by simp [AO.opds]);have e2:=hE x (by simp [AO.opds])
  simp only[aop]at hs ⊢;rw[e1,e2];split at hs
  ·rename_i id off ha
   try rw[ha]
   simp only[AV.ren,R.T_get hH,CK];split at hs
   ·rename_i cs vs hc hv
    try rw[hc,hv]
    simp only[Option.map_some,Obj.ren,List.length_map];split at hs
    ·rename_i hl
     cases hs;rw[if_pos hl]
     refine⟨?_,eD hH⟩;rw[R.T_set hH,z3U,zj6];rfl
    ·cases hs
   ·cases hs
  ·rename_i id g i off ha
   try rw[ha]
   simp only[AV.ren,LV R hH];split at hs
   ·rename_i w h1 hp
    have hne:=bK R hH _ hp
    try rw[hp]
    simp only[Option.map_some,R.T_get hne];split at hs
    ·rename_i rsh xs fz hc
     try rw[hc]
     simp only[Option.map_some,Obj.ren];split at hs
     ·rename_i hl
      rw[if_pos hl];split at hs
      ·rename_i cs hx
       try rw[hx]
       split at hs
       ·rename_i hq
        cases hs;simp only[if_pos hq]
        refine⟨?_,eD hne⟩;rw[R.T_set hne];rfl
       ·cases hs
      ·split at hs
       ·rename_i hq
        cases hs;simp only[hq,and_self,if_true]
        exact⟨by rw[R.T_set hne];rfl,eD hne⟩
       ·cases hs
      ·cases hs
     ·cases hs
    ·cases hs
   ·cases hs
  ·rename_i k off id g ha
   try rw[ha]
   exact stA_T R hH sh k off id g (ev x) v h y hs
  ·cases hs
 | nilchk x=>
  have e1:=hE x (by simp [AO.opds])
  simp only[aop]at hs ⊢;rw[e1];split at hs
  ·rename_i id off ha;rw[ha]at hs ⊢;cases hs;exact⟨rfl,hH⟩
  ·rename_i id off a b ha;rw[ha]at hs ⊢;cases hs;exact⟨rfl,hH⟩
  ·rename_i w ha;rw[ha]at hs ⊢;cases hs;exact⟨rfl,hH⟩
  ·rename_i f cs ha;rw[ha]at hs ⊢;cases hs;exact⟨rfl,hH⟩
  ·rename_i k t id g ha
   rw[ha]at hs ⊢;have e2:=nlA_T R k (.bt k t id g)
   simp only[AV.ren]at e2 ⊢;rw[e2];exact Res.vals R hH _ v h y hs
  ·cases hs
 | bin op x z=>
  have e1:=hE x (by simp [AO.opds]);have e2:=hE z (by simp [AO.opds])
  simp only[aop]at hs ⊢;rw[e1,e2];split at hs
  ·rename_i a b ha hb;rw[ha,hb];exact Res.pv R hH _ v h y hs
  ·cases hs
 | eqa ks neg x z=>
  have e1:=hE x (by simp [AO.opds]);have e2:=hE z (by simp [AO.opds])
  simp only[aop]at hs ⊢;rw[e1,e2];split at hs
  ·rename_i a b ha hb
   try rw[ha,hb]
   simp only[AV.ren];split at hs
   ·rename_i hc
    rw[if_pos hc];obtain⟨t,q1,q2⟩:=Option.map_eq_some_iff.1 hs;cases q2;try rw[q1]
    exact⟨rfl,hH⟩
   ·cases hs
  ·rename_i a b ha hb
   try rw[ha,hb]
   simp only[AV.ren];split at hs
   ·rename_i hc;rw[if_pos hc];cases hs;exact⟨rfl,hH⟩
   ·cases hs
  ·cases hs
 | isnil k neg x=>
  have e1:=hE x (by simp [AO.opds])
  simp only[aop]at hs ⊢;rw[e1,zmn,zmp];cases hn:gG k (ev x) with
  | true=>
   rw[hn]at hs;simp only[cond_true]at hs ⊢;cases hs;exact⟨rfl,hH⟩
  | false=>
   rw[hn]at hs;simp only[cond_false]at hs ⊢;obtain⟨t,q1,q2⟩:=Option.map_eq_some_iff.1 hs;cases q2;try rw[q1]
   exact⟨rfl,hH⟩
 | mkif x=>
  have e1:=hE x (by simp [AO.opds])
  simp only[aop]at hs ⊢;rw[e1,z11];split at hs
  ·rename_i hc;rw[if_pos hc];cases hs;exact⟨rfl,hH⟩
  ·cases hs
 | un op x=>
  have e1:=hE x (by simp [AO.opds])
  simp only[aop]at hs ⊢;rw[e1];split at hs
  ·rename_i a ha;rw[ha];exact Res.pv R hH _ v h y hs
  ·cases hs
 | conv c x=>
  have e1:=hE x (by simp [AO.opds])
  simp only[aop]at hs ⊢;rw[e1,zdi R hH];obtain⟨⟨w,h1⟩,q1,q2⟩:=Option.map_eq_some_iff.1 hs;have hne:=zdj hH q1
  cases q2;try rw[q1]
  exact⟨rfl,hne⟩
 | mkfn f caps=>
  simp only[aop,Option.some.injEq,Prod.mk.injEq]at hs ⊢;obtain⟨rfl,rfl,rfl⟩:=hs;refine⟨⟨?_,rfl,rfl⟩,hH⟩;simp only[AV.ren,NE,List.map_map];congr 1
  exact List.map_congr_left λx hx=>hE x hx
 | mkmap=>
  simp only[aop,Option.some.injEq,Prod.mk.injEq]at hs ⊢;obtain⟨rfl,rfl,rfl⟩:=hs;refine⟨⟨by simp only[AV.ren,hLen],?_,rfl⟩,cC hH⟩
  rw[NC R hH];rfl
 | mksl sh z len cap=>
  have e1:=hE len (by simp [AO.opds]);have e2:=hE cap (by simp [AO.opds])
  simp only[aop]at hs ⊢;rw[e1,e2,DI,DI];split at hs
  ·rename_i n m hn hm
   try rw[hn,hm]
   split at hs
   ·rename_i hc
    cases hs;simp only[if_pos hc]
    refine⟨?_,cC hH⟩;rw[NC R hH];simp only[AV.ren,hLen];rfl
   ·cases hs
  ·cases hs
 | slstr x lo hi=>
  have e1:=hE x (by simp [AO.opds])
  have b1:=λd=>RF R (ev:=ev) (ev':=ev') (d:=d) (o:=lo) λz hz=>hE z (by simp [AO.opds]at hz ⊢;exact .inr (.inl hz))
  have b2:=λd=>RF R (ev:=ev) (ev':=ev') (d:=d) (o:=hi) λz hz=>hE z (by simp [AO.opds]at hz ⊢;exact .inr (.inr hz))
  simp only[aop]at hs ⊢;rw[e1];split at hs
  ·rename_i s ha
   try rw[ha]
   simp only[AV.ren,b1,b2];split at hs
   ·rename_i l r h1 h2
    try rw[h1,h2]
    split at hs
    ·rename_i hc;cases hs;simp only[if_pos hc];exact⟨rfl,hH⟩
    ·cases hs
   ·cases hs
  ·cases hs
 | slice sh x lo hi mx=>
  have e1:=hE x (by simp [AO.opds])
  simp only[aop]at hs ⊢;rw[e1,asl_T R hH (λz hz=>hE z (by simp [AO.opds]at hz ⊢;exact .inr (.inl hz))) (λz hz=>hE z (by simp [AO.opds]at hz ⊢;exact .inr (.inr (.inl hz)))) (λz hz=>hE z (by simp [AO.opds]at hz ⊢;exact .inr (.inr (.inr hz))))]
  exact Res.vals R hH _ v h y hs
 | faddr off sh x=>
  have e1:=hE x (by simp [AO.opds])
  simp only[aop]at hs ⊢;rw[e1];split at hs
  ·rename_i id o ha;rw[ha];cases hs;exact⟨rfl,hH⟩
  ·rename_i id g i o ha;rw[ha];cases hs;exact⟨rfl,hH⟩
  ·rename_i w ha
   try rw[ha]
   obtain⟨u,q1,q2⟩:=Option.map_eq_some_iff.1 hs;cases q2;simp only[AV.ren,q1];exact⟨rfl,hH⟩
  ·rename_i k o id g ha
   try rw[ha]
   simp only[AV.ren,faA_T R];exact Res.vals R hH _ v h y hs
  ·cases hs
 | field off sh x=>
  have e1:=hE x (by simp [AO.opds])
  simp only[aop]at hs ⊢;rw[e1];split at hs
  ·rename_i w ha
   try rw[ha]
   simp only[AV.ren];split at hs
   ·exact Res.pv R hH _ v h y hs
   ·cases hs
  ·rename_i cs ha
   try rw[ha]
   simp only[AV.ren,NE,AR];exact Res.vals R hH _ v h y hs
  ·cases hs
 | iaddr sh x i=>
  have e1:=hE x (by simp [AO.opds]);have e2:=hE i (by simp [AO.opds])
  simp only[aop]at hs ⊢;rw[e1,e2,DI];split at hs
  ·rename_i sh' xs k ha hk
   try rw[ha,hk]
   simp only[AV.ren];split at hs
   ·rename_i hc
    rw[if_pos hc];obtain⟨u,q1,q2⟩:=Option.map_eq_some_iff.1 hs;cases q2;try rw[q1]
    exact⟨rfl,hH⟩
   ·cases hs
  ·rename_i id g off len k ha hk
   try rw[ha,hk]
   simp only[AV.ren,R.T_get hH];split at hs
   ·rename_i rsh xs fz hc
    try rw[hc]
    simp only[Option.map_some,Obj.ren];split at hs
    ·rename_i hq;cases hs;rw[if_pos hq];exact⟨rfl,hH⟩
    ·cases hs
   ·cases hs
  ·rename_i kk t id g k ha hk
   try rw[ha,hk]
   simp only[AV.ren,iaA_T R hH];exact Res.vals R hH _ v h y hs
  ·cases hs
 | iaddra n sh x i=>
  have e1:=hE x (by simp [AO.opds]);have e2:=hE i (by simp [AO.opds])
  simp only[aop]at hs ⊢;rw[e1,e2,DI];split at hs
  ·rename_i id o k ha hk
   try rw[ha,hk]
   simp only[AV.ren];split at hs
   ·rename_i hc;cases hs;rw[if_pos hc];exact⟨rfl,hH⟩
   ·cases hs
  ·rename_i id g j o k ha hk
   try rw[ha,hk]
   simp only[AV.ren];split at hs
   ·rename_i hc;cases hs;rw[if_pos hc];exact⟨rfl,hH⟩
   ·cases hs
  ·rename_i w k ha hk
   try rw[ha,hk]
   simp only[AV.ren];split at hs
   ·rename_i hc
    rw[if_pos hc];obtain⟨u,q1,q2⟩:=Option.map_eq_some_iff.1 hs;cases q2;try rw[q1]
    exact⟨rfl,hH⟩
   ·cases hs
  ·cases hs
 | idxa n sh x i=>
  have e1:=hE x (by simp [AO.opds]);have e2:=hE i (by simp [AO.opds])
  simp only[aop]at hs ⊢;rw[e1,e2,DI];split at hs
  ·rename_i cs k ha hk
   try rw[ha,hk]
   simp only[AV.ren];split at hs
   ·rename_i hc;rw[if_pos hc];exact Res.pv R hH _ v h y hs
   ·cases hs
  ·cases hs
 | idxs x i=>
  have e1:=hE x (by simp [AO.opds]);have e2:=hE i (by simp [AO.opds])
  simp only[aop]at hs ⊢;rw[e1,e2,DI];split at hs
  ·rename_i s k ha hk
   try rw[ha,hk]
   obtain⟨u,q1,q2⟩:=Option.map_eq_some_iff.1 hs;cases q2;simp only[AV.ren,q1];exact⟨rfl,hH⟩
  ·cases hs
 | look kk ok z x k=>
  have e1:=hE x (by simp [AO.opds]);have e2:=hE k (by simp [AO.opds])
  have z0:z.ren R.r=z:=aN _ _ (by simp [AO.cons,AV.tops]at hz;exact hz)
  simp only[aop]at hs ⊢;rw[e1,e2,QT];split at hs
  ·rename_i key hk
   try rw[hk]
   have fin:∀es:List ME,(match PB key es with
    | some r=>some (bif ok then AV.tup [(((r.bind (es[·]?)).map ME.val)).getD z,pbool (((r.bind (es[·]?)).map ME.val)).isSome] else(((r.bind (es[·]?)).map ME.val)).getD z,H,([]:Esc))
    | none=>none)=some (v,h,y)->(match PB key (es.map (ME.ren R.r)) with
    | some r=>some (bif ok then AV.tup [(((r.bind ((es.map (ME.ren R.r))[·]?)).map ME.val)).getD z,pbool (((r.bind ((es.map (ME.ren R.r))[·]?)).map ME.val)).isSome] else(((r.bind ((es.map (ME.ren R.r))[·]?)).map ME.val)).getD z,R.T H,([]:Esc))
    | none=>none)=some (v.ren R.r,R.T h,R.xr y)/\h≠[]:=λes hs=>by
    rw[TP];cases hr:PB key es with
    | none=>rw[hr]at hs;cases hs
    | some r=>
     rw[hr]at hs;simp only at hs ⊢;cases hs;refine⟨?_,hH⟩;have hv:((r.bind λi=>(es.map (ME.ren R.r))[i]?).map ME.val)=((r.bind λi=>es[i]?).map ME.val).map (AV.ren R.r):=by
      cases r with
      | none=>rfl
      | some i=>simp only[Option.bind_some,List.getElem?_map];cases es[i]? <;> rfl
     rw[hv];cases ((r.bind λi=>es[i]?).map ME.val) with
     | none=>cases ok <;> simp [AV.ren,AV.rens,z0,Loc.xr,pbool]
     | some w=>cases ok <;> simp [AV.ren,AV.rens,Loc.xr,pbool]
   cases hx:ev x with
   | nilm=>rw[hx]at hs;exact fin [] hs
   | mp id=>
    rw[hx]at hs;have hm:=qH R hH (.mp id)
    simp only[AV.ren]at hm ⊢;rw[hm];simp only at hs;cases hg:WB H (.mp id) with
    | none=>rw[hg]at hs;cases hs
    | some q=>
     rw[hg]at hs;exact fin q.2.1 hs
   | _=>rw[hx]at hs;simp [WB]at hs
  ·cases hs
 | mupd kk m k x=>
  have e1:=hE m (by simp [AO.opds]);have e2:=hE k (by simp [AO.opds]);have e3:=hE x (by simp [AO.opds])
  simp only[aop]at hs ⊢;rw[e1,e2,e3,QT,qH R hH,z11];split at hs
  ·rename_i key id es c hk hm ho
   try rw[hk,hm,ho]
   simp only[Option.map_some,TP];split at hs
   ·rename_i i hi
    try rw[hi]
    cases hs;refine⟨?_,eD hH⟩
    rw[R.T_set hH,CO];simp only[Obj.ren,z6C];rfl
   ·rename_i hi
    try rw[hi]
    cases hs;refine⟨?_,eD hH⟩
    rw[R.T_set hH,CO];simp only[Obj.ren,List.map_append];rfl
   ·cases hs
  ·cases hs
 | ment kk z m k=>
  have e1:=hE m (by simp [AO.opds]);have e2:=hE k (by simp [AO.opds])
  have z0:z.ren R.r=z:=aN _ _ (by simp [AO.cons,AV.tops]at hz;exact hz)
  simp only[aop]at hs ⊢;rw[e1,e2,QT,qH R hH];split at hs
  ·rename_i key id es c hk hm
   try rw[hk,hm]
   simp only[Option.map_some,TP];split at hs
   ·rename_i i hi
    try rw[hi]
    obtain⟨u,q1,q2⟩:=Option.map_eq_some_iff.1 hs;cases q2;simp only[List.getElem?_map,q1,Option.map_some];exact⟨rfl,hH⟩
   ·rename_i hi
    try rw[hi]
    cases hs;refine⟨?_,eD hH⟩
    rw[R.T_set hH];simp only[Obj.ren,List.map_append,List.map_cons,List.map_nil,ME.ren,z0,AV.ren,AV.rens];rfl
   ·cases hs
  ·cases hs
 | estore m s x=>
  have e1:=hE m (by simp [AO.opds]);have e2:=hE s (by simp [AO.opds]);have e3:=hE x (by simp [AO.opds])
  simp only[aop]at hs ⊢;rw[e1,e2,e3,DI,qH R hH,z11];split at hs
  ·rename_i id es c b hm hb ho
   try rw[hb,hm,ho]
   simp only[Option.map_some,zj1];split at hs
   ·rename_i i hi
    try rw[hi]
    cases hs;refine⟨?_,eD hH⟩
    rw[R.T_set hH,CO];simp only[Obj.ren,z6C];rfl
   ·cases hs
  ·cases hs
 | mdel kk m k=>
  have e1:=hE m (by simp [AO.opds]);have e2:=hE k (by simp [AO.opds])
  simp only[aop]at hs ⊢;rw[e1,e2,QT,qH R hH];split at hs
  ·rename_i key id es c hk hm
   try rw[hk,hm]
   simp only[Option.map_some,TP];split at hs
   ·rename_i i hi
    try rw[hi]
    cases hs;refine⟨?_,eD hH⟩
    rw[R.T_set hH];simp only[Obj.ren,z6B];rfl
   ·rename_i hi
    try rw[hi]
    cases hs;exact⟨rfl,hH⟩
   ·cases hs
  ·cases hs
 | ext x i=>
  have e1:=hE x (by simp [AO.opds])
  simp only[aop]at hs ⊢;rw[e1];split at hs
  ·rename_i vs ha
   try rw[ha]
   simp only[AV.ren,NE,List.getElem?_map];exact Res.vals R hH _ v h y hs
  ·cases hs
 | lens x=>
  have e1:=hE x (by simp [AO.opds])
  simp only[aop]at hs ⊢;rw[e1];split at hs
  ·rename_i s ha;rw[ha];cases hs;exact⟨rfl,hH⟩
  ·cases hs
 | len x=>
  have e1:=hE x (by simp [AO.opds])
  simp only[aop]at hs ⊢;rw[e1];split at hs
  ·rename_i sh xs ha;rw[ha];cases hs;exact⟨rfl,hH⟩
  ·rename_i sh ha;rw[ha];cases hs;exact⟨rfl,hH⟩
  ·rename_i a b c d ha;rw[ha];cases hs;exact⟨rfl,hH⟩
  ·rename_i k a b g ha
   try rw[ha]
   simp only[AV.ren];rw[lnA_T R];exact Res.vals R hH _ v h y hs
  ·cases hs
 | lenm x=>
  have e1:=hE x (by simp [AO.opds])
  simp only[aop]at hs ⊢;rw[e1];split at hs
  ·rename_i ha;rw[ha];cases hs;exact⟨rfl,hH⟩
  ·rename_i id ha
   try rw[ha]
   have hm:=qH R hH (.mp id)
   simp only[AV.ren]at hm ⊢;try rw[hm]
   obtain⟨u,q1,q2⟩:=Option.map_eq_some_iff.1 hs;cases q2;try rw[q1]
   exact⟨by simp only[Option.map_some,List.length_map];rfl,hH⟩
  ·cases hs
 | app sh s x=>
  have e1:=hE s (by simp [AO.opds]);have e2:=hE x (by simp [AO.opds])
  simp only[aop]at hs ⊢;rw[e1,e2,kW R hH];split at hs
  ·rename_i sh' ys hr
   try rw[hr]
   try simp only
   split at hs
   ·rename_i hsh
    rw[if_pos hsh];split at hs
    ·rename_i sh0 ha
     try rw[ha]
     simp only[AV.ren];split at hs
     ·rename_i hc
      cases hs;rw[if_pos hc]
      refine⟨?_,cC hH⟩;rw[NC R hH];simp only[AV.ren,hLen];rfl
     ·cases hs
    ·rename_i id g off len ha
     try rw[ha]
     simp only[AV.ren,R.T_get hH];split at hs
     ·rename_i rsh xs fz hc
      try rw[hc]
      simp only[Option.map_some,Obj.ren];split at hs
      ·rename_i hq
       cases hs;rw[if_pos hq]
       refine⟨?_,eD hH⟩;rw[R.T_set hH];rfl
      ·rename_i hq
       rw[if_neg hq];split at hs
       ·rename_i hq2
        cases hs;rw[if_pos hq2]
        refine⟨?_,eD hH⟩;rw[R.T_set hH];rfl
       ·cases hs
     ·cases hs
    ·cases hs
   ·cases hs
  ·cases hs
 | copy sh d s=>
  have e1:=hE d (by simp [AO.opds]);have e2:=hE s (by simp [AO.opds])
  simp only[aop]at hs ⊢;rw[e1,e2,kW R hH];split at hs
  ·rename_i id g off len sh' ys ha hr
   try rw[ha,hr]
   simp only[AV.ren,R.T_get hH];split at hs
   ·rename_i rsh xs fz hc
    try rw[hc]
    simp only[Option.map_some,Obj.ren];split at hs
    ·rename_i hq
     cases hs;rw[if_pos hq]
     refine⟨?_,eD hH⟩;rw[R.T_set hH];rfl
    ·cases hs
   ·cases hs
  ·cases hs
 | clr sh z x=>
  have e1:=hE x (by simp [AO.opds])
  simp only[aop]at hs ⊢;rw[e1];split at hs
  ·rename_i sh0 ha;rw[ha];cases hs;exact⟨rfl,hH⟩
  ·rename_i id g off len ha
   try rw[ha]
   simp only[AV.ren,R.T_get hH];split at hs
   ·rename_i rsh xs fz hc
    try rw[hc]
    simp only[Option.map_some,Obj.ren];split at hs
    ·rename_i hq
     cases hs;rw[if_pos hq]
     refine⟨?_,eD hH⟩;rw[R.T_set hH];rfl
    ·cases hs
   ·cases hs
  ·cases hs
 | mx xs=>
  have e1:xs.map ev'=(xs.map ev).map (AV.ren R.r):=by rw[List.map_map];exact List.map_congr_left λx hx=>hE x hx
  simp only[aop]at hs ⊢;rw[e1];split at hs
  ·rename_i a r ha
   try rw[ha]
   simp only[List.map_cons,AV.ren,uN];exact Res.pv R hH _ v h y hs
  ·cases hs
 | mn xs=>
  have e1:xs.map ev'=(xs.map ev).map (AV.ren R.r):=by rw[List.map_map];exact List.map_congr_left λx hx=>hE x hx
  simp only[aop]at hs ⊢;rw[e1];split at hs
  ·rename_i a r ha
   try rw[ha]
   simp only[List.map_cons,AV.ren,uN];exact Res.pv R hH _ v h y hs
  ·cases hs
 | new0 sh=>
  simp only[aop,Option.some.injEq,Prod.mk.injEq]at hs ⊢;obtain⟨rfl,rfl,rfl⟩:=hs;refine⟨⟨by simp only[AV.ren,hLen],?_,rfl⟩,cC hH⟩
  rw[NC R hH];rfl
 | mrange x=>
  have e1:=hE x (by simp [AO.opds])
  simp only[aop]at hs ⊢;rw[e1,qH R hH];split at hs
  ·rename_i id es c hm
   try rw[hm]
   cases hs;refine⟨?_,cC hH⟩
   rw[NC R hH];simp only[Option.map_some,AV.ren,hLen];rfl
  ·rename_i hm
   try rw[hm]
   simp only[Option.map_none];split at hs
   ·rename_i ha
    try rw[ha]
    cases hs;refine⟨?_,cC hH⟩
    rw[NC R hH];simp only[AV.ren,hLen];rfl
   ·cases hs
 | mentry i=>
  have e1:=hE i (by simp [AO.opds])
  simp only[aop]at hs ⊢;rw[e1];split at hs
  ·rename_i id ha
   try rw[ha]
   simp only[AV.ren,R.T_get hH];split at hs
   ·rename_i m since seen last hc
    have hm:=qH R hH (.mp m)
    simp only[AV.ren]at hm;try rw[hc]
    simp only[Option.map_some,Obj.ren,hm];split at hs
    ·rename_i mm es c b h1 h2
     try rw[h1,h2]
     simp only[Option.map_some];split at hs
     ·rename_i hq
      rw[if_pos hq,zj2];obtain⟨u,q1,q2⟩:=Option.map_eq_some_iff.1 hs;cases q2;try rw[q1]
      exact⟨rfl,hH⟩
     ·cases hs
    ·cases hs
   ·cases hs
  ·cases hs
 | uns k t xs=>
  have e1:xs.map ev'=(xs.map ev).map (AV.ren R.r):=by rw[List.map_map];exact List.map_congr_left λx hx=>hE x hx
  simp only[aop]at hs ⊢;rw[e1];exact zrv R hH k t _ v h y hs
 | call f a=>cases hs
 | callv f a=>cases hs
 | mnext sh xs=>cases hs
end
section
variable (R:Loc) {H:aA}
def bC (r:Nat->Nat)(e:List (Nat × AV)):List (Nat×AV):=e.map λy=>(y.1,y.2.ren r)
variable {r:Nat->Nat} {gl:Nat->Option PV}
theorem cJ:∀ (e:List (Nat × AV)) (n:Nat),eA (bC r e) n=(eA e n).ren r
 | [],n=>rfl
 | (k,v)::l,n=>by
  have ih:=cJ l n
  unfold bC at ih ⊢;simp only[List.map_cons,eA];split
  ·rfl
  ·exact ih
theorem wJ {e:List (Nat × AV)}{x:Opd}(h:x.cl=true):Opd.ev gl (bC r e) x=(Opd.ev gl e x).ren r:=by
 cases x with
 | t n=>exact cJ e n
 | c v=>simp only[Opd.ev];exact(aN r v (by simpa [Opd.cl] using h)).symm
 | f id=>rfl
 | g n=>simp only[Opd.ev];cases gl n <;> rfl
theorem GO {e:List (Nat × AV)}{l:List Opd}(h:l.all Opd.cl=true):l.map (Opd.ev gl (bC r e))=(l.map (Opd.ev gl e)).map (AV.ren r):=by
 rw[List.map_map];exact List.map_congr_left λx hx=>wJ (List.all_eq_true.1 h x hx)
theorem zbm {e:List (Nat × AV)}(g:Option (Nat × Bool)):wanted g (bC r e)=wanted g e:=by
 cases g with
 | none=>rfl
 | some y=>
  obtain⟨t,b⟩:=y;simp only[wanted,cJ];cases eA e t with
  | p v=>cases v <;> rfl
  | _=>rfl
theorem z3u {e:List (Nat × AV)}(d:Option Nat)(v:AV):put d (v.ren r) (bC r e)=bC r (put d v e):=by cases d <;> rfl
theorem QM {e:List (Nat × AV)}(k:Option (List Nat)):EA k (bC r e)=bC r (EA k e):=by
 cases k with
 | none=>rfl
 | some l=>simp only[EA,bC,List.map_map];exact List.map_congr_left λt _=>by simp only[Function.comp];rw[<-cJ];rfl
theorem z1u {n t:Nat}(hn:1<=n):max (R.r n) (R.rt t)=R.r (max n t):=by
 rcases Nat.le_total t n with h|h
 ·rw[Nat.max_eq_left h,Nat.max_eq_left (R.rt_le_r.2 h)]
 ·rcases Nat.eq_or_lt_of_le h with e|e
  ·subst e;rw[Nat.max_self,Nat.max_eq_left (R.rt_le_r.2 (Nat.le_refl _))]
  ·rw[Nat.max_eq_right h,R.rt_two (by omega),Nat.max_eq_right (R.r_le.2 h)]
theorem z5r:∀ (x:Esc) {n:Nat},1<=n->PC (R.xr x) (R.r n)=R.r (PC x n)/\1<=PC x n
 | [],n,h=>⟨rfl,h⟩
 | y::x,n,h=>by
  unfold PC;simp only[Loc.xr,List.map_cons,List.foldl_cons];have e:(if R.r y.1<R.r n then max (R.r n) (R.rt y.2) else R.r n)=R.r (if y.1<n then max n y.2 else n):=by
   by_cases q:y.1<n
   ·rw[if_pos q,if_pos (R.r_lt.2 q),z1u R h]
   ·rw[if_neg q,if_neg (by rw[R.r_lt];exact q)]
  have h2:1<=(if y.1<n then max n y.2 else n):=by split <;> omega
  rw[e];exact z5r x h2
theorem rR (x:Esc):∀(k:Nat) {n:Nat},1<=n->vB k (R.xr x) (R.r n)=R.r (vB k x n)/\1<=vB k x n
 | 0,n,h=>⟨rfl,h⟩
 | k+1,n,h=>by
  obtain⟨a,b⟩:=z5r R x h;simp only[vB,a];exact rR x k b
theorem XK {p q:Prop}[Decidable p][Decidable q](h:p↔q):decide p=decide q:=by
 by_cases hp:p
 ·rw[decide_eq_true hp,decide_eq_true (h.1 hp)]
 ·rw[decide_eq_false hp,decide_eq_false (λhq=>hp (h.2 hq))]
theorem tR (x:Esc)(n:Nat):xB (R.xr x) (R.r n)=xB x n:=by
 unfold xB Loc.xr;rw[List.all_map];congr 1
 funext y
 simp only[Function.comp,XK (R.r_le (i:=n) (j:=y.1)),XK (R.rt_le_r (t:=y.2) (n:=n))]
theorem zfY (n:Nat)(e:List (Nat × AV)):yE (R.r n) (bC R.r e)=bC R.r (yE n e):=by
 unfold yE bC;rw[List.map_map,List.map_map];apply List.map_congr_left
 intro y _;simp only[Function.comp];rw[R.top];by_cases q:y.2.top<=n
 ·rw[if_pos q,if_pos (R.rt_le_r.2 q)]
 ·rw[if_neg q,if_neg (by rw[R.rt_le_r];exact q)];rfl
theorem HT (x:Esc)(n:Nat):(R.xr x).filter (λy=>decide (y.1<R.r n))=R.xr (x.filter λy=>decide (y.1<n)):=by
 unfold Loc.xr;rw[List.filter_map];congr 1
 apply List.filter_congr
 intro y _;exact XK R.r_lt
theorem qN {n:Nat}(hH:H≠[])(hn:1<=n):H.take n≠[]:=λe=>by
 have:=congrArg List.length e;have h:=List.length_pos_iff.2 hH
 rw[List.length_take,List.length_nil]at this;omega
def Loc.S (s:St):St:=⟨bC R.r s.env,R.T s.h,R.xr s.esc⟩
theorem z4h (x:Esc):(R.xr x).length=x.length:=by simp [Loc.xr]
theorem zrm {b:Nat}(hb:1<=b)(x0:Esc){s:St}(hs:s.h≠[]):mD (R.r b) (R.xr x0) (R.S s)=R.S (mD b x0 s)/\(mD b x0 s).h≠[]:=by
 obtain⟨c1,c2⟩:=rR R s.esc s.esc.length hb;unfold mD Loc.S;simp only[z4h,c1,tR];split
 ·exact⟨by rw[zfY,HT,R.T_take hs c2,<-UW],qN hs c2⟩
 ·exact⟨by rw[UW],hs⟩
theorem rd0_T (hH:H≠[])(b:Nat)(v:AV):rd0 (R.r b) (R.T H) (v.ren R.r)=rd0 b H v:=by
 cases v with
 | own id g off len=>
  have:=dK R hH (.own id g off len);simp only[AV.ren]at this;simp only[AV.ren,rd0,this];by_cases q:b<=id
  ·rw[if_pos q,if_pos (R.r_le.2 q)]
  ·rw[if_neg q,if_neg (by rw[R.r_le];exact q)]
 | _=>rfl
theorem z9F (hH:H≠[])(b:Nat):∀l:List AV,uH (R.r b) (R.T H) (l.map (AV.ren R.r))=uH b H l
 | []=>rfl
 | v::l=>by simp only[List.map_cons,uH,rd0_T R hH,z9F hH b l]
theorem rdA_T (hH:H≠[])(b id g:Nat):rdA (R.r b) (R.T H) (R.r id) g=(rdA b H id g).map (AV.ren R.r):=by
 unfold rdA;rw[R.T_get hH];cases H[id]? with
 | none=>rfl
 | some o=>
  cases o with
  | arow sh cs=>
   simp only[Option.map_some,Obj.ren,List.length_map,z9F R hH];split
   ·cases uH b H cs <;> rfl
   ·rfl
  | _=>rfl
mutual
theorem z3w:∀ {H:aA} (hH:H≠[]) (b:Nat) (v:AV),VA (R.r b) (R.T H) (v.ren R.r)=(VA b H v).map (AV.ren R.r)
 | H,hH,b,.own id g off len=>by
  have:=dK R hH (.own id g off len);simp only[AV.ren]at this;simp only[AV.ren,VA,this];by_cases q:b<=id
  ·rw[if_pos q,if_pos (R.r_le.2 q)];cases rd H (.own id g off len) <;> rfl
  ·rw[if_neg q,if_neg (by rw[R.r_le];exact q)];rfl
 | H,hH,b,.bt k t id g=>by
  simp only[AV.ren,VA,rdA_T R hH,XK (R.r_le (i:=b) (j:=id))];cases (Nat.beq k 3&&decide (b<=id)) <;> rfl
 | H,hH,b,.agg cs=>by
  simp only[AV.ren,VA,z3x hH b cs];cases wD b H cs with
  | none=>rfl
  | some l=>simp only[Option.map_some,NE,z1x]
 | H,hH,b,.tup cs=>by
  simp only[AV.ren,VA,z3x hH b cs];cases wD b H cs <;> rfl
 | H,hH,b,.p _|H,hH,b,.sl0 _|H,hH,b,.vp _|H,hH,b,.nilp|H,hH,b,.nilm|H,hH,b,.nilf|H,hH,b,.nili|H,hH,b,.ifc|H,hH,b,.anyb|H,hH,b,.skp|H,hH,b,.und|H,hH,b,.anyp
 | H,hH,b,.ref _ _|H,hH,b,.rref _ _ _ _|H,hH,b,.mp _|H,hH,b,.it _|H,hH,b,.fn _ _=>by simp [AV.ren,VA]
theorem z3x:∀ {H:aA} (hH:H≠[]) (b:Nat) (l:List AV),wD (R.r b) (R.T H) (AV.rens R.r l)=(wD b H l).map (AV.rens R.r)
 | H,hH,b,[]=>by simp [AV.rens,wD]
 | H,hH,b,v::l=>by
  simp only[AV.rens,wD,z3w hH b v,z3x hH b l];cases VA b H v with
  | none=>rfl
  | some x=>simp only[Option.map_some];cases wD b H l <;> rfl
end
theorem zd5 {s:St}(hs:s.h≠[])(y:ARes):PF (R.S s) y=(PF s y).map (AV.ren R.r):=by
 cases y with
 | t n=>simp only[PF,Loc.S,cJ];rfl
 | o n=>simp only[PF,Loc.S,cJ];rfl
 | cell a sh=>
  simp only[PF,Loc.S,cJ];cases eA s.env a with
  | ref id off=>
   simp only[AV.ren,R.T_get hs];cases s.h[id]? with
   | none=>rfl
   | some o=>cases o with
    | box cs=>simp only[Option.map_some,Obj.ren,AR]
    | _=>rfl
  | _=>rfl
theorem z5a {s:St}(hs:s.h≠[]):∀l:List ARes,pC (R.S s) l=(pC s l).map (List.map (AV.ren R.r))
 | []=>rfl
 | y::l=>by
  simp only[pC,zd5 R hs,z5a hs l];cases PF s y with
  | none=>rfl
  | some v=>simp only[Option.map_some];cases pC s l <;> rfl
theorem z14 (l:List AV):XA (l.map (AV.ren r))=(XA l).ren r:=by
 match l with
 | []=>rfl
 | [v]=>rfl
 | a::b::c=>simp only[List.map_cons,XA,AV.ren,AV.rens,NE]
theorem NV:∀ {H:aA} (hH:H≠[]) (l:List AV),nA (R.T H) (l.map (AV.ren R.r))=(nA H l).map (λy=>(y.1.map (AV.ren R.r),R.T y.2))
 | H,hH,[]=>rfl
 | H,hH,v::l=>by
  have step:∀{G:aA} (hG:G≠[]) (x:AV),(nA (R.T G) (l.map (AV.ren R.r))).map (λy=>(x.ren R.r::y.1,y.2))=((nA G l).map λy=>(x::y.1,y.2)).map λy=>(y.1.map (AV.ren R.r),R.T y.2):=λhG x=>by
   rw[NV hG l];cases nA _ l <;> rfl
  cases v with
  | own id g off len=>
   have hr:=dK R hH (.own id g off len)
   simp only[AV.ren]at hr;simp only[List.map_cons,AV.ren,nA,hr,JT R hH];cases rd H (.own id g off len) with
   | none=>rfl
   | some z=>exact step (IP hH) (.p (.sl z.1 z.2))
  | agg cs=>
   have hp:=LV R hH (.agg cs)
   simp only[AV.ren]at hp;simp only[List.map_cons,AV.ren,nA,hp];cases hc:pur H (.agg cs) with
   | none=>rfl
   | some y=>
    obtain⟨x,h1⟩:=y;exact step (G:=h1) (bK R hH _ hc) (.p x)
  | sl0 sh=>exact step hH (.p (.sl sh []))
  | p v=>exact step hH (.p v)
  | ref a b=>exact step hH (.ref a b)
  | rref a b c d=>exact step hH (.rref a b c d)
  | vp v=>exact step hH (.vp v)
  | nilp=>exact step hH .nilp
  | nilm=>exact step hH .nilm
  | nilf=>exact step hH .nilf
  | nili=>exact step hH .nili
  | ifc=>exact step hH .ifc
  | mp a=>exact step hH (.mp a)
  | it a=>exact step hH (.it a)
  | fn a b=>exact step hH (.fn a b)
  | tup a=>exact step hH (.tup a)
  | anyb=>exact step hH .anyb
  | skp=>exact step hH .skp
  | und=>exact step hH .und
  | anyp=>exact step hH .anyp
  | bt a b c d=>exact step hH (.bt a b c d)
theorem cK (R:Loc):∀{H:aA} (hH:H≠[]) (l:List AV) {y:List AV×aA},nA H l=some y->y.2≠[]
 | H,hH,[],y,h=>by simp only[nA,Option.some.injEq]at h;subst h;exact hH
 | H,hH,v::l,y,h=>by
  simp only[nA]at h;split at h
  ·split at h
   ·obtain⟨z,q1,rfl⟩:=Option.map_eq_some_iff.1 h
    exact cK R (IP hH) l (y:=z) q1
   ·cases h
  ·split at h
   ·rename_i x h1 hp
    obtain⟨z,q1,rfl⟩:=Option.map_eq_some_iff.1 h;exact cK R (bK R hH _ hp) l (y:=z) q1
   ·cases h
  ·obtain⟨z,q1,rfl⟩:=Option.map_eq_some_iff.1 h
   exact cK R hH l (y:=z) q1
  ·obtain⟨z,q1,rfl⟩:=Option.map_eq_some_iff.1 h
   exact cK R hH l (y:=z) q1
theorem zjz (l:List AV):enter (l.map (AV.ren r))=bC r (enter l):=by
 unfold enter bC;rw[List.zipIdx_map,List.map_map,List.map_map];rfl
theorem zlW (hH:H≠[])(v:AV){l:List (AV × aA)}(h:CI H v=some l):CI (R.T H) (v.ren R.r)=some (l.map λy=>(y.1.ren R.r,R.T y.2))/\∀y∈l,y.2≠[]:=by
 unfold CI at h;split at h
 ·rename_i id
  simp only[AV.ren,CI,R.T_get hH];split at h
  ·rename_i since a b hc
   simp only[hc,Option.map_some,Obj.ren,Option.map_none];split at h
   ·rename_i hq
    cases h;rw[if_pos hq]
    exact⟨rfl,λy hy=>by rw[List.mem_singleton.1 hy];exact hH⟩
   ·cases h
  ·rename_i m since seen last hc
   have hm:=qH R hH (.mp m)
   simp only[AV.ren]at hm;simp only[hc,Option.map_some,Obj.ren,hm];split at h
   ·rename_i mm es c hg
    simp only[hg,Option.map_some];split at h
    ·rename_i hq
     rw[if_pos hq];have hf:(es.map (ME.ren R.r)).filter (λe=>!seen.contains e.born)=(es.filter λe=>!seen.contains e.born).map (ME.ren R.r):=by
      rw[List.filter_map];rfl
     simp only[hf];cases he:es.filter (λe=>!seen.contains e.born) with
     | nil=>
      rw[he]at h;cases h;refine⟨?_,λy hy=>by rw[List.mem_singleton.1 hy];exact eD hH⟩
      simp only[List.map_nil,List.map_cons];rw[R.T_set hH];rfl
     | cons e0 es0=>
      rw[he]at h;simp only[Option.some.injEq]at h;subst h;refine⟨?_,λy hy=>?_⟩
      ·simp only[List.map_cons,Option.some.injEq]
       congr 1
       ·rw[R.T_set hH];rfl
       ·rw[List.map_map,List.map_map]
        apply List.map_congr_left
        intro e _;simp only[Function.comp];rw[R.T_set hH];rfl
      ·obtain⟨e,_,rfl⟩:=List.mem_map.1 hy
       exact eD hH
    ·cases h
   ·cases h
  ·cases h
 ·cases h
theorem zd3 (hH:H≠[])(sh:Sh)(s x:AV){l:List (AV × aA)}(h:eJ H sh s x=some l):eJ (R.T H) sh (s.ren R.r) (x.ren R.r)=some (l.map λy=>(y.1.ren R.r,R.T y.2))/\∀y∈l,y.2≠[]:=by
 unfold eJ at h;split at h
 ·rename_i sh' ys hr
  simp only[eJ,kW R hH,hr];split at h
  ·rename_i hsh
   rw[if_pos hsh];split at h
   ·rename_i id g off len
    simp only[AV.ren,R.T_get hH];split at h
    ·rename_i rsh xs fz hc
     simp only[hc,Option.map_some,Obj.ren];have two:∀(a b:AV) (o o':Obj) (i:Nat),∀y∈[(a,H.set i o),(b,H++[o'])],y.2≠[]:=λa b o o' i y hy=>by
      simp only[List.mem_cons,List.not_mem_nil,or_false]at hy;rcases hy with e|e <;> rw[e]
      ·exact eD hH
      ·exact cC hH
     split at h
     ·rename_i hq
      cases h;rw[if_pos hq]
      refine⟨?_,two _ _ _ _ _⟩;simp only[List.map_cons,List.map_nil];rw[R.T_set hH,NC R hH,R.T_len hH];rfl
     ·rename_i hq
      rw[if_neg hq];split at h
      ·rename_i hq2
       cases h;rw[if_pos hq2]
       refine⟨?_,two _ _ _ _ _⟩;simp only[List.map_cons,List.map_nil];rw[R.T_set hH,NC R hH,R.T_len hH];rfl
      ·cases h
    ·cases h
   ·cases h
  ·cases h
 ·cases h
theorem zfW (hH:H≠[])(sh:Option Sh)(xs:List AV){l:List (AV × aA)}(h:tG H sh xs=some l):tG (R.T H) sh (xs.map (AV.ren R.r))=some (l.map λy=>(y.1.ren R.r,R.T y.2))/\∀y∈l,y.2≠[]:=by
 unfold tG at h;split at h
 ·exact zlW R hH _ h
 ·exact zd3 R hH _ _ _ h
 ·cases h
end
section
variable (R:Loc) {H:aA} {gl:Nat->Option PV} {C D:Hd}
def ImP (K:jA):jA:=λv h x=>∃v0 h0 x0,v=v0.ren R.r/\h=R.T h0/\x=R.xr x0/\h0≠[]/\K v0 h0 x0
def ImR (K:List (Nat × AV)->aA->Esc->Prop):List (Nat×AV)->aA->Esc->Prop:=λe h x=>∃e0 h0 x0,e=bC R.r e0/\h=R.T h0/\x=R.xr x0/\h0≠[]/\K e0 h0 x0
def ImS (K:Ex->St->Prop):Ex->St->Prop:=λe s=>∃s0,s=R.S s0/\s0.h≠[]/\K e s0
def Sim (C D:Hd):Prop:=∀f a h K,h≠[]->C f a h K->D f (a.map (AV.ren R.r)) (R.T h) (ImP R K)
theorem ZW (hC:Sim R C D)(hD:D.Mono):∀(ops:List AOp) e h x K,(ops.all λo=>o.op.cl)=true->h≠[]->WA C gl ops e h x K->WA D gl ops (bC R.r e) (R.T h) (R.xr x) (ImR R K)
 | [],e,h,x,K,_,hh,H=>⟨e,h,x,rfl,rfl,rfl,hh,H⟩
 | o::r,e,h,x,K,hn,hh,H=>by
  obtain⟨dst,guard,op⟩:=o;simp only[List.all_cons,Bool.and_eq_true]at hn;obtain⟨hn1,hn2⟩:=hn;unfold AO.cl at hn1;simp only[Bool.and_eq_true,beq_iff_eq]at hn1;obtain⟨hn1,hz⟩:=hn1;unfold WA at H ⊢;dsimp only at H ⊢;rw[zbm];split at H
  ·rename_i hw
   have next:∀v h' x',h'≠[]->WA C gl r (put dst v e) h' (x'++x) K->WA D gl r (put dst (v.ren R.r) (bC R.r e)) (R.T h') (R.xr x'++R.xr x) (ImR R K):=λv h' x' hne hk=>by
    rw[z3u,<-UW];exact ZW hC hD r _ _ _ K hn2 hne hk
   have plain:∀{o:AO},o.opds.all Opd.cl=true->AV.tops o.cons=0->∀{v:AV} {h':aA} {x':Esc},aop o (Opd.ev gl e) h=some (v,h',x')->aop o (Opd.ev gl (bC R.r e)) (R.T h)=some (v.ren R.r,R.T h',R.xr x')/\h'≠[]:=λ{o} h1 h2 {v h' x'} ha=>
    z4V R (ev:=Opd.ev gl e) (ev':=Opd.ev gl (bC R.r e)) h2 (λx hx=>wJ (List.all_eq_true.1 h1 x hx)) hh v h' x' ha
   cases op;case call f args=>
    dsimp only at H ⊢;rw[GO (l:=args) hn1];refine hD _ _ _ _ _ (λv h' x' q=>?_) (hC _ _ _ _ hh H)
    obtain⟨v0,h0,x0,rfl,rfl,rfl,hne,hk⟩:=q;exact next _ _ _ hne hk
   case callv f args=>
    simp only[AO.opds,List.all_cons,Bool.and_eq_true]at hn1;dsimp only at H ⊢;rw[GO hn1.2,wJ hn1.1];split at H
    ·rename_i g caps hf
     rw[hf];simp only[AV.ren,NE];rw[<-List.map_append];refine hD _ _ _ _ _ (λv h' x' q=>?_) (hC _ _ _ _ hh H)
     obtain⟨v0,h0,x0,rfl,rfl,rfl,hne,hk⟩:=q;exact next _ _ _ hne hk
    ·exact H.elim
   case mnext sh xs=>
    dsimp only at H ⊢;rw[GO (l:=xs) hn1];split at H
    ·rename_i l hl
     obtain⟨q1,q2⟩:=zfW R hh sh _ hl;rw[q1];refine⟨λe=>H.1 (by simpa using e),λy hy=>?_⟩
     obtain⟨z,hz1,rfl⟩:=List.mem_map.1 hy;have:=next z.1 z.2 [] (q2 z hz1) (H.2 z hz1);exact this
    ·exact H.elim
   all_goals
    dsimp only at H ⊢;split at H
    ·rename_i ha
     obtain⟨q1,q2⟩:=plain hn1 hz ha;rw[q1];exact next _ _ _ q2 H
    ·exact H.elim
  ·rename_i hw
   have:=ZW hC hD r (put dst .skp e) h x K hn2 hh H;rw[<-z3u]at this;exact this
  ·exact H.elim
theorem VW (hC:Sim R C D)(hD:D.Mono)(hM:eE D D){o:AOp}{e:List (Nat × AV)}{h h':aA}{v:AV}{x:Esc}(hn:o.op.cl=true)(hh:h≠[])(H:ADo C gl o e h v h' x):ADo D gl o (bC R.r e) (R.T h) (v.ren R.r) (R.T h') (R.xr x)/\h'≠[]:=by
 obtain⟨dst,guard,op⟩:=o;unfold AO.cl at hn;simp only[Bool.and_eq_true,beq_iff_eq]at hn;obtain⟨hn1,hz⟩:=hn;have key:∀{f a} {Z:jA},Z=(λv1 h1 x1=>v1=v/\h1=h'/\x1=x)->D f a (R.T h) (ImP R Z)->D f a (R.T h) (λv1 h1 x1=>v1=v.ren R.r/\h1=R.T h'/\x1=R.xr x)/\h'≠[]:=λ{f a Z} hZ q=>by
  subst hZ;refine⟨hD _ _ _ _ _ (λv1 h1 x1 k=>?_) q,?_⟩
  ·obtain⟨v0,h0,x0,rfl,rfl,rfl,hne,rfl,rfl,rfl⟩:=k
   exact⟨rfl,rfl,rfl⟩
  ·obtain⟨v1,h1,x1,k,_⟩:=hM _ _ _ _ _ q q
   obtain⟨v0,h0,x0,rfl,rfl,rfl,hne,rfl,rfl,rfl⟩:=k;exact hne
 unfold ADo at H ⊢;dsimp only at H ⊢;rw[zbm];split at H
 ·rename_i hw
  cases op;case call f args=>
   dsimp only at H ⊢;rw[GO (l:=args) hn1];exact key rfl (hC _ _ _ _ hh H)
  case callv f args=>
   simp only[AO.opds,List.all_cons,Bool.and_eq_true]at hn1;dsimp only at H ⊢;rw[GO hn1.2,wJ hn1.1];split at H
   ·rename_i g caps hf
    rw[hf];simp only[AV.ren,NE];rw[<-List.map_append];exact key rfl (hC _ _ _ _ hh H)
   ·exact H.elim
  case mnext sh xs=>exact H.elim
  all_goals
   exact z4V R (ev:=Opd.ev gl e) (ev':=Opd.ev gl (bC R.r e)) hz (λx hx=>wJ (List.all_eq_true.1 hn1 x hx)) hh v h' x H
 ·obtain⟨rfl,rfl,rfl⟩:=H
  exact⟨⟨rfl,rfl,rfl⟩,hh⟩
 ·exact H.elim
def qQ (r:Nat->Nat)(d:DC):DC:=d.map λq=>(q.1,bC r q.2.1,q.2.2.ren r)
theorem z4n (hC:Sim R C D)(hD:D.Mono)(hM:eE D D):∀(ds:List DOp) dn hs e h x K,(ds.all λo=>o.op.op.cl)=true->(∀q∈dn,q.1.op.cl=true)->(∀g∈hs,g≠[])->h≠[]->iD C gl ds dn hs e h x K ->
 iD D gl ds (qQ R.r dn) (hs.map R.T) (bC R.r e) (R.T h) (R.xr x) (ImR R K)
 | [],dn,hs,e,h,x,K,_,_,_,hh,H=>⟨e,h,x,rfl,rfl,rfl,hh,H⟩
 | o::r,dn,hs,e,h,x,K,hn,hd,hg,hh,H=>by
  simp only[List.all_cons,Bool.and_eq_true]at hn;obtain⟨v,h',y,h1,h2,h3,h4,h5⟩:=H;obtain⟨a1,a2⟩:=VW R hC hD hM hn.1 hh h1;have ih:=z4n hC hD hM r _ _ _ _ _ K hn.2 (λq hq=>by
   rcases List.mem_append.1 hq with k|k
   ·exact hd q k
   ·rw[List.mem_singleton.1 k];exact hn.1) (λg hq=>by
   rcases List.mem_append.1 hq with k|k
   ·exact hg g k
   ·rw[List.mem_singleton.1 k];exact hh) a2 h5
  refine⟨v.ren R.r,R.T h',R.xr y,by rw[QM];exact a1,λq=>?_,λk hk=>?_,λj hj=>?_,?_⟩
  ·obtain⟨e1,e2⟩:=h2 q
   subst e1;subst e2
   exact⟨rfl,rfl⟩
  ·obtain⟨g,q1,q2⟩:=h3 k hk
   have hgn:=hg g (List.mem_of_getElem? q1)
   refine⟨R.T g,by rw[List.getElem?_map,q1];rfl,?_⟩
   have:=(VW R hC hD hM hn.1 hgn q2).1;rw[QM];exact this
  ·obtain⟨q,q1,q2⟩:=h4 j hj
   have hqn:=hd q (List.mem_of_getElem? q1)
   refine⟨(q.1,bC R.r q.2.1,q.2.2.ren R.r),by unfold qQ;rw[List.getElem?_map,q1];rfl,?_⟩
   exact(VW R hC hD hM hqn a2 q2).1
  ·have e1:qQ R.r (dn++[(o.op,EA (some o.rd) e,v)])=qQ R.r dn++[(o.op,EA (some o.rd) (bC R.r e),v.ren R.r)]:=by
    unfold qQ;rw[List.map_append,QM];rfl
   rw[e1,List.map_append,UW,<-z3u]at ih;exact ih
def ACode.cl:ACode->Bool
 | .reg ops _=>ops.all λo=>o.op.cl
 | .draw ds _=>ds.all λo=>o.op.op.cl
 | .seq a b=>a.cl&&b.cl
 | .cond c a b | .condu c a b=>c.cl&&a.cl&&b.cl
 | .det b | .block _ b | .loop b | .scope b | .pr _ b=>b.cl
 | _=>true
theorem zb6 {T U:St->(Ex->St->Prop)->Prop}(hT:∀ s K,s.h≠[]->T s K->U (R.S s) (ImS R K)){K:Ex->St->Prop}{s:St}(H:ALoop T K s):s.h≠[]->ALoop U (ImS R K) (R.S s):=by
 induction H with
 | mk s P h hn he hr ih=>
  intro hs;refine .mk _ (ImS R P) (hT s P hs h) (λs' q=>?_) (λi s' q=>?_) (λs' q=>?_)
  ·obtain⟨s0,rfl,hne,k⟩:=q;exact ih s0 k hne
  ·obtain⟨s0,rfl,hne,k⟩:=q;exact⟨s0,rfl,hne,he i s0 k⟩
  ·obtain⟨s0,rfl,hne,k⟩:=q;exact⟨s0,rfl,hne,hr s0 k⟩
theorem uE (hC:Sim R C D)(hD:D.Mono)(hM:eE D D):∀(c:ACode),c.cl=true->∀s K,s.h≠[]->AW C gl c s K->AW D gl c (R.S s) (ImS R K)
 | .skip,_,s,K,hs,H=>⟨s,rfl,hs,H⟩
 | .reg ops keep,hn,s,K,hs,H=>by
  have:=ZW R hC hD ops _ _ _ _ hn hs H;refine EH (C:=D) (C':=D) (λf a h K K' hK h=>hD _ _ _ _ _ hK h) ops _ _ _ _ _ (λe h x q=>?_) this
  obtain⟨e0,h0,x0,rfl,rfl,rfl,hne,k⟩:=q;exact⟨⟨EA keep e0,h0,x0⟩,by rw[QM];rfl,hne,k⟩
 | .draw ds keep,hn,s,K,hs,H=>by
  have:=z4n R hC hD hM ds [] [] _ _ _ _ hn (by simp) (by simp) hs H
  refine IQ (C:=D) (C':=D) (λf a h K K' hK h=>hD _ _ _ _ _ hK h) ds _ _ _ _ _ _ _ (λe h x q=>?_) this
  obtain⟨e0,h0,x0,rfl,rfl,rfl,hne,k⟩:=q;exact⟨⟨EA keep e0,h0,x0⟩,by rw[QM];rfl,hne,k⟩
 | .seq a b,hn,s,K,hs,H=>by
  simp only[ACode.cl,Bool.and_eq_true]at hn;have:=uE hC hD hM a hn.1 s _ hs H;refine CC (C:=D) (C':=D) (gl:=gl) (λf a h K K' hK h=>hD _ _ _ _ _ hK h) a _ _ _ (λe s' q=>?_) this
  obtain⟨s0,rfl,hne,k⟩:=q;cases e with
  | normal=>exact uE hC hD hM b hn.2 s0 K hne k
  | exit i=>exact⟨s0,rfl,hne,k⟩
  | ret=>exact⟨s0,rfl,hne,k⟩
 | .condu c a b,hn,s,K,hs,H=>by
  simp only[ACode.cl,Bool.and_eq_true]at hn;obtain⟨⟨n1,n2⟩,n3⟩:=hn;unfold AW at H ⊢;have e1:Opd.ev gl (R.S s).env c=(Opd.ev gl s.env c).ren R.r:=wJ n1
  rw[e1];split at H
  ·rename_i t ht
   rw[ht];split at H
   ·exact uE hC hD hM a n2 s K hs H
   ·exact uE hC hD hM b n3 s K hs H
  ·rename_i ht
   rw[ht];exact⟨uE hC hD hM a n2 s K hs H.1,uE hC hD hM b n3 s K hs H.2⟩
  ·exact H.elim
 | .det b,hn,s,K,hs,H=>uE hC hD hM b hn s K hs H
 | .cond c a b,hn,s,K,hs,H=>by
  simp only[ACode.cl,Bool.and_eq_true]at hn;obtain⟨⟨n1,n2⟩,n3⟩:=hn;unfold AW at H ⊢;have e1:Opd.ev gl (R.S s).env c=(Opd.ev gl s.env c).ren R.r:=wJ n1
  rw[e1];split at H
  ·rename_i t ht
   rw[ht];split at H
   ·exact uE hC hD hM a n2 s K hs H
   ·exact uE hC hD hM b n3 s K hs H
  ·exact H.elim
 | .block id b,hn,s,K,hs,H=>by
  have:=uE hC hD hM b hn s _ hs H;refine CC (C:=D) (C':=D) (gl:=gl) (λf a h K K' hK h=>hD _ _ _ _ _ hK h) b _ _ _ (λe s' q=>?_) this
  obtain⟨s0,rfl,hne,k⟩:=q;cases e with
  | normal=>exact⟨s0,rfl,hne,k⟩
  | exit i=>
   dsimp only at k ⊢;split at k
   ·rename_i hi;rw[if_pos hi];exact⟨s0,rfl,hne,k⟩
   ·rename_i hi;rw[if_neg hi];exact⟨s0,rfl,hne,k⟩
  | ret=>exact⟨s0,rfl,hne,k⟩
 | .loop b,hn,s,K,hs,H=>zb6 R (λs K hs h=>uE hC hD hM b hn s K hs h) H hs
 | .scope b,hn,s,K,hs,H=>by
  have:=uE hC hD hM b hn ⟨s.env,s.h,[]⟩ _ hs H;have hl:1<=s.h.length:=List.length_pos_iff.2 hs
  refine CC (C:=D) (C':=D) (gl:=gl) (λf a h K K' hK h=>hD _ _ _ _ _ hK h) b _ _ _ (λe s' q=>?_) this
  obtain⟨s0,rfl,hne,k⟩:=q;obtain⟨t1,t2⟩:=zrm R hl s.esc hne;refine⟨_,?_,t2,k⟩;rw[<-t1,<-R.T_len hs];rfl
 | .pr l b,hn,s,K,hs,H=>by
  have:=uE hC hD hM b hn ⟨EA (some l) s.env,s.h,s.esc⟩ K hs H;unfold Loc.S at this;rw[<-QM]at this;exact this
 | .exit id,_,s,K,hs,H=>⟨s,rfl,hs,H⟩
 | .ret,_,s,K,hs,H=>⟨s,rfl,hs,H⟩
 | .bad,_,s,K,hs,H=>H.elim
theorem IT {r:Nat->Nat}:∀(rs:List ARes) (vs:List AV),tI rs (vs.map (AV.ren r))=(tI rs vs).ren r
 | [],_=>by simp [tI,AV.ren]
 | _::_,[]=>by simp [tI,AV.ren]
 | y::rs,v::vs=>by
  cases y with
  | o n=>rfl
  | t n=>exact IT rs vs
  | cell n sh=>exact IT rs vs
theorem z5j (i j:Nat):Nat.beq (R.r i) (R.r j)=Nat.beq i j:=by
 cases h:Nat.beq i j with
 | true=>rw[Nat.eq_of_beq_eq_true h,Nat.beq_refl]
 | false=>
  cases h2:Nat.beq (R.r i) (R.r j) with
  | false=>rfl
  | true=>
   have:=R.r_inj.1 (Nat.eq_of_beq_eq_true h2);rw[this,Nat.beq_refl]at h;cases h
theorem okO_T (id b:Nat)(v:AV):okO (R.r id) (R.r b) (v.ren R.r)=okO id b v:=by
 have low:decide ((v.ren R.r).top<=R.r b)=decide (v.top<=b):=by rw[R.top];exact XK R.rt_le_r
 cases v with
 | own i g off len=>exact z5j R i id
 | _=>exact low
theorem mvO_T (id b:Nat)(v:AV):mvO (R.r id) (R.r b) (v.ren R.r)=(mvO id b v).ren R.r:=by
 cases v with
 | own i g off len=>
  simp only[AV.ren,mvO,z5j];cases Nat.beq i id <;> rfl
 | _=>rfl
theorem zgg {b:Nat}(hb:1<=b){h:aA}(hh:h≠[])(rs:List ARes)(vs:List AV){y:AV × aA}(H:UF b h rs vs=some y):UF (R.r b) (R.T h) rs (vs.map (AV.ren R.r))=some (y.1.ren R.r,R.T y.2)/\y.2≠[]:=by
 unfold UF at H;split at H
 ·rename_i id g off len hf
  split at H
  ·rename_i sh xs fz ho
   split at H
   ·rename_i hc
    cases H;refine⟨?_,cC (qN hh hb)⟩
    have hall:(vs.map (AV.ren R.r)).all (okO (R.r id) (R.r b))=true:=by
     rw[List.all_map,<-hc.2];congr 1
     funext v
     exact okO_T R id b v
    have e1:R.T (h.take b++[.row sh xs fz])=(R.T h).take (R.r b)++[.row sh xs fz]:=by
     rw[NC R (qN hh hb),R.T_take hh hb];rfl
    unfold UF;rw[IT,hf];simp only[AV.ren,R.T_get hh,ho,Option.map_some,Obj.ren];rw[if_pos ⟨R.r_le.2 hc.1,hall⟩,e1];congr 2
    rw[<-z14,List.map_map,List.map_map];congr 1
    exact List.map_congr_left λv _=>mvO_T R id b v
   ·cases H
  ·cases H
 ·rename_i v0 hf
  split at H
  ·rename_i hc
   cases H;refine⟨?_,qN hh hb⟩
   unfold UF;rw[IT,hf];simp only[AV.ren];have hall:((vs.map (AV.ren R.r)).all λv=>decide (v.top<=R.r b))=true:=by
    rw[List.all_map,<-hc];congr 1
    funext v
    show decide ((v.ren R.r).top<=R.r b)=_
    rw[R.top];exact XK R.rt_le_r
   rw[if_pos hall,z14,R.T_take hh hb]
  ·cases H
 ·cases H
theorem z7S {F:AFun}{b:Nat}(hb:1<=b){s:St}{K:jA}(hs:s.h≠[])(H:fin F b s K):fin F (R.r b) (R.S s) (ImP R K):=by
 unfold fin at H ⊢;rw[z5a R hs];cases hO:qD F.results with
 | true=>
  rw[hO]at H;unfold YC at H ⊢;cases hv:pC s F.results with
  | none=>rw[hv]at H;exact H.elim
  | some vs=>
   rw[hv]at H;dsimp only at H;cases hc:UF b s.h F.results vs with
   | none=>rw[hc]at H;exact H.elim
   | some y=>
    rw[hc]at H;obtain⟨q1,q2⟩:=zgg R hb hs _ _ hc;have hp:(R.S s).h=R.T s.h:=rfl
    simp only[Option.map_some,hp,q1];exact⟨by show xB (R.xr s.esc) (R.r b)=true;rw[tR];exact H.1,_,_,_,rfl,rfl,HT R s.esc _,q2,H.2⟩
 | false=>
 rw[hO]at H;dsimp only at H ⊢;split at H
 ·rename_i vs hv
  rw[hv];simp only[Option.map_some,z14,R.top];have esc:(R.S s).esc=R.xr s.esc:=rfl
  have hp:(R.S s).h=R.T s.h:=rfl
  split at H
  ·rename_i hk
   try rw[hk]
   simp only[esc,hp,z4h,z1u R hb];try dsimp only at H
   have h1:1<=max b (XA vs).top:=by omega
   obtain⟨c1,c2⟩:=rR R s.esc s.esc.length h1;rw[c1,tR];split at H
   ·rename_i hc
    rw[if_pos hc];exact⟨_,_,_,rfl,(R.T_take hs c2).symm,HT R s.esc _,qN hs c2,H⟩
   ·rename_i hc
    rw[if_neg hc];exact⟨_,_,_,rfl,rfl,rfl,hs,H⟩
  ·rename_i hk
   try rw[hk]
   simp only[esc,hp,z4h,z3w R hs];split at H
   ·rename_i v0 h0
    rw[h0];simp only[Option.map_some,R.top,z1u R hb];try dsimp only at H
    have h1:1<=max b v0.top:=by omega
    obtain⟨c1,c2⟩:=rR R s.esc s.esc.length h1;rw[c1,tR];split at H
    ·rename_i hc
     rw[if_pos hc];simp only[z3w R hs];split at H
     ·rename_i v hvv
      rw[hvv];simp only[Option.map_some,R.top];exact⟨R.rt_le_r.2 H.1,_,_,_,rfl,(R.T_take hs c2).symm,HT R s.esc _,qN hs c2,H.2⟩
     ·exact H.elim
    ·rename_i hc
     rw[if_neg hc];exact⟨_,_,_,rfl,rfl,rfl,hs,H⟩
   ·exact H.elim
 ·exact H.elim
theorem z4L (hC:Sim R C D)(hD:D.Mono)(hM:eE D D){F:AFun}(hF:F.body.cl=true){a:List AV}{h:aA}{K:jA}(hh:h≠[])(H:oC C gl F a h K):oC D gl F (a.map (AV.ren R.r)) (R.T h) (ImP R K):=by
 unfold oC at H ⊢;have hl:1<=h.length:=List.length_pos_iff.2 hh
 have key:∀(asv:List AV) (h1:aA),h1≠[]->(asv.length=F.nparams/\AW C gl F.body ⟨enter asv,h1,[]⟩ λe s=>match e with
  | .exit _=>False
  | _=>fin F h.length s K)->((asv.map (AV.ren R.r)).length=F.nparams/\AW D gl F.body ⟨enter (asv.map (AV.ren R.r)),R.T h1,[]⟩ λe s=>match e with
  | .exit _=>False
  | _=>fin F (R.T h).length s (ImP R K)):=λasv h1 hne q=>by
  refine⟨by simpa using q.1,?_⟩
  have:=uE R hC hD hM F.body hF ⟨enter asv,h1,[]⟩ _ hne q.2;rw[zjz,R.T_len hh];refine CC (C:=D) (C':=D) (gl:=gl) (λf a h K K' hK h=>hD _ _ _ _ _ hK h) F.body _ _ _ (λe s' q=>?_) this
  obtain⟨s0,rfl,hne,k⟩:=q;cases e with
  | normal=>exact z7S R hl hne k
  | exit i=>exact k
  | ret=>exact z7S R hl hne k
 cases hb:F.byref with
 | true=>
  rw[hb]at H;simp only[if_true]at H ⊢;exact key a h hh H
 | false=>
  rw[hb]at H;simp only[Bool.false_eq_true,if_false]at H ⊢;rw[NV R hh];cases hp:nA h a with
  | none=>rw[hp]at H;exact H.elim
  | some y=>
   obtain⟨asv,h1⟩:=y;rw[hp]at H;exact key asv h1 (cK R hh a hp) H
theorem zjN (hC:Sim R C D)(hD:D.Mono)(hM:eE D D){F:AFun}(hF:F.body.cl=true){a:List AV}{h:aA}{K:jA}(hh:h≠[])(H:pD C gl F a h K):pD D gl F (a.map (AV.ren R.r)) (R.T h) (ImP R K):=by
 unfold pD at H ⊢;cases hd:F.isDet with
 | false=>rw[hd]at H;exact z4L R hC hD hM hF hh H
 | true=>
  rw[hd]at H;obtain⟨v,h',x,k,H⟩:=H;have q:=z4L R hC hD hM hF hh H
  obtain⟨v1,h1,x1,k1,_⟩:=IY hM q q;obtain⟨v0,h0,x0,rfl,rfl,rfl,hne,rfl,rfl,rfl⟩:=k1;refine⟨_,_,_,⟨v0,h0,x0,rfl,rfl,rfl,hne,k⟩,?_⟩;refine AN (C:=D) (C':=D) (λf a h K K' hK h2=>hD f a h K K' hK h2) (λv1 h1 x1 q=>?_) q
  obtain⟨v2,h2,x2,rfl,rfl,rfl,hne,rfl,rfl,rfl⟩:=q;exact⟨rfl,rfl,rfl⟩
def Ctx.Ex2R (X:Ctx):Prop:=∀(R:Loc) f a h,h≠[]->X.ex2 f (a.map (AV.ren R.r)) (R.T h)=(X.ex2 f a h).map (λy=>(y.1.ren R.r,R.T y.2.1,R.xr y.2.2))/\∀y,X.ex2 f a h=some y->y.2.1≠[]
def Ctx.Cl (X:Ctx):Prop:=∀f F,X.fn f=some F->F.body.cl=true
theorem zce {X:Ctx}(hX:X.Cl)(hE:X.Ex2R)(hC:Sim R C D)(hD:D.Mono)(hM:eE D D):Sim R (ZB X C) (ZB X D):=by
 intro f a h K hh H;unfold ZB at H ⊢;split at H
 ·rename_i F hF
  exact zjN R hC hD hM (hX f F hF) hh H
 ·rename_i hF
  obtain⟨e1,e2⟩:=hE R f a h hh;rw[e1];split at H
  ·rename_i v h1 x hx
   rw[hx];exact⟨v,h1,x,rfl,rfl,rfl,e2 _ hx,H⟩
  ·rename_i hx
   rw[hx];simp only[Option.map_none,NV R hh];split at H
   ·rename_i asv h1 hp
    rw[hp];simp only[Option.map_some,uN];split at H
    ·rename_i vs hu
     try rw[hu]
     try simp only
     split at H
     ·rename_i r hr
      try rw[hr]
      exact⟨.p r,h1,[],rfl,rfl,rfl,cK R hh a hp,H⟩
     ·exact H.elim
    ·exact H.elim
   ·exact H.elim
theorem zbz {X:Ctx}(hX:X.Cl)(hE:X.Ex2R):Sim R (bA X) (bA X):=by
 intro f a h K hh H;refine H (λf a h K=>h≠[]->bA X f (a.map (AV.ren R.r)) (R.T h) (ImP R K)) ?_ ?_ hh
 ·intro f a h K K' hK H' hh
  refine bA.mono X _ _ _ _ _ (λv h' x q=>?_) (H' hh)
  obtain⟨v0,h0,x0,rfl,rfl,rfl,hne,k⟩:=q;exact⟨v0,h0,x0,rfl,rfl,rfl,hne,hK _ _ _ k⟩
 ·intro f a h K H' hh
  exact bA.fold (zce R (C:=λf a h K=>h≠[]->bA X f (a.map (AV.ren R.r)) (R.T h) (ImP R K)) hX hE (λf a h K hh q=>q hh) (bA.mono X) (z4m X) f a h K hh H')
end
section
variable (R:Loc)
abbrev ExR (F:List AV->aA->Option (AV × aA × Esc)):Prop:=∀(R:Loc) a h,h≠[]->F (a.map (AV.ren R.r)) (R.T h)=(F a h).map (λy=>(y.1.ren R.r,R.T y.2.1,R.xr y.2.2))/\∀y,F a h=some y->y.2.1≠[]
def xE.top0 (ps:xE):Prop:=∀g s,(g,s)∈ps->∀vs v,s vs=some v->v.top=0
theorem z88:∀ (gs:List (Nat × Sh)) (f:Nat),ExR (pH gs f)
 | [],f=>λR a h hh=>⟨rfl,λy hy=>by cases hy⟩
 | (g,s)::r,f=>by
  intro R a h hh;obtain⟨i1,i2⟩:=z88 r f R a h hh;unfold pH;cases Nat.beq f g with
  | false=>exact⟨i1,i2⟩
  | true=>
   simp only[cond_true];by_cases q:∃sh n,a=[.sl0 sh,.p (.int .i64 n)]
   ·obtain⟨sh,n,rfl⟩:=q
    simp only[List.map_cons,List.map_nil,AV.ren];cases (decide (0<=n)&&decide (n<=1048576)) with
    | false=>exact⟨rfl,λy hy=>by cases hy⟩
    | true=>
     refine⟨?_,λy hy=>by cases hy;exact cC hh⟩
     simp only[cond_true,Option.map_some,NC R hh,R.T_len hh,AV.ren];rfl
   ·have inv:∀{sh n},a.map (AV.ren R.r)=[.sl0 sh,.p (.int .i64 n)]->∃sh n,a=[.sl0 sh,.p (.int .i64 n)]:=λ{sh n} e=>by
     match a with
     | []=>cases e
     | [_]=>simp at e
     | _::_::_::_=>simp at e
     | [a0,a1]=>
      simp only[List.map_cons,List.map_nil,List.cons.injEq,and_true]at e;cases a0 <;> simp [AV.ren]at e
      cases a1 <;> simp [AV.ren]at e
      rw[e.2];exact⟨_,_,rfl⟩
    refine⟨?_,?_⟩
    ·split
     ·rename_i heq;exact absurd (inv heq) q
     ·split
      ·exact absurd ⟨_,_,rfl⟩ q
      ·rfl
    ·intro y hy
     split at hy
     ·exact absurd ⟨_,_,rfl⟩ q
     ·cases hy
theorem z3s:∀ (ps:xE),ps.top0->∀ (f:Nat),ExR (jG ps f)
 | [],_,f=>λR a h hh=>⟨rfl,λy hy=>by cases hy⟩
 | (g,s)::r,hp,f=>by
  intro R a h hh;obtain⟨i1,i2⟩:=z3s r (λg s hm=>hp g s (List.mem_cons_of_mem _ hm)) f R a h hh
  unfold jG;cases Nat.beq f g with
  | false=>exact⟨i1,i2⟩
  | true=>
   simp only[cond_true,uN];cases hv:(unp a).bind s with
   | none=>exact⟨rfl,λy hy=>by cases hy⟩
   | some v=>
    obtain⟨vs,_,hs⟩:=Option.bind_eq_some_iff.1 hv;have:=aN R.r v (hp g s List.mem_cons_self vs v hs);exact⟨by simp only[Option.map_some,this];rfl,λy hy=>by cases hy;exact hh⟩
theorem zlH {gs:List (Nat × Sh)}{ps:xE}(hp:ps.top0)(f:Nat):ExR (KE gs ps f):=by
 intro R a h hh;obtain⟨g1,g2⟩:=z88 gs f R a h hh;obtain⟨p1,p2⟩:=z3s ps hp f R a h hh;unfold KE;rw[g1,p1,NV R hh];cases hg:pH gs f a h with
 | some y=>exact⟨rfl,λz hz=>by cases hz;exact g2 _ hg⟩
 | none=>
  simp only[Option.map_none];cases hq:jG ps f a h with
  | some y=>exact⟨rfl,λz hz=>by cases hz;exact p2 _ hq⟩
  | none=>
   simp only[Option.map_none];cases hr:nA h a with
   | none=>exact⟨rfl,λz hz=>by cases hz⟩
   | some y=>
    obtain⟨asv,h1⟩:=y;have hne:h1≠[]:=cK R hh a hr
    obtain⟨q1,q2⟩:=z3s ps hp f R asv h1 hne;exact⟨q1,q2⟩
end
theorem X_cl:X.Cl:=λf F h=>z1h (p:=λ_ F=>F.body.cl) fns (by kernel_rfl) f F h
theorem zqV:∀ vs v,MI vs=some v->v.top=0:=λvs v h=>by
 unfold MI at h;split at h
 ·split at h
  ·cases h;rfl
  ·cases h
 ·cases h
theorem zqX:∀ vs v,trimS vs=some v->v.top=0:=λvs v h=>by
 unfold trimS at h;split at h
 ·split at h
  ·cases h;rfl
  ·cases h
 ·cases h
theorem zqY:∀ vs v,FQ vs=some v->v.top=0:=λvs v h=>by
 unfold FQ at h;split at h
 ·cases h;rfl
 ·cases h
theorem zqT:∀ vs v,z8J vs=some v->v.top=0:=λvs v h=>by
 unfold z8J at h;split at h
 ·rename_i n
  cases hc:(decide (-9223372036854775808<=n)&&decide (n<=9223372036854775807)) with
  | true=>rw[hc]at h;cases h;rfl
  | false=>rw[hc]at h;cases h
 ·cases h
theorem zqQ:∀ vs v,z5c vs=some v->v.top=0:=λvs v h=>by
 unfold z5c at h;split at h
 ·split at h
  ·split at h
   ·cases h;rfl
   ·split at h
    ·obtain⟨n,_,e⟩:=Option.map_eq_some_iff.1 h
     subst e;rfl
    ·cases h
  ·cases h
 ·cases h
theorem zqS:∀ vs v,ctzS vs=some v->v.top=0:=λvs v h=>by
 unfold ctzS at h;split at h
 ·split at h
  ·cases h;rfl
  ·cases h
 ·cases h
theorem zqR:∀ vs v,z5R vs=some v->v.top=0:=λvs v h=>by
 unfold z5R at h;split at h
 ·cases h;rfl
 ·cases h
theorem zqU:∀ vs v,z8K vs=some v->v.top=0:=λvs v h=>by
 unfold z8K at h;split at h
 ·obtain⟨l,_,e⟩:=Option.bind_eq_some_iff.1 h
  split at e
  ·cases e;rfl
  ·cases e
 ·cases h
theorem zqW:∀ vs v,RI vs=some v->v.top=0:=λvs v h=>by
 unfold RI at h;split at h
 ·split at h
  ·cases h;rfl
  ·cases h
 ·cases h
theorem zbZ:∀ y∈PRL,∀ vs v,y.2 vs=some v->v.top=0:=by
 unfold PRL;repeat (first|exact List.forall_mem_nil _|refine List.forall_mem_cons.2 ⟨by first|exact zqV|exact zqX|exact zqY|exact zqT|exact zqQ|exact zqS|exact zqR|exact zqU|exact zqW,?_⟩)
theorem zca:PRL.top0:=λg s hm vs v hv=>zbZ (g,s) hm vs v hv
theorem zch:X.Ex2R:=λR f a h hh=>(show ExR (KE GRL PRL f) from zlH zca f) R a h hh
theorem oD.same {f:Nat}{args:List AV}{L:List Int}{a:Int}{Q:AV->Int->Prop}(g:oD f args L a Q)(ha:AV.tops args=0)(hQ:∀ v a2,Q v a2->v.top=0):∃v a2,Q v a2/\Gen f args L a a2 v:=by
 obtain⟨v,a2,q,r⟩:=g [uA L a] 0 rfl;refine⟨v,a2,q,Gen.of λh id hid=>?_⟩
 let R:Loc:=⟨h,id,hid⟩
 have H:bA X f (.ref 0 0::args) [uA L a] λv1 h1 x1=>v1=v/\h1=[uA L a2]/\x1=[]:=by rw[r];exact⟨rfl,rfl,rfl⟩
 have T:=zbz R X_cl zch f (.ref 0 0::args) [uA L a] _ (by simp) H
 have es:∀b,(uA L b).ren R.r=uA L b:=λb=>rfl
 have e1:∀b,R.T [uA L b]=h.set id (uA L b):=λb=>by
  show h.set id ((uA L b).ren R.r)++[]=_
  rw[es,List.append_nil]
 have e2:(AV.ref 0 0::args).map (AV.ren R.r) = .ref id 0::args:=by
  rw[List.map_cons,z1t ha];rfl
 rw[e1,e2]at T;refine bA.mono X _ _ _ _ _ (λv1 h1 x1 k=>?_) T
 obtain⟨v0,h0,x0,rfl,rfl,rfl,_,rfl,rfl,rfl⟩:=k;exact⟨aN _ _ (hQ _ _ q),e1 a2,rfl⟩
end Go.Am
