import Derived.KernelRfl
import Derived.ProofKit
import Derived.Test.YthofcepomhnpdaaGreatlawST9
set_option linter.all false
set_option maxRecDepth 100000
set_option maxHeartbeats 0
namespace Go.Am
section
variable {h:aA} {K:jA}
attribute [-go_sem] TA UA ZA CB ZB WB
theorem za0 {P:Int->Prop}(steps:List Nm)(tries:Int){w:FlQ}(h:∀ e∈w.bs,P e.2.since){x:Ent}(hx:P x.time):∀e∈(doQ steps tries w x).1.bs,P e.2.since:=by
 have key:∀(k:Nm) (v:Sta),v.since=x.time->∀e∈JA w.bs k v,P e.2.since:=λk v hv e he=>by
  rcases PM he with rfl|⟨he,_⟩
  ·dsimp only;rw[hv];exact hx
  ·exact h e he
 unfold doQ;split
 ·exact h
 split
 ·split
  ·exact h
  ·exact key _ _ rfl
 split
 ·exact h
 split
 ·split
  ·exact h
  split
  ·exact h
  split
  ·exact h
  ·exact key _ _ rfl
 split
 ·split
  ·exact h
  split
  ·exact h
  ·refine key _ _ ?_
   unfold OC;split
   ·split <;> rfl
   ·rfl
 split
 ·split
  ·exact h
  ·exact key _ _ rfl
 split
 ·exact h
 ·exact key _ _ rfl
theorem QV {P:Int->Prop}(steps:List Nm)(tries:Int):∀(l:List (Ent×Bool)) (a:AllQ) (i:Nat),(∀e∈a.w.bs,P e.2.since)->(∀y∈l,P y.1.time)->∀e∈(goQ steps tries a i l).w.bs,P e.2.since
 | [],a,i,h,_=>h
 | (x,c)::r,a,i,h,hx=>by
  have hr:=λy hy=>hx y (List.mem_cons_of_mem (x,c) hy)
  unfold goQ;split
  ·exact QV steps tries r a (i+1) h hr
  ·have h1:=za0 steps tries h (hx (x,c) (List.mem_cons_self ..))
   split
   ·exact QV steps tries r _ (i+1) h1 hr
   ·exact QV steps tries r _ (i+1) h1 hr
theorem zu9 {P:Int->Prop}(steps:List Nm)(tries:Int){U:List Ent}(h:∀ x∈U,P x.time):∀e∈(yB steps tries U).w.bs,P e.2.since:=
 QV steps tries (uC U) XB 0 (λe he=>by cases he) λy hy=>h y.1 (List.of_mem_zip hy).1
theorem zer {P:Int->Prop}{bs:List (Nm × Sta)}(h:∀ e∈bs,P e.2.since)(h0:P 0)(k:Nm):P (zB bs k).since:=by
 unfold zB;cases hg:mA bs k with
 | none=>exact h0
 | some s=>exact h _ (ZI hg)
section
variable {o0 o1 o2 o3 o4 o5 o:Obj} {l r l2:aA}
theorem z9e:QL h o0 o1 o2 o3 o4 o5 l r=QL h o0 o1 o2 o3 o4 o5 [] (l++r):=rfl
theorem BJ:(QL h o0 o1 o2 o3 o4 o5 [] r).length=h.length+(6+r.length):=by rw[BG];simp
theorem ZG:(QL h o0 o1 o2 o3 o4 o5 [] r)[h.length+6]?=r[0]?:=zS 0
theorem aH:(QL h o0 o1 o2 o3 o4 o5 [] r)[h.length+7]?=r[1]?:=zS 1
theorem DI:(QL h o0 o1 o2 o3 o4 o5 [] r).set (h.length+6) o=QL h o0 o1 o2 o3 o4 o5 [] (r.set 0 o):=DZ 0
theorem CG:(QL h o0 o1 o2 o3 o4 o5 [] r).set (h.length+7) o=QL h o0 o1 o2 o3 o4 o5 [] (r.set 1 o):=DZ 1
theorem AJ:(QL h o0 o1 o2 o3 o4 o5 [] r).take (h.length+6)=QL h o0 o1 o2 o3 o4 o5 [] []:=BS 0
theorem CI:(QL h o0 o1 o2 o3 o4 o5 [] r).take (h.length+7)=QL h o0 o1 o2 o3 o4 o5 [] (r.take 1):=BS 1
end
theorem z9f {fb o2 o3 o4:Obj}{bs:List (Nm × Sta)}{steps:List Nm}{tries:Int}{a b c:Nat}{r:aA}:QAt (QL h fb (lA PV.str kB bs) o2 o3 o4 (qbx h steps tries a b c) [] (.box [.ref (h.length+5) 0]::r)) (h.length+6) (h.length+5) (h.length+1) bs where
 p:=ZG
 f:=⟨_,_,_,_,_,OE⟩
 m:=RC
theorem FZ {o0 o1 o2 o3 o4 o5:Obj}{l r:aA}{i:Nat}(hi:i<h.length):(QL h o0 o1 o2 o3 o4 o5 l r)[i]?=h[i]?:=by
 unfold QL QH;rw[List.getElem?_append_left hi]
attribute [local go_sem] BJ mE RC rF tF uF OE PE vF wF xF yF ZG aH DI CG AJ CI
structure QIn (steps:List Nm) (tries:Int) (l:List Ent) (at_:Int):Prop where
 st:steps.length<=1000
 h0:steps≠[]
 ll:l.length<=1000
 w:∀x∈l,EntW x
 s:l.Pairwise λa b=>a.time<=b.time
 t:∀x∈l,-100000000000000000<=x.time/\x.time<=100000000000000000
 nd:(QB (yB steps tries (upL l at_)).w.bs).Nodup
 bl:(yB steps tries (upL l at_)).w.bs.length<=12
theorem QIn.sin {steps:List Nm}{tries:Int}{l:List Ent}{at_:Int}(I:QIn steps tries l at_)(k:Nm) : -100000000000000000<=(zB (yB steps tries (upL l at_)).w.bs k).since/\(zB (yB steps tries (upL l at_)).w.bs k).since<=100000000000000000:=
 zer (P:=λz=>-100000000000000000<=z/\z<=100000000000000000) (zu9 (P:=λz=>-100000000000000000<=z/\z<=100000000000000000) steps tries (U:=upL l at_) λx hx=>I.t x ((show(upL l at_).Sublist l from List.take_sublist _ _).subset hx)) (by omega) k
theorem ztH (a b:Int):decide (Int.sign (a-b)<0)=decide (uB a b<0):=by
 rw[decide_eq_decide];unfold uB;by_cases h1:a<b
 ·rw[if_pos h1,Int.sign_eq_neg_one_of_neg (by omega)]
 ·rw[if_neg h1]
  by_cases h2:a=b
  ·subst h2;simp
  ·rw[if_neg h2,Int.sign_eq_one_of_pos (by omega)]
theorem zsl {b i N n:Nat}{P:jA}{H:aA}{x:Esc}{sh:Sh}{xs ys:List PV}(hx:x=[])(hi:b<=i)(gi:H[i]?=some (.row sh ys 0))(hn:N=ys.length)(hle:n<=N)(hw:win ys 0 n=xs)
 (k:P (.p (.sl sh xs)) (H.take b) []):kD false b P (some [.own i N 0 n]) H x:=by
 subst hx hn hw;have r1:rd H (.own i ys.length 0 n)=some (sh,win ys 0 n):=by simp [rd,gi,hle]
 rw[sH (v:=.p (.sl sh (win ys 0 n))) (λy hy=>by cases hy) (by simp [aB,cE,dB,hi,r1]) (by simp [AV.top,AV.tops])]
 exact k
theorem iL {o0 o1 o2 o3 o4 o5:Obj}{r t:aA}:(QL (h++t) o0 o1 o2 o3 o4 o5 [] r).take h.length=h:=by
 unfold QL QH;rw[List.append_assoc,List.take_left]
theorem zsP (steps:List Nm)(tries:Int)(l:List Ent)(at_:Int)(I:QIn steps tries l at_)(step:Nm) :
 gA X mQ [gB steps tries,EA l,AS step,AI at_] h K=K (OA (jE (yB steps tries (upL l at_)).w.bs step)) h []:=by
 refine sA ?_;rw[zhm rfl];have RE:=λh K=>ZR (h:=h) (K:=K) steps tries I.st I.h0 l I.ll I.w I.s at_
 have hz:=I.sin
 have hnd:=I.nd
 have hbl:=I.bl
 simp only[CJ]at RE;generalize yB steps tries (upL l at_)=q at *;obtain⟨g,hg⟩:∃g,h++[Obj.box [OA steps,AI tries],Obj.box [AS step]]=g:=⟨_,rfl⟩;have gl:g.length=h.length+2:=by rw[<-hg];simp
 have g1:g[h.length+1]?=some (.box [AS step]):=by rw[<-hg,List.getElem?_append_right (by omega)];simp
 have RE1:=λK=>RE g K
 have RE2:=λ(K:jA)=>(congrArg (λz=>gA X HF [gB steps tries,EA l,AI at_] z K) hg).trans (RE g K)
 obtain⟨⟨bs,runs⟩,ref,why⟩:=q;dsimp only at RE2 hz hnd hbl ⊢;have NM:=λ(fb o2 o3 o4:Obj) (a b c:Nat) K=>z8a (h:=g) (K:=K) fb o2 o3 o4 bs hnd hbl steps tries a b c [.box [.ref (g.length+5) 0]]
 simp only[z9e (l:=[_]),List.length_cons,List.length_nil,Nat.zero_add,Nat.reduceAdd,List.cons_append,List.nil_append]at NM;simp only[zU,go_sem,↓RE2,RE2,List.length_nil,List.length_cons,Nat.zero_add,Nat.add_zero,Nat.reduceAdd,List.nil_append,List.getElem?_cons_zero,List.set_cons_zero,↓NM,NM];have nl:=iW bs
 have fl:((FA bs).filter (TF bs step)).length<=bs.length:=by rw[<-nl];exact List.length_filter_le ..
 have ef:((FA bs).map PV.str).filter (λx=>!(!TF bs step (RF x)))=((FA bs).filter (TF bs step)).map PV.str:=by
  rw[List.filter_map];congr 1
  refine List.filter_congr λx _=>?_
  simp [RF]
 have W1:=λ(o0 o2 o3 o4:Obj) (a b c:Nat) (o:Obj) (k:Nm) K=>zty (h:=QL g o0 (lA PV.str kB bs) o2 o3 o4 (qbx g steps tries a b c) [] [.box [.ref (g.length+5) 0],o]) (K:=K) z9f k step (q:=h.length+1) (by rw[FZ (by omega)];exact g1)
 have W2:=λ(o0 o2 o3 o4:Obj) (a b c:Nat) (o:Obj) (k j:Nm) K=>ztz (h:=QL g o0 (lA PV.str kB bs) o2 o3 o4 (qbx g steps tries a b c) [] [.box [.ref (g.length+5) 0],o]) (K:=K) z9f hz k j
 have DF:=λ(o0 o2 o3 o4:Obj) (a b c:Nat) K=>zfb (h:=QL g o0 (lA PV.str kB bs) o2 o3 o4 (qbx g steps tries a b c) [] [.box [.ref (g.length+5) 0],.row none ((FA bs).map PV.str) 0]) (K:=K) (g.length+7) ((FA bs).map PV.str) fP (by rw[List.length_map];omega) aH
  (g:=fM) (caps:=[.ref (g.length+6) 0,.ref (h.length+1) 0]) (p:=λv=>!TF bs step (RF v)) (λo x hx K=>by
   obtain⟨n,_,rfl⟩:=List.mem_map.1 hx;rw[CG];exact W1 o0 o2 o3 o4 a b c o n K)
 simp only[ef,List.length_map,nl,CG,List.set_cons_succ,List.set_cons_zero]at DF;have es:xB (ltC λx y=>Int.sign ((zB bs (RF x)).since-(zB bs (RF y)).since)) (((FA bs).filter (TF bs step)).map PV.str)=(jE bs step).map PV.str:=z5o PV.str (λa b=>ztH _ _) _
 have wl:(jE bs step).length=((FA bs).filter (TF bs step)).length:=VV _ _
 generalize hF:(FA bs).filter (TF bs step)=F at *;have SS:=λ(o0 o2 o3 o4:Obj) (a b c:Nat) K=>zug (h:=QL g o0 (lA PV.str kB bs) o2 o3 o4 (qbx g steps tries a b c) [] [.box [.ref (g.length+5) 0],.row none (F.map PV.str++List.replicate (bs.length-F.length) (PV.str [])) 0]) (K:=K) (g.length+7) bs.length (F.map PV.str) (List.replicate (bs.length-F.length) (PV.str [])) (by simp;omega) fP (by rw[List.length_map];omega) aH
  (g:=iM) (caps:=[.ref (g.length+6) 0]) (c:=λx y=>Int.sign ((zB bs (RF x)).since-(zB bs (RF y)).since)) (λo x hx y hy K=>by
   obtain⟨n,_,rfl⟩:=List.mem_map.1 hx;obtain⟨m,_,rfl⟩:=List.mem_map.1 hy;rw[CG];exact W2 o0 o2 o3 o4 a b c o n m K)
 simp only[es,List.length_map,CG,List.set_cons_succ,List.set_cons_zero]at SS;have e6:dC (g.length+6) (.ref (g.length+5) 0)=[]:=by simp [dC,AV.top]
 simp only[↓DF,DF,↓SS,SS,e6];refine zsl (xs:=(jE bs step).map PV.str) rfl (by omega) aH (by simp [wl];omega) fl (by unfold win;simp [wl]) ⟨rfl,?_,rfl⟩
 rw[<-hg];exact iL
end
section
attribute [-go_sem] PV.cells splice
variable {h:aA} {K:jA}
end
section
variable {h:aA} {K:jA}
attribute [-go_sem] TA UA ZA CB ZB WB splice
attribute [local go_sem] List.getElem?_cons_zero List.getElem?_cons_succ List.set_cons_zero List.set_cons_succ
attribute [local go_sem] BJ mE RC rF tF uF OE PE vF wF xF yF ZG aH DI CG AJ CI
section
variable {steps:List Nm} {tries:Int} {l:List Ent} {at_:Int}
end
end
section
variable {h:aA} {K:jA}
attribute [-go_sem] TA UA ZA CB ZB WB splice
attribute [local go_sem] BJ mE RC rF tF uF OE PE vF wF xF yF ZG aH DI CG AJ CI
variable {steps:List Nm} {tries:Int} {l:List Ent} {at_:Int}
end
section
variable {h:aA} {K:jA}
attribute [-go_sem] TA UA ZA CB ZB WB
theorem zc7 {α β:Type}{key:α->PV}{val:β->AV}:∀(n:Nat) (l:List (α×β)),(zC key val n l).map (·.born)=List.range' n l.length
 | n,[]=>rfl
 | n,e::r=>by
  have ih:=zc7 (key:=key) (val:=val) (n+1) r
  rw[zC,List.map_cons,ih,List.length_cons,List.range'_succ]
theorem zce {β:Type}{val:β->AV}:∀(n:Nat) (l:List (Nm×β)),KM (zC PV.str val n l)=some (l.map (·.1))
 | n,[]=>rfl
 | n,e::r=>by
  have ih:=zce (val:=val) (n+1) r
  rw[zC,KM,ih];rfl
theorem zc0:∀ (q:Nat)(bs:nB),(rB q bs).map (·.1)=bs.map λe=>e.1.board
 | q,[]=>rfl
 | q,e::r=>by
  have ih:=zc0 (q+3) r
  rw[rB,List.map_cons,List.map_cons,ih]
theorem zpt {q:Nat}{bs:nB}(hu:(bs.map λe=>e.1.board).Nodup)(hn:bs.length<=1000)(hk:∀ e∈bs,e.1.board.length<=1000):CK (zC PV.str cC 0 (rB q bs))=some (FA (asA bs)):=by
 unfold CK;rw[zce,zc0,zc7];dsimp only;rw[if_pos,ztS hu];refine⟨hu,List.nodup_range',by rw[List.length_map];omega,λs hs=>?_⟩
 obtain⟨y,hy,rfl⟩:=List.mem_map.1 hs;have:=hk y hy;unfold maxLen;omega
theorem zsM {q id c:Nat}{es:List ME}{ss:List Nm}(h1:h[q]?=some (.box [.mp id]))(h2:h[id]?=some (.amap es c))(h3:CK es=some ss) :
 gA X z4N [.fn IV [.ref q 0]] h K=K (OA ss) h []:=
 z5x (X:=X) (by kernel_rfl) (zqM (by kernel_rfl) h1 h2 h3)
theorem ztf {id:Nat}(hid:id<h.length):gA X fQ [.mp id] h K=K (.fn IV [.ref h.length 0]) (h++[.box [.mp id]]) []:=by
 refine sA ?_;rw[zgF rfl];simp only[ZT,go_sem];have e:max h.length (h.length+1)=h.length+1:=by omega
 rw[e];exact⟨Nat.le_refl _,List.take_of_length_le (by simp)⟩
def VM (steps:List Nm)(tries:Int)(l:List Ent)(at_:Int):(Nm×Int×Bool)×Int:=
 if JC steps tries l at_≠0 then(([],0,false),JC steps tries l at_) else(YC (asA (jB steps tries (upL l at_)).bs) (FA (asA (jB steps tries (upL l at_)).bs)),0)
theorem zqR {bs:nB}{q:Nat}{H:aA}{id:Nat}(hh:H[id]?=some (lA PV.str cC (rB q bs))){s:Nm}{i:Nat}(hi:ixB s bs=some i):UA (none,[2]) false .nilp (.mp id) (AS s) H=some (.ref (q+(3*i+2)) 0):=by
 have lk:=qH (kk:=(none,[2])) (k:=s) (h:=H) (id:=id) PG hh iF (ok:=false) (z:=.nilp)
 rw[aR,hi]at lk;rw[lk];rfl
theorem zsD (steps:List Nm)(tries:Int)(l:List Ent)(O:StOk steps l)(at_:Int)(hbn:∀ e∈(jB steps tries (upL l at_)).bs,e.1.board.length<=1000) :
 gA X tK [gB steps tries,EA l,AI at_] h K=K (.tup [AS (VM steps tries l at_).1.1,AI (VM steps tries l at_).1.2.1,AB (VM steps tries l at_).1.2.2,AI (VM steps tries l at_).2]) h []:=by
 refine sA ?_;rw[zhS rfl];have q1:=λh K=>WY (h:=h) (K:=K) steps tries l O at_
 have q3:=λh K=>XO (h:=h) (K:=K) l at_ (by have:=O.l;omega)
 unfold VM;by_cases h0:JC steps tries l at_=0
 case neg=>
  rw[if_pos h0];simp only[UP,go_sem,↓q1,q1,h0];first|done|rfl
 rw[if_neg (by simp [h0])]
 have q4:=λh K=>TO (h:=h) (K:=K) steps tries O.n (nH h0) (upL l at_) (ED O at_).l
 obtain⟨I,J⟩:=EM tries (nH h0) (λx hx=>((ED O at_).e x hx).s)
 have hn:=(ED O at_).l
 generalize (upL l at_).length=n at I J hn;generalize jB steps tries (upL l at_)=F at *;obtain⟨g,hg⟩:∃g,h++[Obj.box [OA steps,AI tries]]=g:=⟨_,rfl⟩;have gl:g.length=h.length+1:=by rw[<-hg];simp
 have q5:=λK=>q4 (h++[Obj.box [OA steps,AI tries]]) K
 have q6:∀K,gA X ND [gB steps tries,EA (upL l at_)] (h++[Obj.box [OA steps,AI tries]]) K=K (.ref (g.length+7) 0) (FS g (flB steps tries) steps tries F []) (NB g F.bs.length):=λK=>by rw[q5,hg]
 have ex:∀y∈NB g F.bs.length,h.length<=y.1:=λy hy=>by have:=(jH hy).1;omega
 have hbl:=I.bl
 have q7:=λ(l2:aA) (K:jA)=>ztf (h:=FS g (flB steps tries) steps tries F l2) (K:=K) (id:=g.length+1) (by rw[YG];omega)
 have kv:=zpt (q:=g.length+8) I.nb (by omega) hbn
 have gt0:=λl2=>zZ (h:=g) (fb:=flB steps tries) (steps:=steps) (tries:=tries) (S:=F) (l:=l2)
 have q8:=λ(K:jA)=>zsM (h:=FS g (flB steps tries) steps tries F [.box [.mp (g.length+1)]]) (K:=K) (q:=g.length+(8+(xA F.bs).length)) (id:=g.length+1) (by rw[gt0];rfl) (xZ.trans rfl) kv
 have hks:=iW (asA F.bs)
 have al:(asA F.bs).length=F.bs.length:=by unfold asA;rw[List.length_map]
 have hmem:∀k∈FA (asA F.bs),∃i,ixB k F.bs=some i:=λk hk=>z5r (by
  rw[<-LM];unfold FA at hk;rwa [OG]at hk)
 simp only[UP,go_sem,↓q1,q1,h0,↓q3,q3,↓q6,q6,wJ,↓q7,q7,YG,yS,List.length_nil,List.nil_append,Nat.add_zero,↓q8,q8];generalize FA (asA F.bs)=ks at *;refine DA (λk:Nat=>⟨[(11,.ref (g.length+7) 0),(12,AS (YC (asA F.bs) (ks.take k)).1),(13,AI (YC (asA F.bs) (ks.take k)).2.1),(14,AB (YC (asA F.bs) (ks.take k)).2.2),(35,OA ks),(36,AI ks.length),(37,AI k)],
  FS g (flB steps tries) steps tries F [.box [.mp (g.length+1)]],NB g F.bs.length⟩)
  (λk=>k<=ks.length) (λk=>ks.length-k) 0 rfl (Nat.zero_le _) ?_
 intro k hk;rcases Nat.lt_or_ge k ks.length with hlt|hge
 ·have hgr:=sB PV.str hlt
  have cw:∀v:List UInt8,NA none 0 (PV.str v)=some (PV.str v):=λ_=>rfl
  have wk:IntKind.i64.wrap ((k:Int)+1)=((k+1:Nat):Int):=rA _ (by omega) (by omega)
  have os:YC (asA F.bs) (ks.take (k+1))=KK (asA F.bs) (YC (asA F.bs) (ks.take k)) ks[k]:=by rw[List.take_succ_eq_append_getElem hlt,z5C]
  obtain⟨i,hi⟩:=hmem _ (List.getElem_mem hlt);obtain⟨e,he,_,ge⟩:=(dJ ks[k] F.bs).2 i hi;have es:zB (asA F.bs) ks[k]=e.2:=by unfold zB;rw[ge];rfl
  have lk:=λl2:aA=>zqR (H:=FS g (flB steps tries) steps tries F l2) (id:=g.length+1) (q:=g.length+8) xZ hi
  have gq:=λl2:aA=>z8H (h:=g) (fb:=flB steps tries) (steps:=steps) (tries:=tries) (S:=F) (l:=l2) he
  unfold KK at os;rw[es]at os;unfold Sta.bx at gq;generalize ks[k]=s at *;generalize YC (asA F.bs) (ks.take k)=a at *;obtain⟨a1,a2,a3⟩:=a;obtain⟨e1,s1,s2,s3,s4,s5⟩:=e;dsimp only at os gq;by_cases c4:s1=4
  ·rw[if_neg (by simp [c4])]at os
   simp only[go_sem,hlt,hgr,cw,wJ,lk,gq,wk,eq_true c4];exact⟨k+1,by rw[os],by omega,by omega⟩
  by_cases c5:s1=5
  ·rw[if_neg (by simp [c5])]at os
   simp only[go_sem,hlt,hgr,cw,wJ,lk,gq,wk,eq_true c5,c4];exact⟨k+1,by rw[os],by omega,by omega⟩
  cases a3 with
  | false=>
   rw[if_pos ⟨c4,c5,.inl rfl⟩]at os;simp only[go_sem,hlt,hgr,cw,wJ,lk,gq,wk,c4,c5];exact⟨k+1,by rw[os],by omega,by omega⟩
  | true=>
   by_cases cs:s2<a2
   ·rw[if_pos ⟨c4,c5,.inr cs⟩]at os
    simp only[go_sem,hlt,hgr,cw,wJ,lk,gq,wk,c4,c5,cs];exact⟨k+1,by rw[os],by omega,by omega⟩
   ·rw[if_neg (by simp [cs])]at os
    simp only[go_sem,hlt,hgr,cw,wJ,lk,gq,wk,c4,c5,cs];exact⟨k+1,by rw[os],by omega,by omega⟩
 ·have ek:k=ks.length:=by omega
  subst ek;rw[List.take_length];generalize YC (asA F.bs) ks=a;obtain⟨a1,a2,a3⟩:=a;simp only[go_sem,Nat.lt_irrefl];rw[sH (v:=.tup [AS a1,AI a2,AB a3,AI 0]) ex (by simp [aB,cE,dB]) (by simp [AV.top,AV.tops])]
  refine⟨rfl,?_,rfl⟩;rw[<-hg];unfold FS FH
  rw[List.append_assoc,List.take_left]
end
section
variable {h:aA} {K:jA}
attribute [-go_sem] TA UA ZA CB ZB WB
def lW (steps:List Nm)(tries:Int)(l:List Ent)(at_:Int):List (Nm×Nm)×Int:=
 if JC steps tries l at_≠0 then([],JC steps tries l at_) else(aE (FD (jB steps tries (upL l at_)).bs) steps,0)
theorem zsB (steps:List Nm)(tries:Int)(l:List Ent)(O:StOk steps l)(at_:Int)(hbl:(jB steps tries (upL l at_)).bs.length<=12) :
 gA X sK [gB steps tries,EA l,AI at_] h K=K (.tup [IE (lW steps tries l at_).1,AI (lW steps tries l at_).2]) h []:=by
 refine sA ?_;rw[zhR rfl];have q1:=λh K=>WY (h:=h) (K:=K) steps tries l O at_
 have q3:=λh K=>XO (h:=h) (K:=K) l at_ (by have:=O.l;omega)
 unfold lW;by_cases h0:JC steps tries l at_=0
 case neg=>
  rw[if_pos h0];simp only[TP,go_sem,↓q1,q1,h0];first|done|rfl
 rw[if_neg (by simp [h0])]
 have q4:=λh K=>TO (h:=h) (K:=K) steps tries O.n (nH h0) (upL l at_) (ED O at_).l
 obtain⟨I,J⟩:=EM tries (nH h0) (λx hx=>((ED O at_).e x hx).s)
 have hst:=O.n
 generalize (upL l at_).length=n at I J;generalize jB steps tries (upL l at_)=F at *;obtain⟨g,hg⟩:∃g,h++[Obj.box [OA steps,AI tries]]=g:=⟨_,rfl⟩;have gl:g.length=h.length+1:=by rw[<-hg];simp
 have q5:=λK=>q4 (h++[Obj.box [OA steps,AI tries]]) K
 have q6:∀K,gA X ND [gB steps tries,EA (upL l at_)] (h++[Obj.box [OA steps,AI tries]]) K=K (.ref (g.length+7) 0) (FS g (flB steps tries) steps tries F []) (NB g F.bs.length):=λK=>by rw[q5,hg]
 have ex:∀y∈NB g F.bs.length,h.length<=y.1:=λy hy=>by have:=(jH hy).1;omega
 have q7:=λ(r:aA) (step:Nm) (K:jA)=>ztb (h:=g) (K:=K) r (flB steps tries) steps tries F I.nb hbl step
 unfold FR at q7;simp only[List.append_nil]at q7;have gp0:∀l2:aA,(FS g (flB steps tries) steps tries F l2)[h.length]?=some (.box [OA steps,AI tries]):=λl2=>by
  unfold FS FH;rw[<-hg];simp
 have gt0:=λl2=>zZ (h:=g) (fb:=flB steps tries) (steps:=steps) (tries:=tries) (S:=F) (l:=l2)
 have st0:=λl2 o=>yZ (h:=g) (fb:=flB steps tries) (steps:=steps) (tries:=tries) (S:=F) (l:=l2) (o:=o) 0
 have tk1:=λl2=>z8I (h:=g) (fb:=flB steps tries) (steps:=steps) (tries:=tries) (S:=F) (l:=l2) 1
 simp only[Nat.add_zero]at st0;have f1:g.length+7+1<=g.length+(8+(xA F.bs).length+1):=by omega
 have f2:g.length+(8+(xA F.bs).length)+1<=g.length+(8+(xA F.bs).length+1):=by omega
 simp only[TP,go_sem,↓q1,q1,h0,↓q3,q3,↓q6,q6,YG,yS,gp0,List.length_nil,Nat.add_zero,List.nil_append];refine DA (λk:Nat=>⟨[(9,.ref (g.length+7) 0),(10,.own (g.length+(8+(xA F.bs).length)) (aE (FD F.bs) (steps.take k)).length 0 (aE (FD F.bs) (steps.take k)).length),(27,OA steps),(28,AI steps.length),(29,AI k)],FS g (flB steps tries) steps tries F [.row (some 2) ((aE (FD F.bs) (steps.take k)).map OK) 0],NB g F.bs.length⟩)
  (λk=>k<=steps.length) (λk=>steps.length-k) 0 rfl (Nat.zero_le _) ?_
 intro k hk;rcases Nat.lt_or_ge k steps.length with hlt|hge
 ·have hgr:=sB PV.str hlt
  have cw:∀v:List UInt8,NA none 0 (PV.str v)=some (PV.str v):=λ_=>rfl
  have wk:IntKind.i64.wrap ((k:Int)+1)=((k+1:Nat):Int):=rA _ (by omega) (by omega)
  have pn:=zcH (FD F.bs) (steps.take k) steps[k]
  rw[<-List.take_succ_eq_append_getElem hlt]at pn;have pl:=z59 (FD F.bs) (steps.take k)
  rw[List.length_take]at pl;generalize steps[k]=s at *;have q8:=λr K=>q7 r s K
  generalize aE (FD F.bs) (steps.take k)=P at *;have m1:P.length+1<=bB:=by unfold bB;omega
  have pll:(P.map OK).length=P.length:=List.length_map ..
  generalize FD F.bs s=w at *;cases w with
  | nil=>
   dsimp only at pn;rw[List.append_nil]at pn;simp only[go_sem,hlt,hgr,cw,↓q8,q8,splice,wk,YG,List.length_cons,List.length_nil,Nat.zero_add,f1,f2,tk1,List.take_succ_cons,List.take_zero,List.map_nil];exact⟨k+1,by rw[pn],by omega,by omega⟩
  | cons a r=>
   dsimp only at pn;have c0:(0:Int)<((a::r).length:Int):=by simp
   have g0:((a::r).map PV.str)[0]?=some (.str a):=rfl
   have c1:0<(a::r).length:=by simp
   generalize hw:a::r=w at *;simp only[go_sem,hlt,hgr,cw,↓q8,q8,c0,c1,g0,splice,gt0,st0,pll,m1,wk,YG,List.length_cons,List.length_nil,Nat.zero_add,f1,f2,List.getElem?_cons_zero,List.set_cons_zero,tk1,List.take_succ_cons,List.take_zero];refine⟨k+1,?_,by omega,by omega⟩
   rw[pn,List.map_append,List.length_append];rfl
 ·have ek:k=steps.length:=by omega
  subst ek;rw[List.take_length];generalize aE (FD F.bs) steps=P;simp only[go_sem,Nat.lt_irrefl];have f3:h.length<=g.length+(8+(xA F.bs).length):=by omega
  rw[YG];simp only[List.length_cons,List.length_nil,Nat.zero_add,f2,if_true,tk1,List.take_succ_cons,List.take_zero];refine zsk ex f3 ((gt0 _).trans rfl) (by simp) ⟨rfl,?_,rfl⟩
  rw[<-hg];unfold FS FH
  rw[List.append_assoc,List.take_left]
end
theorem uZ:∀ {l:List RunP}{lo hi:Int},CH lo hi l->lo<=hi/\∀r∈l,lo<=r.frm/\r.frm<=hi/\r.til<=hi
 | [],lo,hi,h=>⟨h,λr hr=>(by cases hr)⟩
 | y::rest,lo,hi,h=>by
  obtain⟨h1,h2,h3,h4⟩:=h;obtain⟨i1,i2⟩:=uZ h4;refine⟨by omega,λr hr=>?_⟩
  rcases List.mem_cons.1 hr with e|e
  ·rw[e];omega
  ·have:=i2 r e;omega
theorem zd5 {p:FlP}{Z:Int}(B:BI p Z)(hZ:0<=Z):∀r∈p.runs,0<=r.frm/\r.frm<=Z/\r.til<=Z:=λr hr=>by
 have hm:r∈ofS r.site p.runs:=List.mem_filter.2 ⟨hr,by simp⟩
 have h:=B.st r.site
 unfold aP at h;split at h
 ·obtain⟨pre,q,e,h2,h3,h4,h5⟩:=h
  rw[e]at hm;rcases List.mem_append.1 hm with g|g
  ·have:=(uZ h2).2 r g;omega
  ·rw[List.mem_singleton.1 g];omega
 ·have:=(uZ h).2 r hm;omega
section
variable {h:aA} {K:jA}
attribute [-go_sem] TA UA ZA CB ZB WB
attribute [local go_sem] List.getElem?_cons_zero List.getElem?_cons_succ List.set_cons_zero List.set_cons_succ
attribute [local go_sem] BG mE RC rF tF uF OE PE vF wF xF yF GH yI lL HH zI jL zJ kL
section
variable {o0 o1 o2 o3 o4 o5 o:Obj} {l r:aA}
theorem QL_u2:(QL h o0 o1 o2 o3 o4 o5 l r).set (h.length+(6+(l.length+2))) o=QL h o0 o1 o2 o3 o4 o5 l (r.set 2 o):=GZ 2
end
attribute [local go_sem] QL_u2
def isR (step k:Nm)(r:RanQ):Bool:=decide (r.board=k)&&decide (r.step=step)&&decide (0<=r.til)
def fIx (P:RanQ->Bool)(l:List RanQ):Nat->Int
 | 0=>-1
 | j+1=>match l[j]? with
  | some r=>if fIx P l j<0/\P r=true then j else fIx P l j
  | none=>fIx P l j
theorem zaX (P:RanQ->Bool)(l:List RanQ):∀j,j<=l.length->(fIx P l j = -1/\∀i (hi:i<l.length),i<j->P l[i]=false)∨(∃i,∃hi:i<l.length,i<j/\fIx P l j=i/\P l[i]=true/\∀i' (hi':i'<l.length),i'<i->P l[i']=false)
 | 0,_=>.inl ⟨rfl,λi _ h=>absurd h (Nat.not_lt_zero _)⟩
 | j+1,hj=>by
  have hlt:j<l.length:=by omega
  have e:fIx P l (j+1)=if fIx P l j<0/\P l[j]=true then(j:Int) else fIx P l j:=by
   rw[fIx,List.getElem?_eq_getElem hlt]
  rw[e];rcases zaX P l j (by omega) with⟨h1,h2⟩|⟨i,hi,h1,h2,h3,h4⟩
  ·cases hp:P l[j]with
   | true=>
    rw[if_pos ⟨by omega,rfl⟩]
    exact .inr ⟨j,hlt,by omega,rfl,hp,λi' hi' hl=>h2 i' hi' hl⟩
   | false=>
    rw[if_neg (by simp)]
    refine .inl ⟨h1,λi hi hl=>?_⟩
    by_cases hij:i=j
    ·subst hij;exact hp
    ·exact h2 i hi (by omega)
  ·rw[if_neg (λh=>by have:=h.1;omega)]
   exact .inr ⟨i,hi,by omega,h2,h3,h4⟩
theorem zo7 (step k:Nm)(l:List RanQ):(fIx (isR step k) l l.length = -1/\qD step k l=none)∨(∃i,∃hi:i<l.length,fIx (isR step k) l l.length=(i:Int)/\qD step k l=some l[i]):=by
 have ef:qD step k l=l.find? (isR step k):=rfl
 rw[ef];rcases zaX (isR step k) l l.length (Nat.le_refl _) with⟨h1,h2⟩|⟨i,hi,_,h2,h3,h4⟩
 ·refine .inl ⟨h1,?_⟩
  rw[List.find?_eq_none];intro r hr;obtain⟨i,hi,rfl⟩:=List.getElem_of_mem hr;rw[h2 i hi hi];simp
 ·refine .inr ⟨i,hi,h2,?_⟩
  rw[List.find?_eq_some_iff_getElem];exact⟨h3,i,hi,rfl,λj hj=>by rw[h4 j (by omega) hj];rfl⟩
theorem zrC {step:Nm}{N:List Nm}{runs:List RanQ}{k:Nat}(hk:k<N.length):BC step (N.take (k+1)) runs=((BC step (N.take k) runs).1+(match qD step N[k] runs with|some r=>if r.pass then 1 else 0|none=>0),(BC step (N.take k) runs).2+(match qD step N[k] runs with|some _=>1|none=>0)):=by
 unfold BC;rw[List.take_succ_eq_append_getElem hk,List.filter_append,List.filter_append,List.length_append,List.length_append,List.filter_cons,List.filter_cons,List.filter_nil];cases hf:qD step N[k] runs with
 | none=>simp [hf]
 | some r=>cases hp:r.pass <;> simp [hf,hp]
theorem zcW (step:Nm)(N:List Nm)(runs:List RanQ):(BC step N runs).1<=(BC step N runs).2/\(BC step N runs).2<=N.length:=by
 unfold BC;refine⟨?_,List.length_filter_le _ _⟩;have:((N.filter λk=>match qD step k runs with|some r=>r.pass|none=>false).Sublist (N.filter λk=>(qD step k runs).isSome)):=by
  refine List.Sublist.trans (l₂:=(N.filter λk=>(qD step k runs).isSome).filter λk=>match qD step k runs with|some r=>r.pass|none=>false) ?_ List.filter_sublist
  rw[List.filter_filter];have e:N.filter (λk=>(match qD step k runs with|some r=>r.pass|none=>false)&&(qD step k runs).isSome)=N.filter λk=>match qD step k runs with|some r=>r.pass|none=>false:=List.filter_congr λk _=>by
   cases qD step k runs <;> simp
  rw[e];exact List.Sublist.refl _
 exact this.length_le
theorem zdT (fb o3 o4:Obj)(bs:List (Nm × Sta))(hu:(QB bs).Nodup)(hbl:bs.length<=12)(runs:List RanQ)(hr:runs.length<=1000)(steps:List Nm)(tries:Int)(b c:Nat)(l:aA)(step:Nm) :
 gA X nM [.ref (h.length+5) 0,AS step] (QL h fb (lA PV.str kB bs) (.row (some 6) (runs.map RanQ.pv) 0) o3 o4 (qbx h steps tries runs.length b c) l []) K =
  K (.tup [.p (.agg [eI (PF (BC step (FA bs) runs)).1.1,eI (PF (BC step (FA bs) runs)).1.2]),AI (PF (BC step (FA bs) runs)).2]) (QL h fb (lA PV.str kB bs) (.row (some 6) (runs.map RanQ.pv) 0) o3 o4 (qbx h steps tries runs.length b c) l []) []:=by
 refine sA ?_;rw[zh0 rfl];have NM:=λ(o:Obj) K=>z8a (h:=h) (K:=K) fb (.row (some 6) (runs.map RanQ.pv) 0) o3 o4 bs hu hbl steps tries runs.length b c (l++[o])
 have sh:∀(o0 o1 o2 o3 o4 o5 o:Obj) (r:aA),QL h o0 o1 o2 o3 o4 o5 (l++[o]) r=QL h o0 o1 o2 o3 o4 o5 l (o::r):=λo0 o1 o2 o3 o4 o5 o r=>by unfold QL;simp
 simp only[sh,List.length_append,List.length_cons,List.length_nil,Nat.zero_add]at NM;have nl:=iW bs
 simp only[KU,go_sem,List.nil_append,List.length_nil,Nat.add_zero,↓NM,NM,List.length_cons,Nat.zero_add];refine DA (λk:Nat=>⟨[(0,.ref (h.length+5) 0),(1,AS step),(4,.ref (h.length+(6+l.length)) 0),(6,AI (BC step ((FA bs).take k) runs).1),(7,AI (BC step ((FA bs).take k) runs).2),(14,.own (h.length+(6+(l.length+1))) bs.length 0 bs.length),(15,AI bs.length),(16,AI k)],
  QL h fb (lA PV.str kB bs) (.row (some 6) (runs.map RanQ.pv) 0) o3 o4 (qbx h steps tries runs.length b c) l [.box [AI 0,AI 0],.row none ((FA bs).map PV.str) 0],[]⟩) (λk=>k<=bs.length) (λk=>bs.length-k) 0 rfl (Nat.zero_le _) ?_
 intro k hk;have pbd:=zcW step ((FA bs).take k) runs
 rw[List.length_take]at pbd;rcases Nat.lt_or_ge k bs.length with hlt|hge
 ·have hc:(k:Int)<(bs.length:Int):=by omega
  have hkn:k<(FA bs).length:=by omega
  have gn:=sB PV.str hkn
  have cw:∀v:List UInt8,NA none 0 (PV.str v)=some (PV.str v):=λ_=>rfl
  have wk:IntKind.i64.wrap ((k:Int)+1)=((k+1:Nat):Int):=rA _ (by omega) (by omega)
  have ps:=zrC (step:=step) (runs:=runs) hkn
  generalize (FA bs)[k]=nm at *;generalize BC step ((FA bs).take k) runs=ga at *;obtain⟨ga,al⟩:=ga;dsimp only at ps pbd;have nml:((FA bs).map PV.str).length=bs.length:=by rw[List.length_map,nl]
  have wa:IntKind.i64.wrap ((al:Int)+1)=((al+1:Nat):Int):=rA _ (by omega) (by omega)
  have wg:IntKind.i64.wrap ((ga:Int)+1)=((ga+1:Nat):Int):=rA _ (by omega) (by omega)
  simp only[go_sem,hc,hlt,gn,cw,nml];refine DA (λj:Nat=>⟨[(0,.ref (h.length+5) 0),(1,AS step),(4,.ref (h.length+(6+l.length)) 0),(6,AI ga),(7,AI al),(9,AS nm),(10,AI (fIx (isR step nm) runs j)),(14,.own (h.length+(6+(l.length+1))) bs.length 0 bs.length),(15,AI bs.length),(16,AI k),(23,.own (h.length+2) runs.length 0 runs.length),(24,AI runs.length),(25,AI j)],
   QL h fb (lA PV.str kB bs) (.row (some 6) (runs.map RanQ.pv) 0) o3 o4 (qbx h steps tries runs.length b c) l [.box [AI 0,AI 0],.row none ((FA bs).map PV.str) 0],[]⟩) (λj=>j<=runs.length) (λj=>runs.length-j) 0 rfl (Nat.zero_le _) ?_
  intro j hj;rcases Nat.lt_or_ge j runs.length with jlt|jge
  ·have jc:(j:Int)<(runs.length:Int):=by omega
   have hg:=sB RanQ.pv jlt
   have hl:(runs.map RanQ.pv).length=runs.length:=List.length_map ..
   have cx:NA (some 6) 0 (RanQ.pv runs[j])=some (RanQ.pv runs[j]):=rfl
   have fp:∀r:RanQ,RanQ.pv r = .agg [.str r.board,.str r.site,.str r.step,eI r.frm,eI r.til,.bool r.pass]:=λ_=>rfl
   have wj:IntKind.i64.wrap ((j:Int)+1)=((j+1:Nat):Int):=rA _ (by omega) (by omega)
   have fs:fIx (isR step nm) runs (j+1)=if fIx (isR step nm) runs j<0/\isR step nm runs[j]=true then(j:Int) else fIx (isR step nm) runs j:=by rw[fIx,List.getElem?_eq_getElem jlt]
   generalize runs[j]=r at *;generalize fIx (isR step nm) runs j=F at *;have f0:h.length+2+1<=h.length+(6+(l.length+2)):=by omega
   have f1:h.length+(6+l.length)+1<=h.length+(6+(l.length+2)):=by omega
   have f2:h.length+(6+(l.length+1))+1<=h.length+(6+(l.length+2)):=by omega
   have f5:h.length+5+1<=h.length+(6+(l.length+2)):=by omega
   by_cases e1:r.board=nm
   ·by_cases e2:r.step=step
    ·by_cases e3:0<=r.til
     ·by_cases e4:F<0
      ·rw[if_pos ⟨e4,by simp [isR,e1,e2,e3]⟩]at fs
       simp only[go_sem,hc,jc,jlt,hg,hl,cx,fp,splice,eq_true e1,eq_true e2,e3,e4,wj,f0,f1,f2,f5,List.length_cons,List.length_nil,Nat.zero_add,Nat.reduceAdd,List.take_succ_cons,List.take_zero];exact⟨j+1,by rw[fs],by omega,by omega⟩
      ·rw[if_neg (λh=>e4 h.1)]at fs
       simp only[go_sem,hc,jc,jlt,hg,hl,cx,fp,splice,eq_true e1,eq_true e2,e3,e4,wj,f0,f1,f2,f5,List.length_cons,List.length_nil,Nat.zero_add,Nat.reduceAdd,List.take_succ_cons,List.take_zero];exact⟨j+1,by rw[fs],by omega,by omega⟩
     ·rw[if_neg (by simp [isR,e3])]at fs
      simp only[go_sem,hc,jc,jlt,hg,hl,cx,fp,splice,eq_true e1,eq_true e2,e3,wj,f0,f1,f2,f5,List.length_cons,List.length_nil,Nat.zero_add,Nat.reduceAdd,List.take_succ_cons,List.take_zero];exact⟨j+1,by rw[fs],by omega,by omega⟩
    ·rw[if_neg (by simp [isR,e2])]at fs
     simp only[go_sem,hc,jc,jlt,hg,hl,cx,fp,splice,eq_true e1,e2,wj,f0,f1,f2,f5,List.length_cons,List.length_nil,Nat.zero_add,Nat.reduceAdd,List.take_succ_cons,List.take_zero];exact⟨j+1,by rw[fs],by omega,by omega⟩
   ·rw[if_neg (by simp [isR,e1])]at fs
    simp only[go_sem,hc,jc,jlt,hg,hl,cx,fp,splice,e1,wj,f0,f1,f2,f5,List.length_cons,List.length_nil,Nat.zero_add,Nat.reduceAdd,List.take_succ_cons,List.take_zero];exact⟨j+1,by rw[fs],by omega,by omega⟩
  ·have ej:j=runs.length:=by omega
   subst ej;have jc:¬(runs.length:Int)<(runs.length:Int):=by omega
   have f0:h.length+2+1<=h.length+(6+(l.length+2)):=by omega
   have f1:h.length+(6+l.length)+1<=h.length+(6+(l.length+2)):=by omega
   have f2:h.length+(6+(l.length+1))+1<=h.length+(6+(l.length+2)):=by omega
   have f5:h.length+5+1<=h.length+(6+(l.length+2)):=by omega
   have hl:(runs.map RanQ.pv).length=runs.length:=List.length_map ..
   rcases zo7 step nm runs with⟨x1,x2⟩|⟨i,hi,x1,x2⟩
   ·rw[x2]at ps
    dsimp only at ps;rw[x1];simp only[go_sem,jc,Nat.lt_irrefl,wk,f0,f1,f2,f5,List.length_cons,List.length_nil,Nat.zero_add,Nat.reduceAdd,List.take_succ_cons,List.take_zero];exact⟨k+1,by rw[ps];rfl,by omega,by omega⟩
   ·rw[x2]at ps
    dsimp only at ps;rw[x1];have hg:=sB RanQ.pv hi
    have fp:∀r:RanQ,RanQ.pv r = .agg [.str r.board,.str r.site,.str r.step,eI r.frm,eI r.til,.bool r.pass]:=λ_=>rfl
    have c0:(0:Int)<=(i:Int):=by omega
    have ci:(i:Int)<(runs.length:Int):=by omega
    generalize runs[i]=r at *;cases hp:r.pass with
    | true=>
     rw[hp]at ps;simp only[go_sem,jc,Nat.lt_irrefl,hi,ci,c0,hg,hl,fp,hp,wa,wg,wk,f0,f1,f2,f5,List.length_cons,List.length_nil,Nat.zero_add,Nat.reduceAdd,List.take_succ_cons,List.take_zero];exact⟨k+1,by rw[ps];rfl,by omega,by omega⟩
    | false=>
     rw[hp]at ps;simp only[go_sem,jc,Nat.lt_irrefl,hi,ci,c0,hg,hl,fp,hp,wa,wg,wk,f0,f1,f2,f5,List.length_cons,List.length_nil,Nat.zero_add,Nat.reduceAdd,List.take_succ_cons,List.take_zero];exact⟨k+1,by rw[ps];rfl,by omega,by omega⟩
 ·have ek:k=bs.length:=by omega
  subst ek;have c0:¬(bs.length:Int)<(bs.length:Int):=by omega
  rw[<-nl,List.take_length]at pbd;rw[show(FA bs).take bs.length=FA bs by rw[<-nl,List.take_length]]
  generalize BC step (FA bs) runs=p at *;obtain⟨ga,al⟩:=p;dsimp only at pbd;unfold PF;dsimp only;have f1:h.length+(6+l.length)+1<=h.length+(6+(l.length+2)):=by omega
  by_cases ha:al=0
  ·subst ha
   simp only[go_sem,c0,Nat.lt_irrefl,splice,f1,List.length_cons,List.length_nil,Nat.zero_add,Nat.reduceAdd]
  ·have ha2:¬((al:Int)=0):=by omega
   rw[if_neg ha];have qf:=λh K=>ztk (h:=h) (K:=K) (ga:Int) (al:Int) (by omega) (by omega)
   simp only[go_sem,c0,Nat.lt_irrefl,splice,ha2,↓qf,qf,f1,List.length_cons,List.length_nil,Nat.zero_add,Nat.reduceAdd]
end
section
variable {h:aA} {K:jA}
attribute [-go_sem] TA UA ZA CB ZB WB splice
attribute [local go_sem] List.getElem?_cons_zero List.getElem?_cons_succ List.set_cons_zero List.set_cons_succ
attribute [local go_sem] BJ mE RC rF tF uF OE PE vF wF xF yF ZG aH DI CG AJ CI
variable {steps:List Nm} {tries:Int} {l:List Ent} {at_:Int}
theorem z8k (I:QIn steps tries l at_):(yB steps tries (upL l at_)).w.runs.length<=1000:=by
 have Q:=MQ tries I.h0 I.w (PD l at_).length (PD l at_) rfl (λi hi=>Nat.lt_of_lt_of_le (HM hi) (rI l at_))
 rw[z4W]at Q;have h1:=Q.ok.rl
 have h2:(PD l at_).length<=l.length:=by
  unfold PD;refine Nat.le_trans (List.length_filter_le _ _) ?_;rw[List.length_range];exact Nat.le_refl _
 have:=I.ll;omega
section
variable {a0 o o0 o1 o2 o3 o4 o5:Obj} {r:aA}
theorem z9g:(QL (h++[a0,o]) o0 o1 o2 o3 o4 o5 [] r).set (h.length+1)=λz=>QL (h++[a0,z]) o0 o1 o2 o3 o4 o5 [] r:=by
 funext z
 unfold QL QH;rw[List.set_append_left _ _ (by simp),List.set_append_right _ _ (by omega)]
 simp
theorem tP:(QL (h++[a0,o]) o0 o1 o2 o3 o4 o5 [] r)[h.length+1]?=some o:=by
 rw[FZ (by simp),List.getElem?_append_right (by omega)]
 simp
theorem zf2:(QL (h++[a0,o]) o0 o1 o2 o3 o4 o5 [] r)[h.length]?=some a0:=by
 rw[FZ (by simp),List.getElem?_append_right (by omega)]
 simp
end
theorem zsG (I:QIn steps tries l at_)(step:Nm):gA X eK [gB steps tries,EA l,AS step,AI at_] h K =
 K (.tup [.p (.agg [eI (PF (BC step (FA (yB steps tries (upL l at_)).w.bs) (yB steps tries (upL l at_)).w.runs)).1.1,eI (PF (BC step (FA (yB steps tries (upL l at_)).w.bs) (yB steps tries (upL l at_)).w.runs)).1.2]),AI (PF (BC step (FA (yB steps tries (upL l at_)).w.bs) (yB steps tries (upL l at_)).w.runs)).2]) h []:=by
 refine sA ?_;rw[zhj rfl];have RE:=λh K=>ZR (h:=h) (K:=K) steps tries I.st I.h0 l I.ll I.w I.s at_
 have hrl:=z8k I
 have hnd:=I.nd
 have hbl:=I.bl
 simp only[CJ]at RE;generalize yB steps tries (upL l at_)=q at *;obtain⟨⟨bs,runs⟩,ref,why⟩:=q;dsimp only at RE hrl hnd hbl ⊢;have RE1:=λK=>RE (h++[Obj.box [OA steps,AI tries],.box [AI 0,AI 0]]) K
 have gl:(h++[Obj.box [OA steps,AI tries],.box [AI 0,AI 0]]).length=h.length+2:=by simp
 have PO:=λK=>zdT (h:=h++[Obj.box [OA steps,AI tries],.box [AI 0,AI 0]]) (K:=K) (flB steps tries) (.row none (ref.map RG) 0) (.row none (why.map eI) 0) bs hnd hbl runs hrl steps tries ref.length why.length [] step
 rw[gl]at RE1 PO;generalize PF (BC step (FA bs) runs)=p at *;obtain⟨⟨p1,p2⟩,p3⟩:=p;dsimp only at PO ⊢;simp only[wU,go_sem,↓RE1,RE1,↓PO,PO,z9g,tP,splice];exact iL
def JO (steps:List Nm)(q:AllQ):(Int×Int)×Int:=FO (yD (FA q.w.bs) q.w.runs steps)
theorem zsK (I:QIn steps tries l at_)(hs4:steps.length<=4)(h4:∀ s,(BC s (FA (yB steps tries (upL l at_)).w.bs) (yB steps tries (upL l at_)).w.runs).2<=4):gA X VI [gB steps tries,EA l,AI at_] h K =
 K (.tup [.p (.agg [eI (JO steps (yB steps tries (upL l at_))).1.1,eI (JO steps (yB steps tries (upL l at_))).1.2]),AI (JO steps (yB steps tries (upL l at_))).2]) h []:=by
 refine sA ?_;rw[zhk rfl];have RE:=λh K=>ZR (h:=h) (K:=K) steps tries I.st I.h0 l I.ll I.w I.s at_
 have hrl:=z8k I
 have hnd:=I.nd
 have hbl:=I.bl
 simp only[CJ]at RE;unfold JO;generalize yB steps tries (upL l at_)=q at *;obtain⟨⟨bs,runs⟩,ref,why⟩:=q;dsimp only at RE hrl hnd hbl h4 ⊢;obtain⟨g,hg⟩:∃g,h++[Obj.box [OA steps,AI tries],.box [AI 0,AI 0]]=g:=⟨_,rfl⟩;have gl:g.length=h.length+2:=by rw[<-hg];simp
 have RE2:=λ(K:jA)=>(congrArg (λz=>gA X HF [gB steps tries,EA l,AI at_] z K) hg).trans (RE g K)
 have PO:=λ(o3 o4:Obj) (b c:Nat) (r:aA) s K=>zdT (h:=g) (K:=K) (flB steps tries) o3 o4 bs hnd hbl runs hrl steps tries b c r s
 have sh:∀(o0 o1 o2 o3 o4 o5:Obj) (r:aA),QL g o0 o1 o2 o3 o4 o5 r []=QL g o0 o1 o2 o3 o4 o5 [] r:=λo0 o1 o2 o3 o4 o5 r=>by unfold QL;simp
 simp only[sh]at PO;have sp:∀(o0 o1 o2 o3 o4 o5:Obj) (r:aA) (o:Obj),(QL g o0 o1 o2 o3 o4 o5 [] r).set (h.length+1) o=QL (h++[.box [OA steps,AI tries],o]) o0 o1 o2 o3 o4 o5 [] r:=λo0 o1 o2 o3 o4 o5 r o=>by rw[<-hg,z9g]
 have gp:∀(o0 o1 o2 o3 o4 o5:Obj) (r:aA),(QL g o0 o1 o2 o3 o4 o5 [] r)[h.length+1]?=some (.box [AI 0,AI 0]):=λo0 o1 o2 o3 o4 o5 r=>by rw[<-hg,tP]
 have gp0:∀(o0 o1 o2 o3 o4 o5:Obj) (r:aA),(QL g o0 o1 o2 o3 o4 o5 [] r)[h.length]?=some (.box [OA steps,AI tries]):=λo0 o1 o2 o3 o4 o5 r=>by rw[<-hg,zf2]
 have tkP:∀(z o0 o1 o2 o3 o4 o5:Obj) (r:aA),(QL (h++[.box [OA steps,AI tries],z]) o0 o1 o2 o3 o4 o5 [] r).take (g.length+7)=QL (h++[.box [OA steps,AI tries],z]) o0 o1 o2 o3 o4 o5 [] (r.take 1):=λz o0 o1 o2 o3 o4 o5 r=>by
  have e:g.length=(h++[Obj.box [OA steps,AI tries],z]).length:=by rw[gl];simp
  rw[e];exact CI
 have f3:h.length<=g.length+5:=by omega
 have f0:h.length+1+1<=g.length+7:=by omega
 have f1:g.length+5+1<=g.length+7:=by omega
 have f2:g.length+6+1<=g.length+7:=by omega
 simp only[xU,go_sem,↓RE2,RE2,gp0,List.length_nil,List.length_cons,Nat.zero_add,Nat.add_zero,Nat.reduceAdd,List.nil_append];generalize hN:FA bs=N at *;refine DA (λk:Nat=>⟨[(6,.ref (h.length+1) 0),(8,.ref (g.length+5) 0),(9,.own (g.length+6) k 0 k),(19,OA steps),(20,AI steps.length),(21,AI k)],
  QL g (flB steps tries) (lA PV.str kB bs) (.row (some 6) (runs.map RanQ.pv) 0) (.row none (ref.map RG) 0) (.row none (why.map eI) 0) (qbx g steps tries runs.length ref.length why.length) [] [.row (some 2) (((yD N runs (steps.take k)).map LC).map frP) 0],[]⟩)
  (λk=>k<=steps.length/\∀s∈steps.take k,(BC s N runs).2≠0) (λk=>steps.length-k) 0 rfl ⟨Nat.zero_le _,by simp⟩ ?_
 rintro k ⟨hk,hz⟩
 have hst:=I.st
 rcases Nat.lt_or_ge k steps.length with hlt|hge
 ·have hgr:=sB PV.str hlt
  have cw:∀v:List UInt8,NA none 0 (PV.str v)=some (PV.str v):=λ_=>rfl
  have wk:IntKind.i64.wrap ((k:Int)+1)=((k+1:Nat):Int):=rA _ (by omega) (by omega)
  have pn:yD N runs (steps.take (k+1))=yD N runs (steps.take k)++[BC steps[k] N runs]:=by
   rw[List.take_succ_eq_append_getElem hlt];unfold yD;rw[List.map_append];rfl
  have hm:steps[k]∈steps:=List.getElem_mem hlt
  have htk:=List.take_succ_eq_append_getElem hlt
  have pll:(((yD N runs (steps.take k)).map LC).map frP).length=k:=by unfold yD;simp;omega
  have m1:k+1<=bB:=by unfold bB;omega
  generalize hs:steps[k]=s at *;have PO2:=λ(o3 o4:Obj) (b c:Nat) (r:aA) K=>PO o3 o4 b c r s K
  generalize hp:BC s N runs=p at *;obtain⟨a,b⟩:=p;by_cases hb:b=0
  ·subst hb
   have ha:(yD N runs steps).any (λt=>t.2==0)=true:=List.any_eq_true.2 ⟨(a,0),by unfold yD;exact List.mem_map.2 ⟨s,hm,hp⟩,rfl⟩
   have er:FO (yD N runs steps)=((0,0),8):=by unfold FO;rw[if_pos ha]
   have ep:PF (a,0)=((0,0),8):=rfl
   rw[er];rw[ep]at PO2;dsimp only at PO2 ⊢;simp only[go_sem,hlt,hgr,cw,↓PO2,PO2,sp,gp,splice,f3,tkP,tP,List.length_nil,List.length_cons,Nat.zero_add,Nat.add_zero,Nat.reduceAdd,List.nil_append,List.cons_append];exact iL
  ·have ep:PF (a,b)=((((LC (a,b)).1:Int),((LC (a,b)).2:Int)),0):=by unfold PF;rw[if_neg hb,zqT]
   rw[ep]at PO2;dsimp only at PO2;simp only[go_sem,hlt,hgr,cw,↓PO2,PO2,splice,pll,m1,wk,f0,f1,f2,List.length_nil,List.length_cons,Nat.zero_add,Nat.add_zero,Nat.reduceAdd,List.nil_append,List.cons_append,List.take_succ_cons,List.take_zero];refine⟨k+1,?_,⟨by omega,λx hx=>?_⟩,by omega⟩
   ·rw[pn,List.map_append,List.map_append];rfl
   ·rw[htk]at hx
    rcases List.mem_append.1 hx with e|e
    ·exact hz x e
    ·rw[List.mem_singleton]at e;subst e;rw[hp];exact hb
 ·have ek:k=steps.length:=by omega
  subst ek;rw[List.take_length]at hz;rw[List.take_length];have hP:∀t∈yD N runs steps,gC t/\t.2<=4:=λt ht=>by
   obtain⟨s,hs,rfl⟩:=List.mem_map.1 ht;have a:=h4 s
   have b:=hz s hs
   have c:=(zcW s N runs).1
   unfold gC;omega
  have ok:∀t∈(yD N runs steps).map LC,gC t:=λt ht=>by
   obtain⟨y,hy,rfl⟩:=List.mem_map.1 ht;exact zqW (hP y hy).1
  have sm:Sml ((yD N runs steps).map LC):=ztR (.inr ⟨by unfold yD;rw[List.length_map];exact hs4,λt ht=>(hP t ht).2⟩)
  have ha:(yD N runs steps).any (λt=>t.2==0)=false:=by
   rw[Bool.eq_false_iff];intro e;obtain⟨t,ht,e2⟩:=List.any_eq_true.1 e;obtain⟨s,hs,rfl⟩:=List.mem_map.1 ht;exact hz s hs (by simpa using e2)
  unfold FO;rw[if_neg (by simp [ha])]
  have ppl:((yD N runs steps).map LC).length=steps.length:=by unfold yD;rw[List.length_map,List.length_map]
  generalize (yD N runs steps).map LC=P at *;have PR:=λ(o0 o1 o2 o3 o4 o5:Obj) K=>zti (h:=QL g o0 o1 o2 o3 o4 o5 [] [.row (some 2) (P.map frP) 0]) (K:=K) 2000 (by omega) P ok sm (id:=g.length+6) ZG
  have fz:∀(o0 o1 o2 o3 o4 o5:Obj),frz (QL g o0 o1 o2 o3 o4 o5 [] [.row (some 2) (P.map frP) 0]) (g.length+6) P.length=QL g o0 o1 o2 o3 o4 o5 [] [.row (some 2) (P.map frP) P.length]:=λo0 o1 o2 o3 o4 o5=>by
   unfold frz;rw[ZG];simp only[List.getElem?_cons_zero];rw[DI];simp
  simp only[fz]at PR;simp only[ppl]at PR;generalize QF P=r at *;obtain⟨r1,r2⟩:=r;dsimp only at PR ⊢;have i2:((2000:Nat):Int)=2000:=rfl
  simp only[i2]at PR;simp only[go_sem,Nat.lt_irrefl,↓PR,PR,sp,gp,splice,f0,f2,f3,tkP,tP,List.length_nil,List.length_cons,Nat.zero_add,Nat.add_zero,Nat.reduceAdd,List.nil_append,List.cons_append,List.take_succ_cons,List.take_zero];first|exact iL|trace_state
end
section
variable {h:aA} {K:jA}
attribute [-go_sem] TA UA ZA CB ZB WB splice
attribute [local go_sem] List.getElem?_cons_zero List.getElem?_cons_succ List.set_cons_zero List.set_cons_succ
attribute [local go_sem] BJ mE RC rF tF uF OE PE vF wF xF yF ZG aH DI CG AJ CI
variable {steps:List Nm} {tries:Int} {l:List Ent} {at_:Int}
theorem zu8 (I:QIn steps tries l at_):[]∉QB (yB steps tries (upL l at_)).w.bs:=by
 have Q:=MQ tries I.h0 I.w (PD l at_).length (PD l at_) rfl (λi hi=>Nat.lt_of_lt_of_le (HM hi) (rI l at_))
 rw[z4W]at Q;exact Q.ok.ne
def sR (bs:List (Nm × Sta)):Nm×Int×Bool:=YC bs (FA bs)
theorem zsE (I:QIn steps tries l at_):gA X UI [gB steps tries,EA l,AI at_] h K =
 K (.tup [AS (sR (yB steps tries (upL l at_)).w.bs).1,AI (sR (yB steps tries (upL l at_)).w.bs).2.1,AB (sR (yB steps tries (upL l at_)).w.bs).2.2]) h []:=by
 refine sA ?_;rw[zhi rfl];have RE:=λh K=>ZR (h:=h) (K:=K) steps tries I.st I.h0 l I.ll I.w I.s at_
 have hnd:=I.nd
 have hbl:=I.bl
 have hne:=zu8 I
 simp only[CJ]at RE;unfold sR;generalize yB steps tries (upL l at_)=q at *;obtain⟨⟨bs,runs⟩,ref,why⟩:=q;dsimp only at RE hnd hbl hne ⊢;obtain⟨g,hg⟩:∃g,h++[Obj.box [OA steps,AI tries]]=g:=⟨_,rfl⟩;have gl:g.length=h.length+1:=by rw[<-hg];simp
 have RE2:=λ(K:jA)=>(congrArg (λz=>gA X HF [gB steps tries,EA l,AI at_] z K) hg).trans (RE g K)
 have NM:=λ(fb o2 o3 o4:Obj) (a b c:Nat) K=>z8a (h:=g) (K:=K) fb o2 o3 o4 bs hnd hbl steps tries a b c []
 simp only[z9e (l:=[_]),List.length_nil,Nat.add_zero]at NM;have nl:=iW bs
 have hne2:[]∉FA bs:=λe=>hne (by unfold FA at e;rwa [OG]at e)
 simp only[vU,go_sem,↓RE2,RE2,List.length_nil,List.length_cons,Nat.zero_add,Nat.add_zero,Nat.reduceAdd,List.nil_append,↓NM,NM];refine DA (λk:Nat=>⟨[(9,.ref (g.length+5) 0),(10,AS (YC bs ((FA bs).take k)).1),(11,AI (YC bs ((FA bs).take k)).2.1),(20,.own (g.length+6) bs.length 0 bs.length),(21,AI bs.length),(22,AI k)],
  QL g (flB steps tries) (lA PV.str kB bs) (.row (some 6) (runs.map RanQ.pv) 0) (.row none (ref.map RG) 0) (.row none (why.map eI) 0) (qbx g steps tries runs.length ref.length why.length) [] [.row none ((FA bs).map PV.str) 0],[]⟩) (λk=>k<=bs.length) (λk=>bs.length-k) 0 rfl (Nat.zero_le _) ?_
 intro k hk;have ois:(YC bs ((FA bs).take k)).2.2=false↔(YC bs ((FA bs).take k)).1=[]:=by
  rw[zrz bs ((FA bs).take k) (λe=>hne2 (List.mem_of_mem_take e))]
  simp
 rcases Nat.lt_or_ge k bs.length with hlt|hge
 ·have hc:(k:Int)<(bs.length:Int):=by omega
  have hkn:k<(FA bs).length:=by omega
  have gn:=sB PV.str hkn
  have cw:∀v:List UInt8,NA none 0 (PV.str v)=some (PV.str v):=λ_=>rfl
  have wk:IntKind.i64.wrap ((k:Int)+1)=((k+1:Nat):Int):=rA _ (by omega) (by omega)
  have nml:((FA bs).map PV.str).length=bs.length:=by rw[List.length_map,nl]
  have lk:=λ(o0 o2 o3 o4 o5:Obj) (r:aA)=>XQ (H:=QL g o0 (lA PV.str kB bs) o2 o3 o4 o5 [] r) RC (FA bs)[k]
  have os:YC bs ((FA bs).take (k+1))=KK bs (YC bs ((FA bs).take k)) (FA bs)[k]:=by rw[List.take_succ_eq_append_getElem hkn,z5C]
  unfold KK at os;generalize (FA bs)[k]=nm at *;generalize YC bs ((FA bs).take k)=a at *;obtain⟨a1,a2,a3⟩:=a;generalize zB bs nm=s at *;obtain⟨s1,s2,s3,s4,s5⟩:=s;unfold Sta.pv at lk;dsimp only at lk os ois;have f6:g.length+6+1<=g.length+7:=by omega
  have f5:g.length+5+1<=g.length+7:=by omega
  by_cases c4:s1=4
  ·rw[if_neg (by simp [c4])]at os
   simp only[go_sem,hc,hlt,gn,cw,nml,lk,splice,wk,eq_true c4,f5,f6,List.nil_append,List.cons_append,List.length_cons,List.length_nil,Nat.zero_add,Nat.add_zero,Nat.reduceAdd,List.take_succ_cons,List.take_zero];exact⟨k+1,by rw[os],by omega,by omega⟩
  by_cases c5:s1=5
  ·rw[if_neg (by simp [c5])]at os
   simp only[go_sem,hc,hlt,gn,cw,nml,lk,splice,wk,eq_true c5,c4,f5,f6,List.nil_append,List.cons_append,List.length_cons,List.length_nil,Nat.zero_add,Nat.add_zero,Nat.reduceAdd,List.take_succ_cons,List.take_zero];exact⟨k+1,by rw[os],by omega,by omega⟩
  by_cases ce:a1=[]
  ·rw[if_pos ⟨c4,c5,.inl (ois.2 ce)⟩]at os
   simp only[go_sem,hc,hlt,gn,cw,nml,lk,splice,wk,eq_true ce,c4,c5,f5,f6,List.nil_append,List.cons_append,List.length_cons,List.length_nil,Nat.zero_add,Nat.add_zero,Nat.reduceAdd,List.take_succ_cons,List.take_zero];exact⟨k+1,by rw[os],by omega,by omega⟩
  ·by_cases cs:s2<a2
   ·rw[if_pos ⟨c4,c5,.inr cs⟩]at os
    simp only[go_sem,hc,hlt,gn,cw,nml,lk,splice,wk,ce,cs,c4,c5,f5,f6,List.nil_append,List.cons_append,List.length_cons,List.length_nil,Nat.zero_add,Nat.add_zero,Nat.reduceAdd,List.take_succ_cons,List.take_zero];exact⟨k+1,by rw[os],by omega,by omega⟩
   ·rw[if_neg (λh=>h.2.2.elim (λe=>ce (ois.1 e)) cs)]at os
    simp only[go_sem,hc,hlt,gn,cw,nml,lk,splice,wk,ce,cs,c4,c5,f5,f6,List.nil_append,List.cons_append,List.length_cons,List.length_nil,Nat.zero_add,Nat.add_zero,Nat.reduceAdd,List.take_succ_cons,List.take_zero];exact⟨k+1,by rw[os],by omega,by omega⟩
 ·have ek:k=bs.length:=by omega
  subst ek;have c0:¬(bs.length:Int)<(bs.length:Int):=by omega
  rw[show(FA bs).take bs.length=FA bs by rw[<-nl,List.take_length]]at ois ⊢
  generalize YC bs (FA bs)=a at *;obtain⟨a1,a2,a3⟩:=a;dsimp only at ois;have qb:∀(o0 o1 o2 o3 o4 o5:Obj) (r:aA),(QL g o0 o1 o2 o3 o4 o5 [] r).take h.length=h:=λo0 o1 o2 o3 o4 o5 r=>by rw[<-hg];exact iL
  by_cases ce:a1=[]
  ·have a3f:=ois.2 ce
   subst a3f ce;simp only[go_sem,c0,qb]
  ·have a3t:a3=true:=by cases a3 with
    | true=>rfl
    | false=>exact absurd (ois.1 rfl) ce
   subst a3t;simp only[go_sem,c0,ce,qb]
end
section
variable {h:aA} {K:jA}
attribute [-go_sem] TA UA ZA CB ZB WB splice
attribute [local go_sem] List.getElem?_cons_zero List.getElem?_cons_succ List.set_cons_zero List.set_cons_succ
attribute [local go_sem] BJ mE RC rF tF uF OE PE vF wF xF yF ZG aH DI CG AJ CI
variable {steps:List Nm} {tries:Int} {l:List Ent} {at_:Int}
theorem zsC (I:QIn steps tries l at_):gA X SI [gB steps tries,EA l,AI at_] h K =
 K (IE (aE (jE (yB steps tries (upL l at_)).w.bs) steps)) h []:=by
 refine sA ?_;rw[zhh rfl];have WA:=λ(h:aA) (step:Nm) K=>zsP (h:=h) (K:=K) steps tries l at_ I step
 have hst:=I.st
 generalize (yB steps tries (upL l at_)).w.bs=bs at *;simp only[uU,go_sem];refine DA (λk:Nat=>⟨[(1,EA l),(2,AI at_),(3,.ref h.length 0),(7,.own (h.length+1) (aE (jE bs) (steps.take k)).length 0 (aE (jE bs) (steps.take k)).length),(12,OA steps),(13,AI steps.length),(14,AI k)],h++[.box [OA steps,AI tries],.row (some 2) ((aE (jE bs) (steps.take k)).map OK) 0],[]⟩)
  (λk=>k<=steps.length) (λk=>steps.length-k) 0 rfl (Nat.zero_le _) ?_
 intro k hk;rcases Nat.lt_or_ge k steps.length with hlt|hge
 ·have hgr:=sB PV.str hlt
  have cw:∀v:List UInt8,NA none 0 (PV.str v)=some (PV.str v):=λ_=>rfl
  have wk:IntKind.i64.wrap ((k:Int)+1)=((k+1:Nat):Int):=rA _ (by omega) (by omega)
  have pn:=zcH (jE bs) (steps.take k) steps[k]
  rw[<-List.take_succ_eq_append_getElem hlt]at pn;have pl:=z59 (jE bs) (steps.take k)
  rw[List.length_take]at pl;generalize steps[k]=s at *;have W2:=λh K=>WA h s K
  generalize aE (jE bs) (steps.take k)=P at *;have m1:P.length+1<=bB:=by unfold bB;omega
  have pll:(P.map OK).length=P.length:=List.length_map ..
  generalize jE bs s=w at *;cases w with
  | nil=>
   dsimp only at pn;rw[List.append_nil]at pn;simp only[go_sem,hlt,hgr,cw,↓W2,W2,splice,wk,List.map_nil];exact⟨k+1,by rw[pn],by omega,by omega⟩
  | cons a r=>
   dsimp only at pn;have c0:(0:Int)<((a::r).length:Int):=by simp
   have g0:((a::r).map PV.str)[0]?=some (.str a):=rfl
   have c1:0<(a::r).length:=by simp
   generalize hw:a::r=w at *;simp only[go_sem,hlt,hgr,cw,↓W2,W2,c0,c1,g0,splice,pll,m1,wk];refine⟨k+1,?_,by omega,by omega⟩
   rw[pn,List.map_append,List.length_append];rfl
 ·have ek:k=steps.length:=by omega
  subst ek;rw[List.take_length];generalize aE (jE bs) steps=P;simp only[go_sem,Nat.lt_irrefl];rw[WG (by simp)]
theorem zsR (a b:Int):gA X jM [.p (.agg [eI a,eI b])] h K=K (AI (if(inB 0 a b&&decide (b<=345686400000))=true then 0 else 1)) h []:=by
 refine sA ?_;rw[zhp rfl];have q:=λh K=>UO (h:=h) (K:=K) a 0 b
 have e:inB 0 a b=(decide (0<=a)&&decide (a<=b)):=rfl
 rw[e];by_cases c1:0<=a
 ·by_cases c2:a<=b
  ·by_cases c3:b<=345686400000
   ·have c4:¬345686400000<b:=by omega
    simp only[RJ,go_sem,↓q,q,c1,c2,c3,c4,splice];first|done|simp|trace_state
   ·have c4:345686400000<b:=by omega
    simp only[RJ,go_sem,↓q,q,c1,c2,c3,c4,splice];first|done|simp|trace_state
  ·simp only[RJ,go_sem,↓q,q,c1,c2,splice]
   first|done|simp|trace_state
 ·simp only[RJ,go_sem,↓q,q,c1,splice]
  first|done|simp|trace_state
theorem zsy {at_ a b:Int}(eb:at_=b-1)(I:QIn steps tries l at_)(site:Nm)(ha:0<=a)(hab:a<=b)(hb:b<=345686400000)
 (hr:∀r∈(yB steps tries (upL l at_)).w.runs,(0<=r.frm/\r.frm<=1000000000000)/\r.til<=1000000000000) :
 gA X UH [gB steps tries,EA l,AS site,.p (.agg [eI a,eI b])] h K=K (AI (NC a b (ofS site ((yB steps tries (upL l at_)).w.runs.map RanQ.run)))) h []:=by
 refine sA ?_;rw[zgX rfl];have w1:IntKind.i64.wrap (b-1)=b-1:=rA _ (by omega) (by omega)
 have RE:=λh K=>ZR (h:=h) (K:=K) steps tries I.st I.h0 l I.ll I.w I.s at_
 have hrl:=z8k I
 subst eb;simp only[CJ]at RE;generalize yB steps tries (upL l (b-1))=q at *;obtain⟨⟨bs,runs⟩,ref,why⟩:=q;dsimp only at RE hrl hr ⊢;obtain⟨g,hg⟩:∃g,h++[Obj.box [OA steps,AI tries],.box [AI a,AI b]]=g:=⟨_,rfl⟩;have gl:g.length=h.length+2:=by rw[<-hg];simp
 have RE2:=λ(K:jA)=>(congrArg (λz=>gA X HF [gB steps tries,EA l,AI (b-1)] z K) hg).trans (RE g K)
 have gp:∀(o0 o1 o2 o3 o4 o5:Obj) (r:aA),(QL g o0 o1 o2 o3 o4 o5 [] r)[h.length+1]?=some (.box [AI a,AI b]):=λo0 o1 o2 o3 o4 o5 r=>by rw[<-hg,tP]
 have qb:∀(o0 o1 o2 o3 o4 o5:Obj) (r:aA),(QL g o0 o1 o2 o3 o4 o5 [] r).take h.length=h:=λo0 o1 o2 o3 o4 o5 r=>by rw[<-hg];exact iL
 have f0:h.length+1+1<=g.length+6:=by omega
 have f1:g.length+2+1<=g.length+6:=by omega
 simp only[oU,go_sem,w1,↓RE2,RE2,List.length_nil,List.length_cons,Nat.zero_add,Nat.add_zero,Nat.reduceAdd,List.nil_append];refine DA (λk:Nat=>⟨[(2,AS site),(7,.ref (h.length+1) 0),(9,AI (NC a b (ofS site ((runs.map RanQ.run).take k)))),(21,.own (g.length+2) runs.length 0 runs.length),(22,AI runs.length),(23,AI k)],
  QL g (flB steps tries) (lA PV.str kB bs) (.row (some 6) (runs.map RanQ.pv) 0) (.row none (ref.map RG) 0) (.row none (why.map eI) 0) (qbx g steps tries runs.length ref.length why.length) [] [],[]⟩) (λk=>k<=runs.length) (λk=>runs.length-k) 0 rfl (Nat.zero_le _) ?_
 intro k hk;rcases Nat.lt_or_ge k runs.length with hlt|hge
 ·have hc:(k:Int)<(runs.length:Int):=by omega
  have wk:IntKind.i64.wrap ((k:Int)+1)=((k+1:Nat):Int):=rA _ (by omega) (by omega)
  have hg2:=sB RanQ.pv hlt
  have hl:(runs.map RanQ.pv).length=runs.length:=List.length_map ..
  have cx:NA (some 6) 0 (RanQ.pv runs[k])=some (RanQ.pv runs[k]):=rfl
  have fp:∀r:RanQ,RanQ.pv r = .agg [.str r.board,.str r.site,.str r.step,eI r.frm,eI r.til,.bool r.pass]:=λ_=>rfl
  have hrk:=hr _ (List.getElem_mem hlt)
  have os:=zcR (a:=a) (b:=b) (site:=site) (l:=runs.map RanQ.run) (k:=k) (by rw[List.length_map];exact hlt)
  rw[List.getElem_map]at os;have ob:NC a b (ofS site ((runs.map RanQ.run).take k))<=345686400000000:=by
   have h1:=z5F hab (ofS site ((runs.map RanQ.run).take k)) (λ_ _=>trivial)
   have h2:(ofS site ((runs.map RanQ.run).take k)).length<=1000:=Nat.le_trans (List.length_filter_le _ _) (by rw[List.length_take,List.length_map];omega)
   have h3:(b-a)*((ofS site ((runs.map RanQ.run).take k)).length:Int)<=345686400000*1000:=Int.mul_le_mul (by omega) (by omega) (by omega) (by omega)
   omega
  have ob0:=z5E a b (ofS site ((runs.map RanQ.run).take k))
  have on:RB a b (runs[k]).run<=345686400000:=by unfold RB;omega
  have on0:=z5D a b (runs[k]).run
  generalize runs[k]=r at *;have ers:r.run.site=r.site:=rfl
  have ert:r.run.til=r.til:=rfl
  have erf:r.run.frm=r.frm:=rfl
  rw[ers]at os;generalize NC a b (ofS site ((runs.map RanQ.run).take k))=acc at *;have w3:IntKind.i64.wrap (acc+RB a b r.run)=acc+RB a b r.run:=rA _ (by omega) (by omega)
  by_cases es:r.site=site
  ·rw[if_pos es]at os
   by_cases t0:r.til<0
   ·have w2:IntKind.i64.wrap (b-max r.frm a)=b-max r.frm a:=rA _ (by omega) (by omega)
    have ov:max 0 (b-max r.frm a)=RB a b r.run:=by unfold RB;rw[ert,erf,if_pos t0,Int.min_self]
    simp only[go_sem,hc,hlt,hg2,hl,cx,fp,gp,splice,wk,t0,eq_true es,Int.min_self,w2,ov,w3,f0,f1,List.length_nil,List.length_cons,Nat.zero_add,Nat.add_zero,Nat.reduceAdd,List.nil_append,List.take_succ_cons,List.take_zero];exact⟨k+1,by rw[os],by omega,by omega⟩
   ·have w2:IntKind.i64.wrap (min r.til b-max r.frm a)=min r.til b-max r.frm a:=rA _ (by omega) (by omega)
    have ov:max 0 (min r.til b-max r.frm a)=RB a b r.run:=by unfold RB;rw[ert,erf,if_neg t0]
    simp only[go_sem,hc,hlt,hg2,hl,cx,fp,gp,splice,wk,t0,eq_true es,w2,ov,w3,f0,f1,List.length_nil,List.length_cons,Nat.zero_add,Nat.add_zero,Nat.reduceAdd,List.nil_append,List.take_succ_cons,List.take_zero];exact⟨k+1,by rw[os],by omega,by omega⟩
  ·rw[if_neg es,Int.add_zero]at os
   simp only[go_sem,hc,hlt,hg2,hl,cx,fp,gp,splice,wk,es,f0,f1,List.length_nil,List.length_cons,Nat.zero_add,Nat.add_zero,Nat.reduceAdd,List.nil_append,List.take_succ_cons,List.take_zero];exact⟨k+1,by rw[os],by omega,by omega⟩
 ·have ek:k=runs.length:=by omega
  subst ek;have c0:¬(runs.length:Int)<(runs.length:Int):=by omega
  rw[show(runs.map RanQ.run).take runs.length=runs.map RanQ.run from List.take_of_length_le (by simp)]
  simp only[go_sem,c0,qb];first|done|trace_state
end
section
variable {h:aA} {K:jA}
attribute [-go_sem] TA UA ZA CB ZB WB splice
attribute [local go_sem] List.getElem?_cons_zero List.getElem?_cons_succ List.set_cons_zero List.set_cons_succ
attribute [local go_sem] BJ mE RC rF tF uF OE PE vF wF xF yF ZG aH DI CG AJ CI
variable {steps:List Nm} {tries:Int} {l:List Ent} {at_:Int}
theorem zo9 {P:Int->Prop}(steps:List Nm)(tries:Int){l:List Ent}(hl:∀ x∈l,P x.time)(is:List Nat):(∀i∈is,i<l.length)->∀e∈(UC steps tries l is XB).w.bs,P e.2.since:=by
 refine TV (P:=λis=>(∀i∈is,i<l.length)->∀e∈(UC steps tries l is XB).w.bs,P e.2.since) (λ_ e he=>by cases he) (λis i ih hi=>?_) is
 rw[NV];have h1:=ih λj hj=>hi j (List.mem_append_left _ hj)
 have hx:i<l.length:=hi i (by simp)
 have e:l.getD i vD=l[i]:=by rw[List.getD_eq_getElem?_getD,List.getElem?_eq_getElem hx];rfl
 rw[e];have h2:=za0 steps tries h1 (x:=l[i]) (hl _ (List.getElem_mem hx))
 unfold stQ;split <;> exact h2
theorem stQ_w (steps:List Nm)(tries:Int)(a:AllQ)(i:Nat)(x:Ent):(stQ steps tries a i x).w=(doQ steps tries a.w x).1:=by unfold stQ;split <;> rfl
theorem z9h (fb:Obj)(w:FlQ)(l:aA):QS h fb steps tries ⟨w,[],[]⟩ l=QL h fb (lA PV.str kB w.bs) (.row (some 6) (w.runs.map RanQ.pv) 0) (.row none [] 0) (.row none [] 0) (qbx h steps tries w.runs.length 0 0) [] l:=rfl
theorem zsO (I:QIn steps tries l at_)(step:Nm):gA X fK [gB steps tries,EA l,AS step,AI at_] h K=K (AL (fZ steps tries l step at_)) h []:=by
 refine sA ?_;rw[zhl rfl];have CE:=λh K=>zd9 (h:=h) (K:=K) l (by have:=I.ll;omega) I.s at_
 unfold fZ;have hix:(PD l at_).length<=l.length:=z5h l at_ l.length
 have hil:∀i∈PD l at_,i<l.length:=λi hi=>Nat.lt_of_lt_of_le (HM hi) (rI l at_)
 generalize PD l at_=is at *;have hll:=I.ll
 simp only[yU,go_sem,splice,↓CE,CE];refine DA (λk:Nat=>⟨[(1,EA l),(2,AS step),(9,.ref (h.length+5) 0),(10,.own (h.length+6) (VC steps tries step l (is.take k) XB).length 0 (VC steps tries step l (is.take k) XB).length),(21,AL (is.map λ(i:Nat)=>(i:Int))),(22,AI is.length),(23,AI k)],
  QS h (flB steps tries) steps tries ⟨(UC steps tries l (is.take k) XB).w,[],[]⟩ [.row none ((VC steps tries step l (is.take k) XB).map eI) 0],[]⟩) (λk=>k<=is.length) (λk=>is.length-k) 0 rfl (by omega) ?_
 intro k hk;rcases Nat.lt_or_ge k is.length with hlt|hge
 ·have hc:(k:Int)<(is.length:Int):=by omega
  have wk:IntKind.i64.wrap ((k:Int)+1)=((k+1:Nat):Int):=rA _ (by omega) (by omega)
  have hkl:k<(is.map λ(i:Nat)=>(i:Int)).length:=by rw[List.length_map];exact hlt
  have g:((is.map λ(i:Nat)=>(i:Int)).map eI)[k]?=some (eI (is[k]:Int)):=by rw[List.getElem?_map,List.getElem?_map,List.getElem?_eq_getElem hlt];rfl
  have hi:=hil _ (List.getElem_mem hlt)
  have hge:=sB Ent.pv hi
  have cx:=iH (x:=l[is[k]])
  have ew:=I.w _ (List.getElem_mem hi)
  have et:=I.t _ (List.getElem_mem hi)
  have Q:=MQ tries I.h0 I.w k (is.take k) (by rw[List.length_take];omega) λi hm=>hil i (List.mem_of_mem_take hm)
  have hsin:=zer (P:=λz=>-100000000000000000<=z/\z<=100000000000000000) (zo9 (P:=λz=>-100000000000000000<=z/\z<=100000000000000000) steps tries I.t (is.take k) λi hm=>hil i (List.mem_of_mem_take hm)) (by omega) l[is[k]].board
  have eg:l.getD is[k] vD=l[is[k]]:=by rw[List.getD_eq_getElem?_getD,List.getElem?_eq_getElem hi];rfl
  have eq:(UC steps tries l (is.take (k+1)) XB).w=(doQ steps tries (UC steps tries l (is.take k) XB).w l[is[k]]).1:=by
   rw[List.take_succ_eq_append_getElem hlt,NV,stQ_w,eg]
  have etm:VC steps tries step l (is.take (k+1)) XB=VC steps tries step l (is.take k) XB++tQ1 steps tries step (UC steps tries l (is.take k) XB).w l[is[k]]:=by
   rw[List.take_succ_eq_append_getElem hlt,zbw,eg]
  have tl:=zbv steps tries step l (is.take k) XB
  rw[List.length_take]at tl;unfold tQ1 at etm;have Qok:=Q.ok
  generalize (UC steps tries l (is.take k) XB).w=w at *;generalize VC steps tries step l (is.take k) XB=T at *;generalize l[is[k]]=e at *;generalize is[k]=i at *;have DO:=λ(r:aA) K=>s_do (h:=h) (K:=K) (flB steps tries) steps tries I.st I.h0 w [] [] k (by omega) Qok r e ew.k
  generalize doQ steps tries w e=R at *;obtain⟨w',c⟩:=R;dsimp only at eq etm DO;obtain⟨bs,runs⟩:=w;have lk:=λ(o0 o2 o3 o4 o5:Obj) (r:aA)=>XQ (H:=QL h o0 (lA PV.str kB bs) o2 o3 o4 o5 [] r) RC e.board
  dsimp only at hsin etm;generalize zB bs e.board=s at *;obtain⟨s1,s2,s3,s4,s5⟩:=s;obtain⟨site,no,time,kind,board,stp,of,other⟩:=e;unfold Sta.pv at lk;dsimp only at lk hsin etm et;simp only[z9h]at DO ⊢;have m1:T.length+1<=bB:=by unfold bB;omega
  have tml:(T.map eI).length=T.length:=List.length_map ..
  have w2:IntKind.i64.wrap (time-s2)=time-s2:=rA _ (by omega) (by omega)
  simp only[Ent.pv]at hge cx DO;have f5:h.length+5+1<=h.length+7:=by omega
  have f6:h.length+6+1<=h.length+7:=by omega
  have no:¬(kind=3∨kind=4)->VC steps tries step l (is.take (k+1)) XB=T:=λhh=>by rw[etm,if_neg (λz=>hh z.2.1),List.append_nil]
  have nc:¬c=0->VC steps tries step l (is.take (k+1)) XB=T:=λhh=>by rw[etm,if_neg (λz=>hh z.1),List.append_nil]
  have ns:¬s3=step->VC steps tries step l (is.take (k+1)) XB=T:=λhh=>by rw[etm,if_neg (λz=>hh z.2.2),List.append_nil]
  by_cases k3:kind=3
  ·by_cases hz:c=0
   ·by_cases hs:s3=step
    ·rw[if_pos ⟨hz,.inl k3,hs⟩]at etm
     simp only[go_sem,hc,hkl,List.length_map,g,hi,hge,cx,lk,splice,↓DO,DO,eq_true k3,eq_true hz,eq_true hs,w2,m1,tml,wk,f5,f6,List.length_nil,List.length_cons,Nat.zero_add,Nat.add_zero,Nat.reduceAdd,List.nil_append,List.cons_append,List.take_succ_cons,List.take_zero];exact⟨k+1,by rw[etm,eq,List.map_append,List.length_append];rfl,by omega,by omega⟩
    ·have e:=ns hs
     simp only[go_sem,hc,hkl,List.length_map,g,hi,hge,cx,lk,splice,↓DO,DO,eq_true k3,eq_true hz,hs,wk,f5,f6,List.length_nil,List.length_cons,Nat.zero_add,Nat.add_zero,Nat.reduceAdd,List.nil_append,List.cons_append,List.take_succ_cons,List.take_zero];exact⟨k+1,by rw[e,eq],by omega,by omega⟩
   ·have e:=nc hz
    simp only[go_sem,hc,hkl,List.length_map,g,hi,hge,cx,lk,splice,↓DO,DO,eq_true k3,hz,wk,f5,f6,List.length_nil,List.length_cons,Nat.zero_add,Nat.add_zero,Nat.reduceAdd,List.nil_append,List.cons_append,List.take_succ_cons,List.take_zero];exact⟨k+1,by rw[e,eq],by omega,by omega⟩
  ·by_cases k4:kind=4
   ·by_cases hz:c=0
    ·by_cases hs:s3=step
     ·rw[if_pos ⟨hz,.inr k4,hs⟩]at etm
      simp only[go_sem,hc,hkl,List.length_map,g,hi,hge,cx,lk,splice,↓DO,DO,eq_true k4,k3,eq_true hz,eq_true hs,w2,m1,tml,wk,f5,f6,List.length_nil,List.length_cons,Nat.zero_add,Nat.add_zero,Nat.reduceAdd,List.nil_append,List.cons_append,List.take_succ_cons,List.take_zero];exact⟨k+1,by rw[etm,eq,List.map_append,List.length_append];rfl,by omega,by omega⟩
     ·have e:=ns hs
      simp only[go_sem,hc,hkl,List.length_map,g,hi,hge,cx,lk,splice,↓DO,DO,eq_true k4,k3,eq_true hz,hs,wk,f5,f6,List.length_nil,List.length_cons,Nat.zero_add,Nat.add_zero,Nat.reduceAdd,List.nil_append,List.cons_append,List.take_succ_cons,List.take_zero];exact⟨k+1,by rw[e,eq],by omega,by omega⟩
    ·have e:=nc hz
     simp only[go_sem,hc,hkl,List.length_map,g,hi,hge,cx,lk,splice,↓DO,DO,eq_true k4,k3,hz,wk,f5,f6,List.length_nil,List.length_cons,Nat.zero_add,Nat.add_zero,Nat.reduceAdd,List.nil_append,List.cons_append,List.take_succ_cons,List.take_zero];exact⟨k+1,by rw[e,eq],by omega,by omega⟩
   ·have e:=no (by omega)
    by_cases hz:c=0
    ·simp only[go_sem,hc,hkl,List.length_map,g,hi,hge,cx,lk,splice,↓DO,DO,k4,k3,eq_true hz,wk,f5,f6,List.length_nil,List.length_cons,Nat.zero_add,Nat.add_zero,Nat.reduceAdd,List.nil_append,List.cons_append,List.take_succ_cons,List.take_zero]
     exact⟨k+1,by rw[e,eq],by omega,by omega⟩
    ·simp only[go_sem,hc,hkl,List.length_map,g,hi,hge,cx,lk,splice,↓DO,DO,k4,k3,hz,wk,f5,f6,List.length_nil,List.length_cons,Nat.zero_add,Nat.add_zero,Nat.reduceAdd,List.nil_append,List.cons_append,List.take_succ_cons,List.take_zero]
     exact⟨k+1,by rw[e,eq],by omega,by omega⟩
 ·have ek:k=is.length:=by omega
  subst ek;have c0:¬(is.length:Int)<(is.length:Int):=by omega
  rw[List.take_length];generalize VC steps tries step l is XB=T;generalize (UC steps tries l is XB).w=w;simp only[z9h];simp only[go_sem,c0];refine⟨by rw[WG (by simp)],?_⟩
  unfold QL QH;rw[List.take_left]
end
section
variable {h:aA} {K:jA} {L:List Int} {a:Int}
attribute [-go_sem] TA
theorem zs4 (l:List (Nm × Nm))(hl:l.length<=1000000):gA X oM [IE l,IE l] h K=K (AB true) h []:=by
 refine sA ?_;rw[zh9 rfl];simp only[SU,go_sem];refine DA (λk:Nat=>⟨[(0,IE l),(1,IE l),(12,AI l.length),(13,AI k)],h,[]⟩) (λk=>k<=l.length) (λk=>l.length-k) 0 rfl (by simp) ?_
 intro k hk;rcases Nat.lt_or_ge k l.length with hlt|hge
 ·have hg:(l.map OK)[k]?=some (.agg [.str (l[k]).1,.str (l[k]).2]):=sB OK hlt
  have w2:IntKind.i64.wrap ((k:Int)+1)=((k+1:Nat):Int):=rA _ (by omega) (by omega)
  have eq2:∀a b:Nm,TA [2,2] true (.p (.agg [.str a,.str b])) (.p (.agg [.str a,.str b]))=some (AB false):=λa b=>by simp [TA,eqs,PV.kind,PV.eq1,pbool]
  simp only[go_sem,hlt,hg,w2,eq2];exact⟨k+1,rfl,by omega,by omega⟩
 ·have e1:k=l.length:=by omega
  subst e1;simp only[go_sem,Nat.lt_irrefl]
attribute [-go_sem] z49
theorem zs6 (steps:List Nm)(tries:Int)(hl:steps.length<=1000)(hk:∀ s∈steps,s.length<=1000000):gA X kQ [gB steps tries] h K=K (AI (PC steps tries)) h []:=by
 refine sA ?_;rw[zhc rfl];unfold PC;by_cases h0:steps.length=0
 ·have h0':(steps.length:Int)=0:=by omega
  simp only[BL,go_sem,eq_true h0',h0]
 have h0':¬(steps.length:Int)=0:=by omega
 by_cases h1:(20:Int)<steps.length
 ·simp only[BL,go_sem,h0',h0,h1]
 simp only[BL,go_sem,h0',h0,h1];refine DA (λk:Nat=>⟨[(1,.ref h.length 0),(16,OA steps),(17,AI steps.length),(18,AI k)],h++[.box [OA steps,AI tries]],[]⟩) (λk=>k<=steps.length/\LG (steps.take k) (steps.drop k)=LG [] steps) (λk=>steps.length-k) 0 rfl ⟨by omega,rfl⟩ ?_
 rintro k ⟨hkl,hp⟩
 rcases Nat.lt_or_ge k steps.length with hlt|hge
 ·have hg:=sB PV.str hlt
  have cw:∀v:List UInt8,NA none 0 (PV.str v)=some (PV.str v):=λ_=>rfl
  have w2:IntKind.i64.wrap ((k:Int)+1)=((k+1:Nat):Int):=rA _ (by omega) (by omega)
  have ky:=λh K=>WO (h:=h) (K:=K) steps[k] (by have:=hk _ (List.getElem_mem hlt);omega)
  have ct:=λh K=>nS (h:=h) (K:=K) (steps.take k) (λh' _=>eP _) steps[k] (by simp;omega)
  have hw:win (steps.map PV.str) 0 k=(steps.take k).map PV.str:=by simp [win,List.map_take]
  have hk2:k<=steps.length:=by omega
  rw[List.drop_eq_getElem_cons hlt,LG]at hp;cases h2:oB steps[k]with
  | false=>
   rw[if_pos h2]at hp;simp only[go_sem,hlt,hg,cw,↓ky,ky,h2];rw[<-hp];first|done|rfl
  | true=>
   rw[if_neg (by simp [h2])]at hp
   cases h3:(steps.take k).contains steps[k]with
   | true=>
    rw[if_pos h3]at hp;rw[h3]at ct;simp only[go_sem,hlt,hg,cw,↓ky,ky,h2,hw,hk2,↓ct,ct];rw[<-hp];first|done|rfl
   | false=>
    rw[if_neg (by rw[h3];simp),<-List.take_succ_eq_append_getElem hlt]at hp
    rw[h3]at ct;simp only[go_sem,hlt,hg,cw,↓ky,ky,h2,hw,hk2,↓ct,ct,w2];exact⟨k+1,rfl,⟨by omega,hp⟩,by omega⟩
 ·have ek:k=steps.length:=by omega
  subst ek;rw[List.drop_length]at hp;have hz:LG [] steps=0:=by rw[<-hp];rfl
  rw[if_neg (by simp [hz])]
  simp only[go_sem,Nat.lt_irrefl];rw[z49];cases h4:inB 1 tries 10 with
  | false=>simp only[KP,go_sem,lG,h4];first|done|rfl
  | true=>simp only[KP,go_sem,lG,h4];first|done|rfl
theorem zdV (b:Bool)(e:Int):gA X YL [AB b,AI e] h K=K (AI (if b then e else 0)) h []:=by
 refine sA ?_;rw[zgN rfl];cases b <;> simp only[eU,go_sem]
theorem ztc (steps:List Nm)(tries:Int)(l:List Ent)(O:StOk steps l):gA X RI [gB steps tries,EA l] h K=K (AI (rC [PC steps tries,PB l])) h []:=by
 refine sA ?_;rw[zgK rfl];have q1:=λh K=>zs6 (h:=h) (K:=K) steps tries O.n O.k
 have q2:=λh K=>zs0 (h:=h) (K:=K) l O.e (by have:=O.l;omega)
 have q3:=λh K=>VY (h:=h) (K:=K) [PC steps tries,PB l] (by simp)
 simp only[AL,List.map_cons,List.map_nil]at q3;simp only[dU,go_sem,↓q1,q1,↓q2,q2,↓q3,q3]
theorem zth (s:Nm)(hl:s.length<=1000000000):gA X WL [AS s] h K=K (AI (if oB s=true then 0 else 5)) h []:=by
 refine sA ?_;rw[zgL rfl];have q1:=λh K=>WO (h:=h) (K:=K) s hl
 have q2:=λb h K=>zdV (h:=h) (K:=K) b 5
 cases hk:oB s with
 | true=>simp only[FP,go_sem,↓q1,q1,hk,↓q2,q2];first|done|rfl
 | false=>simp only[FP,go_sem,↓q1,q1,hk,↓q2,q2];first|done|rfl
theorem ztq (steps:List Nm)(tries:Int)(hl:steps.length<=1000)(s:Nm):gA X XL [gB steps tries,AS s] h K=K (AI (if steps.contains s=true then 0 else 8)) h []:=by
 refine sA ?_;rw[zgM rfl];have q1:=λh K=>nS (h:=h) (K:=K) steps (λh' _=>eP _) s (by omega)
 have q2:=λb h K=>zdV (h:=h) (K:=K) b 8
 cases hk:steps.contains s with
 | true=>rw[hk]at q1;simp only[HP,go_sem,↓q1,q1,↓q2,q2];first|done|rfl
 | false=>rw[hk]at q1;simp only[HP,go_sem,↓q1,q1,↓q2,q2];first|done|rfl
theorem zsA (n:Int):gA X eM [AI n] h K=K (AI (gJ n)) h []:=by
 refine sA ?_;rw[zhg rfl];unfold gJ;cases h1:KF n with
 | false=>simp only[LP,go_sem,tH,h1,Bool.false_eq_true]
 | true=>simp only[LP,go_sem,tH,h1]
theorem zs8 (n:Nat)(hn:n<=1048576):gA X KV [.sl0 none,AI n] h K=K (.own h.length 0 0 0) (h++[.row none [] 0]) []:=by
 refine z5x (X:=X) (by kernel_rfl) ?_
 show EK GRL PRL KV [.sl0 none,AI n] h=_
 exact zqK (by kernel_rfl) (by omega) (by omega)
def lsn (xs:List PV):PV:=.sl none xs
theorem zsz (ls:List (List PV))(hs:∀ l∈ls,VD none l)(hl:ls.length<=1000)(hn:ls.flatten.length<=1000000) :
 gA X tQ [.p (.sl none (ls.map lsn))] h K=K (.own h.length ls.flatten.length 0 ls.flatten.length) (h++[.row none ls.flatten 0]) []:=by
 refine sA ?_;rw[zh5 rfl];simp only[NU,go_sem];refine DA (λk:Nat=>⟨[(0,.p (.sl none (ls.map lsn))),(3,AI (ls.take k).flatten.length),(9,.p (.sl none (ls.map lsn))),(10,AI ls.length),(11,AI k)],h,[]⟩) (λk=>k<=ls.length) (λk=>ls.length-k) 0 rfl (by omega) ?_
 intro k hk;rcases Nat.lt_or_ge k ls.length with hlt|hge
 ·have g2:=sB lsn hlt
  have f1:=zbq hlt
  have f2:=z4S ls (k+1)
  have w2:IntKind.i64.wrap ((k:Int)+1)=((k+1:Nat):Int):=rA _ (by omega) (by omega)
  have w3:IntKind.i64.wrap (((ls.take k).flatten.length:Int)+(ls[k].length:Int))=((ls.take (k+1)).flatten.length:Int):=by
   rw[f1,List.length_append];have:(ls.take k).flatten.length+ls[k].length<=1000000:=by rw[f1,List.length_append]at f2;omega
   rw[rA _ (by omega) (by omega)];omega
  have b1:¬(((ls.take (k+1)).flatten.length:Int)<0):=by omega
  simp only[go_sem,hlt,g2,lsn,w3,b1,w2];exact⟨k+1,rfl,by omega,by omega⟩
 ·have ek:k=ls.length:=by omega
  subst ek;have q:=λh K=>zs8 (h:=h) (K:=K) ls.flatten.length (by omega)
  have tl:ls.take ls.length=ls:=List.take_length
  simp only[go_sem,Nat.lt_irrefl,tl,↓q,q];refine DA (λk:Nat=>⟨[(6,.own h.length (ls.take k).flatten.length 0 (ls.take k).flatten.length),(25,.p (.sl none (ls.map lsn))),(26,AI ls.length),(27,AI k)],h++[.row none (ls.take k).flatten 0],[]⟩) (λk=>k<=ls.length) (λk=>ls.length-k) 0 rfl (by omega) ?_
  intro k hk;rcases Nat.lt_or_ge k ls.length with hlt|hge
  ·have g2:=sB lsn hlt
   have f1:=zbq hlt
   have f2:=z4S ls (k+1)
   have w2:IntKind.i64.wrap ((k:Int)+1)=((k+1:Nat):Int):=rA _ (by omega) (by omega)
   have hm:(ls.take k).flatten.length+ls[k].length<=bB:=by rw[f1,List.length_append]at f2;unfold bB;omega
   have hm0:ls[k].length<=bB:=by omega
   simp only[go_sem,hlt,g2,lsn,w2,hm,hm0];exact⟨k+1,by rw[f1];simp,by omega,by omega⟩
  ·have ek:k=ls.length:=by omega
   subst ek;simp only[go_sem,Nat.lt_irrefl,tl];rw[List.take_of_length_le (by simp)]
end
def orc0 (f:Nat)(a:List AV):Option AV:=none
theorem zr2:∀ f a v,orc0 f a=some v->∀h (K:jA),K v h []->gA X0 f a h K:=by
 intro f a v hv;cases hv
theorem zuj:ZP X0 orc0 1000 60 bK [] []=some (AB true,[],[]):=by kernel_rfl
theorem zxb:gA X0 bK [] [] λv h x=>v=AB true/\h=[]/\x=[]:=(zeQ zr2 1000 60 zuj _).2 ⟨rfl,rfl,rfl⟩
theorem ztp {h:aA}{K:jA}:gA X bK [] h K=K (AB true) h []:=z5x (by kernel_rfl) rfl
section
variable {L:List Int} {a:Int} {h l:aA} {id:Nat} {K:jA}
end
section
variable {h:aA} {K:jA}
attribute [-go_sem] UA ZA ZB WB
end
section
variable {L:List Int} {a:Int} {h:aA} {K:jA}
attribute [-go_sem] TA
def AK:List Nm:=[[115,99,97,110],[102,108,97,115,104],[98,117,114,110]]
end
section
variable {h:aA} {K:jA} {L:List Int} {a:Int}
attribute [-go_sem] TA
theorem zaN {i:Nat}{v:AV}{y:Nat × Nat}(h:y∈dC i v):y.1=i:=by
 unfold dC at h;split at h
 ·rw[List.mem_singleton]at h;rw[h]
 ·cases h
theorem z9q {P:jA}{H0:aA}{o1 o2:Obj}{steps:List Nm}{tr:Int}{x:Esc}{m:Nat}(hm:m=steps.length)(hb:H0.length=h.length)(hx:∀ y∈x,h.length<=y.1)(hP:P (gB steps tr) H0 []) :
 kD false h.length P (some [AV.agg [.own (h.length+2) m 0 m,AI tr]]) (H0++[o1,o2,.row none (steps.map PV.str) 0]) x:=by
 subst hm;have g2:(H0++[o1,o2,Obj.row none (steps.map PV.str) 0])[h.length+2]?=some (.row none (steps.map PV.str) 0):=by rw[List.getElem?_append_right (by omega),hb];simp
 have w1:win (steps.map PV.str) 0 steps.length=steps.map PV.str:=WG (by simp)
 have r1:rd (H0++[o1,o2,Obj.row none (steps.map PV.str) 0]) (.own (h.length+2) steps.length 0 steps.length)=some (none,steps.map PV.str):=by simp [rd,g2,w1]
 rw[sH (v:=gB steps tr) hx (by simp [aB,cE,dB,r1];rfl) (by simp [AV.top,AV.tops])]
 rw[<-hb,List.take_left];exact hP
attribute [-go_sem] JL
theorem af_k3 {id:Nat}{s0:List Nm}{tries:Int}{a:Int}(hid:id<h.length)(hp:XA 30 a)(s0l:1<=s0.length/\s0.length<=3)(s0k:∀ s∈s0,s.length<=10):∃(steps:List Nm) (tr a2:Int),a<=a2/\a2<=a+6/\1<=steps.length/\steps.length<=4/\(∀s∈steps,s.length<=10) /\
 ∀P:jA,P (gB steps tr) (h.set id (GA L a2)) []->NW (gA X) X.gl xR ⟨[(0,.ref id 0),(2,.ref h.length 0),(3,.ref (h.length+1) 0)],h.set id (GA L a)++[.box [.sl0 none,AI 0],.box [OA s0,AI tries]],[]⟩ (nA [.cell 2 (some 2)] false h.length P):=by
 have p2:XA 0 a:=fC hp (by omega) (by omega)
 have p3:XA 0 (a+1):=fC hp (by omega) (by omega)
 have p4:XA 0 (a+1+1):=fC hp (by omega) (by omega)
 by_cases f1:eC L a 20=0
 ·have pm:=SK (L:=L) (a:=a+1) (l:=[[],[115,99,97,110],[122,122]]) (by simp) (by simp)
  generalize hz:aC [[],[115,99,97,110],[122,122]] L (a+1)=z at *;have CO:=λh K=>zsz (h:=h) (K:=K) [s0.map PV.str,[PV.str z]] (by
   intro l hl;simp only[List.mem_cons,List.not_mem_nil,or_false]at hl;rcases hl with e|e <;> subst e
   ·exact fP
   ·exact fP (us:=[z])) (by simp) (by simp;omega)
  have e1:(s0.map PV.str++[PV.str z])=(s0++[z]).map PV.str:=by rw[List.map_append];rfl
  have zl:∀s∈s0++[z],s.length<=10:=λs hs=>by
   rcases List.mem_append.1 hs with hs|hs
   ·exact s0k s hs
   ·rw[List.mem_singleton]at hs;subst hs
    simp only[List.mem_cons,List.not_mem_nil,or_false]at pm;rcases pm with e|e|e <;> rw[e] <;> simp
  simp only[List.map_cons,List.map_nil,lsn,List.flatten_cons,List.flatten_nil,List.append_nil,e1,List.length_map,List.length_append,Nat.zero_add]at CO;by_cases f2:eC L (a+1+1) 25=0
  ·obtain⟨k,a2,o1,o2,_,_,G⟩:=NQ (L:=L) (a:=a+1+1+1) (fC hp (by omega) (by omega)) 1 10 (by omega) (by omega) (by omega)
   have OD:=λ(l:aA) K=>G.app (h:=h) (l:=l) (K:=K) hid
   refine⟨s0++[z],k,a2,by omega,by omega,by simp,by simp;omega,zl,λP hP=>?_⟩
   rw[JL];simp only[NJ,go_sem,hid,p2,p3,p4,splice,f1,f2,hz,↓CO,CO,↓OD,OD];refine z9q (by simp) (by simp) (λy hy=>?_) hP
   rcases List.mem_append.1 hy with hy|hy <;> (have:=zaN hy;omega)
  ·refine⟨s0++[z],tries,a+1+1+1,by omega,by omega,by simp,by simp;omega,zl,λP hP=>?_⟩
   rw[JL];simp only[NJ,go_sem,hid,p2,p3,p4,splice,f1,f2,hz,↓CO,CO];refine z9q (by simp) (by simp) (λy hy=>?_) hP
   rcases List.mem_append.1 hy with hy|hy <;> (have:=zaN hy;omega)
 ·by_cases f2:eC L (a+1) 25=0
  ·obtain⟨k,a2,o1,o2,_,_,G⟩:=NQ (L:=L) (a:=a+1+1) (fC hp (by omega) (by omega)) 1 10 (by omega) (by omega) (by omega)
   have OD:=λ(l:aA) K=>G.app (h:=h) (l:=l) (K:=K) hid
   refine⟨s0,k,a2,by omega,by omega,by omega,by omega,s0k,λP hP=>?_⟩
   rw[JL];simp only[NJ,go_sem,hid,p2,p3,p4,splice,f1,f2,↓OD,OD];exact hP
  ·refine⟨s0,tries,a+1+1,by omega,by omega,by omega,by omega,s0k,λP hP=>?_⟩
   rw[JL];simp only[NJ,go_sem,hid,p2,p3,p4,splice,f1,f2];exact hP
theorem zoJ (hp:XA 40 a):VF ZL [] L a (λv a2=>a<=a2/\a2<=a+8/\∃(steps:List Nm) (tries:Int),1<=steps.length/\steps.length<=4/\(∀s∈steps,s.length<=10)/\v=gB steps tries):=by
 refine VF.of λh id hid=>?_
 rw[zgP rfl];have p0:XA 0 a:=fC hp (by omega) (by omega)
 have p1:XA 0 (a+1):=fC hp (by omega) (by omega)
 have r1:1<=rD 1 3 L a/\rD 1 3 L a<=3:=UR L a (by omega) (by omega)
 obtain⟨n,hn⟩:∃n:Nat,rD 1 3 L a=n:=⟨(rD 1 3 L a).toNat,by omega⟩
 generalize ht:rD 1 3 L (a+1)=tries at *;have n3:n<=3:=by omega
 have hw:win [PV.str [115,99,97,110],.str [102,108,97,115,104],.str [98,117,114,110]] 0 n=(AK.take n).map PV.str:=by simp [win,AK,List.map_take]
 have s0l:1<=(AK.take n).length/\(AK.take n).length<=3:=by rw[List.length_take];show 1<=min n 3/\min n 3<=3;omega
 have s0k:∀s∈AK.take n,s.length<=10:=λs hs=>by
  have:=List.mem_of_mem_take hs;simp only[AK,List.mem_cons,List.not_mem_nil,or_false]at this;rcases this with e|e|e <;> rw[e] <;> simp
 generalize AK.take n=s0 at *;obtain⟨steps,tr,a2,k1,k2,k0,k3,k4,k5⟩:=af_k3 (h:=h) (L:=L) (id:=id) (s0:=s0) (tries:=tries) (a:=a+1+1) hid (fC hp (by omega) (by omega)) s0l s0k
 refine⟨gB steps tr,h.set id (GA L a2),[],⟨a2,⟨by omega,by omega,steps,tr,k0,k3,k4,rfl⟩,rfl,rfl⟩,?_⟩
 unfold gU;refine⟨⟨?_,?_⟩,?_⟩;all_goals
  simp only[go_sem,hid,p0,p1,hn,ht,n3,hw,splice];exact k5 _ ⟨rfl,rfl,rfl⟩
end
section
variable {L:List Int} {a:Int} {h:aA} {K:jA}
attribute [-go_sem] TA splice
def ML:List Int:=[5,10,20,40,100,500,0,-1,345686400000]
theorem zoL (hp:XA 0 a):Gen bM [] L a (a+1) (AI (zD ML L a)):=by
 refine Gen.of λh id hid=>?_
 rw[zgR rfl];have q:=λK:jA=>z7Y (K:=K) (L:=L) (h:=h) (id:=id) (a:=a) hid hp (xs:=ML.map eI) (by decide) (by decide) (by decide)
 have e:(ML.map eI).map unI=ML:=rfl
 simp only[e]at q;simp only[ML,List.map_cons,List.map_nil]at q;simp only[jU,go_sem,hid,hp,↓q,q];first|done|rfl|trace_state
theorem zo6 (a b c:Int):rC [rC [a,b],c]=orL [a,b,c]:=by
 unfold rC orL;by_cases h1:a=0
 ·subst h1
  by_cases h2:b=0
  ·subst h2;simp [rC,orL]
  ·simp [rC,orL,h2]
 ·simp [rC,orL,h1]
theorem zbn (a b:Int):rC [a,b]=if a=0 then b else a:=by
 unfold rC;by_cases h1:a=0
 ·subst h1
  by_cases h2:b=0 <;> simp [rC,h2]
 ·simp [h1]
theorem z1m {steps:List Nm}{tries:Int}{x:List Ent}{at_:Int}(h0:steps≠[])(hst:steps.length<=1000)(xv:∀ y∈x,EntV y)(xl:x.length<=1000)(xf:PB x=0) :
 Both (jB steps tries (upL x at_)) (yB steps tries (upL x at_))/\asA (jB steps tries (upL x at_)).bs=(yB steps tries (upL x at_)).w.bs/\QIn steps tries x at_/\((jB steps tries (upL x at_)).bs.map λe=>e.1.board).Nodup/\((jB steps tries (upL x at_)).sm.map λe=>e.1.1).Nodup:=by
 have hfl:=(LL x).1 xf
 have sub:(upL x at_).Sublist x:=List.take_sublist _ _
 have B:=TE steps tries h0 (U:=upL x at_) λy hy=>hfl.2.1 y (sub.subset hy)
 have eb:asA (jB steps tries (upL x at_)).bs=(yB steps tries (upL x at_)).w.bs:=B.inv.bs
 have I:=(EM tries h0 (l:=upL x at_) (λy hy=>by have:=(xv y (sub.subset hy)).s;omega)).1
 have N:=(z4U steps tries JD (l:=upL x at_) λy hy _=>(xv y (sub.subset hy)).w).nm
 have bl:(jB steps tries (upL x at_)).bs.length<=6:=by
  have:=I.nb.length_le_of_subset (l₂:=JD) (λk hk=>by obtain⟨e,he,rfl⟩:=List.mem_map.1 hk;exact N e he)
  rw[List.length_map]at this;exact this
 refine⟨B,eb,⟨hst,h0,xl,λy hy=>BV (hfl.2.1 y hy),hfl.2.2.1.imp zbS,λy hy=>(xv y hy).t,?_,?_⟩,I.nb,I.ns⟩
 ·rw[<-eb,LM];exact I.nb
 ·rw[<-eb];unfold asA;rw[List.length_map];omega
theorem zgc {steps:List Nm}{tries:Int}{x:List Ent}{at_:Int}(h0:steps≠[])(xv:∀ y∈x,EntV y):(jB steps tries (upL x at_)).bs.length<=6:=by
 have sub:(upL x at_).Sublist x:=List.take_sublist _ _
 have I:=(EM tries h0 (l:=upL x at_) (λy hy=>by have:=(xv y (sub.subset hy)).s;omega)).1
 have N:=(z4U steps tries JD (l:=upL x at_) λy hy _=>(xv y (sub.subset hy)).w).nm
 have:=I.nb.length_le_of_subset (l₂:=JD) (λk hk=>by obtain⟨e,he,rfl⟩:=List.mem_map.1 hk;exact N e he)
 rw[List.length_map]at this;exact this
end
section
variable {L:List Int} {a:Int} {h:aA} {K:jA}
attribute [-go_sem] TA splice
attribute [-go_sem] z43 xV yV
theorem zeo {H:aA}{K:Ex->St->Prop}{i10 i12 i29 i30:Nat}{p1 p2 r1 r2 e1 e2 e3 e4 ef b sn:Int}{t:List Int}{o:Nm}{ok:Bool}{n:List (Nm × Nm)}
 (h10:H[i10]?=some (.box [AI p1,AI p2])) (h29:H[i29]?=some (.box [AI p1,AI p2])) (h12:H[i12]?=some (.box [AI r1,AI r2])) (h30:H[i30]?=some (.box [AI r1,AI r2]))
 (lt:t.length<=1000000) (ln:n.length<=1000000) (fin:K .ret ⟨[(2,AB true)],H,[]⟩) :
 NW (gA X) X.gl wR ⟨[(10,.ref i10 0),(11,AI e3),(12,.ref i12 0),(13,AI e2),(14,AL t),(15,AI e1),(16,AI b),(17,AI e4),(18,AS o),(19,AI sn),(20,AB ok),(21,AI ef),(22,IE n),(23,AI ef),(24,AI ef),(25,AI e1),(26,AI e2),(27,AI e3),(28,AI e4),(29,.ref i29 0),(30,.ref i30 0),(31,AL t),(32,AS o),(33,AI sn),(34,AB ok),(35,IE n),(36,AI b)],H,[]⟩ K:=by
 rw[z43];have E1:=λh K=>zs5 (h:=h) (K:=K) t t (by omega)
 have E4:=λh K=>zs4 (h:=h) (K:=K) n ln
 have eq2:∀x y:Int,TA [0,0] false (.p (.agg [eI x,eI y])) (.p (.agg [eI x,eI y]))=some (AB true):=λx y=>by simp [TA,eqs,PV.kind,PV.eq1,pbool,eI]
 have eqb:∀b:Bool,TA [] false (AB b) (AB b)=some (AB true):=λb=>by simp [TA,eqs,PV.kind,PV.eq1,pbool]
 have d1:decide (t=t)=true:=by simp
 rw[d1]at E1;simp only[z1P,go_sem,h10,h29,h12,h30,eq2,eqb,↓E1,E1,↓E4,E4,ztp];first|exact fin|trace_state
theorem zep {H:aA}{K:Ex->St->Prop}{steps:List Nm}{tries:Int}{x:List Ent}{site:Nm}{fa fb:Int}{p1 p2 r1 r2 e1 e2 e3 f4 ef B sn:Int}{T:List Int}{o:Nm}{ok:Bool}{n:List (Nm × Nm)}
 (h1:H[1]?=some (.box [OA steps,AI tries])) (h2:H[2]?=some (.box [AI fa,AI fb]))
 (h10:H[3]?=some (.box [AI p1,AI p2])) (h29:H[5]?=some (.box [AI p1,AI p2])) (h12:H[4]?=some (.box [AI r1,AI r2])) (h30:H[6]?=some (.box [AI r1,AI r2]))
 (lt:T.length<=1000000) (ln:n.length<=1000000)
 (hB:(f4≠0/\B=0)∨(f4=0/\∀h K,gA X UH [gB steps tries,EA x,AS site,.p (.agg [eI fa,eI fb])] h K=K (AI B) h []))
 (fin:K .ret ⟨[(2,AB true)],H,[]⟩) :
 yL (gA X) X.gl wR (.ref 1 0) (EA x) (AS site) (.ref 2 0) (.ref 3 0) (AI e3) (.ref 4 0) (AI e2) (AL T) (AI e1) (AI B) (AI f4) (AS o) (AI sn) (AB ok) (AI ef) (IE n) (AI ef) (AI ef) (AI e1) (AI e2) (AI e3) (AI f4) (.ref 5 0) (.ref 6 0) (AL T) (AS o) (AI sn) (AB ok) (IE n) H [] K:=by
 rcases hB with⟨z,rfl⟩|⟨rfl,BO⟩
 ·simp only[yL,go_sem,z]
  exact zeo (p1:=p1) (p2:=p2) (r1:=r1) (r2:=r2) h10 h29 h12 h30 lt ln fin
 ·simp only[yL,go_sem,h1,h2,↓BO,BO]
  exact zeo (p1:=p1) (p2:=p2) (r1:=r1) (r2:=r2) h10 h29 h12 h30 lt ln fin
theorem zeq {o0:Obj}{K:Ex->St->Prop}{steps:List Nm}{tries at_:Int}{x:List Ent}{site:Nm}{fa fb:Int}{P1 P2 R1 R2 e1 e2 e3 f4 ef B sn:Int}{T:List Int}{o:Nm}{ok:Bool}{n:List (Nm × Nm)}
 (lt:T.length<=1000000) (ln:n.length<=1000000)
 (hB:(f4≠0/\B=0)∨(f4=0/\∀h K,gA X UH [gB steps tries,EA x,AS site,.p (.agg [eI fa,eI fb])] h K=K (AI B) h []))
 (hA:(ef≠0/\R1=0/\R2=0/\e2=ef/\o=[]/\sn=0/\ok=false/\n=[])∨(ef=0/\(∀h K,gA X VI [gB steps tries,EA x,AI at_] h K=K (.tup [.p (.agg [eI R1,eI R2]),AI e2]) h []) /\
  (∀h K,gA X UI [gB steps tries,EA x,AI at_] h K=K (.tup [AS o,AI sn,AB ok]) h []) /\
  ∀h K,gA X SI [gB steps tries,EA x,AI at_] h K=K (IE n) h []))
 (fin:∀H,K .ret ⟨[(2,AB true)],H,[]⟩) :
 zL (gA X) X.gl HW (.ref 1 0) (EA x) (AI at_) (AS site) (.ref 2 0) (.ref 3 0) (AI e3) (.ref 4 0) (AI e2) (AL T) (AI e1) (AI B) (AI f4) (AS o) (AI sn) (AB ok) (AI ef) (IE n) (AI ef) (AI ef) (AI e1) (AI ef) (AI e3) (AI f4) (.ref 5 0) (.ref 6 0) (AL T) [o0,.box [OA steps,AI tries],.box [AI fa,AI fb],.box [AI P1,AI P2],.box [AI R1,AI R2],.box [AI P1,AI P2],.box [AI 0,AI 0]] [] K:=by
 rcases hA with⟨z,rfl,rfl,rfl,rfl,rfl,rfl,rfl⟩|⟨rfl,RO,OO,NO⟩
 ·simp only[zL,go_sem,z]
  rw[xV];exact zep (p1:=P1) (p2:=P2) (r1:=0) (r2:=0) (steps:=steps) (tries:=tries) (fa:=fa) (fb:=fb) rfl rfl rfl rfl rfl rfl lt ln hB (fin _)
 ·simp only[zL,go_sem,↓RO,RO,↓OO,OO,↓NO,NO,splice]
  rw[xV];exact zep (p1:=P1) (p2:=P2) (r1:=R1) (r2:=R2) (steps:=steps) (tries:=tries) (fa:=fa) (fb:=fb) rfl rfl rfl rfl rfl rfl lt ln hB (fin _)
theorem tW:∀ l:List Int,orL l=rC l
 | []=>rfl
 | x::r=>by
  have ih:=tW r
  unfold orL rC;by_cases h:x=0 <;> simp [h,ih]
theorem HQ {a b c:Int}:rC [a,b,c]=if a=0 then(if b=0 then c else b) else a:=by
 simp only[rC];by_cases h1:a=0
 ·by_cases h2:b=0
  ·by_cases h3:c=0 <;> simp [h1,h2,h3]
  ·simp [h1,h2]
 ·simp [h1]
theorem zbp {a b:Int}(h:rC [a,b]=0):a=0/\b=0:=by
 rw[zbn]at h;split at h
 ·rename_i q;exact⟨q,h⟩
 ·rename_i q;exact absurd h q
def brd4:List Nm:=[[98,49],[98,50],[98,51],[98,52]]
theorem zph {x:Ent}(hv:EntV x)(h0:TB x=0)(h7:x.kind≠7):x.board∈brd4:=by
 have hk:=znP h0 h7
 have hw:=hv.w
 unfold JD at hw;simp only[List.mem_cons,List.not_mem_nil,or_false]at hw;have k1:oB []=false:=rfl
 have k2:oB [65]=false:=by decide
 rcases hw with e|e|e|e|e|e
 ·rw[e,k1]at hk;cases hk
 ·rw[e,k2]at hk;cases hk
 all_goals rw[e];unfold brd4;simp
section
variable {steps:List Nm} {tries:Int} {x:List Ent}
theorem zen (h0:steps≠[])(xv:∀ y∈x,EntV y)(xf:PB x=0)(at_:Int)(step:Nm):(SB step [] (jB steps tries (upL x at_)).ends).2<=4:=by
 have sub:(upL x at_).Sublist x:=List.take_sublist _ _
 have hfl:=(LL x).1 xf
 have:=zo8 steps tries brd4 (l:=upL x at_) λy hy h1=>zph (xv y (sub.subset hy)) (hfl.2.1 y (sub.subset hy)) (by omega)
 exact znN (N:=brd4) (by decide) this step
theorem z8h (h0:steps≠[])(xf:PB x=0)(at_:Int):BI (jB steps tries (upL x at_)).P 1000000000000:=by
 have sub:(upL x at_).Sublist x:=List.take_sublist _ _
 have hfl:=(LL x).1 xf
 exact zgd steps tries h0 (znU sub xf) (λy hy=>by have:=(YP (hfl.2.1 y (sub.subset hy))).t;omega) (by omega)
theorem KQ {at_:Int}(h:JC steps tries x at_=0):PB x=0:=by
 unfold JC at h;rw[tW,HQ]at h;split at h
 ·split at h
  ·rename_i q;exact q
  ·rename_i q;exact absurd h q
 ·rename_i q;exact absurd h q
theorem z4V (h:PC steps tries=0):steps≠[]:=by
 intro e;subst e;cases h
theorem zue (hst:steps.length<=4)(xv:∀ y∈x,EntV y)(xl:x.length<=20)(Ox:StOk steps x)(site:Nm)(hs:site.length<=1000)(a b:Int)(hb : -1000000000000<=b/\b<=1000000000000):∃B f4:Int,
 (∀h K,gA X oK [gB steps tries,EA x,AS site,.p (.agg [eI a,eI b])] h K=K (.tup [AI B,AI f4]) h []) /\
 rC [rC [PC steps tries,PB x],if oB site=true then 0 else 5,if(inB 0 a b&&decide (b<=345686400000))=true then 0 else 1]=f4 /\
 ((f4≠0/\B=0)∨(f4=0/\∀h K,gA X UH [gB steps tries,EA x,AS site,.p (.agg [eI a,eI b])] h K=K (AI B) h [])):=by
 have cond:orL [PC steps tries,PB x]=0->PC steps tries=0/\PB x=0:=λh=>zbp (by rw[<-tW];exact h)
 have G:=λh K=>zsx (h:=h) (K:=K) steps tries x Ox site (by omega) a b hb (λc=>by
  have:=(EM tries (z4V (cond c).1) (l:=upL x (b-1)) (λy hy=>((ED Ox (b-1)).e y hy).s)).1.rl
  have h2:=(ED Ox (b-1)).l
  omega) (λc r hr=>by have:=zd5 (z8h (z4V (cond c).1) (cond c).2 (b-1)) (by omega) r hr;omega)
 unfold qT at G;rw[tW]at G;by_cases c0:rC [PC steps tries,PB x]=0
 case neg=>
  rw[if_pos c0]at G;exact⟨_,_,G,by rw[HQ,if_neg c0],.inl ⟨c0,rfl⟩⟩
 rw[if_neg (by simp [c0])]at G
 cases hk:oB site with
 | false=>
  rw[if_pos hk]at G;exact⟨_,_,G,by rw[HQ,if_pos c0];rfl,.inl ⟨by decide,rfl⟩⟩
 | true=>
  rw[if_neg (by simp [hk])]at G
  cases hw:(inB 0 a b&&decide (b<=345686400000)) with
  | false=>
   rw[if_pos hw]at G;exact⟨_,_,G,by rw[HQ,if_pos c0];rfl,.inl ⟨by decide,rfl⟩⟩
  | true=>
   rw[if_neg (by simp [hw])]at G
   obtain⟨f0,x0⟩:=zbp c0;have h0s:=z4V f0
   obtain⟨B,eb,QI,nb,ns⟩:=z1m (tries:=tries) (at_:=b-1) h0s (by omega) xv (by omega) x0
   have er:(jB steps tries (upL x (b-1))).runs=(yB steps tries (upL x (b-1))).w.runs.map RanQ.run:=B.inv.runs
   have hw2:(0<=a/\a<=b)/\b<=345686400000:=by unfold inB at hw;simpa using hw
   have bi:=z8h (tries:=tries) h0s x0 (b-1)
   rw[er]at G;refine⟨_,_,G,by rw[HQ,if_pos c0];rfl,.inr ⟨rfl,λh K=>zsy rfl QI site hw2.1.1 hw2.1.2 hw2.2 λr hr=>?_⟩⟩
   have:=zd5 bi (by omega) r.run (by show r.run∈(jB steps tries (upL x (b-1))).runs;rw[er];exact List.mem_map_of_mem hr)
   have e1:r.run.frm=r.frm:=rfl
   have e2:r.run.til=r.til:=rfl
   omega
theorem zuf (hst:steps.length<=4)(xv:∀ y∈x,EntV y)(xl:x.length<=20)(Ox:StOk steps x)(step:Nm)(at_:Int):∃(P1 P2 e3 e1:Int) (T:List Int),
 (∀h K,gA X uK [gB steps tries,EA x,AS step,AI at_] h K=K (.tup [.p (.agg [eI P1,eI P2]),AI e3]) h []) /\
 (∀h K,gA X xK [gB steps tries,EA x,AS step,AI at_] h K=K (.tup [AL T,AI e1]) h []) /\
 rC [JC steps tries x at_,if steps.contains step=true then 0 else 8]=e1/\T.length<=1000000 /\
 ((e1≠0/\P1=0/\P2=0/\e3=e1/\T=[])∨(e1=0/\(∀h K,gA X fK [gB steps tries,EA x,AS step,AI at_] h K=K (AL T) h []) /\
  ∀h K,gA X eK [gB steps tries,EA x,AS step,AI at_] h K=K (.tup [.p (.agg [eI P1,eI P2]),AI e3]) h [])):=by
 have GP:=λh K=>zsF (h:=h) (K:=K) steps tries x Ox step at_
 have cond:iE steps tries x step at_=0->JC steps tries x at_=0:=λh=>by
  unfold iE at h;by_cases c:JC steps tries x at_=0
  ·exact c
  ·rw[if_neg c]at h;exact absurd h c
 have GT:=λh K=>zsN (h:=h) (K:=K) steps tries x Ox step at_ (λc=>by
  have h1:=MV steps tries (nH (cond c)) (l:=upL x at_) (λy hy=>((ED Ox at_).e y hy).s)
  have h2:=(ED Ox at_).l
  omega) (λc e he=>by have:=(z8h (tries:=tries) (nH (cond c)) (KQ (cond c)) at_).en e he;omega)
 have ee:rC [JC steps tries x at_,if steps.contains step=true then 0 else 8]=iE steps tries x step at_:=by
  rw[zbn];rfl
 unfold LR at GP;unfold eZ at GT;by_cases c0:iE steps tries x step at_=0
 case neg=>
  rw[if_pos c0]at GP GT;exact⟨_,_,_,_,_,GP,GT,ee,by simp,.inl ⟨c0,rfl,rfl,rfl,rfl⟩⟩
 rw[if_neg (by simp [c0])]at GP GT
 have h0s:=nH (cond c0)
 have x0:=KQ (cond c0)
 have hfl:=(LL x).1 x0
 obtain⟨B,eb,QI,nb,ns⟩:=z1m (tries:=tries) (at_:=at_) h0s (by omega) xv (by omega) x0
 have QP:=λh K=>zsG (h:=h) (K:=K) QI step
 have QT:=λh K=>zsO (h:=h) (K:=K) QI step
 rw[zuA steps tries h0s x hfl.2.1 step at_]at QT;rw[<-z9C B eb nb (zbs steps tries _) step]at QP;have tl:=z8m step (jB steps tries (upL x at_)).ends
 have h1:=MV steps tries h0s (l:=upL x at_) (λy hy=>((ED Ox at_).e y hy).s)
 have h2:=(ED Ox at_).l
 exact⟨_,_,_,_,_,GP,GT,by rw[ee,c0],by dsimp only;omega,.inr ⟨rfl,QT,QP⟩⟩
theorem zud (hst:steps.length<=4)(xv:∀ y∈x,EntV y)(xl:x.length<=20)(Ox:StOk steps x)(h0s:steps≠[])(at_:Int):∃(R1 R2 e2 ef sn:Int) (o:Nm) (ok:Bool) (n:List (Nm×Nm)),
 (∀h K,gA X vK [gB steps tries,EA x,AI at_] h K=K (.tup [.p (.agg [eI R1,eI R2]),AI e2]) h []) /\
 (∀h K,gA X tK [gB steps tries,EA x,AI at_] h K=K (.tup [AS o,AI sn,AB ok,AI ef]) h []) /\
 (∀h K,gA X sK [gB steps tries,EA x,AI at_] h K=K (.tup [IE n,AI ef]) h []) /\
 JC steps tries x at_=ef/\n.length<=1000000 /\
 ((ef≠0/\R1=0/\R2=0/\e2=ef/\o=[]/\sn=0/\ok=false/\n=[])∨(ef=0/\(∀h K,gA X VI [gB steps tries,EA x,AI at_] h K=K (.tup [.p (.agg [eI R1,eI R2]),AI e2]) h []) /\
  (∀h K,gA X UI [gB steps tries,EA x,AI at_] h K=K (.tup [AS o,AI sn,AB ok]) h []) /\
  ∀h K,gA X SI [gB steps tries,EA x,AI at_] h K=K (IE n) h [])):=by
 have bl:=zgc (steps:=steps) (tries:=tries) (at_:=at_) h0s xv
 have GR:=λh K=>zsJ (h:=h) (K:=K) steps tries x Ox hst at_ (λc=>zen h0s xv (KQ c) at_)
 have sub:(upL x at_).Sublist x:=List.take_sublist _ _
 have NM:=(z4U steps tries JD (l:=upL x at_) λy hy _=>(xv y (sub.subset hy)).w).nm
 have GO:=λh K=>zsD (h:=h) (K:=K) steps tries x Ox at_ (λe he=>by
  have:=NM e he;unfold JD at this;simp only[List.mem_cons,List.not_mem_nil,or_false]at this;rcases this with q|q|q|q|q|q <;> rw[q] <;> simp)
 have GN:=λh K=>zsB (h:=h) (K:=K) steps tries x Ox at_ (by omega)
 unfold YR at GR;unfold VM at GO;unfold lW at GN;by_cases c0:JC steps tries x at_=0
 case neg=>
  rw[if_pos c0]at GR GO GN;exact⟨_,_,_,_,_,_,_,_,GR,GO,GN,rfl,by simp,.inl ⟨c0,rfl,rfl,rfl,rfl,rfl,rfl,rfl⟩⟩
 rw[if_neg (by simp [c0])]at GR GO GN
 obtain⟨B,eb,QI,nb,ns⟩:=z1m (tries:=tries) (at_:=at_) h0s (by omega) xv (by omega) (KQ c0)
 have bp:=z9C B eb nb (zbs steps tries (upL x at_))
 have h4:=zen (tries:=tries) h0s xv (KQ c0) at_
 have ep:xD (jB steps tries (upL x at_)).ends steps=yD (FA (yB steps tries (upL x at_)).w.bs) (yB steps tries (upL x at_)).w.runs steps:=by
  unfold xD yD;exact List.map_congr_left λs _=>bp s
 have er:JO steps (yB steps tries (upL x at_))=HO (xD (jB steps tries (upL x at_)).ends steps):=by
  unfold JO;rw[<-ep,zsm];intro t ht;unfold xD at ht;obtain⟨s,_,rfl⟩:=List.mem_map.1 ht;have h5:=h4 s
  have h6:=(RK s [] (jB steps tries (upL x at_)).ends).1
  omega
 have QR:=λh K=>zsK (h:=h) (K:=K) QI hst (λs=>by rw[<-bp s];exact h4 s)
 have QO:=λh K=>zsE (h:=h) (K:=K) QI
 have QN:=λh K=>zsC (h:=h) (K:=K) QI
 rw[er]at QR;unfold sR at QO;rw[<-eb]at QO QN;rw[show jE (asA (jB steps tries (upL x at_)).bs)=FD (jB steps tries (upL x at_)).bs from funext λs=>zvb nb s]at QN
 have nl:=z59 (FD (jB steps tries (upL x at_)).bs) steps
 exact⟨_,_,_,_,_,_,_,_,GR,GO,GN,c0,by dsimp only;omega,.inr ⟨rfl,QR,QO,QN⟩⟩
end
theorem law_ST (L:List Int){K:jA}:gA X JV [AL L] [] K=K (AB true) [] []:=by
 refine sA ?_;rw[zgI rfl];have pp:XA 100000 0:=by unfold XA;omega
 obtain⟨_,a1,⟨d1,d2,steps,tries,n1,n4,nk,rfl⟩,V1⟩:=(zoJ (L:=L) (a:=0) (fC pp (by omega) (by omega))).hd (l:=[])
 have pr:XA 0 a1:=fC pp (by omega) (by omega)
 have rb:0<=rD 0 20 L a1/\rD 0 20 L a1<=20:=UR L a1 (by omega) (by omega)
 obtain⟨m,hm⟩:∃m:Nat,rD 0 20 L a1=m:=⟨(rD 0 20 L a1).toNat,by omega⟩
 obtain⟨_,a2,⟨e1,e2,x,xl,xv,rfl⟩,V2⟩:=(zoK (L:=L) (a:=a1+1) (fC pp (by omega) (by omega)) m (by omega)).hd (l:=[])
 have p2:XA 0 a2:=fC pp (by omega) (by omega)
 have p3:XA 0 (a2+1):=fC pp (by omega) (by omega)
 have p4:XA 0 (a2+1+1):=fC pp (by omega) (by omega)
 have p5:XA 0 (a2+1+1+1):=fC pp (by omega) (by omega)
 have p6:XA 0 (a2+1+1+1+1):=fC pp (by omega) (by omega)
 have V3:=λ(l:aA) K=>(zoL (L:=L) (a:=a2) p2).hd (l:=l) (K:=K)
 generalize zD ML L a2=at_ at V3;have pm1:=SK (L:=L) (a:=a2+1+1) (l:=[[115,97],[115,98],[65]]) (by simp) (by simp)
 have pm2:=HY (L:=L) (a:=a2+1+1+1+1) (l:=[10,20,60,0,345686400000,345686400001]) (by simp) (by simp)
 generalize hS:aC [[115,99,97,110],[102,108,97,115,104],[122,122]] L (a2+1)=step at *;generalize hT:aC [[115,97],[115,98],[65]] L (a2+1+1)=site at *;generalize hF:zD [0,5,10,-1] L (a2+1+1+1)=fa at *;generalize hG:zD [10,20,60,0,345686400000,345686400001] L (a2+1+1+1+1)=fb at *;have sl:site.length<=1000:=by
  simp only[List.mem_cons,List.not_mem_nil,or_false]at pm1;rcases pm1 with e|e|e <;> rw[e] <;> simp
 have fbb : -1000000000000<=fb/\fb<=1000000000000:=by
  simp only[List.mem_cons,List.not_mem_nil,or_false]at pm2;omega
 have h0s:steps≠[]:=λe=>by rw[e]at n1;simp at n1
 have Ox:StOk steps x:=⟨by omega,λs hs=>by have:=nk s hs;omega,λy hy=>(xv y hy).ok,by omega⟩
 obtain⟨B,f4,BU,eB,hB⟩:=zue (tries:=tries) n4 xv (by omega) Ox site sl fa fb fbb
 obtain⟨P1,P2,e3,e1,T,PA,TI,eS,lT,hSt⟩:=zuf (tries:=tries) n4 xv (by omega) Ox step at_
 obtain⟨R1,R2,e2,ef,sn,o,ok,n,RO,OL,NX,eF,ln,hA⟩:=zud (tries:=tries) n4 xv (by omega) Ox h0s at_
 have FF:=λh K=>ztc (h:=h) (K:=K) steps tries x Ox
 have MF:=λh K=>zsA (h:=h) (K:=K) at_
 have NF:=λh K=>zth (h:=h) (K:=K) site (by omega)
 have SF:=λh K=>ztq (h:=h) (K:=K) steps tries (by omega) step
 have WF:=λh K=>zsR (h:=h) (K:=K) fa fb
 have E1:=λh K=>VY (h:=h) (K:=K) [rC [PC steps tries,PB x],gJ at_] (by simp)
 rw[zo6]at E1;have eE:orL [PC steps tries,PB x,gJ at_]=ef:=eF
 rw[eE]at E1;have E2:=λh K=>VY (h:=h) (K:=K) [ef,if steps.contains step=true then 0 else 8] (by simp)
 rw[eF]at eS;rw[eS]at E2;have E4:=λh K=>VY (h:=h) (K:=K) [rC [PC steps tries,PB x],if oB site=true then 0 else 5,if(inB 0 fa fb&&decide (fb<=345686400000))=true then 0 else 1] (by simp)
 rw[eB]at E4;simp only[AL,List.map_cons,List.map_nil]at E1 E2 E4;clear eB eS eE eF;generalize rC [PC steps tries,PB x]=ff at *;generalize (if oB site=true then(0:Int) else 5)=nf at *;generalize (if(inB 0 fa fb&&decide (fb<=345686400000))=true then(0:Int) else 1)=wf at *;generalize (if steps.contains step=true then(0:Int) else 8)=sf at *;rcases hSt with⟨z1,rfl,rfl,rfl,rfl⟩|⟨rfl,QT,QP⟩
 ·simp (config:={ maxSteps:=2000000 }) only[EP,go_sem,V1,V2,V3,pr,p2,p3,p4,p5,p6,hm,hS,hT,hF,hG,splice,↓PA,PA,↓TI,TI,↓BU,BU,↓RO,RO,↓OL,OL,↓NX,NX,↓FF,FF,↓MF,MF,↓NF,NF,↓SF,SF,↓WF,WF,↓E1,E1,↓E2,E2,↓E4,E4,z1]
  rw[yV];refine zeq (T:=[]) (P1:=0) (P2:=0) (fa:=fa) (fb:=fb) lT ln hB hA λH=>?_
  simp only[go_sem]
 ·simp (config:={ maxSteps:=2000000 }) only[EP,go_sem,V1,V2,V3,pr,p2,p3,p4,p5,p6,hm,hS,hT,hF,hG,splice,↓PA,PA,↓TI,TI,↓BU,BU,↓RO,RO,↓OL,OL,↓NX,NX,↓FF,FF,↓MF,MF,↓NF,NF,↓SF,SF,↓WF,WF,↓E1,E1,↓E2,E2,↓E4,E4,↓QT,QT,↓QP,QP]
  rw[yV];refine zeq (T:=T) (P1:=P1) (P2:=P2) (fa:=fa) (fb:=fb) lT ln hB hA λH=>?_
  simp only[go_sem]
end
end Go.Am
section
/- From a law that is true here tov the model's calls at what came in. -/
open Go
namespace Go.Am
variable {P:Program}
theorem law_nil {X:Ctx}(HX:Fits P X){f:Nat}{F:AFun}(hF:X.fn f=some F)(H:∀ L:List Int,gA X f [IY L] [] λv _ _=>v = .p (.bool true))(W:World)(hG:LE X.gl (imm [] [] W)) :
 Calls P f #[.slice none 0 0] W λe W'=>e = .returned (.bool true)/\RowKit.Below W.heap.size W W':=by
 refine(z9M HX hF (H []) (W:=W) (vs:=[.slice none 0 0]) hG rfl (λj y v hy hv=>?_)).mono λe W' he=>?_
 ·cases j with
  | zero=>cases hy;cases hv;exact ziv W
  | succ j=>cases hy
 ·cases e with
  | returned r=>
   obtain⟨⟨v,h,x,μ,hk,hr⟩,hb⟩:=he;subst hk;exact⟨by rw[hr.p_bool],hb⟩
  | panicked _=>exact he.elim
  | outgrown=>exact he.elim
theorem law_ints {X:Ctx}(HX:Fits P X){f:Nat}{F:AFun}(hF:X.fn f=some F)(H:∀ L:List Int,gA X f [IY L] [] λv _ _=>v = .p (.bool true)){W:World}(hG:LE X.gl (imm [] [] W)){a:Addr}{len cap:Nat}{zs:List Int}
 (hl:len<=cap) (hz:len<=zs.length) (hc:∀i,i<zs.length->W.cell? (a.add i)=some (.int .i64 (zs.getD i 0))) :
 Calls P f #[.slice (some a) len cap] W λe W'=>e = .returned (.bool true)/\RowKit.Below W.heap.size W W':=by
 refine(z9M HX hF (H (zs.take len)) (W:=W) (vs:=[.slice (some a) len cap]) hG rfl (λj y v hy hv=>?_)).mono λe W' he=>?_
 ·cases j with
  | zero=>
   cases hy;cases hv
   rcases Nat.eq_zero_or_pos len with h0|h0
   ·subst h0
    exact .p _ _ (.nils _ _ _)
   ·exact ziu (by simpa [Addr.add] using World.cell?_spot (hc 0 (by omega))) hl hz hc
  | succ j=>cases hy
 ·cases e with
  | returned r=>
   obtain⟨⟨v,h,x,μ,hk,hr⟩,hb⟩:=he;subst hk;exact⟨by rw[hr.p_bool],hb⟩
  | panicked _=>exact he.elim
  | outgrown=>exact he.elim
end Go.Am
namespace Go.ChangeShapes
open Go.RowKit Go.WideShapes
section
variable {H:Type} {enc:TypeId × Value->H} {P:Program}
end
end Go.ChangeShapes
end
namespace Go.Am
end Go.Am
