/- Texts of the proof, laid together: SpEqC, SpVec18, SpVec19, SpVec20, SpLawPR, Bridge, AmL2, AmL6. -/
import Derived.ProofKit
import Derived.Shelf.Strconv.Itoa3
import Derived.Lib.LaidTab
import Derived.Test.YthlhdniejglcnaaGreatDoorlawPR9
set_option linter.all false
set_option maxRecDepth 100000
open Go
section
namespace Go.Am
variable {h:aA} {K:kA}
attribute [-go_sem] YA
theorem eqa6n (c d:Cmd):YA [0,0,0,2,2,2] true (ACm c) (ACm d)=some (AB (!decide (c=d))):=by
 obtain⟨k,s,cl,b,w,m⟩:=c;obtain⟨k',s',cl',b',w',m'⟩:=d;exact lP
theorem zbs (l m:List Cmd)(hl:l.length≤1000000000):bA X tL [ACs l,ACs m] h K=K (AB (decide (l=m))) h []:=by
 refine rA ?_;rw[zfj rfl];by_cases he:l.length=m.length
 ·have he':(l.length:Int)=(m.length:Int):=by omega
  simp only[EO,go_sem,he'];refine XA (fun k:Nat=>⟨[(0,ACs l),(1,ACs m),(12,AI m.length),(13,AI k)],h,[]⟩) (fun k=>k≤l.length∧l.take k=m.take k) (fun k=>l.length-k) 0 rfl (by simp) ?_
  rintro k ⟨hk,hp⟩
  rcases Nat.lt_or_ge k l.length with hlt|hge
  ·have hlt2:k<m.length:=by omega
   have hlt3:(k:Int)<(m.length:Int):=by omega
   have g1:=BB QA hlt
   have g2:=BB QA hlt2
   have w2:IntKind.i64.wrap ((k:Int)+1)=((k+1:Nat):Int):=zA _ (by omega) (by omega)
   have hq:=eqa6n l[k] m[k]
   by_cases h1:l[k]=m[k]
   ·rw[decide_eq_true h1]at hq
    simp only[go_sem,hlt,hlt2,hlt3,g1,g2,↓hq,hq,w2];refine⟨k+1,rfl,⟨by omega,?_⟩,by omega⟩
    rw[List.take_succ_eq_append_getElem hlt,List.take_succ_eq_append_getElem hlt2,hp,h1]
   ·rw[decide_eq_false h1]at hq
    have hne:¬l=m:=fun e=>h1 (by subst e;rfl)
    simp only[go_sem,hlt,hlt2,hlt3,g1,g2,↓hq,hq,hne]
  ·obtain rfl:k=l.length:=by omega
   rw[List.take_length,he,List.take_length]at hp;subst hp;simp only[go_sem,Nat.lt_irrefl,Int.lt_irrefl,decide_true]
 ·have he':¬(l.length:Int)=(m.length:Int):=by omega
  have hne:¬l=m:=fun e=>he (by rw[e])
  simp only[EO,go_sem,he',hne]
end Go.Am
end
section
namespace Go.Am
variable {h:aA} {K:kA}
attribute [-go_sem] YA splice
end Go.Am
end
section
namespace Go.Am
variable {L:List Int} {a:Int} {h l:aA} {id:Nat} {K:kA}
attribute [-go_sem] YA KF
theorem zec (a:Int):OD [[48],[49]] L a=[48]∨OD [[48],[49]] L a=[49]:=by
 have:=aR (l:=[[48],[49]]) (L:=L) (a:=a) (by simp) (by simp)
 simpa using this
theorem pU (n:Nat)(hn:n≤1000)(hp:kB 1200 a):WD xF [AI n] L a (fun v a2=>a2=a+n∧∃s:List UInt8,EA s=true∧s.length=n∧v=AS s):=by
 refine WD.of fun h id hid=>?_
 rw[ze5 rfl];simp only[oS,go_sem];refine XA (fun t:Nat×List UInt8=>⟨[(0,.ref id 0),(5,AS t.2),(6,AI n),(7,AI t.1)],h.set id (TA L (a+t.1)),[]⟩) (fun t=>t.1≤n∧t.2.length=t.1∧EA t.2=true) (fun t=>n-t.1) (0,[]) (by simp) ⟨Nat.zero_le _,rfl,rfl⟩ ?_
 rintro⟨k,s⟩ ⟨hk,hs,hb⟩
 dsimp only at hk hs hb ⊢;rcases Nat.lt_or_ge k n with hlt|hge
 ·have w2:IntKind.i64.wrap ((k:Int)+1)=((k+1:Nat):Int):=zA _ (by omega) (by omega)
  have P:=YC (n:=0) hp (show a≤a+(k:Int) by omega) (by omega)
  have hlt':(k:Int)<(n:Int):=by omega
  have e:a+((k+1:Nat):Int)=a+(k:Int)+1:=by omega
  rcases zec (L:=L) (a+(k:Int)) with e1|e1
  ·have hl:s.length+1≤PA:=by unfold PA;omega
   simp only[go_sem,hlt,hlt',hid,P,w2,e1,hl];exact⟨(k+1,s++[48]),by dsimp only;rw[e],⟨by dsimp only;omega,by simp [hs],by unfold EA at *;rw[List.all_append,hb];rfl⟩,by dsimp only;omega⟩
  ·have hl:s.length+1≤PA:=by unfold PA;omega
   simp only[go_sem,hlt,hlt',hid,P,w2,e1,hl];exact⟨(k+1,s++[49]),by dsimp only;rw[e],⟨by dsimp only;omega,by simp [hs],by unfold EA at *;rw[List.all_append,hb];rfl⟩,by dsimp only;omega⟩
 ·obtain rfl:k=n:=by omega
  simp only[go_sem,Nat.lt_irrefl,Int.lt_irrefl];exact⟨a+(k:Int),⟨rfl,s,hb,hs,rfl⟩,rfl⟩
structure CmdB (m:Nat) (c:Cmd):Prop where
 k : -1152921504606846976≤c.k∧c.k≤1152921504606846976
 s : -1152921504606846976≤c.s∧c.s≤1152921504606846976
 cl : -1152921504606846976≤c.cl∧c.cl≤1152921504606846976
 b:c.b.length≤m
 w:c.w.length≤m
 m:c.m.length≤m
theorem CmdB.ok {m:Nat}{c:Cmd}(hm:m≤100000)(H:CmdB m c):CmdOk c:=⟨by have:=H.b;omega,by have:=H.w;omega,by have:=H.m;omega⟩
abbrev cmdV (c:Cmd):List AV:=[AI c.k,AI c.s,AI c.cl,AS c.b,AS c.w,AS c.m]
set_option maxHeartbeats 4000000 in
theorem ac_k4 (hid:id<h.length){b:Int}(hp:kB 60 b)(c:Cmd)(hc:CmdB 8 c){z1 z2 z3:Int}{z4 z5 z6:List UInt8}{Kx:Ex→St→Prop}
 (hK:∀(c2:Cmd) (b2:Int),b≤b2→b2≤b+8→CmdB 2100 c2→Kx .ret ⟨[(2,.ref h.length 0)],h.set id (TA L b2)++[.box (cmdV c2),.box (cmdV c2)],[]⟩) :
 KF (bA X) X.gl OQ (.ref id 0) (.ref h.length 0) (.ref (h.length+1) 0) (h.set id (TA L b)++[.box [AI z1,AI z2,AI z3,AS z4,AS z5,AS z6],.box (cmdV c)]) [] Kx:=by
 have hid':id≤h.length:=by omega
 have P:=jN (YC hp (Int.le_refl b) (by omega))
 obtain⟨k,s,cl,bb,w,m⟩:=c;obtain⟨q1,q2,q3,q4,q5,q6⟩:=hc;dsimp only at q1 q2 q3 q4 q5 q6;by_cases hf:LB L b 60=0
 ·obtain⟨m1,m2⟩:=BJ L (b+1) 4 (by omega) (by omega)
  generalize hn:LB L (b+1) 4=nx at m1 m2;have:nx=0∨nx=1∨nx=2∨nx=3:=by omega
  rcases this with rfl|rfl|rfl|rfl
  ·obtain⟨kv,a3,c1,c2,c3,c4,O⟩:=z97 (L:=L) (a:=b+1+1) (YC hp (by omega) (by omega)) 1 10 (by omega) (by omega) (by omega)
   have O':=fun l K=>O.app (h:=h) (id:=id) (l:=l) (K:=K) hid
   simp only[KF,go_sem,hid,hid',P,hf,hn,O'];exact hK ⟨kv,s,cl,bb,w,m⟩ a3 (by omega) (by omega) ⟨by dsimp only;omega,q2,q3,by dsimp only;omega,by dsimp only;omega,by dsimp only;omega⟩
  ·obtain⟨kv,a3,c1,c2,c3,c4,O⟩:=z97 (L:=L) (a:=b+1+1) (YC hp (by omega) (by omega)) 0 15 (by omega) (by omega) (by omega)
   have O':=fun l K=>O.app (h:=h) (id:=id) (l:=l) (K:=K) hid
   have P3:kB 0 a3:=YC hp (by omega) (by omega)
   have pm:=RW (l:=[0,1,-1,20000,20001]) (L:=L) (a:=a3) (by simp) (by simp)
   simp only[List.mem_cons,List.not_mem_nil,or_false]at pm;simp only[KF,go_sem,hid,hid',P,P3,hf,hn,O'];exact hK ⟨k,kv,PC [0,1,-1,20000,20001] L a3,bb,w,m⟩ (a3+1) (by omega) (by omega) ⟨q1,by dsimp only;omega,by dsimp only;omega,by dsimp only;omega,by dsimp only;omega,by dsimp only;omega⟩
  ·have w1:IntKind.i64.wrap (2000-(bb.length:Int))=((2000-bb.length:Nat):Int):=by
    rw[show(2000:Int)-(bb.length:Int)=((2000-bb.length:Nat):Int) by omega];exact zA _ (by omega) (by omega)
   have r1:=fun(h':aA) (K':kA)=>BF (h:=h') (K:=K') ((2000-bb.length:Nat):Int) (by omega) (by omega)
   have r2:=fun(h':aA) (K':kA)=>BF (h:=h') (K:=K') 2001 (by omega) (by omega)
   simp only[Int.toNat_natCast]at r1;have pm:=aR (l:=[[120],[],zs (2000-bb.length),zs (Int.toNat 2001)]) (L:=L) (a:=b+1+1) (by simp) (by simp)
   have pl:(OD [[120],[],zs (2000-bb.length),zs (Int.toNat 2001)] L (b+1+1)).length≤2001:=by
    simp only[List.mem_cons,List.not_mem_nil,or_false]at pm;rcases pm with e|e|e|e
    ·rw[e];decide
    ·rw[e];decide
    ·rw[e];simp only[zs,List.length_replicate];omega
    ·rw[e];simp only[zs,List.length_replicate];omega
   generalize hps:OD [[120],[],zs (2000-bb.length),zs (Int.toNat 2001)] L (b+1+1)=ps at pl;have hl:bb.length+ps.length≤PA:=by unfold PA;omega
   simp only[KF,go_sem,hid,hid',P,hf,hn,w1,r1,r2,hps,hl];exact hK ⟨k,s,cl,bb++ps,w,m⟩ (b+1+1+1) (by omega) (by omega) ⟨q1,q2,q3,by simp;omega,by dsimp only;omega,by dsimp only;omega⟩
  ·have pm:=aR (l:=[[],[48],w++[49]]) (L:=L) (a:=b+1+1) (by simp) (by simp)
   have pl:(OD [[],[48],w++[49]] L (b+1+1)).length≤9:=by
    simp only[List.mem_cons,List.not_mem_nil,or_false]at pm;rcases pm with e|e|e
    ·rw[e];decide
    ·rw[e];decide
    ·rw[e,List.length_append,List.length_singleton];omega
   have pm2:=aR (l:=[[],[49],[120],m]) (L:=L) (a:=b+1+1+1) (by simp) (by simp)
   have pl2:(OD [[],[49],[120],m] L (b+1+1+1)).length≤9:=by
    simp only[List.mem_cons,List.not_mem_nil,or_false]at pm2;rcases pm2 with e|e|e|e
    ·rw[e];decide
    ·rw[e];decide
    ·rw[e];decide
    ·rw[e];omega
   have hl:w.length+1≤PA:=by unfold PA;omega
   generalize hps:OD [[],[48],w++[49]] L (b+1+1)=ps at pl;generalize hps2:OD [[],[49],[120],m] L (b+1+1+1)=ps2 at pl2;simp only[KF,go_sem,hid,hid',P,hf,hn,hps,hps2,hl];exact hK ⟨k,s,cl,bb,ps,ps2⟩ (b+1+1+1+1) (by omega) (by omega) ⟨q1,q2,q3,by dsimp only;omega,by dsimp only;omega,by dsimp only;omega⟩
 ·simp only[KF,go_sem,hid,hid',P,hf]
  exact hK ⟨k,s,cl,bb,w,m⟩ (b+1) (by omega) (by omega) ⟨q1,q2,q3,by dsimp only;omega,by dsimp only;omega,by dsimp only;omega⟩
theorem iN {l:List Int}{lo hi:Int}(hl:0<l.length)(hl2:l.length<4611686018427387904)(h:∀ x∈l,lo≤x∧x≤hi)(a:Int):lo≤PC l L a∧PC l L a≤hi:=h _ (RW hl hl2)
set_option maxHeartbeats 4000000 in
theorem zkW (hp:kB 2000 a):WD sP [] L a (fun v a2=>a≤a2∧a2≤a+60∧∃c:Cmd,CmdB 2100 c∧v=ACm c):=by
 refine WD.of fun h id hid=>?_
 rw[zex rfl];have hid':id≤h.length:=by omega
 have P:=jN (YC hp (Int.le_refl a) (by omega))
 obtain⟨k1,k2⟩:=iN (L:=L) (l:=[7,7,8,8,8,1,2,3,4,5,6,9,10]) (lo:=1) (hi:=10) (by simp) (by simp) (by simp) a
 generalize hkd:PC [7,7,8,8,8,1,2,3,4,5,6,9,10] L a=kd at k1 k2;have hb2:∀o1 o2:Obj,(h.set id (TA L a)++[o1,o2]).length=h.length+2:=fun o1 o2=>by simp
 have fin:∀(c:Cmd) (b:Int),a≤b→b≤a+50→CmdB 8 c→KF (bA X) X.gl OQ (.ref id 0) (.ref h.length 0) (.ref (h.length+1) 0) (h.set id (TA L b)++[.box [AI 0,AI 0,AI 0,AS [],AS [],AS []],.box (cmdV c)]) []
  (mA [.cell 2 (some 6)] false h.length fun v1 h1 x1=>∃a2,(a≤a2∧a2≤a+60∧∃c:Cmd,CmdB 2100 c∧v1=ACm c)∧h1=h.set id (TA L a2)∧x1=[]):=by
  intro c b hb1 hb2 hc;refine ac_k4 hid (YC hp hb1 (by omega)) c hc fun c2 b2 q1 q2 q3=>?_
  simp only[go_sem];exact⟨b2,⟨by omega,by omega,c2,q3,rfl⟩,rfl⟩
 have z:(-1152921504606846976:Int)≤0∧(0:Int)≤1152921504606846976:=by omega
 have ck:∀k:Int,1≤k→k≤10 → -1152921504606846976≤k∧k≤1152921504606846976:=fun k _ _=>by omega
 by_cases hs:kd=1∨kd=2∨kd=10
 ·obtain⟨s1,s2⟩:=iN (L:=L) (l:=[0,1,1,6,13]) (lo:=0) (hi:=13) (by simp) (by simp) (by simp) (a+1)
  generalize hsv:PC [0,1,1,6,13] L (a+1)=sv at s1 s2;have hf:=fin ⟨kd,sv,0,[],[],[]⟩ (a+1+1) (by omega) (by omega) ⟨ck _ k1 k2,by dsimp only;omega,z,Nat.zero_le _,Nat.zero_le _,Nat.zero_le _⟩
  rcases hs with rfl|rfl|rfl
  ·simp only[tF,go_sem,hid,hid',P,hkd,hsv]
   exact hf
  ·simp only[tF,go_sem,hid,hid',P,hkd,hsv]
   exact hf
  ·simp only[tF,go_sem,hid,hid',P,hkd,hsv]
   exact hf
 have n1:¬kd=1:=fun e=>hs (.inl e)
 have n2:¬kd=2:=fun e=>hs (.inr (.inl e))
 have n10:¬kd=10:=fun e=>hs (.inr (.inr e))
 by_cases h9:kd=9
 ·obtain⟨s1,s2⟩:=iN (L:=L) (l:=[0,0,1,3]) (lo:=0) (hi:=3) (by simp) (by simp) (by simp) (a+1)
  generalize hsv:PC [0,0,1,3] L (a+1)=sv at s1 s2;have hf:=fin ⟨9,0,sv,[],[],[]⟩ (a+1+1) (by omega) (by omega) ⟨ck 9 (by omega) (by omega),z,by dsimp only;omega,Nat.zero_le _,Nat.zero_le _,Nat.zero_le _⟩
  subst h9;simp only[tF,go_sem,hid,hid',P,hkd,hsv];exact hf
 by_cases h78:kd=7∨kd=8
 ·obtain⟨s1,s2⟩:=iN (L:=L) (l:=[1,2,3,5,8]) (lo:=1) (hi:=8) (by simp) (by simp) (by simp) (a+1)
  generalize hsv:PC [1,2,3,5,8] L (a+1)=sv at s1 s2;obtain⟨n,rfl⟩:∃n:Nat,sv=n:=⟨sv.toNat,by omega⟩
  obtain⟨_,a3,⟨e3,s,sb,sl,rfl⟩,V⟩:=(pU (L:=L) (a:=a+1+1) n (by omega) (YC hp (by omega) (by omega))).app (h:=h) (l:=[.box [AI 0,AI 0,AI 0,AS [],AS [],AS []],.box [AI kd,AI 0,AI 0,AS [],AS [],AS []]]) hid
  have P3:kB 0 a3:=YC hp (by omega) (by omega)
  have hid2:id<(h.set id (TA L (a3+1))++[Obj.box [AI 0,AI 0,AI 0,AS [],AS [],AS []],.box [AI kd,AI 0,AI 0,AS s,AS [],AS []]]).length:=by simp;omega
  obtain⟨_,a4,⟨e4,t,tb,tl,rfl⟩,V2⟩:=(pU (L:=L) (a:=a3+1) s.length (by omega) (YC hp (by omega) (by omega))).app (h:=h) (l:=[.box [AI 0,AI 0,AI 0,AS [],AS [],AS []],.box [AI kd,AI 0,AI 0,AS s,AS [],AS []]]) hid
  obtain⟨_,a5,⟨e5,u,ub,ul,rfl⟩,V3⟩:=(pU (L:=L) (a:=a4) s.length (by omega) (YC hp (by omega) (by omega))).app (h:=h) (l:=[.box [AI 0,AI 0,AI 0,AS [],AS [],AS []],.box [AI kd,AI 0,AI 0,AS s,AS [],AS []]]) hid
  have hf:=fin ⟨kd,0,0,s,[],[]⟩ (a3+1) (by omega) (by omega) ⟨ck _ k1 k2,z,z,by dsimp only;omega,Nat.zero_le _,Nat.zero_le _⟩
  have hf2:=fin ⟨kd,0,0,s,t,u⟩ a5 (by omega) (by omega) ⟨ck _ k1 k2,z,z,by dsimp only;omega,by dsimp only;omega,by dsimp only;omega⟩
  by_cases hfl:LB L a3 2=0
  ·rcases h78 with rfl|rfl
   ·simp only[tF,go_sem,hid,hid',P,P3,hkd,hsv,V,V2,V3,hfl]
    exact hf2
   ·simp only[tF,go_sem,hid,hid',P,P3,hkd,hsv,V,V2,V3,hfl]
    exact hf2
  ·rcases h78 with rfl|rfl
   ·simp only[tF,go_sem,hid,hid',P,P3,hkd,hsv,V,hfl]
    exact hf
   ·simp only[tF,go_sem,hid,hid',P,P3,hkd,hsv,V,hfl]
    exact hf
 ·have n7:¬kd=7:=fun e=>h78 (.inl e)
  have n8:¬kd=8:=fun e=>h78 (.inr e)
  obtain⟨s1,s2⟩:=iN (L:=L) (l:=[0,0,1,2,3]) (lo:=0) (hi:=3) (by simp) (by simp) (by simp) (a+1)
  generalize hsv:PC [0,0,1,2,3] L (a+1)=sv at s1 s2;obtain⟨n,rfl⟩:∃n:Nat,sv=n:=⟨sv.toNat,by omega⟩
  obtain⟨_,a3,⟨e3,s,sb,sl,rfl⟩,V⟩:=(pU (L:=L) (a:=a+1+1) n (by omega) (YC hp (by omega) (by omega))).app (h:=h) (l:=[.box [AI 0,AI 0,AI 0,AS [],AS [],AS []],.box [AI kd,AI 0,AI 0,AS [],AS [],AS []]]) hid
  have hf:=fin ⟨kd,0,0,s,[],[]⟩ a3 (by omega) (by omega) ⟨ck _ k1 k2,z,z,by dsimp only;omega,Nat.zero_le _,Nat.zero_le _⟩
  simp only[tF,go_sem,hid,hid',P,hkd,hsv,n1,n2,n10,h9,n7,n8,V];exact hf
end Go.Am
end
section
namespace Go.Am
variable {L:List Int} {a:Int} {h l:aA} {id:Nat} {K:kA}
attribute [-go_sem] YA
theorem znY (n:Int)(h0:0≤n)(h1:n≤1000000)(h:aA)(K:kA):bA X PB [AS [49],AI n] h K=K (AS (List.replicate n.toNat 49)) h []:=by
 rw[DX [49] n h0 (by simp;omega) h1,iR]
set_option maxHeartbeats 4000000 in
theorem zkY (n:Nat)(hn:n≤20)(hp:kB 4000 a):WD uP [AI n] L a (fun v a2=>a≤a2∧a2≤a+1300∧∃l:List Cmd,l.length≤n+11∧(∀c∈l,CmdB 2100 c)∧v=ACs l):=by
 refine WD.of fun h id hid=>?_
 rw[zez rfl];have hid':id≤h.length:=by omega
 have hz:PV.shp (some 6) (.agg [.int .i64 0,.int .i64 0,.int .i64 0,.str [],.str [],.str []])=true:=rfl
 simp only[iS,go_sem];refine XA (fun t:List Cmd×Int=>⟨[(0,.ref id 0),(5,.own h.length t.1.length 0 t.1.length),(6,AI n),(7,AI t.1.length)],h.set id (TA L t.2)++[.row (some 6) (t.1.map QA) 0],[]⟩)
  (fun t=>t.1.length≤n∧(∀c∈t.1,CmdB 2100 c)∧a≤t.2∧t.2≤a+60*t.1.length) (fun t=>n-t.1.length) ([],a) rfl ⟨by simp,by simp,by simp,by simp⟩ ?_
 rintro⟨cs,b⟩ ⟨q1,q2,q3,q4⟩
 dsimp only at q1 q2 q3 q4 ⊢;have hcz:∀c:Cmd,PV.shp (some 6) (QA c)=true:=fun c=>rfl
 rcases Nat.lt_or_ge cs.length n with hlt|hge
 ·have w2:IntKind.i64.wrap ((cs.length:Int)+1)=((cs.length+1:Nat):Int):=zA _ (by omega) (by omega)
  obtain⟨_,a3,⟨d1,d2,c,hc,rfl⟩,V⟩:=(zkW (L:=L) (a:=b) (YC hp (by omega) (by omega))).app (h:=h) (l:=[.row (some 6) (cs.map QA) 0]) hid
  have hmx:cs.length+1≤GA:=by unfold GA;omega
  have hc':=hcz c
  have hlt':(cs.length:Int)<(n:Int):=by omega
  simp only[go_sem,hid,hid',hlt,hlt',V,hmx,hz,hc',w2];refine⟨(cs++[c],a3),by simp,⟨by simp;omega,fun g hg=>?_,by dsimp only;omega,by simp;omega⟩,by simp;omega⟩
  rcases List.mem_append.1 hg with hg|hg
  ·exact q2 g hg
  ·rw[List.mem_singleton.1 hg];exact hc
 ·have hge':¬cs.length<n:=by omega
  have P:=YC (n:=0) hp q3 (by omega)
  by_cases hf:LB L b 80=0
  ·simp only[go_sem,hid,hid',hge',P,hf]
   refine XA (fun t:List Cmd×Int×Nat=>⟨[(0,.ref id 0),(5,.own h.length t.1.length 0 t.1.length),(17,AI t.2.2)],h.set id (TA L t.2.1)++[.row (some 6) (t.1.map QA) 0],[]⟩)
    (fun t=>t.2.2≤11∧t.1.length=cs.length+t.2.2∧(∀c∈t.1,CmdB 2100 c)∧t.2.1=b+1+t.2.2) (fun t=>11-t.2.2) (cs,b+1,0) rfl ⟨by simp,by simp,q2,by simp⟩ ?_
   rintro⟨ds,b2,k⟩ ⟨r1,r2,r3,r4⟩
   dsimp only at r1 r2 r3 r4 ⊢;subst r4;have P2:=YC (n:=0) (b:=b+1+(k:Int)) hp (by omega) (by omega)
   rcases Nat.lt_or_ge k 11 with hk|hk
   ·have w2:IntKind.i64.wrap ((k:Int)+1)=((k+1:Nat):Int):=zA _ (by omega) (by omega)
    obtain⟨s1,s2⟩:=iN (L:=L) (l:=[1800,1830,2000]) (lo:=1800) (hi:=2000) (by simp) (by simp) (by simp) (b+1+(k:Int))
    generalize hsv:PC [1800,1830,2000] L (b+1+(k:Int))=sv at s1 s2;have r0:=fun(h':aA) (K':kA)=>znY sv (by omega) (by omega) h' K'
    have hmx:ds.length+1≤GA:=by unfold GA;omega
    have hk':(k:Int)<11:=by omega
    have hc':=hcz ⟨8,0,0,List.replicate sv.toNat 49,[],[]⟩
    simp only[go_sem,hid,hid',hk',P2,hsv,r0,hmx,hz,hc',w2];refine⟨(ds++[⟨8,0,0,List.replicate sv.toNat 49,[],[]⟩],b+1+(k:Int)+1,k+1),by simp,⟨by dsimp only;omega,by simp;omega,fun g hg=>?_,by dsimp only;omega⟩,by dsimp only;omega⟩
    rcases List.mem_append.1 hg with hg|hg
    ·exact r3 g hg
    ·rw[List.mem_singleton.1 hg]
     exact⟨by dsimp only;omega,by dsimp only;omega,by dsimp only;omega,by simp;omega,Nat.zero_le _,Nat.zero_le _⟩
   ·obtain rfl:k=11:=by omega
    have hk':¬((11:Nat):Int)<11:=by omega
    simp only[go_sem,hid,hid',hk'];refine⟨b+1+((11:Nat):Int),⟨by omega,by omega,ds,by omega,r3,?_⟩,rfl⟩
    exact congrArg (fun x=>AV.p (PV.sl (some 6) x)) (List.take_of_length_le (by simp))
  ·simp only[go_sem,hid,hid',hge',P,hf]
   refine⟨b+1,⟨by omega,by omega,cs,by omega,q2,?_⟩,rfl⟩
   exact congrArg (fun x=>AV.p (PV.sl (some 6) x)) (List.take_of_length_le (by simp))
end Go.Am
end
section
namespace Go.Am
variable {h:aA} {K:kA}
attribute [-go_sem] YA
def pR:Cmd:=⟨7,0,0,[49,48],[],[]⟩
theorem zpr:TB jA [pR]=0:=by kernel_rfl
theorem zps:(AA (sA jA [] 0 [pR])).length=9:=by kernel_rfl
theorem clk10:clkV [pR] = .tup [AI 9,AI 0]:=by unfold clkV;rw[zpr,zps];rfl
theorem zbI:bA X rP [] h K=K (AB true) h []:=by
 refine rA ?_;have ck:=fun(h:aA) (K:kA)=>(zov (h:=h) (K:=K) [pR] (fun c hc=>by rw[List.mem_singleton.1 hc];exact⟨by decide,by decide,by decide⟩) (by decide)).trans (by rw[clk10])
 simp only[ACs,List.map_cons,List.map_nil,QA,pR]at ck;rw[zev rfl];simp only[eS,go_sem,ck]
theorem zbr (l:List (List UInt8))(hl:l.length≤1000000):bA X uL [LE l,LE l] h K=K (AB true) h []:=by
 refine rA ?_;rw[zfl rfl];simp only[YS,go_sem];refine XA (fun k:Nat=>⟨[(0,LE l),(1,LE l),(12,AI l.length),(13,AI k)],h,[]⟩) (fun k=>k≤l.length) (fun k=>l.length-k) 0 rfl (by simp) ?_
 intro k hk;rcases Nat.lt_or_ge k l.length with hlt|hge
 ·have hg:=BB PV.str hlt
  have w2:IntKind.i64.wrap ((k:Int)+1)=((k+1:Nat):Int):=zA _ (by omega) (by omega)
  simp only[go_sem,hlt,hg,w2];exact⟨k+1,rfl,by omega,by omega⟩
 ·have e1:k=l.length:=by omega
  subst e1;simp only[go_sem,Nat.lt_irrefl]
theorem z9h:∀ l:List Int,tJ l=orL l
 | []=>rfl
 | x::r=>by unfold tJ orL;rw[z9h r];by_cases h:x=0 <;> simp [h]
theorem zn7 (l:List (Nat × Nat)):AV.p (.sl none (pf1 l))=AL (l.map fun x=>(x.1:Int)):=by unfold pf1 AL;rw[List.map_map];rfl
theorem zn8 (l:List (Nat × Nat)):AV.p (.sl none (pf2 l))=AL (l.map fun x=>(x.2:Int)):=by unfold pf2 AL;rw[List.map_map];rfl
attribute [-go_sem] QT xK
set_option maxHeartbeats 4000000 in
theorem law_PR (L:List Int){K:kA}:bA X kU [AL L] [] K=K (AB true) [] []:=by
 refine rA ?_;rw[zet rfl];have p0:kB 100000 0:=by unfold kB;omega
 obtain⟨_,a1,⟨b1,b2,ds,n1,n3,hd,rfl⟩,V1⟩:=(zkX (L:=L) (a:=0) (YC p0 (by omega) (by omega))).hd (l:=[])
 have p1:kB 0 a1:=YC p0 (by omega) (by omega)
 have rb:0≤cE 0 6 L a1∧cE 0 6 L a1≤6:=dR L a1 (by omega) (by omega)
 obtain⟨n,hn⟩:∃n:Nat,cE 0 6 L a1=n:=⟨(cE 0 6 L a1).toNat,by omega⟩
 obtain⟨_,a2,⟨d1,d2,l,hl,hb,rfl⟩,V⟩:=(zkY (L:=L) (a:=a1+1) n (by omega) (YC p0 (by omega) (by omega))).hd (l:=[])
 have hok:∀c∈l,CmdOk c:=fun c hc=>(hb c hc).ok (by omega)
 have hB:∀d∈ds,DevB d:=fun d hd'=>(hd d hd').b
 have C1:=fun h K=>zoC (h:=h) (K:=K) ds hB (by omega) l hok (by omega)
 have C2:=fun h K=>zo2 (h:=h) (K:=K) ds hB (by omega) l hok (by omega)
 have C3:=fun h K=>zo4 (h:=h) (K:=K) ds hB (by omega) l hok (by omega)
 have C4:=fun h K=>zo1 (h:=h) (K:=K) ds hB (by omega)
 have C5:=fun h K=>zoy (h:=h) (K:=K) l hok (by omega)
 have C6:=fun h K=>zoH (h:=h) (K:=K) [YE ds,(TB jA l:Nat)] (by simp)
 rw[z9h]at C6;have hRF:orL [YE ds,((TB jA l:Nat):Int)]=qD ds l:=rfl
 rw[hRF]at C6;simp only[AL,List.map_cons,List.map_nil]at C6;by_cases h0:qD ds l=0
 ·obtain⟨e1,e2⟩:=xX h0
  have O:=chOk e1
  have D1:=fun h K=>z5L (h:=h) (K:=K) ds O l e2
  have D2:=fun h K=>zo5 (h:=h) (K:=K) ds O l e2
  have D3:=fun h K=>zo3 (h:=h) (K:=K) ds O l e2 (fun c hc=>(hok c hc).b)
  rw[if_pos h0]at C1 C3;rw[if_pos h0,if_pos h0]at C2;rw[h0]at C1 C2 C3 C6;have rl:(FB ds l).length=l.length:=sI jA l [] 0 0 (nC ds l)
  have fl:=lU l (FB ds l) l.length
  have ll:(bI l (FB ds l)).length=l.length:=DQ _ _ _
  rw[zn7,zn8]at C2 D3;have E1:=fun h K=>zbr (h:=h) (K:=K) (FB ds l) (by omega)
  have E2:=fun h K=>z5I (h:=h) (K:=K) ((oB l (FB ds l) l.length).map fun x=>(x.1:Int)) ((oB l (FB ds l) l.length).map fun x=>(x.1:Int)) (by rw[List.length_map];omega)
  have E3:=fun h K=>z5I (h:=h) (K:=K) ((oB l (FB ds l) l.length).map fun x=>(x.2:Int)) ((oB l (FB ds l) l.length).map fun x=>(x.2:Int)) (by rw[List.length_map];omega)
  have E4:=fun h K=>zbs (h:=h) (K:=K) (bI l (FB ds l)) (bI l (FB ds l)) (by omega)
  simp only[decide_true]at E2 E3 E4;generalize FB ds l=RV at *;generalize ((oB l RV l.length).map fun x=>(x.1:Int))=F1 at *
  generalize ((oB l RV l.length).map fun x=>(x.2:Int))=F2 at *
  generalize bI l RV=LV at *;simp only[iO,go_sem,V1,p1,hn,V,↓C1,C1,↓C2,C2,↓C3,C3,↓C4,C4,↓C5,C5,↓C6,C6,↓D1,D1,↓D2,D2,↓D3,D3];rw[QT];simp only[xK,go_sem,↓E1,E1,↓E2,E2,↓E3,E3,↓E4,E4,zbI]
 ·rw[if_neg h0]at C1 C3
  rw[if_neg h0,if_neg h0]at C2;have E1:=fun h K=>zbr (h:=h) (K:=K) [] (by simp)
  have E2:=fun h K=>z5I (h:=h) (K:=K) [] [] (by simp)
  have E4:=fun h K=>zbs (h:=h) (K:=K) [] [] (by simp)
  have E1:∀h K,bA X uL [.p (.sl none []),.p (.sl none [])] h K=K (AB true) h []:=E1
  have E2:∀h K,bA X nJ [.p (.sl none []),.p (.sl none [])] h K=K (AB true) h []:=E2
  have E4:∀h K,bA X tL [.p (.sl (some 6) []),.p (.sl (some 6) [])] h K=K (AB true) h []:=E4
  have C1:∀h K,bA X FL [IB ds,ACs l] h K=K (.tup [.p (.sl none []),AI (qD ds l)]) h []:=C1
  have C3:∀h K,bA X EL [IB ds,ACs l] h K=K (.tup [.p (.sl (some 6) []),AI (qD ds l)]) h []:=C3
  generalize qD ds l=e at *;simp only[iO,go_sem,V1,p1,hn,V,↓C1,C1,↓C2,C2,↓C3,C3,↓C4,C4,↓C5,C5,↓C6,C6,h0];rw[QT];simp only[xK,go_sem,↓E1,E1,↓E2,E2,↓E4,E4,zbI]
end Go.Am
end
section
namespace Go.Am
variable {P:Program}
theorem law_nil {X:Ctx}(HX:Fits P X){f:Nat}{F:AFun}(hF:X.fn f=some F)(H:∀ L:List Int,bA X f [SW L] [] fun v _ _=>v = .p (.bool true))(W:World)(hG:FF X.gl (imm [] [] W)) :
 Calls P f #[.slice none 0 0] W fun e W'=>e = .returned (.bool true)∧RowKit.Below W.heap.size W W':=by
 refine(z7M HX hF (H []) (W:=W) (vs:=[.slice none 0 0]) hG rfl (fun j y v hy hv=>?_)).mono fun e W' he=>?_
 ·cases j with
  | zero=>cases hy;cases hv;exact zgc W
  | succ j=>cases hy
 ·cases e with
  | returned r=>
   obtain⟨⟨v,h,x,μ,hk,hr⟩,hb⟩:=he;subst hk;exact⟨by rw[hr.p_bool],hb⟩
  | panicked _=>exact he.elim
  | outgrown=>exact he.elim
theorem law_ints {X:Ctx}(HX:Fits P X){f:Nat}{F:AFun}(hF:X.fn f=some F)(H:∀ L:List Int,bA X f [SW L] [] fun v _ _=>v = .p (.bool true)){W:World}(hG:FF X.gl (imm [] [] W)){a:Addr}{len cap:Nat}{zs:List Int}
 (hl:len≤cap) (hz:len≤zs.length) (hc:∀i,i<zs.length→W.cell? (a.add i)=some (.int .i64 (zs.getD i 0))) :
 Calls P f #[.slice (some a) len cap] W fun e W'=>e = .returned (.bool true)∧RowKit.Below W.heap.size W W':=by
 refine(z7M HX hF (H (zs.take len)) (W:=W) (vs:=[.slice (some a) len cap]) hG rfl (fun j y v hy hv=>?_)).mono fun e W' he=>?_
 ·cases j with
  | zero=>
   cases hy;cases hv
   rcases Nat.eq_zero_or_pos len with h0|h0
   ·subst h0
    exact .p _ _ (.nils _ _ _)
   ·exact zgb (by simpa [Addr.add] using World.cell?_spot (hc 0 (by omega))) hl hz hc
  | succ j=>cases hy
 ·cases e with
  | returned r=>
   obtain⟨⟨v,h,x,μ,hk,hr⟩,hb⟩:=he;subst hk;exact⟨by rw[hr.p_bool],hb⟩
  | panicked _=>exact he.elim
  | outgrown=>exact he.elim
end Go.Am
namespace Go.ChangeShapes
open Go.RowKit Go.WideShapes
end Go.ChangeShapes
end
section
namespace Go.Am
variable {P:Program} {gl:Nat→Option PV}
open Go.Shelf
theorem zah:∀ n:Nat,Go.Lib.decDigits n=eJ n:=by
 intro n;induction n using Nat.strongRecOn with
 | _ n ih=>
  rw[Go.Lib.decDigits,eJ];split
  ·rfl
  ·rw[ih _ (by omega)];rfl
theorem zmD (n:Int):Go.Lib.itoa n=itoa n:=by
 unfold Go.Lib.itoa itoa;split
 ·rw[zah]
 ·rw[zah];congr 1;omega
theorem zqi {M:Mem}{w:World}{g:Nat}{name:String}{k:IntKind}{zs:List Int}(hn:P.globalNamed name=some g)(hg:gl g=some (.agg (zs.map (PV.int k))))(hc:∀ b o v,M.c b o=some v→w.cell? ⟨b,o,none⟩=some v)(hb:∀ b o,M.b b=some o→w.heap[b]?=some o)(hG:FF gl M) :
 Go.Lib.TabIs P w name k zs:=by
 obtain⟨hv,cs,t,x,h2,h3⟩:=hG g _ hg;have h4:=hb _ _ h2
 unfold Go.Lib.TabIs World.var?;rw[hn];simp only[Option.bind_some,h4,Option.some.injEq];simp only[PV.cells,List.length_map]at h3;apply Array.ext
 ·simpa using h3
 ·intro i hi1 hi2
  have hi:i<zs.length:=by omega
  cases hv with
  | vp _ _ _ f hm hr=>
   have hy:(PV.agg (zs.map (PV.int k))).cells[i]?=some (.int k zs[i]):=by simp [PV.cells,hi]
   have q1:=hc _ _ _ (hm i _ hy)
   have q2:=hr i _ hy
   have q3:f i = .int k zs[i]:=by
    generalize f i=u at q2;cases q2;rfl
   rw[q3]at q1;have q4:cs[i]?=some (.int k zs[i]):=by simpa [World.cell?,h4] using q1
   rw[Array.getElem?_eq_getElem hi1]at q4;simpa using q4
theorem ginv_tab {W:World}{g:Nat}{name:String}{k:IntKind}{zs:List Int}{v:PV}(hn:P.globalNamed name=some g)(ht:Go.Lib.TabIs P W name k zs)(hv:v = .agg (zs.map (PV.int k))):FF (glOf [(g,v)]) (imm [] [] W):=by
 intro n v' hv';unfold glOf at hv';cases hq:Nat.beq n g with
 | false=>rw[hq]at hv';cases hv'
 | true=>
  rw[hq]at hv';have e:=Nat.eq_of_beq_eq_true hq
  subst e;simp only[cond_true,Option.some.injEq]at hv';subst hv';subst hv;unfold Go.Lib.TabIs World.var? at ht;rw[hn]at ht;simp only[Option.bind_some]at ht;cases hb:W.heap[n]? with
  | none=>rw[hb]at ht;cases ht
  | some o=>
   rw[hb]at ht;cases o with
   | cells cs t x=>
    simp only[Option.some.injEq]at ht;refine⟨.vp _ n 0 (fun j=>(zs.map fun z=>Value.int k z).getD j undef) (fun j y hy=>?_) (fun j y hy=>?_),cs,t,x,z9M hb,by rw[ht];simp [PV.cells]⟩
    ·have hj:j<zs.length:=by have:=JA hy;simpa [PV.cells] using this
     refine z9N ?_;simp [World.cell?,hb,ht,hj,List.getD_eq_getElem?_getD]
    ·have hj:j<zs.length:=by have:=JA hy;simpa [PV.cells] using this
     have e1:y = .int k zs[j]:=by simpa [PV.cells,hj] using hy.symm
     have e2:(zs.map fun z=>Value.int k z).getD j undef = .int k zs[j]:=by simp [List.getD_eq_getElem?_getD,hj]
     rw[e1,e2];exact .int k _
   | _=>cases ht
theorem zla (w:World)(k:Nat)(os:Array Go.Obj):WExt w (Go.Sort.grow (w.drewN k) os):=by
 refine⟨?_,fun b hb=>?_,rfl⟩
 ·show w.heap.size≤(w.heap++os).size
  simp
 ·show(w.heap++os)[b]?=_
  rw[Array.getElem?_append_left hb]
theorem itoaRow {ρ:Ren}(L:Go.Proofs.LaysM.n171 P ρ)(g:Nat)(hn:P.globalNamed "internal/strconv.uint64pow10" = some g)(hg:gl g=some TW)(he:∀ us w,(callFunc (ρ.f 171) us).run P w = .ok (.enter (ρ.f 171) us) w):PureRow P gl (ρ.f 171) zQ where
 enter:=he
 run M w vs r us hc hb hG hl hr hs:=by
  unfold zQ at hs;split at hs
  ·rename_i n
   match us,hl with
   | [u],_=>
    have q:=hr 0 _ u rfl rfl
    cases q;cases hbd:(decide (-9223372036854775808≤n)&&decide (n≤9223372036854775807)) with
    | false=>rw[hbd]at hs;cases hs
    | true=>
     rw[hbd]at hs;simp only[cond_true,Option.some.injEq]at hs;subst hs;simp only[Bool.and_eq_true,decide_eq_true_eq]at hbd;have hpw:TW = .agg (Go.Lib.pow10Tab.map (PV.int .u64)):=by unfold TW Go.Lib.pow10Tab;rw[List.map_map];rfl
     rw[hpw]at hg;refine(Go.Proofs.Any.strconv_Itoa L n hbd.1 hbd.2 w (zqi hn hg hc hb hG)).mono fun e w' h=>?_
     obtain⟨rfl,k,os,rfl⟩:=h;exact⟨_,rfl,zla w k os,by rw[zmD];exact .p _ _ (.str _)⟩
  ·cases hs
end Go.Am
end
section
namespace Go.Am
variable {P:Program} {gl:Nat→Option PV}
theorem z9Y {y:PV}(h:wJ y=true):∃a b c s t u,y = .agg [.int .i64 a,.int .i64 b,.int .i64 c,.str s,.str t,.str u]:=by
 unfold wJ at h;split at h
 ·exact⟨_,_,_,_,_,_,rfl⟩
 ·cases h
def cmdW (a b c:Int)(s t u:List UInt8):Value:=.agg #[.int .i64 a,.int .i64 b,.int .i64 c,.string ⟨s.toArray⟩,.string ⟨t.toArray⟩,.string ⟨u.toArray⟩]
theorem z8d (M:Mem)(a b c:Int)(s t u:List UInt8):RPV M (.agg [.int .i64 a,.int .i64 b,.int .i64 c,.str s,.str t,.str u]) (cmdW a b c s t u):=by
 refine .agg _ [_,_,_,_,_,_] rfl fun j y v h1 h2=>?_
 match j with
 | 0=>cases h1;cases h2;exact .int _ _
 | 1=>cases h1;cases h2;exact .int _ _
 | 2=>cases h1;cases h2;exact .int _ _
 | 3=>cases h1;cases h2;exact .str _
 | 4=>cases h1;cases h2;exact .str _
 | 5=>cases h1;cases h2;exact .str _
 | j+6=>simp at h1
def TI (xs:List PV)(j q:Nat):Value:=match xs[j]? with
 | some (.agg [.int .i64 a,.int .i64 b,.int .i64 c,.str s,.str t,.str u])=>match q with
  | 0=>.int .i64 a|1=>.int .i64 b|2=>.int .i64 c|3=>.string ⟨s.toArray⟩|4=>.string ⟨t.toArray⟩|_=>.string ⟨u.toArray⟩
 | _=>match q with
  | 0=>.int .i64 0|1=>.int .i64 1|2=>.int .i64 0|_=>.string ⟨#[]⟩
theorem z0F {xs:List PV}{j:Nat}{a b c:Int}{s t u:List UInt8}(h:xs[j]?=some (.agg [.int .i64 a,.int .i64 b,.int .i64 c,.str s,.str t,.str u]))(q:Nat) :
 TI xs j q=match q with
 | 0=>.int .i64 a|1=>.int .i64 b|2=>.int .i64 c|3=>.string ⟨s.toArray⟩|4=>.string ⟨t.toArray⟩|_=>.string ⟨u.toArray⟩:=by
 unfold TI;rw[h]
theorem zgl {xs:List PV}{j:Nat}(h:xs[j]?=none)(q:Nat) :
 TI xs j q=match q with
 | 0=>.int .i64 0|1=>.int .i64 1|2=>.int .i64 0|_=>.string ⟨#[]⟩:=by
 unfold TI;rw[h]
def Cmds (f:Nat→Nat→Value)(kd:Nat→Int):Prop:=∀j,∃b c s t u,f j 0 = .int .i64 (kd j)∧f j 1 = .int .i64 b∧f j 2 = .int .i64 c∧f j 3 = .string s∧f j 4 = .string t∧f j 5 = .string u
def zdg (P:Program)(fn:Nat):Prop:=
 (∀(b off len cap i:Nat) (k:Int) (f:Nat→Nat→Value) (kd:Nat→Int) (w:World),i≤len→len≤cap→Cmds f kd→len*200≤140737488351232 →
  (b<w.heap.size∧∀j q,j<len→q<6→w.cell? ⟨b,off+(6*j+q),none⟩=some (f j q)) →
  Calls P fn #[.slice (some ⟨b,off,none⟩) len cap,.int .i64 i,.int .i64 k] w fun e W'=>
   ((∃j,j<i∧e = .returned (.agg #[f j 0,f j 1,f j 2,f j 3,f j 4,f j 5])∧kd j=k∧∀j',j<j'→j'<i→kd j'≠k) ∨
    (e = .returned (.agg #[.int .i64 0,.int .i64 1,.int .i64 0,.string ⟨#[]⟩,.string ⟨#[]⟩,.string ⟨#[]⟩])∧∀j,j<i→kd j≠k))∧Go.RowKit.Below w.heap.size w W') ∧
 (∀(a:Option Addr) (cap:Nat) (k:Int) (w:World),Calls P fn #[.slice a 0 cap,.int .i64 0,.int .i64 k] w fun e W'=>
  e = .returned (.agg #[.int .i64 0,.int .i64 1,.int .i64 0,.string ⟨#[]⟩,.string ⟨#[]⟩,.string ⟨#[]⟩])∧Go.RowKit.Below w.heap.size w W')
theorem z0G {xs:List PV}(h:xs.all wJ=true)(j:Nat) :
 (xs.length≤j∧xs[j]?=none)∨(j<xs.length∧∃a b c s t u,xs[j]?=some (.agg [.int .i64 a,.int .i64 b,.int .i64 c,.str s,.str t,.str u])):=by
 rcases Nat.lt_or_ge j xs.length with h1|h1
 ·obtain⟨a,b,c,s,t,u,e⟩:=z9Y (List.all_eq_true.1 h _ (List.getElem_mem h1))
  exact .inr ⟨h1,a,b,c,s,t,u,by rw[List.getElem?_eq_getElem h1,e]⟩
 ·exact .inl ⟨h1,List.getElem?_eq_none h1⟩
theorem zgn {xs:List PV}(h:xs.all wJ=true):Cmds (TI xs) fun j=>UR ((xs[j]?).getD xQ):=fun j=>by
 rcases z0G h j with⟨_,e⟩|⟨_,a,b,c,s,t,u,e⟩
 ·simp only[zgl e,e]
  exact⟨_,_,_,_,_,rfl,rfl,rfl,rfl,rfl,rfl⟩
 ·simp only[z0F e,e]
  exact⟨_,_,_,_,_,rfl,rfl,rfl,rfl,rfl,rfl⟩
theorem zkI {p:PV→Bool}:∀{l:List PV} {j:Nat} {y:PV},l[j]?=some y→p y=true→(∀j' z,j<j'→l[j']?=some z→p z=false)→l.reverse.find? p=some y:=by
 intro l;induction l with
 | nil=>intro j y h;simp at h
 | cons a r ih=>
  intro j y h hp hn;rw[List.reverse_cons,List.find?_append];cases j with
  | succ j=>
   rw[ih (j:=j) (by simpa using h) hp (fun j' z h1 h2=>hn (j'+1) z (by omega) (by simpa using h2))]
   rfl
  | zero=>
   simp only[List.getElem?_cons_zero,Option.some.injEq]at h;subst h;have:r.reverse.find? p=none:=by
    rw[List.find?_eq_none];intro z hz;obtain⟨j',h1⟩:=List.mem_iff_getElem?.1 (List.mem_reverse.1 hz);simp [hn (j'+1) z (by omega) (by simpa using h1)]
   rw[this];simp [hp]
theorem zsA {fn:Nat}(H:zdg P fn)(he:∀ us w,(callFunc fn us).run P w = .ok (.enter fn us) w):PureRow P gl fn uR where
 enter:=he
 run M w vs r us hc hb hG hl hr hs:=by
  unfold uR at hs;split at hs
  ·rename_i xs i k
   split at hs
   ·rename_i hcd
    obtain⟨h0,hi,hlen,hall⟩:=hcd;simp only[Option.some.injEq]at hs;subst hs;match us,hl with
    | [u0,u1,u2],_=>
     have q0:=hr 0 _ u0 rfl rfl
     have q1:=hr 1 _ u1 rfl rfl
     cases q1;have q2:=hr 2 _ u2 rfl rfl
     cases q2;obtain⟨n,rfl⟩:∃n:Nat,i=n:=⟨i.toNat,by omega⟩
     simp only[Int.toNat_natCast];have hidle:∀M',RAV M' [] [] (.p xQ) (.agg #[.int .i64 0,.int .i64 1,.int .i64 0,.string ⟨#[]⟩,.string ⟨#[]⟩,.string ⟨#[]⟩]):=fun M'=>.p _ _ (z8d M' 0 1 0 [] [] [])
     generalize hsh:(some 6:Sh)=sh at q0;cases q0 with
     | nils _ a cap=>
      obtain rfl:n=0:=by simpa using hi
      refine(H.2 a cap k w).mono fun e w' h=>?_
      obtain⟨rfl,h⟩:=h;exact⟨_,rfl,VN h,hidle _⟩
     | sl _ _ b o cap f hne hcap hshp hm hrr=>
      have hn6:∀x∈xs,x.cells.length=6:=fun x hx=>by
       obtain⟨a,b,c,s,t,u,e⟩:=z9Y (List.all_eq_true.1 hall x hx);rw[e];rfl
      have hcell:∀j q,j<xs.length→q<6→w.cell? ⟨b,o+(6*j+q),none⟩=some (TI xs j q):=by
       intro j q hj hq;rcases z0G hall j with⟨h1,_⟩|⟨_,a,b',c,s,t,u,e⟩
       ·omega
       ·have hf:=VH hn6 j q hq
        rw[e]at hf;rw[Nat.mul_comm 6 j];rw[z0F e];have hq':q=0∨q=1∨q=2∨q=3∨q=4∨q=5:=by omega
        rcases hq' with rfl|rfl|rfl|rfl|rfl|rfl <;>
        ·have h1:=hc _ _ _ (hm _ _ hf)
         have h2:=hrr _ _ hf
         revert h1 h2
         generalize f _=fj;intro h1 h2;cases h2;exact h1
      have hb0:b<w.heap.size:=ZN (hcell 0 0 (List.length_pos_iff.2 hne) (by omega))
      refine(H.1 b o xs.length cap n k (TI xs) (fun j=>UR ((xs[j]?).getD xQ)) w (by omega) hcap (zgn hall) (by omega) ⟨hb0,hcell⟩).mono fun e w' h=>?_
      obtain⟨h,hB⟩:=h;rcases h with⟨j,hj,rfl,hk,hlast⟩|⟨rfl,hnone⟩
      ·rcases z0G hall j with⟨h1,_⟩|⟨_,a,b',c,s,t,u,e⟩
       ·omega
       ·have hfd:YH (xs.take n) k = .agg [.int .i64 a,.int .i64 b',.int .i64 c,.str s,.str t,.str u]:=by
         unfold YH;rw[zkI (j:=j) (y:=.agg [.int .i64 a,.int .i64 b',.int .i64 c,.str s,.str t,.str u]) (by rw[List.getElem?_take,if_pos hj];exact e) (by rw[e]at hk;simpa using hk) (fun j' z h1 h2=>by
          rw[List.getElem?_take]at h2;split at h2
          ·rename_i h3
           have:=hlast j' h1 h3;rw[h2]at this;simpa using this
          ·cases h2)]
         rfl
        refine⟨_,rfl,VN hB,?_⟩;rw[hfd];simp only[z0F e];exact .p _ _ (z8d _ a b' c s t u)
      ·have hfd:YH (xs.take n) k=xQ:=by
        unfold YH;rw[List.find?_eq_none.2]
        ·rfl
        ·intro z hz
         obtain⟨j',h1⟩:=List.mem_iff_getElem?.1 (List.mem_reverse.1 hz);rw[List.getElem?_take]at h1;split at h1
         ·rename_i h3
          have:=hnone j' h3;rw[h1]at this;simpa using this
         ·cases h1
       refine⟨_,rfl,VN hB,?_⟩;rw[hfd];exact hidle _
   ·cases hs
  ·cases hs
end Go.Am
end
