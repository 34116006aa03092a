/- Texts of the proof, laid together: SpEnt12, SpEnt13, SpFlo2, SpFlo3, SpFlo4, SpFlo5, SpFlo6, SpFlo7, SpFlo8, SpFlo9, SpFlo10, SpFlo11, PUnd, SpStnd, SpLawET, SpPath, SpReady, SpLawUN, Bridge, AmL2. -/
import Derived.KernelRfl
import Derived.ProofKit
import Derived.Shelf.Strconv.Itoa3
import Derived.Lib.LaidTab
import Derived.Test.YtklljiofechahaaGreatDoorlawUN7
set_option linter.all false
section
/- Entries drawn. -/
open Go
set_option linter.all false
set_option maxRecDepth 100000
namespace Go.Am
variable {L:List Int} {a:Int} {h l:Heap} {id:Nat} {K:Post}
attribute [-go_sem] oEqa z1o z15 z1t z25
def intA (n:Int):AV:=.p (.int .i64 n)
def MB (m:Int) (l:List (List UInt8 × Int)):Prop:=∀ s v,getM s l=some v→0≤v∧v≤m
theorem MB.upd {m:Int} {l:List (List UInt8 × Int)} (H:MB m l) (s:List UInt8) {c:Int} (h0:0≤c) (h1:c≤m+1):MB (m+1) (updM s c l):=fun s' v hv=>by
 rw[z9Z] at hv
 split at hv
 ·cases hv;exact⟨h0,h1⟩
 ·have:=H s' v hv;omega
abbrev EH (h:Heap) (id:Nat) (L:List Int) (a:Int) (es:List Ent) (M:List (List UInt8 × Int)) (x:Ent):Heap:=h.set id (strm L a)++[.row (some 8) (es.map Ent.pv) 0,mobj PV.str intA M,x.box]
set_option maxHeartbeats 4000000 in
theorem zkP (hid:id<h.length) (hp:posN 80 a) (es:List Ent) (hes:es.length≤1000) (x:Ent) (hx:EntV x) (M:List (List UInt8 × Int)) (v6 v11 v12:AV) (K:Ex→St→Prop)
 (hK:∀ (x':Ent) (a':Int) (J:Heap),EntV x'→a≤a'→a'≤a+12 →
  K .normal ⟨[(0,.ref id 0),(5,.own h.length (es.length+1) 0 (es.length+1)),(6,v6),(7,.mp (h.length+1)),(11,v11),(12,v12)],h.set id (strm L a') ++ .row (some 8) (es.map Ent.pv++[x'.pv]) 0::mobj PV.str intA M::J,[]⟩) :
 NW (z0c X) X.gl z36 ⟨[(0,.ref id 0),(5,.own h.length es.length 0 es.length),(6,v6),(7,.mp (h.length+1)),(9,.ref (h.length+2) 0),(11,v11),(12,v12)],EH h id L a es M x,[]⟩ (z0w 2 (seqN (z0c X) X.gl z37 K)):=by
 have P:=z55 (z0Q hp (Int.le_refl a) (by omega))
 obtain⟨site,no,time,kind,board,step,of,other⟩:=x
 obtain⟨xs,xb,xp,xo,xn,xt,xz⟩:=hx
 dsimp only at xs xb xp xo xn xt xz
 unfold EH Ent.box
 dsimp only
 by_cases k2:kind=2
 ·have p1:(z16 [[115,99,97,110],[115,99,97,110],[102,108,97,115,104],[98,117,114,110]] L a).length≤1000:=z1z (by simp) (by simp) 1000 (fun s hs=>by simp only[List.mem_cons,List.not_mem_nil,or_false] at hs;rcases hs with e | e | e | e <;> rw[e] <;> simp)
  simp only[go_sem,hid,P,eq_true k2]
  rw[z25]
  refine zkO hid (z0Q hp (by omega) (by omega)) es hes ⟨site,no,time,kind,board,z16 [[115,99,97,110],[115,99,97,110],[102,108,97,115,104],[98,117,114,110]] L a,of,other⟩ ⟨xs,xb,p1,xo,xn,xt,xz⟩ (mobj PV.str intA M) v6 v11 v12 K (fun x' a' J h1 h2 h3=>hK x' a' J h1 (by omega) (by omega))
 ·simp only[go_sem,hid,P,k2]
  rw[z25]
  refine zkO hid (z0Q hp (by omega) (by omega)) es hes ⟨site,no,time,kind,board,step,of,other⟩ ⟨xs,xb,xp,xo,xn,xt,xz⟩ (mobj PV.str intA M) v6 v11 v12 K (fun x' a' J h1 h2 h3=>hK x' a' J h1 (by omega) (by omega))
attribute [-go_sem] z7k
set_option maxHeartbeats 4000000 in
theorem ent_k4 (hid:id<h.length) (hp:posN 120 a) (es:List Ent) (hes:es.length≤1000) (x:Ent) (hx:EntV x) (M:List (List UInt8 × Int)) (m:Int) (hm:0≤m∧m≤1000) (hM:MB m M) (k:Nat) (v6 v11 v12:AV) (K:Ex→St→Prop)
 (hK:∀ (x':Ent) (a':Int) (M':List (List UInt8 × Int)) (J:Heap),EntV x'→a≤a'→a'≤a+15→MB (m+1) M' →
  K .normal ⟨[(0,.ref id 0),(5,.own h.length (es.length+1) 0 (es.length+1)),(6,v6),(7,.mp (h.length+1)),(11,v11),(12,v12)],h.set id (strm L a') ++ .row (some 8) (es.map Ent.pv++[x'.pv]) 0::mobj PV.str intA M'::J,[]⟩) :
 z2a (z0c X) X.gl z36 z37 (.ref id 0) (.own h.length es.length 0 es.length) v6 (.mp (h.length+1)) (AI k) (.ref (h.length+2) 0) v11 v12 (EH h id L a es M x) [] K:=by
 have P:=z55 (z0Q hp (Int.le_refl a) (by omega))
 obtain⟨site,no,time,kind,board,step,of,other⟩:=x
 obtain⟨xs,xb,xp,xo,xn,xt,xz⟩:=hx
 dsimp only at xs xb xp xo xn xt xz
 obtain⟨c,hc,c0,c1⟩:∃ c,(getM site M).getD 0=c∧0≤c∧c≤m:=by
  cases hg:getM site M with
  | none=>exact⟨0,rfl,by omega,hm.1⟩
  | some v=>exact⟨v,rfl,hM site v hg⟩
 have wc:IntKind.i64.wrap (c+1)=c+1:=z0l _ (by omega) (by omega)
 have hM':=hM.upd site (c:=c+1) (by omega) (by omega)
 have gu:getM site (updM site (c+1) M)=some (c+1):=by rw[z9Z,if_pos rfl]
 have lk:=fun (hp:Heap) (M:List (List UInt8 × Int)) (e:hp[h.length+1]?=some (mobj PV.str intA M))=>z3g (kk:=(none,[2])) (k:=site) z4Y e z1K (ok:=false) (z:=intA 0)
 have up:=fun (hp:Heap) (e:hp[h.length+1]?=some (mobj PV.str intA M))=>z5c (kk:=(none,[2])) (k:=site) z4Y e z1K (v:=c+1) rfl
 have gt:∀ (R:Obj) (M:List (List UInt8 × Int)) (t:Heap),(h.set id (strm L a)++R::mobj PV.str intA M::t)[h.length+1]?=some (mobj PV.str intA M):=fun R M t=>by
  rw[List.getElem?_append_right (by simp)];simp
 have l1:=fun R t=>lk (h.set id (strm L a)++R::mobj PV.str intA M::t) M (gt R M t)
 have l2:=fun R t=>lk (h.set id (strm L a)++R::mobj PV.str intA (updM site (c+1) M)::t) _ (gt R _ t)
 have u1:=fun R t=>up (h.set id (strm L a)++R::mobj PV.str intA M::t) (gt R M t)
 have eo:(Option.map intA (getM site M)).getD (intA 0)=AI c:=by
  rw[← hc];cases getM site M <;> rfl
 have es0:∀ (R:Obj) (t:Heap) (o:Obj),(h.set id (strm L a)++R::mobj PV.str intA M::t).set (h.length+1) o=h.set id (strm L a)++R::o::t:=fun R t o=>by
  rw[List.set_append_right _ _ (by simp)];simp
 simp only[cond_false,eo] at l1
 simp only[cond_false,gu,Option.map_some,Option.getD_some,intA,z1U,AV.top,Nat.not_lt_zero,if_false,es0] at l1 l2 u1
 unfold EH Ent.box
 dsimp only
 by_cases k7:kind=7
 ·have p1:(z16 [[115,97],[115,98]] L a).length≤1000:=z1z (by simp) (by simp) 1000 (fun s hs=>by simp only[List.mem_cons,List.not_mem_nil,or_false] at hs;rcases hs with e | e <;> rw[e] <;> simp)
  simp only[z2a,go_sem,hid,P,eq_true k7,l1,l2,u1,wc]
  rw[z25]
  refine zkO hid (z0Q hp (by omega) (by omega)) es hes ⟨site,c+1,time,kind,board,step,z16 [[115,97],[115,98]] L a,z1i 1 8 L (a+1)⟩ ⟨xs,xb,xp,p1,by dsimp only;omega,xt,xz⟩ (mobj PV.str intA (updM site (c+1) M)) v6 v11 v12 K (fun x' a' J h1 h2 h3=>hK x' a' _ J h1 (by omega) (by omega) hM')
 ·obtain⟨bb,gb,lb⟩:∃ bb:List UInt8,([.str [98,49],.str [98,50],.str [98,51]]:List PV)[k%3]?=some (.str bb)∧bb.length≤1000:=by
   have h3:k%3<3:=Nat.mod_lt _ (by omega)
   generalize k%3=j at h3
   match j,h3 with
   | 0,_=>exact⟨_,rfl,by simp⟩
   | 1,_=>exact⟨_,rfl,by simp⟩
   | 2,_=>exact⟨_,rfl,by simp⟩
  have tm:(k:Int).tmod 3=((k%3:Nat):Int):=by
   rw[Int.tmod_eq_emod_of_nonneg (by omega)];omega
  have hk3:k%3<3:=Nat.mod_lt _ (by omega)
  have cw:∀ v:List UInt8,cutP none 0 (PV.str v)=some (PV.str v):=fun _=>rfl
  by_cases k3:(3:Int)≤(k:Int)
  ·have p1:(z16 [[98,49],[98,49],[98,50],[98,51],[98,52]] L a).length≤1000:=z1z (by simp) (by simp) 1000 (fun s hs=>by simp only[List.mem_cons,List.not_mem_nil,or_false] at hs;rcases hs with e | e | e | e | e <;> rw[e] <;> simp)
   simp only[z2a,go_sem,hid,P,k7,l1,l2,u1,wc,tm,gb,hk3,cw,k3]
   exact zkP hid (z0Q hp (by omega) (by omega)) es hes ⟨site,c+1,time,kind,z16 [[98,49],[98,49],[98,50],[98,51],[98,52]] L a,step,of,other⟩ ⟨xs,p1,xp,xo,by dsimp only;omega,xt,xz⟩ (updM site (c+1) M) v6 v11 v12 K (fun x' a' J h1 h2 h3=>hK x' a' _ J h1 (by omega) (by omega) hM')
  ·simp only[z2a,go_sem,hid,P,k7,l1,l2,u1,wc,tm,gb,hk3,cw,k3]
   exact zkP hid (z0Q hp (by omega) (by omega)) es hes ⟨site,c+1,time,kind,bb,step,of,other⟩ ⟨xs,lb,xp,xo,by dsimp only;omega,xt,xz⟩ (updM site (c+1) M) v6 v11 v12 K (fun x' a' J h1 h2 h3=>hK x' a' _ J h1 (by omega) (by omega) hM')
end Go.Am
end
section
/- Entries drawn: all,right ones,texts. -/
open Go
set_option linter.all false
set_option maxRecDepth 100000
namespace Go.Am
variable {L:List Int} {a:Int} {h l:Heap} {id:Nat} {K:Post}
attribute [-go_sem] oEqa z1o z15 z1t z25 z7k z7l
theorem zkT {P:Ent→Prop}:∀ {xs:List PV},(∀ x∈xs,∃ r,P r∧x=Ent.pv r)→∃ rs:List Ent,(∀ r∈rs,P r)∧xs=rs.map Ent.pv
 | [],_=>⟨[],by simp,rfl⟩
 | x::xs,h=>by
  obtain⟨r,h1,h2⟩:=h x (by simp)
  obtain⟨rs,h3,h4⟩:=zkT (xs:=xs) (fun y hy=>h y (List.mem_cons_of_mem _ hy))
  refine⟨r::rs,fun z hz=>?_,by rw[h2,h4];rfl⟩
  rcases List.mem_cons.1 hz with rfl | hz
  ·exact h1
  ·exact h3 z hz
set_option maxHeartbeats 4000000 in
theorem zlo (hp:posN 4000 a) (n:Nat) (hn:n≤19) :
 GenE z8P [AI n] L a (fun v a2=>a≤a2∧a2≤a+1000∧∃ rs:List Ent,rs.length≤n∧(∀ r∈rs,EntV r)∧v=z1m rs):=by
 refine GenE.of fun h id hid=>?_
 rw[c_q03c rfl]
 simp only[zex,go_sem,hid]
 refine z0Y (fun t:List Ent × Int × Int × List (List UInt8 × Int)=>⟨[(0,.ref id 0),(5,.own h.length t.1.length 0 t.1.length),(6,AI t.2.1),(7,.mp (h.length+1)),(11,AI n),(12,AI t.1.length)],h.set id (strm L t.2.2.1)++[.row (some 8) (t.1.map Ent.pv) 0,mobj PV.str intA t.2.2.2],[]⟩)
  (fun t=>t.1.length≤n∧(∀ r∈t.1,EntV r)∧(a≤t.2.2.1∧t.2.2.1≤a+40*t.1.length)∧(0≤t.2.1∧t.2.1≤10*t.1.length)∧MB t.1.length t.2.2.2) (fun t=>n-t.1.length) ([],0,a,[]) rfl ⟨by simp,by simp,by simp,by simp,fun s v h=>by simp [getM] at h⟩ ?_
 rintro⟨es,t,b,M⟩ ⟨q1,q2,⟨q3,q4⟩,⟨q5,q6⟩,q7⟩
 dsimp only at q1 q2 q3 q4 q5 q6 q7
 rcases Nat.lt_or_ge es.length n with hlt | hge
 ·have P:=z55 (z0Q hp q3 (show b+14≤a+4000 by omega))
  have w1:IntKind.i64.wrap ((es.length:Int)+1)=((es.length+1:Nat):Int):=z0l _ (by omega) (by omega)
  have m1:=z7Z (L:=L) (a:=b) (l:=[0,1,1,3,10]) (by simp) (by simp)
  have b1:0≤z4c [0,1,1,3,10] L b∧z4c [0,1,1,3,10] L b≤10:=by
   simp only[List.mem_cons,List.not_mem_nil,or_false] at m1
   omega
  have w2:IntKind.i64.wrap (t+z4c [0,1,1,3,10] L b)=t+z4c [0,1,1,3,10] L b:=z0l _ (by omega) (by omega)
  have ps:(z16 [[115,97],[115,97],[115,98]] L (b+1)).length≤1000:=z1z (by simp) (by simp) 1000 (fun s hs=>by simp only[List.mem_cons,List.not_mem_nil,or_false] at hs;rcases hs with e | e | e <;> rw[e] <;> simp)
  have pz:z16 [[115,97],[115,97],[115,98]] L (b+1)≠[122,122]:=fun e=>by
   have:=z7Y (l:=[[115,97],[115,97],[115,98]]) (L:=L) (a:=b+1) (by simp) (by simp)
   rw[e] at this
   revert this;decide
  obtain⟨t',ht'⟩:∃ t',t+z4c [0,1,1,3,10] L b=t':=⟨_,rfl⟩
  have ht2:0≤t'∧t'≤10*(es.length+1):=by omega
  rw[ht'] at w2
  have fin:∀ (kd:Int),NW (z0c X) X.gl z5j ⟨[(0,.ref id 0),(5,.own h.length es.length 0 es.length),(6,AI t'),(7,.mp (h.length+1)),(8,AI es.length),(9,.ref (h.length+2) 0),(11,AI n),(12,AI es.length)],EH h id L (b+1+1+1) es M ⟨z16 [[115,97],[115,97],[115,98]] L (b+1),0,t',kd,[],[],[],0⟩,[]⟩
   (z0w 1 (seqN (z0c X) X.gl z5k (z9x (h.length+2) [] (zdj
    (fun t:List Ent × Int × Int × List (List UInt8 × Int)=>⟨[(0,.ref id 0),(5,.own h.length t.1.length 0 t.1.length),(6,AI t.2.1),(7,.mp (h.length+1)),(11,AI n),(12,AI t.1.length)],h.set id (strm L t.2.2.1)++[.row (some 8) (t.1.map Ent.pv) 0,mobj PV.str intA t.2.2.2],[]⟩)
    (fun t=>t.1.length≤n∧(∀ r∈t.1,EntV r)∧(a≤t.2.2.1∧t.2.2.1≤a+40*t.1.length)∧(0≤t.2.1∧t.2.1≤10*t.1.length)∧MB t.1.length t.2.2.2) (fun t=>n-t.1.length)
    (z0w 0 (seqN (z0c X) X.gl z38 (finR [.t 4] false h.length (fun v1 h1 x1=>∃ a2,(a≤a2∧a2≤a+1000∧∃ rs:List Ent,rs.length≤n∧(∀ r∈rs,EntV r)∧v1=z1m rs)∧h1=h.set id (strm L a2)∧x1=[])))) (es,t,b,M))))):=by
   intro kd
   rw[z7l]
   refine ent_k4 hid (z0Q hp (by omega) (by omega)) es (by omega) ⟨z16 [[115,97],[115,97],[115,98]] L (b+1),0,t',kd,[],[],[],0⟩ ⟨ps,by simp,by simp,by simp,by dsimp only;omega,by dsimp only;omega,pz,by dsimp only;omega⟩ M es.length ⟨by omega,by omega⟩ q7 es.length (AI t') (AI n) (AI es.length) _ (fun x' a' M' J r1 r2 r3 r4=>?_)
   have f1:id+1≤h.length+2:=by omega
   have f2:h.length+1≤h.length+2:=by omega
   have f3:h.length+1+1≤h.length+2:=by omega
   simp only[go_sem,w1,f1,f2,f3]
   refine⟨(es++[x'],t',a',M'),?_,⟨by simp;omega,fun r hr=>?_,⟨by dsimp only;omega,by simp;omega⟩,⟨by dsimp only;omega,by simp;omega⟩,by simpa using r4⟩,by simp;omega⟩
   ·simp only[List.length_append,List.length_cons,List.length_nil,List.map_append,List.map_cons,List.map_nil]
   ·rcases List.mem_append.1 hr with hr | hr
    ·exact q2 r hr
    ·rw[List.mem_singleton] at hr;rw[hr];exact r1
  unfold EH Ent.box at fin
  dsimp only at fin
  by_cases k3:(es.length:Int)<3
  ·have:=fin 1
   simp only[go_sem,hid,P,hlt,w2,ht',k3,splice]
   exact this
  ·have:=fin (z4c [2,2,2,3,3,4,4,5,5,6,7,1] L (b+1+1))
   simp only[go_sem,hid,P,hlt,w2,ht',k3,splice]
   exact this
 ·have en:es.length=n:=by omega
  have hb2:¬ (es.length<n):=by omega
  have hh:(h.set id (strm L b)++[Obj.row (some 8) (es.map Ent.pv) 0,mobj PV.str intA M])[h.length]?=some (.row (some 8) (es.map Ent.pv) 0):=by rw[List.getElem?_append_right (by simp)];simp
  have st:=fun K=>z6y (h:=h.set id (strm L b)++[Obj.row (some 8) (es.map Ent.pv) 0,mobj PV.str intA M]) (K:=K) h.length (es.map Ent.pv) zeH (by simp;omega) hh (g:=z4i) (caps:=[]) (c:=fun x y=>z0U (zd3 x) (zd3 y))
   (fun o x hx y hy K=>by
    obtain⟨p,hp,rfl⟩:=List.mem_map.1 hx
    obtain⟨q,hq,rfl⟩:=List.mem_map.1 hy
    dsimp only
    rw[zaq,zaq]
    exact zal p q (q2 p hp) (q2 q hq))
  have hsm:∀ x∈zcc (ltC fun x y=>z0U (zd3 x) (zd3 y)) (es.map Ent.pv),∃ r,EntV r∧x=Ent.pv r:=fun x hx=>by
   obtain⟨r,hr,rfl⟩:=List.mem_map.1 (zl4.1 hx)
   exact⟨r,q2 r hr,rfl⟩
  obtain⟨ss,s1,s2⟩:=zkT hsm
  have hsl:ss.length=es.length:=by have:=congrArg List.length s2;simp [zl3] at this;omega
  simp only[List.length_map,s2] at st
  have e0:∀ o,(h.set id (strm L b)++[Obj.row (some 8) (es.map Ent.pv) 0,mobj PV.str intA M]).set h.length o=h.set id (strm L b)++[o,mobj PV.str intA M]:=fun o=>by rw[List.set_append_right _ _ (by simp)];simp
  simp only[e0] at st
  have hw:win (ss.map Ent.pv) 0 es.length=ss.map Ent.pv:=z5E (by simp [hsl])
  have hcr:es.length≤es.length:=Nat.le_refl _
  have hll:(ss.map Ent.pv).length=es.length:=by simp [hsl]
  simp only[go_sem,hb2,↓st,st,hll,hw,hsl]
  exact⟨b,⟨q3,by omega,ss,by omega,s1,rfl⟩,rfl⟩
end Go.Am
end
section
/- The floor: its state;a board leaves its site. -/
open Go
set_option linter.all false
set_option maxRecDepth 100000
namespace Go.Am
variable {h:Heap} {K:Post}
attribute [-go_sem] oEqa z1o z15 splice
attribute [local go_sem] z22 z4d z6r z6s z93 z94 z8s z8t z95 z97 z98 z99 z9A z9B z9C z9D
structure Flo where
 bs:Brds
 sm:SMap
 ck:Nat
 ends:List EndP
 runs:List RunP
 ref:List Int
 why:List Int
def Flo.P (S:Flo):FlP:=⟨asA S.bs,asS S.sm,S.ends,S.runs⟩
def EndP.pv (e:EndP):PV:=.agg [.str e.board,.str e.step,eI e.frm,eI e.til,.bool e.pass]
def RunP.pv (r:RunP):PV:=.agg [.str r.site,eI r.frm,eI r.til]
def wbx (h:Heap) (steps:List Nm) (tries:Int) (a b c d:Nat):Obj:=.box [AStr steps,AI tries,.mp (h.length+1),.mp (h.length+2),.own (h.length+3) a 0 a,.own (h.length+4) b 0 b,.own (h.length+5) c 0 c,.own (h.length+6) d 0 d]
def FS (h:Heap) (fb:Obj) (steps:List Nm) (tries:Int) (S:Flo) (l:Heap):Heap:=
 FH h fb (mobj PV.str refA (mapB (h.length+8) S.bs)) (dobj S.sm S.ck) (.row (some 5) (S.ends.map EndP.pv) 0) (.row (some 3) (S.runs.map RunP.pv) 0) (.row none (S.ref.map eI) 0) (.row none (S.why.map eI) 0)
  (wbx h steps tries S.ends.length S.runs.length S.ref.length S.why.length) (boxB S.bs) l
def clo1 (site:Nm) (at_:Int) (r:RunP):RunP:=if r.site=site∧r.til<0 then { r with til:=at_ } else r
def cloK (l:List RunP) (site:Nm) (at_:Int) (k:Nat):List RunP:=(l.take k).map (clo1 site at_)++l.drop k
theorem cloK_0 (l:List RunP) (site:Nm) (at_:Int):cloK l site at_ 0=l:=by simp [cloK]
theorem zeq (l:List RunP) (site:Nm) (at_:Int) (k:Nat):(cloK l site at_ k).length=l.length:=by simp [cloK];omega
theorem zpq (l:List RunP) (site:Nm) (at_:Int):cloK l site at_ l.length=z1P l site at_:=by
 unfold cloK z1P
 rw[List.take_length,List.drop_length,List.append_nil]
 rfl
theorem zep {l:List RunP} {site:Nm} {at_:Int} {k:Nat} (hk:k<l.length):(cloK l site at_ k)[k]?=some l[k]:=by
 unfold cloK
 rw[List.getElem?_append_right (by simp;omega)]
 have:k-((l.take k).map (clo1 site at_)).length=0:=by simp;omega
 rw[this,List.getElem?_drop]
 simp [hk]
theorem zaO {l:List RunP} {site:Nm} {at_:Int} {k:Nat} (hk:k<l.length):cloK l site at_ (k+1)=(cloK l site at_ k).set k (clo1 site at_ l[k]):=by
 unfold cloK
 rw[List.take_succ_eq_append_getElem hk,List.map_append,List.set_append_right _ _ (by simp;omega)]
 have:k-((l.take k).map (clo1 site at_)).length=0:=by simp;omega
 rw[this,List.drop_eq_getElem_cons (i:=k) hk,List.append_assoc]
 rfl
theorem ziY {l:List RunP} {site:Nm} {at_:Int} {k:Nat} (hk:k<l.length) (e:clo1 site at_ l[k]=l[k]):cloK l site at_ (k+1)=cloK l site at_ k:=by
 rw[zaO hk,e]
 apply List.ext_getElem?
 intro i
 rw[List.getElem?_set]
 split
 ·rename_i hi;subst hi
  rw[zeq,if_pos hk,zep hk]
 ·rfl
def delS (m:SMap) (k:Nm):SMap:=match z4r k m with
 | some i=>m.eraseIdx i
 | none=>m
theorem zj5 {m:SMap} {k:Nm} (hu:(m.map fun e=>e.1.1).Nodup):asS (delS m k)=delA (asS m) k∧((delS m k).map fun e=>e.1.1).Nodup:=by
 have main:delS m k=m.filter fun e=>!decide (e.1.1=k):=by
  unfold delS
  induction m with
  | nil=>rfl
  | cons y r ih=>
   rw[List.map_cons,List.nodup_cons] at hu
   have q:=ih hu.2
   unfold z4r
   rw[List.filter_cons]
   by_cases h:k=y.1.1
   ·rw[if_pos h]
    have:r.filter (fun e=>!decide (e.1.1=k))=r:=by
     rw[List.filter_eq_self]
     intro z hz
     have:¬ z.1.1=k:=fun e=>hu.1 (by rw[← h,← e];exact List.mem_map_of_mem hz)
     simp [this]
    rw[if_neg (by simp [h.symm]),this]
    rfl
   ·have hn:¬ y.1.1=k:=fun z=>h z.symm
    rw[if_neg h,if_pos (by simp [hn]),← q]
    cases z4r k r with
    | none=>rfl
    | some i=>rfl
 rw[main]
 constructor
 ·unfold asS delA
  rw[List.filter_map]
  rfl
 ·exact List.Nodup.sublist (List.Sublist.map _ List.filter_sublist) hu
theorem mdel_d {id:Nat} {hp:Heap} {m:SMap} {c:Nat} {k:Nm} (hh:hp[id]?=some (dobj m c)) :
 z4u (none,[2]) (.mp id) (AS k) hp=some (.und,hp.set id (dobj (delS m k) c),[]):=by
 have e1:z2f (none,[2]) (AS k)=some (.str k):=z1K
 have e2:mget hp (.mp id)=some (id,m.map fun e=>(⟨.str e.1.1,AS e.1.2,e.2⟩:ME),c):=by simp only[mget,hh,dobj]
 simp only[z4u,e1,e2,zae]
 unfold delS
 cases hf:z4r k m with
 | none=>
  have:hp.set id (dobj m c)=hp:=set_id hh
  rw[this]
 | some i=>
  simp only[dobj]
  have e3:∀ (m:SMap) (i:Nat),(m.map fun e=>(⟨.str e.1.1,AS e.1.2,e.2⟩:ME)).eraseIdx i=(m.eraseIdx i).map fun e=>(⟨.str e.1.1,AS e.1.2,e.2⟩:ME):=by
   intro m
   induction m with
   | nil=>intro i;rfl
   | cons y r ih=>
    intro i
    cases i with
    | zero=>rfl
    | succ i=>simp only[List.map_cons,List.eraseIdx_cons_succ,ih i]
  rw[e3]
attribute [-go_sem] z4u
set_option maxHeartbeats 4000000 in
theorem zop (fb:Obj) (steps:List Nm) (tries:Int) (S:Flo) (l:Heap) (i:Nat) (e:Ent × Sta) (hi:S.bs[i]?=some e) (hr:S.runs.length≤1000000) (at_:Int) :
 z0c X z4U [.ref (h.length+7) 0,.ref (qB h i) 0,AI at_] (FS h fb steps tries S l) K=K (.tup []) (FS h fb steps tries { S with bs:=S.bs.set i (e.1,{ e.2 with site:=[] }),sm:=delS S.sm e.2.site,runs:=z1P S.runs e.2.site at_ } l) []:=by
 refine rule ?_
 rw[c_q086 rfl]
 obtain⟨bs,sm,ck,ends,runs,ref,why⟩:=S
 obtain⟨x,st,si,sp,ss,sf⟩:=e
 dsimp only at hi hr ⊢
 have gq:=fun (o0 o1 o2 o3 o4 o5 o6 o7:Obj) (l:Heap)=>zsV (h:=h) (o0:=o0) (o1:=o1) (o2:=o2) (o3:=o3) (o4:=o4) (o5:=o5) (o6:=o6) (o7:=o7) (l:=l) hi
 have sq:=fun (o0 o1 o2 o3 o4 o5 o6 o7:Obj) (l:Heap)=>FH_sq (h:=h) (o0:=o0) (o1:=o1) (o2:=o2) (o3:=o3) (o4:=o4) (o5:=o5) (o6:=o6) (o7:=o7) (l:=l) hi ⟨st,si,sp,[],sf⟩
 unfold Sta.bx at gq sq
 dsimp only at gq sq
 unfold FS wbx
 dsimp only
 simp only[ze9,go_sem]
 refine z0Y (fun k:Nat=>⟨[(0,.ref (h.length+7) 0),(1,.ref (qB h i) 0),(2,AI at_),(11,AI runs.length),(12,AI k)],
  FH h fb (mobj PV.str refA (mapB (h.length+8) bs)) (dobj sm ck) (.row (some 5) (ends.map EndP.pv) 0) (.row (some 3) ((cloK runs ss at_ k).map RunP.pv) 0) (.row none (ref.map eI) 0) (.row none (why.map eI) 0)
   (.box [AStr steps,AI tries,.mp (h.length+1),.mp (h.length+2),.own (h.length+3) ends.length 0 ends.length,.own (h.length+4) runs.length 0 runs.length,.own (h.length+5) ref.length 0 ref.length,.own (h.length+6) why.length 0 why.length]) (boxB bs) l,[]⟩) (fun k=>k≤runs.length) (fun k=>runs.length-k) 0 (by rw[cloK_0];rfl) (by omega) ?_
 intro k hk
 rcases Nat.lt_or_ge k runs.length with hlt | hge
 ·have w1:IntKind.i64.wrap ((k:Int)+1)=((k+1:Nat):Int):=z0l _ (by omega) (by omega)
  have hl:=zeq runs ss at_ k
  have hg:((cloK runs ss at_ k).map RunP.pv)[k]?=some (RunP.pv runs[k]):=by rw[List.getElem?_map,zep hlt];rfl
  have c0:cutP none 0 (RunP.pv runs[k])=some (.str runs[k].site):=rfl
  have c2:cutP none 2 (RunP.pv runs[k])=some (eI runs[k].til):=rfl
  have hs1:=zaO (l:=runs) (site:=ss) (at_:=at_) hlt
  have hs2:=fun e=>ziY (l:=runs) (site:=ss) (at_:=at_) hlt e
  by_cases h1:runs[k].site=ss
  ·by_cases h2:runs[k].til<0
   ·have e1:clo1 ss at_ runs[k]=⟨runs[k].site,runs[k].frm,at_⟩:=by unfold clo1;rw[if_pos ⟨h1,h2⟩]
    rw[e1] at hs1
    have fp:RunP.pv runs[k] = .agg [.str runs[k].site,eI runs[k].frm,eI runs[k].til]:=rfl
    rw[fp] at hg c0 c2
    simp only[go_sem,hlt,gq,hl,hg,c0,c2,h1,h2,w1,splice]
    refine⟨k+1,?_,by omega,by omega⟩
    rw[hs1,List.map_set,← h1]
    rfl
   ·have e1:clo1 ss at_ runs[k]=runs[k]:=by unfold clo1;rw[if_neg (by intro z;exact h2 z.2)]
    simp only[go_sem,hlt,gq,hl,hg,c0,c2,h1,h2,w1]
    exact⟨k+1,by rw[hs2 e1],by omega,by omega⟩
  ·have e1:clo1 ss at_ runs[k]=runs[k]:=by unfold clo1;rw[if_neg (by intro z;exact h1 z.1)]
   simp only[go_sem,hlt,gq,hl,hg,c0,c2,h1,w1]
   exact⟨k+1,by rw[hs2 e1],by omega,by omega⟩
 ·have ek:k=runs.length:=by omega
  subst ek
  rw[zpq]
  have md:=fun (o0 o1 o3 o4 o5 o6 o7:Obj) (B l:Heap)=>mdel_d (id:=h.length+2) (hp:=FH h o0 o1 (dobj sm ck) o3 o4 o5 o6 o7 B l) (m:=sm) (c:=ck) (k:=ss) z6s
  have s3:∀ v:AV,splice [AI st,AI si,AS sp,AS ss,AI sf] 3 [v]=[AI st,AI si,AS sp,v,AI sf]:=fun _=>rfl
  have cl:(z1P runs ss at_).length=runs.length:=by simp [z1P]
  have ml:=z5b (h.length+8) bs i _ ⟨st,si,sp,[],sf⟩ hi
  have bl:(boxB (bs.set i (x,⟨st,si,sp,[],sf⟩))).length=(boxB bs).length:=by rw[z0J,z0J,List.length_set]
  simp only[go_sem,Nat.lt_irrefl,gq,md,s3,sq,cl,ml]
  exact List.take_of_length_le (by rw[z22,bl];exact Nat.le_refl _)
end Go.Am
end
section
/- The floor: a start,a finish. -/
open Go
set_option linter.all false
set_option maxRecDepth 100000
namespace Go.Am
variable {h:Heap} {K:Post}
attribute [-go_sem] oEqa z1o z15 z4u
attribute [local go_sem] z22 z4d z6r z6s z93 z94 z8s z8t z95 z97 z98 z99 z9A z9B z9C z9D
theorem mupd_d {id:Nat} {hp:Heap} {m:SMap} {c:Nat} {k v:Nm} (hh:hp[id]?=some (dobj m c)) (hn:getA (asS m) k=none) :
 z15 (none,[2]) (.mp id) (AS k) (AS v) hp=some (.und,hp.set id (dobj (m++[((k,v),c)]) (c+1)),[]):=by
 have e1:z2f (none,[2]) (AS k)=some (.str k):=z1K
 have e2:mget hp (.mp id)=some (id,m.map fun e=>(⟨.str e.1.1,AS e.1.2,e.2⟩:ME),c):=by simp only[mget,hh,dobj]
 have e3:okIn (AS v)=true:=rfl
 have e4:z4r k m=none:=by
  cases hf:z4r k m with
  | none=>rfl
  | some i=>
   exfalso
   have h1:=z78 k m
   rw[hf,Option.bind_some] at h1
   obtain⟨y,hy⟩:=Option.isSome_iff_exists.1 (z9X k m i hf)
   rw[hy] at h1
   have h2:(m.find? fun e=>decide (e.1.1=k))=some y:=h1.symm
   unfold getA asS at hn
   rw[List.find?_map,Option.map_map,Option.map_eq_none_iff] at hn
   have h3:(m.find? fun e=>decide (e.1.1=k))=none:=hn
   rw[h3] at h2;cases h2
 simp only[z15,e1,e2,e3,zae,e4]
 simp [dobj,z1U,AV.top]
theorem z6H {bs:Brds} {i:Nat} {x0:Ent} {st:Sta} (hi:bs[i]?=some (x0,st)):∃ Bx:Sta→Heap,boxB bs=Bx st∧(∀ s,boxB (bs.set i (x0,s))=Bx s)∧(∀ s,(Bx s).length=3*bs.length) ∧
 (∀ a b c d e o0 o1 o2 o3 o4 o5 o6 o7 l,(FH h o0 o1 o2 o3 o4 o5 o6 o7 (Bx ⟨a,b,c,d,e⟩) l)[qB h i]?=some (.box [AI a,AI b,AS c,AS d,AI e])) ∧
 (∀ s a b c d e o0 o1 o2 o3 o4 o5 o6 o7 l,(FH h o0 o1 o2 o3 o4 o5 o6 o7 (Bx s) l).set (qB h i) (.box [AI a,AI b,AS c,AS d,AI e])=FH h o0 o1 o2 o3 o4 o5 o6 o7 (Bx ⟨a,b,c,d,e⟩) l) ∧
 (∀ s o o0 o1 o2 o3 o4 o5 o6 o7 l,(FH h o0 o1 o2 o3 o4 o5 o6 o7 (Bx s) (l++[o]))[h.length+(8+3*bs.length+l.length)]?=some o) ∧
 (∀ s o0 o1 o2 o3 o4 o5 o6 o7 l l2,(FH h o0 o1 o2 o3 o4 o5 o6 o7 (Bx s) (l++l2)).take (h.length+(8+3*bs.length+l.length))=FH h o0 o1 o2 o3 o4 o5 o6 o7 (Bx s) l):=by
 have hl:i<bs.length:=by
  rcases Nat.lt_or_ge i bs.length with h | h
  ·exact h
  ·rw[List.getElem?_eq_none h] at hi;cases hi
 have hs:∀ s,(bs.set i (x0,s))[i]?=some (x0,s):=fun s=>by rw[List.getElem?_set];simp [hl]
 have hlen:∀ s,(boxB (bs.set i (x0,s))).length=3*bs.length:=fun s=>by rw[z0J,List.length_set]
 refine⟨fun s=>boxB (bs.set i (x0,s)),?_,fun s=>rfl,hlen,fun a b c d e o0 o1 o2 o3 o4 o5 o6 o7 l=>?_,fun s a b c d e o0 o1 o2 o3 o4 o5 o6 o7 l=>?_,fun s o o0 o1 o2 o3 o4 o5 o6 o7 l=>?_,fun s o0 o1 o2 o3 o4 o5 o6 o7 l l2=>?_⟩
 ·have:bs.set i (x0,st)=bs:=by
   apply List.ext_getElem?
   intro j
   rw[List.getElem?_set]
   split
   ·rename_i e;subst e;rw[hi]
   ·rfl
  dsimp only
  rw[this]
 ·exact zsV (hs ⟨a,b,c,d,e⟩)
 ·have:=FH_sq (h:=h) (o0:=o0) (o1:=o1) (o2:=o2) (o3:=o3) (o4:=o4) (o5:=o5) (o6:=o6) (o7:=o7) (l:=l) (hs s) ⟨a,b,c,d,e⟩
  rw[List.set_set] at this
  exact this
 ·have:=zsW (h:=h) (o0:=o0) (o1:=o1) (o2:=o2) (o3:=o3) (o4:=o4) (o5:=o5) (o6:=o6) (o7:=o7) (B:=boxB (bs.set i (x0,s))) (l:=l++[o]) l.length
  rw[hlen s] at this
  rw[this];simp
 ·have:=zoX (h:=h) (o0:=o0) (o1:=o1) (o2:=o2) (o3:=o3) (o4:=o4) (o5:=o5) (o6:=o6) (o7:=o7) (B:=boxB (bs.set i (x0,s))) (l:=l++l2) l.length
  rw[hlen s] at this
  rw[this];simp
def Flo.start (S:Flo) (i:Nat) (x0:Ent) (st:Sta) (x:Ent):Flo:=
 { S with bs:=S.bs.set i (x0,⟨2,x.time,st.step,x.site,st.failed⟩),sm:=S.sm++[((x.site,x.board),S.ck)],ck:=S.ck+1,runs:=S.runs++[⟨x.site,x.time,-1⟩] }
def Flo.startR (S:Flo) (i:Nat) (x0:Ent) (st:Sta) (x:Ent):Int × Flo:=
 if st.state≠1 then (11,S) else if x.step≠st.step then (3,S) else if (getA (asS S.sm) x.site).isSome=true then (12,S) else (0,S.start i x0 st x)
theorem esc7 (h:Heap):∀ k n o m,k<7→z1U (h.length+7) (.own (h.length+k) n o m)=[]:=fun k n o m hk=>by unfold z1U;rw[zo6,if_neg (by omega)]
set_option maxHeartbeats 4000000 in
theorem zuD (fb:Obj) (steps:List Nm) (tries:Int) (S:Flo) (l:Heap) (i:Nat) (x0:Ent) (st:Sta) (hi:S.bs[i]?=some (x0,st)) (hr:S.runs.length≤1000000) (x:Ent) :
 z0c X z72 [.ref (h.length+7) 0,.ref (qB h i) 0,.p x.pv] (FS h fb steps tries S l) K =
  K (AI (S.startR i x0 st x).1) (FS h fb steps tries (S.startR i x0 st x).2 l) []:=by
 refine rule ?_
 rw[c_q087 rfl]
 obtain⟨Bx,b1,b2,b3,G,Sq,T,Tk⟩:=z6H (h:=h) hi
 obtain⟨bs,sm,ck,ends,runs,ref,why⟩:=S
 obtain⟨s1,s2,s3,s4,s5⟩:=st
 obtain⟨site,no,time,kind,board,step,of,other⟩:=x
 unfold Flo.startR FS wbx Flo.start
 dsimp only at hi hr b1 b2 b3 T Tk ⊢
 have ml:=fun s=>z5b (h.length+8) bs i _ s hi
 rw[b1]
 have lk:=fun (o0 o1 o3 o4 o5 o6 o7:Obj) (B l:Heap)=>look_d (id:=h.length+2) (hp:=FH h o0 o1 (dobj sm ck) o3 o4 o5 o6 o7 B l) (m:=sm) (c:=ck) (k:=site) z6s
 have m1:runs.length+1≤z0V:=by unfold z0V;omega
 have e5:=fun n o m=>esc7 h 4 n o m (by decide)
 by_cases h1:s1=1
 ·subst h1
  rw[if_neg (by simp)]
  by_cases h2:step=s3
  ·subst h2
   rw[if_neg (by simp)]
   cases hg:getA (asS sm) site with
   | some v=>
    rw[if_pos (show (some v).isSome=true from rfl)]
    rw[hg] at lk
    simp only[Option.isSome_some,Option.getD_some] at lk
    simp only[z8M,Ent.pv,go_sem,b3,T,G,lk]
    rw[b1];exact Tk _ _ _ _ _ _ _ _ _ _ _
   | none=>
    rw[if_neg (show ¬ (none:Option Nm).isSome=true by simp)]
    rw[hg] at lk
    have up:=fun (o0 o1 o3 o4 o5 o6 o7:Obj) (B l:Heap)=>mupd_d (id:=h.length+2) (hp:=FH h o0 o1 (dobj sm ck) o3 o4 o5 o6 o7 B l) (m:=sm) (c:=ck) (k:=site) (v:=board) z6s hg
    simp only[Option.isSome_none,Option.getD_none] at lk
    simp only[z8M,Ent.pv,go_sem,b3,T,G,lk,up,Sq,splice,m1,e5]
    rw[Tk,b2,ml,List.map_append]
    rfl
  ·rw[if_pos h2]
   simp only[z8M,Ent.pv,go_sem,b3,T,G,lk,h2]
   rw[b1];exact Tk _ _ _ _ _ _ _ _ _ _ _
 ·rw[if_pos h1]
  simp only[z8M,Ent.pv,go_sem,b3,T,G,lk,h1]
  rw[b1];exact Tk _ _ _ _ _ _ _ _ _ _ _
end Go.Am
end
section
/- The floor: a run that ends. -/
open Go
set_option linter.all false
set_option maxRecDepth 100000
namespace Go.Am
variable {h:Heap} {K:Post}
attribute [-go_sem] oEqa z1o z15 z4u
attribute [local go_sem] z22 z4d z6r z6s z93 z94 z8s z8t z95 z97 z98 z99 z9A z9B z9C z9D
theorem s_flAt (fb:Obj) (steps:List Nm) (tries:Int) (hst:steps.length≤1000) (k:Nm) (o1 o2 o3 o4 o5 o6:Obj) (r1 r2 r3 r4 r5 r6:AV) (B l:Heap) :
 z0c X z70 [.ref (h.length+7) 0,AS k] (FH h fb o1 o2 o3 o4 o5 o6 (.box [AStr steps,AI tries,r1,r2,r3,r4,r5,r6]) B l) K=K (AI (if steps.findIdx (fun y=>decide (y=k))<steps.length then (steps.findIdx (fun y=>decide (y=k)):Int) else -1)) (FH h fb o1 o2 o3 o4 o5 o6 (.box [AStr steps,AI tries,r1,r2,r3,r4,r5,r6]) B l) []:=by
 refine rule ?_
 rw[c_q084 rfl]
 have q:=fun h K=>zri (h:=h) (K:=K) steps (strS _) k (by omega)
 simp only[zj1,go_sem,q]
 exact List.take_of_length_le (by rw[z22];exact Nat.le_refl _)
def Flo.finish (S:Flo) (steps:List Nm) (tries:Int) (i:Nat) (x0:Ent) (st:Sta) (x:Ent):Flo:=
 { S with bs:=S.bs.set i (x0,z1D steps tries st x.time (decide (x.kind=3))),sm:=delS S.sm st.site,ends:=S.ends++[⟨x.board,st.step,st.since,x.time,decide (x.kind=3)⟩],runs:=z1P S.runs st.site x.time }
def Flo.finishR (S:Flo) (steps:List Nm) (tries:Int) (i:Nat) (x0:Ent) (st:Sta) (x:Ent):Int × Flo:=
 if st.state≠2 then (11,S) else if st.site≠x.site then (13,S) else (0,S.finish steps tries i x0 st x)
set_option maxHeartbeats 8000000 in
theorem zqG (fb:Obj) (steps:List Nm) (tries:Int) (hst:steps.length≤1000) (S:Flo) (l:Heap) (i:Nat) (x0:Ent) (st:Sta) (hi:S.bs[i]?=some (x0,st)) (hr:S.runs.length≤1000000) (he:S.ends.length≤1000000) (hs:st.state=2→st.step∈steps) (hf:0≤st.failed∧st.failed≤1000000) (x:Ent) :
 z0c X z71 [.ref (h.length+7) 0,.ref (qB h i) 0,.p x.pv] (FS h fb steps tries S l) K =
  K (AI (S.finishR steps tries i x0 st x).1) (FS h fb steps tries (S.finishR steps tries i x0 st x).2 l) []:=by
 refine rule ?_
 rw[c_q085 rfl]
 obtain⟨Bx,b1,b2,b3,G,Sq,T,Tk⟩:=z6H (h:=h) hi
 obtain⟨bs,sm,ck,ends,runs,ref,why⟩:=S
 obtain⟨s1,s2,s3,s4,s5⟩:=st
 have lv:=fun K=>zop (h:=h) (K:=K) fb steps tries ⟨bs,sm,ck,ends++[⟨x.board,s3,s2,x.time,decide (x.kind=3)⟩],runs,ref,why⟩ (l++[x.bx]) i _ hi hr x.time
 have ml:=fun s=>z5b (h.length+8) bs i _ s hi
 obtain⟨site,no,time,kind,board,step,of,other⟩:=x
 unfold FS wbx at lv
 unfold Flo.finishR FS wbx Flo.finish
 dsimp only at hi hr he hs hf b1 b2 b3 T Tk ml lv ⊢
 rw[b1,b2,ml] at lv
 rw[b1]
 have m1:ends.length+1≤z0V:=by unfold z0V;omega
 have e3:=fun n o m=>esc7 h 3 n o m (by decide)
 have ev:∀ e:EndP,EndP.pv e = .agg [.str e.board,.str e.step,eI e.frm,eI e.til,.bool e.pass]:=fun _=>rfl
 have cl:(z1P runs s4 time).length=runs.length:=by simp [z1P]
 simp only[List.map_append,List.map_cons,List.map_nil,List.length_append,List.length_cons,List.length_nil,Nat.zero_add,ev,cl,Ent.bx] at lv
 by_cases h1:s1=2
 ·subst h1
  rw[if_neg (by simp)]
  by_cases h2:s4=site
  ·subst h2
   rw[if_neg (by simp)]
   by_cases k3:kind=3
   ·subst k3
    have hin:=hs rfl
    obtain⟨j,hj⟩:∃ j,steps.findIdx (fun y=>decide (y=s3))=j:=⟨_,rfl⟩
    have jl:j<steps.length:=by rw[← hj];exact List.findIdx_lt_length_of_exists ⟨s3,hin,by simp⟩
    have at1:=fun (o1 o2 o3 o4 o5 o6:Obj) (r1 r2 r3 r4 r5 r6:AV) (B l:Heap) K=>s_flAt (h:=h) (K:=K) fb steps tries hst s3 o1 o2 o3 o4 o5 o6 r1 r2 r3 r4 r5 r6 B l
    rw[hj,if_pos jl] at at1
    have w1:IntKind.i64.wrap ((j:Int)+1)=((j+1:Nat):Int):=z0l _ (by omega) (by omega)
    unfold z1D
    rw[if_pos (by simp),hj]
    simp only[decide_true] at lv
    by_cases hl:j+1=steps.length
    ·rw[if_pos hl]
     have hl':((j+1:Nat):Int)=(steps.length:Int):=by omega
     simp only[z4J,Ent.pv,go_sem,b3,T,G,Sq,splice,m1,e3,↓lv,lv,↓at1,at1,w1,eq_true hl']
     rw[Tk,b2,ml,List.map_append,cl]
     rfl
    ·rw[if_neg hl]
     have hl':¬ ((j+1:Nat):Int)=(steps.length:Int):=by omega
     have hlt:j+1<steps.length:=by omega
     have gs:=z1b PV.str hlt
     have cw:∀ v:List UInt8,cutP none 0 (PV.str v)=some (PV.str v):=fun _=>rfl
     have gd:(steps[j+1]?).getD []=steps[j+1]:=by rw[List.getElem?_eq_getElem hlt];rfl
     rw[gd]
     simp only[z4J,Ent.pv,go_sem,b3,T,G,Sq,splice,m1,e3,↓lv,lv,↓at1,at1,w1,hl',gs,cw,hlt]
     rw[Tk,b2,ml,List.map_append,cl]
     rfl
   ·have w1:IntKind.i64.wrap (s5+1)=s5+1:=z0l _ (by omega) (by omega)
    unfold z1D
    rw[if_neg (by simp [k3])]
    rw[decide_eq_false k3] at lv ⊢
    by_cases ht:s5+1=tries
    ·rw[if_pos ht]
     simp only[z4J,Ent.pv,go_sem,b3,T,G,Sq,splice,m1,e3,↓lv,lv,k3,w1,eq_true ht]
     rw[Tk,b2,ml,List.map_append,cl]
     rfl
    ·rw[if_neg ht]
     simp only[z4J,Ent.pv,go_sem,b3,T,G,Sq,splice,m1,e3,↓lv,lv,k3,w1,ht]
     rw[Tk,b2,ml,List.map_append,cl]
     rfl
  ·rw[if_pos h2]
   simp only[z4J,Ent.pv,go_sem,b3,T,G,h2]
   rw[b1];exact Tk _ _ _ _ _ _ _ _ _ _ _
 ·rw[if_pos h1]
  simp only[z4J,Ent.pv,go_sem,b3,T,G,h1]
  rw[b1];exact Tk _ _ _ _ _ _ _ _ _ _ _
end Go.Am
end
section
/- The floor: an entry taken. -/
open Go
set_option linter.all false
set_option maxRecDepth 100000
namespace Go.Am
variable {h:Heap} {K:Post}
attribute [-go_sem] oEqa z1o z15 z4u
attribute [local go_sem] z22 z4d z6r z6s z93 z94 z8s z8t z95 z97 z98 z99 z9A z9B z9C z9D
def Flo.put (S:Flo) (i:Nat) (x0:Ent) (st:Sta):Flo:={ S with bs:=S.bs.set i (x0,st) }
def Flo.old (S:Flo) (steps:List Nm) (tries:Int) (x:Ent) (i:Nat) (x0:Ent) (st:Sta):Int × Flo:=
 if x.kind=2 then S.startR i x0 st x
 else if x.kind=3∨x.kind=4 then S.finishR steps tries i x0 st x
 else if x.kind=5 then (if st.state≠3 then (11,S) else (0,S.put i x0 ⟨1,x.time,st.step,st.site,st.failed⟩))
 else if st.state=4∨st.state=5 then (11,S)
 else if st.state=2 then (0,{ S with bs:=S.bs.set i (x0,⟨5,x.time,st.step,[],st.failed⟩),sm:=delS S.sm st.site,runs:=z1P S.runs st.site x.time })
 else (0,S.put i x0 ⟨5,x.time,st.step,st.site,st.failed⟩)
theorem ixB_lt {k:Nm}:∀ {bs:Brds} {i:Nat},ixB k bs=some i→∃ e,bs[i]?=some e:=fun {bs i} h=>by
 obtain⟨e,h1,_⟩:=(zaa k bs).2 i h
 exact⟨e,h1⟩
theorem znX (h:Heap) (i:Nat):refA (h.length+8+(3*i+2)) = .ref (qB h i) 0:=by unfold refA qB;rw[Nat.add_assoc]
set_option maxHeartbeats 8000000 in
theorem zor (fb:Obj) (steps:List Nm) (tries:Int) (hst:steps.length≤1000) (S:Flo) (l:Heap) (i:Nat) (x0:Ent) (st:Sta) (x:Ent) (hx:ixB x.board S.bs=some i) (hi:S.bs[i]?=some (x0,st)) (hr:S.runs.length≤1000000) (he:S.ends.length≤1000000) (hs:st.state=2→st.step∈steps) (hf:0≤st.failed∧st.failed≤1000000) (hk:x.kind≠1) :
 z0c X z3v [.ref (h.length+7) 0,.p x.pv] (FS h fb steps tries S l) K=K (AI (S.old steps tries x i x0 st).1) (FS h fb steps tries (S.old steps tries x i x0 st).2 l) []:=by
 refine rule ?_
 rw[zem rfl]
 have sS:=fun K=>zuD (h:=h) (K:=K) fb steps tries S (l++[x.bx]) i x0 st hi hr x
 have sF:=fun K=>zqG (h:=h) (K:=K) fb steps tries hst S (l++[x.bx]) i x0 st hi hr he hs hf x
 have lv:=fun K=>zop (h:=h) (K:=K) fb steps tries S (l++[x.bx]) i _ hi hr x.time
 have tkS:∀ S',S'.bs.length=S.bs.length→(FS h fb steps tries S' (l++[x.bx])).take (h.length+(8+3*S.bs.length+l.length))=FS h fb steps tries S' l:=fun S' hl=>by
  unfold FS
  have:=zoX (h:=h) (B:=boxB S'.bs) (l:=l++[x.bx]) (o0:=fb) (o1:=mobj PV.str refA (mapB (h.length+8) S'.bs)) (o2:=dobj S'.sm S'.ck) (o3:=.row (some 5) (S'.ends.map EndP.pv) 0) (o4:=.row (some 3) (S'.runs.map RunP.pv) 0) (o5:=.row none (S'.ref.map eI) 0) (o6:=.row none (S'.why.map eI) 0) (o7:=wbx h steps tries S'.ends.length S'.runs.length S'.ref.length S'.why.length) l.length
  rw[z0J,hl] at this
  rw[this]
  simp
 have lenS:∀ r,(S.startR i x0 st x)=r→r.2.bs.length=S.bs.length:=fun r hr=>by
  subst hr;unfold Flo.startR Flo.start
  split
  ·rfl
  split
  ·rfl
  split
  ·rfl
  ·simp
 have lenF:∀ r,(S.finishR steps tries i x0 st x)=r→r.2.bs.length=S.bs.length:=fun r hr=>by
  subst hr;unfold Flo.finishR Flo.finish
  split
  ·rfl
  split
  ·rfl
  ·simp
 have lk:=fun (o0 o2 o3 o4 o5 o6 o7:Obj) (B l:Heap)=>z3g (kk:=(none,[2])) (k:=x.board) (h:=FH h o0 (mobj PV.str refA (mapB (h.length+8) S.bs)) o2 o3 o4 o5 o6 o7 B l) (id:=h.length+1) z4Y z6r z1K (ok:=false) (z:=.nilp)
 rw[z5a,hx] at lk
 simp only[Option.map_some,Option.getD_some,znX,cond_false] at lk
 generalize hR:S.startR i x0 st x=R1 at *
 generalize hF:S.finishR steps tries i x0 st x=R2 at *
 have tk1:=tkS R1.2 (lenS R1 rfl)
 have tk2:=tkS R2.2 (lenF R2 rfl)
 obtain⟨Bx,b1,b2,b3,G,Sq,T,Tk⟩:=z6H (h:=h) hi
 obtain⟨H1,hH1⟩:∃ H,FS h fb steps tries R1.2 (l++[x.bx])=H:=⟨_,rfl⟩
 obtain⟨H2,hH2⟩:∃ H,FS h fb steps tries R2.2 (l++[x.bx])=H:=⟨_,rfl⟩
 rw[hH1] at sS tk1
 rw[hH2] at sF tk2
 have ml:=fun s=>z5b (h.length+8) S.bs i _ s hi
 have cl:(z1P S.runs st.site x.time).length=S.runs.length:=by simp [z1P]
 unfold FS wbx Ent.bx at sS sF lv
 dsimp only at lv ml
 rw[b1] at sS sF
 rw[b1,b2,ml,cl] at lv
 simp only[Ent.pv] at sS sF
 have e1:∀ v:AV,splice [AI st.state,AI st.since,AS st.step,AS st.site,AI st.failed] 0 [v]=[v,AI st.since,AS st.step,AS st.site,AI st.failed]:=fun _=>rfl
 have G':=G st.state st.since st.step st.site st.failed
 have est:(⟨st.state,st.since,st.step,st.site,st.failed⟩:Sta)=st:=rfl
 rw[est] at G'
 by_cases k2:x.kind=2
 ·have e:S.old steps tries x i x0 st=R1:=by unfold Flo.old;rw[if_pos k2,hR]
  rw[e]
  obtain⟨G1,hG1⟩:∃ H,FS h fb steps tries R1.2 l=H:=⟨_,rfl⟩
  rw[hG1] at tk1 ⊢
  unfold FS wbx
  rw[b1]
  simp only[z2b,Ent.pv,go_sem,b3,T,lk,hk,eq_true k2,↓sS,sS]
  exact tk1
 by_cases k34:x.kind=3∨x.kind=4
 ·have e:S.old steps tries x i x0 st=R2:=by unfold Flo.old;rw[if_neg k2,if_pos k34,hF]
  rw[e]
  obtain⟨G1,hG1⟩:∃ H,FS h fb steps tries R2.2 l=H:=⟨_,rfl⟩
  rw[hG1] at tk2 ⊢
  unfold FS wbx
  rw[b1]
  rcases k34 with k3 | k4
  ·simp only[z2b,Ent.pv,go_sem,b3,T,lk,hk,k2,eq_true k3,↓sF,sF]
   exact tk2
  ·have k3:¬ x.kind=3:=by omega
   simp only[z2b,Ent.pv,go_sem,b3,T,lk,hk,k2,k3,eq_true k4,↓sF,sF]
   exact tk2
 have k3:¬ x.kind=3:=fun z=>k34 (.inl z)
 have k4:¬ x.kind=4:=fun z=>k34 (.inr z)
 by_cases k5:x.kind=5
 ·by_cases h3:st.state=3
  ·have e:S.old steps tries x i x0 st=(0,S.put i x0 ⟨1,x.time,st.step,st.site,st.failed⟩):=by unfold Flo.old;rw[if_neg k2,if_neg k34,if_pos k5,if_neg (by simp [h3])]
   rw[e]
   unfold Flo.put FS wbx
   dsimp only
   rw[b1]
   simp only[z2b,Ent.pv,go_sem,b3,T,lk,hk,k2,k3,k4,eq_true k5,G',G,Sq,splice,eq_true h3]
   rw[Tk,b2,ml]
  ·have e:S.old steps tries x i x0 st=(11,S):=by unfold Flo.old;rw[if_neg k2,if_neg k34,if_pos k5,if_pos h3]
   rw[e]
   unfold FS wbx
   dsimp only
   rw[b1]
   simp only[z2b,Ent.pv,go_sem,b3,T,lk,hk,k2,k3,k4,eq_true k5,G',h3]
   exact Tk _ _ _ _ _ _ _ _ _ _ _
 by_cases h45:st.state=4∨st.state=5
 ·have e:S.old steps tries x i x0 st=(11,S):=by unfold Flo.old;rw[if_neg k2,if_neg k34,if_neg k5,if_pos h45]
  rw[e]
  unfold FS wbx
  dsimp only
  rw[b1]
  rcases h45 with h4 | h5
  ·simp only[z2b,Ent.pv,go_sem,b3,T,lk,hk,k2,k3,k4,k5,G',eq_true h4]
   exact Tk _ _ _ _ _ _ _ _ _ _ _
  ·have h4:¬ st.state=4:=by omega
   simp only[z2b,Ent.pv,go_sem,b3,T,lk,hk,k2,k3,k4,k5,G',h4,eq_true h5]
   exact Tk _ _ _ _ _ _ _ _ _ _ _
 have h4:¬ st.state=4:=fun z=>h45 (.inl z)
 have h5:¬ st.state=5:=fun z=>h45 (.inr z)
 by_cases h2:st.state=2
 ·have e:S.old steps tries x i x0 st=(0,{ S with bs:=S.bs.set i (x0,⟨5,x.time,st.step,[],st.failed⟩),sm:=delS S.sm st.site,runs:=z1P S.runs st.site x.time }):=by unfold Flo.old;rw[if_neg k2,if_neg k34,if_neg k5,if_neg h45,if_pos h2]
  rw[e]
  unfold FS wbx
  dsimp only
  rw[b1]
  simp only[z2b,Ent.pv,go_sem,b3,T,lk,hk,k2,k3,k4,k5,G',G,Sq,splice,h4,h5,eq_true h2,↓lv,lv]
  rw[Tk,b2,ml,cl]
 ·have e:S.old steps tries x i x0 st=(0,S.put i x0 ⟨5,x.time,st.step,st.site,st.failed⟩):=by unfold Flo.old;rw[if_neg k2,if_neg k34,if_neg k5,if_neg h45,if_neg h2]
  rw[e]
  unfold Flo.put FS wbx
  dsimp only
  rw[b1]
  simp only[z2b,Ent.pv,go_sem,b3,T,lk,hk,k2,k3,k4,k5,G',G,Sq,splice,h4,h5,h2]
  rw[Tk,b2,ml]
end Go.Am
end
section
/- The floor: a board that zeI;what an entry does,plainly. -/
open Go
set_option linter.all false
set_option maxRecDepth 100000
namespace Go.Am
variable {h:Heap} {K:Post}
attribute [-go_sem] oEqa z1o z15 z4u
attribute [local go_sem] z22 z4d z6r z6s z93 z94 z8s z8t z95 z97 z98 z99 z9A z9B z9C z9D
theorem z6A (fb:Obj) (steps:List Nm) (tries:Int) (S:Flo) (l l2:Heap):(FS h fb steps tries S (l++l2)).take (h.length+(8+3*S.bs.length+l.length))=FS h fb steps tries S l:=by
 unfold FS
 have:=zoX (h:=h) (B:=boxB S.bs) (l:=l++l2) (o0:=fb) (o1:=mobj PV.str refA (mapB (h.length+8) S.bs)) (o2:=dobj S.sm S.ck) (o3:=.row (some 5) (S.ends.map EndP.pv) 0) (o4:=.row (some 3) (S.runs.map RunP.pv) 0) (o5:=.row none (S.ref.map eI) 0) (o6:=.row none (S.why.map eI) 0) (o7:=wbx h steps tries S.ends.length S.runs.length S.ref.length S.why.length) l.length
 rw[z0J] at this
 rw[this]
 simp
theorem z63 (S:Flo) (k:Nm) (o0 o2 o3 o4 o5 o6 o7:Obj) (B l:Heap):z1o (none,[2]) false .nilp (.mp (h.length+1)) (AS k) (FH h o0 (mobj PV.str refA (mapB (h.length+8) S.bs)) o2 o3 o4 o5 o6 o7 B l)=some (match ixB k S.bs with | some i=>.ref (qB h i) 0 | none=>.nilp):=by
 have lk:=z3g (kk:=(none,[2])) (k:=k) (h:=FH h o0 (mobj PV.str refA (mapB (h.length+8) S.bs)) o2 o3 o4 o5 o6 o7 B l) (id:=h.length+1) z4Y z6r z1K (ok:=false) (z:=.nilp)
 rw[z5a] at lk
 rw[lk]
 cases ixB k S.bs with
 | none=>rfl
 | some i=>simp only[Option.map_some,Option.getD_some,znX,cond_false]
theorem tl1 {o0 o1 o2 o3 o4 o5 o6 o7 o:Obj} {bs:Brds} {l:Heap}:(FH h o0 o1 o2 o3 o4 o5 o6 o7 (boxB bs) (l++[o]))[h.length+(8+3*bs.length+l.length)]?=some o:=by
 have:=zsW (h:=h) (o0:=o0) (o1:=o1) (o2:=o2) (o3:=o3) (o4:=o4) (o5:=o5) (o6:=o6) (o7:=o7) (B:=boxB bs) (l:=l++[o]) l.length
 rw[z0J] at this
 rw[this];simp
theorem zgL (fb:Obj) (steps:List Nm) (tries:Int) (S:Flo) (l:Heap) (x:Ent) (hx:ixB x.board S.bs=none) (hk:x.kind≠1) :
 z0c X z3v [.ref (h.length+7) 0,.p x.pv] (FS h fb steps tries S l) K=K (AI 8) (FS h fb steps tries S l) []:=by
 refine rule ?_
 rw[zem rfl]
 have lk:=fun (o0 o2 o3 o4 o5 o6 o7:Obj) (B l:Heap)=>z63 (h:=h) S x.board o0 o2 o3 o4 o5 o6 o7 B l
 rw[hx] at lk
 have tk:=z6A (h:=h) fb steps tries S l [x.bx]
 obtain⟨G1,hG1⟩:∃ H,FS h fb steps tries S l=H:=⟨_,rfl⟩
 rw[hG1] at tk ⊢
 rw[← hG1]
 unfold Ent.bx at tk
 unfold FS wbx at tk ⊢
 dsimp only at lk
 simp only[z2b,Ent.pv,go_sem,z0J,tl1,lk,hk]
 unfold FS wbx at hG1
 rw[hG1]
 exact tk
theorem zdw (fb:Obj) (steps:List Nm) (tries:Int) (S:Flo) (l:Heap) (x:Ent) (i:Nat) (hx:ixB x.board S.bs=some i) (hk:x.kind=1) :
 z0c X z3v [.ref (h.length+7) 0,.p x.pv] (FS h fb steps tries S l) K=K (AI 6) (FS h fb steps tries S l) []:=by
 refine rule ?_
 rw[zem rfl]
 have lk:=fun (o0 o2 o3 o4 o5 o6 o7:Obj) (B l:Heap)=>z63 (h:=h) S x.board o0 o2 o3 o4 o5 o6 o7 B l
 rw[hx] at lk
 have tk:=z6A (h:=h) fb steps tries S l [x.bx]
 obtain⟨G1,hG1⟩:∃ H,FS h fb steps tries S l=H:=⟨_,rfl⟩
 rw[hG1] at tk ⊢
 rw[← hG1]
 unfold Ent.bx at tk
 unfold FS wbx at tk ⊢
 dsimp only at lk
 simp only[z2b,Ent.pv,go_sem,z0J,tl1,lk,eq_true hk]
 unfold FS wbx at hG1
 rw[hG1]
 exact tk
def Flo.enter (S:Flo) (steps:List Nm) (x:Ent):Flo:={ S with bs:=S.bs++[(x,⟨1,x.time,steps.headD [],[],0⟩)] }
theorem zu6 {b i t:Nat} {n:Int} {P:Post} {H:Heap} (hi:i<b) (ht:b≤t) (k:P (AI n) (H.take t) [(i,t)]):retK false b P (some [AI n]) H [(i,t)]:=by
 have e1:∀ m,reif m H (AI n)=some (AI n):=fun m=>by simp [reif]
 have e2:AV.top (AI n)=0:=by simp [AV.top]
 have e3:z11 1 [(i,t)] b=t:=by simp [z11,bump,hi];omega
 have e4:z0I [(i,t)] t=true:=by simp [z0I]
 have e5:[(i,t)].filter (fun y=>decide (y.1<t))=[(i,t)]:=by simp;omega
 have e6:z0D [AI n]=AI n:=rfl
 simp only[retK,e6,e1,e2,Nat.max_zero,List.length_cons,List.length_nil,Nat.zero_add,e3,e4,if_true,e5]
 exact⟨Nat.zero_le _,k⟩
set_option maxHeartbeats 4000000 in
theorem zoq (fb:Obj) (steps:List Nm) (tries:Int) (hst:steps≠[]) (S:Flo) (x:Ent) (hx:ixB x.board S.bs=none) (hk:x.kind=1) :
 z0c X z3v [.ref (h.length+7) 0,.p x.pv] (FS h fb steps tries S [x.bx]) K=K (AI 0) (FS h fb steps tries (S.enter steps x) []) [(h.length+1,h.length+(8+3*(S.bs.length+1)))]:=by
 refine rule ?_
 rw[zem rfl]
 have lk:=fun (o0 o2 o3 o4 o5 o6 o7:Obj) (B l:Heap)=>z63 (h:=h) S x.board o0 o2 o3 o4 o5 o6 o7 B l
 rw[hx] at lk
 obtain⟨s0,sr,rfl⟩:∃ a r,steps=a::r:=by
  cases steps with
  | nil=>exact absurd rfl hst
  | cons a r=>exact⟨a,r,rfl⟩
 have wn:z1l x.board (mapB (h.length+8) S.bs)=none:=by
  have:=z6q (k:=x.board) (l:=mapB (h.length+8) S.bs)
  rw[z5a,hx] at this
  simpa using this
 have q0:h.length+8+3*S.bs.length+2=h.length+(8+3*S.bs.length+2):=by omega
 have up:=fun (o0 o2 o3 o4 o5 o6 o7:Obj) (B l:Heap)=>z5c (kk:=(none,[2])) (k:=x.board) (h:=FH h o0 (mobj PV.str refA (mapB (h.length+8) S.bs)) o2 o3 o4 o5 o6 o7 B l) (id:=h.length+1) z4Y z6r z1K (v:=h.length+(8+3*S.bs.length+2)) (val:=refA) rfl
 rw[z66 wn] at up
 have ms:=zcf (h.length+8) S.bs (x,⟨1,x.time,s0,[],0⟩)
 rw[q0] at ms
 dsimp only at ms
 rw[← ms] at up
 have es:z1U (h.length+1) (refA (h.length+(8+3*S.bs.length+2)))=[(h.length+1,h.length+(8+3*(S.bs.length+1)))]:=by
  unfold z1U refA
  have e9:h.length+(8+3*S.bs.length+2)+1=h.length+(8+3*(S.bs.length+1)):=by omega
  simp only[AV.top,e9]
  rw[if_pos (by omega)]
 rw[es] at up
 simp only[refA] at up
 unfold Flo.enter
 obtain⟨bs,sm,ck,ends,runs,ref,why⟩:=S
 unfold FS wbx Ent.bx
 dsimp only at lk hx up ms ⊢
 have t1:∀ (o0 o1 o2 o3 o4 o5 o6 o7 a b:Obj),(FH h o0 o1 o2 o3 o4 o5 o6 o7 (boxB bs) [a,b])[h.length+(8+3*bs.length+1)]?=some b:=fun o0 o1 o2 o3 o4 o5 o6 o7 a b=>tl1 (l:=[a])
 have t2:∀ (o0 o1 o2 o3 o4 o5 o6 o7 a b c:Obj),(FH h o0 o1 o2 o3 o4 o5 o6 o7 (boxB bs) [a,b,c])[h.length+(8+3*bs.length+1)]?=some b:=fun o0 o1 o2 o3 o4 o5 o6 o7 a b c=>by
  have:=zsW (h:=h) (o0:=o0) (o1:=o1) (o2:=o2) (o3:=o3) (o4:=o4) (o5:=o5) (o6:=o6) (o7:=o7) (B:=boxB bs) (l:=[a,b,c]) 1
  rw[z0J] at this
  rw[this];rfl
 have cw:∀ v:List UInt8,cutP none 0 (PV.str v)=some (PV.str v):=fun _=>rfl
 simp only[z2b,Ent.pv,go_sem,z0J,t1,t2,lk,eq_true hk,cw,up]
 refine zu6 (by omega) (by omega) ⟨rfl,?_,rfl⟩
 rw[List.take_of_length_le (by rw[z22,z0J];simp;omega)]
 have sh:∀ (o0 o1 o2 o3 o4 o5 o6 o7:Obj) (B l:Heap),FH h o0 o1 o2 o3 o4 o5 o6 o7 B l=FH h o0 o1 o2 o3 o4 o5 o6 o7 (B++l) []:=fun _ _ _ _ _ _ _ _ _ _=>by unfold FH;simp
 rw[sh,zei]
 rfl
end Go.Am
end
section
/- Entries that count;entries up tov a moment. -/
open Go
set_option linter.all false
set_option maxRecDepth 100000
namespace Go.Am
variable {h:Heap} {K:Post}
attribute [-go_sem] oEqa z1o z15 z4u
theorem zpt {l:List Ent} {k:Nat} (hk:k<l.length):cntB (l.drop k)=(!decide ((l[k].site,l[k].no)∈z1r (l.drop (k+1))))::cntB (l.drop (k+1)):=by
 rw[List.drop_eq_getElem_cons hk,zja]
theorem zre {l:List Ent} {k:Nat} (hk:k<l.length):z1r (l.drop k)=if decide ((l[k].site,l[k].no)∈z1r (l.drop (k+1)))=false∧l[k].kind=7 then (l[k].of,l[k].other)::z1r (l.drop (k+1)) else z1r (l.drop (k+1)):=by
 rw[List.drop_eq_getElem_cons hk,z1r]
abbrev z10 (b:Bool):PV:=.bool b
def UndM (m:List ((List UInt8 × Int) × Bool)) (u:List (Nm × Int)):Prop:=∀ k,getM k m=if k∈u then some true else none
set_option maxHeartbeats 4000000 in
theorem zgK (l:List Ent) (hl:l.length≤100000):z0c X z7y [z1m l] h K=K (.p (.sl none ((cntB l).map z10))) h []:=by
 refine rule ?_
 rw[c_q081 rfl]
 have mx:l.length≤z0V:=by unfold z0V;omega
 have w0:IntKind.i64.wrap ((l.length:Int)-1)=(l.length:Int)-1:=z0l _ (by omega) (by omega)
 simp only[ze8,go_sem,mx,w0]
 refine z0Y (fun t:Nat × List ((List UInt8 × Int) × Bool)=>⟨[(0,z1m l),(3,.mp h.length),(4,.own (h.length+1) l.length 0 l.length),(5,AI ((t.1:Int)-1))],h++[mobj srcP z3p t.2,.row none (List.replicate t.1 (z10 false)++(cntB (l.drop t.1)).map z10) 0],[]⟩)
  (fun t=>t.1≤l.length∧UndM t.2 (z1r (l.drop t.1))) (fun t=>t.1) (l.length,[]) ?_ ⟨Nat.le_refl _,fun k=>by simp [z1r,getM]⟩ ?_
 ·simp only[List.drop_length,cntB,List.map_nil,List.append_nil]
  rfl
 rintro⟨k,m⟩ ⟨hk,hm⟩
 dsimp only at hk hm ⊢
 cases k with
 | zero=>
  have c0:¬ (0:Int)≤((0:Nat):Int)-1:=by omega
  have cl:=z0Z l
  simp only[go_sem,c0,List.drop_zero,List.replicate_zero,List.nil_append]
  have hw:win ((cntB l).map z10) 0 l.length=(cntB l).map z10:=z5E (by simp [cl])
  simp only[List.length_map,cl,hw,if_true]
  rw[if_pos ⟨trivial,Nat.le_refl _⟩]
  simp [AV.top]
 | succ k=>
  have hlt:k<l.length:=by omega
  have c0:(0:Int)≤((k+1:Nat):Int)-1:=by omega
  have ek:(((k+1:Nat):Int)-1)=(k:Int):=by omega
  have w1:IntKind.i64.wrap ((k:Int)-1)=(k:Int)-1:=z0l _ (by omega) (by omega)
  have hk0:(0:Int)≤(k:Int):=by omega
  have hg:=z1b Ent.pv hlt
  have cx:=z3c (x:=l[k])
  have cs:=zpt hlt
  have us:=zre hlt
  have lrow:(List.replicate (k+1) (z10 false)++(cntB (l.drop (k+1))).map z10).length=l.length:=by
   rw[List.length_append,List.length_replicate,List.length_map,z0Z,List.length_drop];omega
  have grow:(List.replicate (k+1) (z10 false)++(cntB (l.drop (k+1))).map z10)[k]?=some (z10 false):=by
   rw[List.getElem?_append_left (by simp),List.getElem?_replicate];simp
  have srow:∀ b:Bool,(List.replicate (k+1) (z10 false)++(cntB (l.drop (k+1))).map z10).set k (z10 b)=List.replicate k (z10 false)++(b::cntB (l.drop (k+1))).map z10:=fun b=>by
   rw[List.replicate_succ',List.append_assoc,List.set_append_right _ _ (by simp)]
   simp
  have grow2:∀ b:Bool,(List.replicate k (z10 false)++(b::cntB (l.drop (k+1))).map z10)[k]?=some (z10 b):=fun b=>by
   rw[List.getElem?_append_right (by simp)];simp
  have lrow2:∀ b:Bool,(List.replicate k (z10 false)++(b::cntB (l.drop (k+1))).map z10).length=l.length:=fun b=>by
   rw[List.length_append,List.length_replicate,List.length_map,List.length_cons,z0Z,List.length_drop];omega
  obtain⟨R2,hR2⟩:∃ R2:Bool→List PV,∀ b,List.replicate k (z10 false)++(b::cntB (l.drop (k+1))).map z10=R2 b:=⟨_,fun _=>rfl⟩
  simp only[hR2] at srow grow2 lrow2
  have cb:∀ b:Bool,cutP none 0 (z10 b)=some (z10 b):=fun _=>rfl
  generalize hx:l[k]=x at *
  have lk:=fun (hp:Heap) (e:hp[h.length]?=some (mobj srcP z3p m))=>z3g (kk:=(some 2,[2,0])) (k:=(x.site,x.no)) z61 e z4Z (ok:=false) (z:=z3p false)
  have up:=fun (hp:Heap) (e:hp[h.length]?=some (mobj srcP z3p m))=>z5c (kk:=(some 2,[2,0])) (k:=(x.of,x.other)) z61 e z4Z (v:=true) rfl
  have l1:=fun t=>lk (h++mobj srcP z3p m::t) (by simp)
  have u1:=fun t=>up (h++mobj srcP z3p m::t) (by simp)
  have es:(Option.map z3p (getM (x.site,x.no) m)).getD (z3p false)=AB (decide ((x.site,x.no)∈z1r (l.drop (k+1)))):=by
   rw[hm]
   by_cases e:(x.site,x.no)∈z1r (l.drop (k+1)) <;> simp [e,z3p]
  simp only[cond_false,es] at l1
  have nl0:¬ h.length<0:=by omega
  simp only[z3p,srcP,z1U,AV.top,nl0,if_false] at l1 u1
  generalize hb:decide ((x.site,x.no)∈z1r (l.drop (k+1)))=b at *
  generalize hrow:List.replicate (k+1) (z10 false)++(cntB (l.drop (k+1))).map z10=row at *
  cases b with
  | true=>
   rw[if_neg (by simp)] at us
   simp only[go_sem,c0,ek,hk0,hlt,hg,cx,Ent.pv,splice,l1,lrow,grow,srow,grow2,lrow2,cb,w1]
   refine⟨(k,m),?_,⟨by dsimp only;omega,by rw[us];exact hm⟩,by dsimp only;omega⟩
   dsimp only
   rw[cs,hR2]
   rfl
  | false=>
   by_cases k7:x.kind=7
   ·rw[if_pos ⟨rfl,k7⟩] at us
    simp only[go_sem,c0,ek,hk0,hlt,hg,cx,Ent.pv,splice,l1,u1,lrow,grow,srow,grow2,lrow2,cb,w1,eq_true k7]
    refine⟨(k,updM (x.of,x.other) true m),?_,⟨by dsimp only;omega,?_⟩,by dsimp only;omega⟩
    ·dsimp only
     rw[cs,hR2]
     rfl
    ·rw[us]
     intro j
     rw[z9Z,hm j]
     by_cases e:j=(x.of,x.other)
     ·simp [e]
     ·rw[if_neg e];simp [e]
   ·rw[if_neg (by simp [k7])] at us
    simp only[go_sem,c0,ek,hk0,hlt,hg,cx,Ent.pv,splice,l1,lrow,grow,srow,grow2,lrow2,cb,w1,k7]
    refine⟨(k,m),?_,⟨by dsimp only;omega,by rw[us];exact hm⟩,by dsimp only;omega⟩
    dsimp only
    rw[cs,hR2]
    rfl
end Go.Am
end
section
/- Entries followed. -/
open Go
set_option linter.all false
set_option maxRecDepth 100000
namespace Go.Am
variable {h:Heap} {K:Post}
attribute [-go_sem] oEqa z1o z15 z4u
attribute [local go_sem] z22 z4d z6r z6s z93 z94 z8s z8t z95 z97 z98 z99 z9A z9B z9C z9D
def Flo.act (S:Flo) (steps:List Nm) (tries:Int) (x:Ent):Int × Flo:=match ixB x.board S.bs with
 | none=>if x.kind=1 then (0,S.enter steps x) else (8,S)
 | some i=>match S.bs[i]? with
  | none=>(8,S)
  | some e=>if x.kind=1 then (6,S) else S.old steps tries x i e.1 e.2
structure FlI (S:Flo) (steps:List Nm) (n:Nat):Prop where
 st:∀ e∈S.bs,(e.2.state=1∨e.2.state=2∨e.2.state=3)→e.2.step∈steps
 fl:∀ e∈S.bs,0≤e.2.failed∧e.2.failed≤n
 nb:(S.bs.map fun e=>e.1.board).Nodup
 ns:(S.sm.map fun e=>e.1.1).Nodup
 bl:S.bs.length≤n
 rl:S.runs.length≤n
 el:S.ends.length≤n
 fr:S.ref.length≤n
 fw:S.why.length≤n
theorem zmc {α:Type} {l:List α} {i:Nat} {a y:α} (h:y∈l.set i a):y∈l∨y=a:=by
 rw[List.mem_iff_getElem?] at h
 obtain⟨j,hj⟩:=h
 rw[List.getElem?_set] at hj
 split at hj
 ·split at hj
  ·right;exact (Option.some.inj hj).symm
  ·cases hj
 ·left;exact List.mem_of_getElem? hj
theorem zoz {bs:Brds} {i:Nat} {e:Ent × Sta} (he:bs[i]?=some e) (s:Sta):(bs.set i (e.1,s)).map (fun e=>e.1.board)=bs.map fun e=>e.1.board:=by
 rw[List.map_set]
 apply List.ext_getElem?
 intro j
 rw[List.getElem?_set]
 split
 ·rename_i h;subst h
  rw[List.getElem?_map,he]
  have:i<(bs.map fun e=>e.1.board).length:=by
   rw[List.length_map]
   rcases Nat.lt_or_ge i bs.length with h | h
   ·exact h
   ·rw[List.getElem?_eq_none h] at he;cases he
  rw[if_pos this];rfl
 ·rfl
theorem FlI.set {S:Flo} {steps:List Nm} {n:Nat} (I:FlI S steps n) {i:Nat} {e:Ent × Sta} (he:S.bs[i]?=some e) (s:Sta) (h1:(s.state=1∨s.state=2∨s.state=3)→s.step∈steps) (h2:0≤s.failed∧s.failed≤n+1)
 (S':Flo) (hb:S'.bs=S.bs.set i (e.1,s)) (hn:(S'.sm.map fun e=>e.1.1).Nodup) (hr:S'.runs.length≤n+1) (hl:S'.ends.length≤n+1) (hf:S'.ref=S.ref) (hw:S'.why=S.why):FlI S' steps (n+1) where
 st y hy:=by
  rw[hb] at hy
  rcases zmc hy with h | h
  ·exact I.st y h
  ·rw[h];exact h1
 fl y hy:=by
  rw[hb] at hy
  rcases zmc hy with h | h
  ·have:=I.fl y h;omega
  ·rw[h];dsimp only;omega
 nb:=by rw[hb,zoz he];exact I.nb
 ns:=hn
 bl:=by rw[hb,List.length_set];have:=I.bl;omega
 rl:=hr
 el:=hl
 fr:=by rw[hf];have:=I.fr;omega
 fw:=by rw[hw];have:=I.fw;omega
theorem FlI.up {S:Flo} {steps:List Nm} {n:Nat} (I:FlI S steps n):FlI S steps (n+1):=
 ⟨I.st,fun e he=>by have:=I.fl e he;omega,I.nb,I.ns,by have:=I.bl;omega,by have:=I.rl;omega,by have:=I.el;omega,by have:=I.fr;omega,by have:=I.fw;omega⟩
theorem zpj {m:SMap} {k v:Nm} {c:Nat} (hn:getA (asS m) k=none):asS (m++[((k,v),c)])=putA (asS m) k v∧((m.map fun e=>e.1.1).Nodup→((m++[((k,v),c)]).map fun e=>e.1.1).Nodup):=by
 have ha:(asS m).any (fun e=>decide (e.1=k))=false:=by
  cases h:(asS m).any (fun e=>decide (e.1=k)) with
  | false=>rfl
  | true=>
   exfalso
   obtain⟨e,he,hk⟩:=List.any_eq_true.1 h
   unfold getA at hn
   rw[Option.map_eq_none_iff,List.find?_eq_none] at hn
   exact hn e he hk
 constructor
 ·unfold putA
  rw[if_neg (by simp [ha])]
  unfold asS
  simp
 ·intro hu
  rw[List.map_append,List.nodup_append]
  refine⟨hu,by simp,fun a ha2 b hb2 e=>?_⟩
  have hb3:b=k:=by simpa using hb2
  subst hb3
  subst e
  obtain⟨y,hy,e2⟩:=List.mem_map.1 ha2
  have:(asS m).any (fun e=>decide (e.1=a))=true:=List.any_eq_true.2 ⟨y.1,List.mem_map_of_mem hy,by simpa using e2⟩
  rw[ha] at this;cases this
theorem zl5 {k:Nm}:∀ {bs:Brds},ixB k bs=none→k∉bs.map fun e=>e.1.board
 | [],_=>by simp
 | e::r,h=>by
  unfold ixB at h
  by_cases hk:k=e.1.board
  ·rw[if_pos hk] at h;cases h
  ·rw[if_neg hk] at h
   have:=zl5 (bs:=r) (by simpa using h)
   simp only[List.map_cons,List.mem_cons,not_or]
   exact⟨hk,this⟩
theorem act_P {S:Flo} {steps:List Nm} {tries:Int} {n:Nat} (I:FlI S steps n) (hst:steps≠[]) (x:Ent) :
 (S.act steps tries x).1=(actP steps tries S.P x).2∧(S.act steps tries x).2.P=(actP steps tries S.P x).1∧FlI (S.act steps tries x).2 steps (n+1)∧(S.act steps tries x).2.ref=S.ref∧(S.act steps tries x).2.why=S.why:=by
 obtain⟨g1,g2⟩:=zaa x.board S.bs
 unfold Flo.act
 cases hx:ixB x.board S.bs with
 | none=>
  have hg:getA S.P.bs x.board=none:=g1 hx
  dsimp only
  by_cases k1:x.kind=1
  ·rw[if_pos k1]
   unfold actP
   rw[if_pos k1,hg]
   refine⟨rfl,?_,?_,rfl,rfl⟩
   ·unfold Flo.enter Flo.P
    dsimp only
    rw[ztd hx x rfl]
   ·obtain⟨a,r,rfl⟩:∃ a r,steps=a::r:=by
     cases steps with
     | nil=>exact absurd rfl hst
     | cons a r=>exact⟨a,r,rfl⟩
    unfold Flo.enter
    refine⟨fun e he=>?_,fun e he=>?_,?_,I.ns,?_,by have:=I.rl;dsimp only;omega,by have:=I.el;dsimp only;omega,by have:=I.fr;dsimp only;omega,by have:=I.fw;dsimp only;omega⟩
    ·rcases List.mem_append.1 he with h | h
     ·exact I.st e h
     ·rw[List.mem_singleton.1 h];intro _;simp
    ·rcases List.mem_append.1 he with h | h
     ·have:=I.fl e h;omega
     ·rw[List.mem_singleton.1 h];dsimp only;omega
    ·dsimp only
     rw[List.map_append,List.nodup_append]
     refine⟨I.nb,by simp,fun a ha b hb e=>?_⟩
     have hb2:b=x.board:=by simpa using hb
     subst hb2;subst e
     exact zl5 hx ha
    ·dsimp only;rw[List.length_append];have:=I.bl;simp;omega
  ·rw[if_neg k1]
   unfold actP
   rw[if_neg k1,hg]
   exact⟨rfl,rfl,I.up,rfl,rfl⟩
 | some i=>
  obtain⟨e,he,hk,hg⟩:=g2 i hx
  have hg':getA S.P.bs x.board=some e.2:=hg
  have pu:=fun s=>zte hx he I.nb s
  have hm:e∈S.bs:=List.mem_of_getElem? he
  have hfl:=I.fl e hm
  have hse:=I.st e hm
  dsimp only
  rw[he]
  dsimp only
  unfold actP
  by_cases k1:x.kind=1
  ·rw[if_pos k1,if_pos k1,hg']
   exact⟨rfl,rfl,I.up,rfl,rfl⟩
  rw[if_neg k1,if_neg k1,hg']
  dsimp only
  unfold Flo.old
  have rl:=I.rl
  have el:=I.el
  by_cases k2:x.kind=2
  ·rw[if_pos k2,if_pos k2]
   unfold Flo.startR
   by_cases h1:e.2.state≠1
   ·rw[if_pos h1,if_pos h1];exact⟨rfl,rfl,I.up,rfl,rfl⟩
   rw[if_neg h1,if_neg h1]
   by_cases h2:x.step≠e.2.step
   ·rw[if_pos h2,if_pos h2];exact⟨rfl,rfl,I.up,rfl,rfl⟩
   rw[if_neg h2,if_neg h2]
   have hb:S.P.sites=asS S.sm:=rfl
   rw[hb]
   by_cases h3:(getA (asS S.sm) x.site).isSome=true
   ·rw[if_pos h3,if_pos h3];exact⟨rfl,rfl,I.up,rfl,rfl⟩
   rw[if_neg h3,if_neg h3]
   have hn:getA (asS S.sm) x.site=none:=by simpa using h3
   obtain⟨q1,q2⟩:=zpj (v:=x.board) (c:=S.ck) hn
   refine⟨rfl,?_,?_,rfl,rfl⟩
   ·unfold Flo.start Flo.P
    dsimp only
    rw[pu,q1]
   ·have hs1:e.2.state=1:=by simpa using h1
    exact I.set he ⟨2,x.time,e.2.step,x.site,e.2.failed⟩ (fun _=>hse (.inl hs1)) (by dsimp only;omega) _ rfl (q2 I.ns) (by unfold Flo.start;dsimp only;rw[List.length_append];simp;omega) (by unfold Flo.start;dsimp only;omega) rfl rfl
  rw[if_neg k2,if_neg k2]
  by_cases k34:x.kind=3∨x.kind=4
  ·rw[if_pos k34,if_pos k34]
   unfold Flo.finishR
   by_cases h1:e.2.state≠2
   ·rw[if_pos h1,if_pos h1];exact⟨rfl,rfl,I.up,rfl,rfl⟩
   rw[if_neg h1,if_neg h1]
   by_cases h2:e.2.site≠x.site
   ·rw[if_pos h2,if_pos h2];exact⟨rfl,rfl,I.up,rfl,rfl⟩
   rw[if_neg h2,if_neg h2]
   have hs2:e.2.state=2:=by simpa using h1
   have hin:=hse (.inr (.inl hs2))
   obtain⟨q1,q2⟩:=zj5 (m:=S.sm) (k:=e.2.site) I.ns
   refine⟨rfl,?_,?_,rfl,rfl⟩
   ·unfold Flo.finish Flo.P
    dsimp only
    rw[pu,q1]
   ·refine I.set he (z1D steps tries e.2 x.time (decide (x.kind=3))) (fun h=>?_) ?_ _ rfl q2 (by unfold Flo.finish z1P;dsimp only;rw[List.length_map];omega) (by unfold Flo.finish;dsimp only;rw[List.length_append];simp;omega) rfl rfl
    ·unfold z1D at h ⊢
     by_cases k3:x.kind=3
     ·rw[if_pos (by simp [k3])] at h ⊢
      by_cases hj:steps.findIdx (fun y=>decide (y=e.2.step))+1=steps.length
      ·rw[if_pos hj] at h;dsimp only at h;omega
      ·rw[if_neg hj]
       have jl:steps.findIdx (fun y=>decide (y=e.2.step))<steps.length:=List.findIdx_lt_length_of_exists ⟨e.2.step,hin,by simp⟩
       have jl2:steps.findIdx (fun y=>decide (y=e.2.step))+1<steps.length:=by omega
       dsimp only
       rw[List.getElem?_eq_getElem jl2]
       exact List.getElem_mem jl2
     ·rw[if_neg (by simp [k3])];exact hin
    ·unfold z1D
     split
     ·split <;> (dsimp only;omega)
     ·dsimp only;omega
  rw[if_neg k34,if_neg k34]
  by_cases k5:x.kind=5
  ·rw[if_pos k5,if_pos k5]
   by_cases h1:e.2.state≠3
   ·rw[if_pos h1,if_pos h1];exact⟨rfl,rfl,I.up,rfl,rfl⟩
   rw[if_neg h1,if_neg h1]
   have hs3:e.2.state=3:=by simpa using h1
   refine⟨rfl,?_,?_,rfl,rfl⟩
   ·unfold Flo.put Flo.P
    dsimp only
    rw[pu]
   ·exact I.set he ⟨1,x.time,e.2.step,e.2.site,e.2.failed⟩ (fun _=>hse (.inr (.inr hs3))) (by dsimp only;omega) _ rfl I.ns (by unfold Flo.put;dsimp only;omega) (by unfold Flo.put;dsimp only;omega) rfl rfl
  rw[if_neg k5,if_neg k5]
  by_cases h45:e.2.state=4∨e.2.state=5
  ·rw[if_pos h45,if_pos h45];exact⟨rfl,rfl,I.up,rfl,rfl⟩
  rw[if_neg h45,if_neg h45]
  have no5:∀ (a:Int) (b c:Nm) (f:Int),((⟨5,a,b,c,f⟩:Sta).state=1∨(⟨5,a,b,c,f⟩:Sta).state=2∨(⟨5,a,b,c,f⟩:Sta).state=3)→b∈steps:=fun a b c f h=>by dsimp only at h;omega
  by_cases h2:e.2.state=2
  ·rw[if_pos h2,if_pos h2]
   obtain⟨q1,q2⟩:=zj5 (m:=S.sm) (k:=e.2.site) I.ns
   refine⟨rfl,?_,?_,rfl,rfl⟩
   ·unfold Flo.P
    dsimp only
    rw[pu,q1]
   ·exact I.set he ⟨5,x.time,e.2.step,[],e.2.failed⟩ (no5 _ _ _ _) (by dsimp only;omega) _ rfl q2 (by unfold z1P;dsimp only;rw[List.length_map];omega) (by dsimp only;omega) rfl rfl
  ·rw[if_neg h2,if_neg h2]
   refine⟨rfl,?_,?_,rfl,rfl⟩
   ·unfold Flo.put Flo.P
    dsimp only
    rw[pu]
   ·exact I.set he ⟨5,x.time,e.2.step,e.2.site,e.2.failed⟩ (no5 _ _ _ _) (by dsimp only;omega) _ rfl I.ns (by unfold Flo.put;dsimp only;omega) (by unfold Flo.put;dsimp only;omega) rfl rfl
end Go.Am
end
section
/- Entries followed: the walk. -/
open Go
set_option linter.all false
set_option maxRecDepth 100000
namespace Go.Am
variable {h:Heap} {K:Post}
attribute [-go_sem] oEqa z1o z15 z4u
attribute [local go_sem] z22 z4d z6r z6s z93 z94 z8s z8t z95 z97 z98 z99 z9A z9B z9C z9D
def upK (l:List Ent) (at_:Int):Nat→Nat
 | 0=>0
 | k+1=>if at_<((l[k]?).map Ent.time).getD 0 then upK l at_ k else k+1
def upL (l:List Ent) (at_:Int):List Ent:=l.take (upK l at_ l.length)
theorem zsF (l:List Ent) (at_:Int) (hl:l.length≤1000000):z0c X z4V [z1m l,AI at_] h K=K (z1m (upL l at_)) h []:=by
 refine rule ?_
 rw[c_q08j rfl]
 simp only[zeD,go_sem]
 refine z0Y (fun k:Nat=>⟨[(0,z1m l),(1,AI at_),(5,AI k)],h,[]⟩) (fun k=>k≤l.length∧upK l at_ k=upK l at_ l.length) (fun k=>k) l.length rfl ⟨Nat.le_refl _,rfl⟩ ?_
 rintro k ⟨hk,hp⟩
 have fin:upK l at_ l.length=k→(∀ P:Prop,True)→z1m (upL l at_)=z1m (l.take k):=fun e _=>by unfold upL;rw[e]
 have hw:∀ k,win (l.map Ent.pv) 0 k=(l.take k).map Ent.pv:=fun k=>by simp [win,List.map_take]
 cases k with
 | zero=>
  have c0:¬ (0:Int)<((0:Nat):Int):=by omega
  have e:=fin hp.symm (fun _=>trivial)
  simp only[go_sem,Int.lt_irrefl,hw,Nat.zero_le,e,c0]
  first | done | rfl
 | succ k=>
  have hlt:k<l.length:=by omega
  have c0:(0:Int)<((k+1:Nat):Int):=by omega
  have w1:IntKind.i64.wrap (((k+1:Nat):Int)-1)=(k:Int):=by rw[z0l _ (by omega) (by omega)];omega
  have hg:=z1b Ent.pv hlt
  have ct:cutP none 2 (Ent.pv l[k])=some (eI l[k].time):=rfl
  rw[upK,List.getElem?_eq_getElem hlt] at hp
  have e0:(Option.map Ent.time (some l[k])).getD 0=l[k].time:=rfl
  rw[e0] at hp
  by_cases h1:at_<l[k].time
  ·rw[if_pos h1] at hp
   simp only[go_sem,c0,w1,hlt,hg,ct,h1]
   exact⟨k,rfl,⟨by omega,hp⟩,by omega⟩
  ·rw[if_neg h1] at hp
   have e:=fin hp.symm (fun _=>trivial)
   have hk':k+1≤l.length:=hk
   simp only[go_sem,c0,w1,hlt,hg,ct,h1,hw,hk',e]
   first | done | rfl
def zdg (S:Flo) (x:Ent):Bool:=(ixB x.board S.bs).isNone&&decide (x.kind=1)
theorem zdv (fb:Obj) (steps:List Nm) (tries:Int) (hst:steps.length≤1000) {n:Nat} (hn:n≤1000000) (S:Flo) (I:FlI S steps n) (l:Heap) (x:Ent) (hx:zdg S x=false) :
 z0c X z3v [.ref (h.length+7) 0,.p x.pv] (FS h fb steps tries S l) K=K (AI (S.act steps tries x).1) (FS h fb steps tries (S.act steps tries x).2 l) []:=by
 unfold Flo.act
 cases hi:ixB x.board S.bs with
 | none=>
  have k1:x.kind≠1:=by
   intro e
   unfold zdg at hx
   rw[hi,e] at hx
   simp at hx
  dsimp only
  rw[if_neg k1]
  exact zgL fb steps tries S l x hi k1
 | some i=>
  obtain⟨e,he⟩:=ixB_lt hi
  have hm:e∈S.bs:=List.mem_of_getElem? he
  dsimp only
  rw[he]
  dsimp only
  by_cases k1:x.kind=1
  ·rw[if_pos k1]
   exact zdw fb steps tries S l x i hi k1
  ·rw[if_neg k1]
   have:=I.fl e hm
   have:=I.rl
   have:=I.el
   exact zor fb steps tries hst S l i e.1 e.2 x hi he (by omega) (by omega) (fun h2=>I.st e hm (.inr (.inl h2))) (by omega) k1
def Flo.step (S:Flo) (steps:List Nm) (tries:Int) (i:Nat) (x:Ent):Flo:=
 if (S.act steps tries x).1≠0 then { (S.act steps tries x).2 with ref:=(S.act steps tries x).2.ref++[(i:Int)],why:=(S.act steps tries x).2.why++[(S.act steps tries x).1] } else (S.act steps tries x).2
def Flo.go (steps:List Nm) (tries:Int):Flo→Nat→List (Ent × Bool)→Flo
 | S,_,[]=>S
 | S,i,(x,c)::r=>if c=false∨x.kind=7 then Flo.go steps tries S (i+1) r else Flo.go steps tries (S.step steps tries i x) (i+1) r
def flo0:Flo:=⟨[],[],0,[],[],[],[]⟩
theorem flI0 (steps:List Nm):FlI flo0 steps 0:=
 ⟨fun e he=>(by cases he),fun e he=>(by cases he),List.nodup_nil,List.nodup_nil,Nat.le_refl _,Nat.le_refl _,Nat.le_refl _,Nat.le_refl _,Nat.le_refl _⟩
theorem zsI {S:Flo} {steps:List Nm} {tries:Int} {n:Nat} (I:FlI S steps n) (hst:steps≠[]) (i:Nat) (x:Ent) :
 FlI (S.step steps tries i x) steps (n+1)∧(S.step steps tries i x).P=(actP steps tries S.P x).1∧(S.step steps tries i x).ref=(if (actP steps tries S.P x).2≠0 then S.ref++[(i:Int)] else S.ref)∧(S.step steps tries i x).why=(if (actP steps tries S.P x).2≠0 then S.why++[(actP steps tries S.P x).2] else S.why):=by
 obtain⟨a1,a2,a3,a4,a5⟩:=act_P (tries:=tries) I hst x
 unfold Flo.step
 rw[← a1]
 by_cases h0:(S.act steps tries x).1≠0
 ·rw[if_pos h0,if_pos h0,if_pos h0]
  refine⟨⟨a3.st,a3.fl,a3.nb,a3.ns,a3.bl,a3.rl,a3.el,?_,?_⟩,a2,by dsimp only;rw[a4],by dsimp only;rw[a5]⟩
  ·dsimp only;rw[List.length_append,a4];have:=I.fr;simp;omega
  ·dsimp only;rw[List.length_append,a5];have:=I.fw;simp;omega
 ·rw[if_neg h0,if_neg h0,if_neg h0]
  exact⟨a3,a2,a4,a5⟩
def escE (h:Heap):Nat→Esc
 | 0=>[]
 | n+1=>(h.length+1,h.length+(8+3*(n+1)))::escE h n
theorem z3T {h:Heap}:∀ {n:Nat} {y:Nat × Nat},y∈escE h n→y.1=h.length+1∧y.2≤h.length+(8+3*n)
 | 0,y,hy=>by cases hy
 | n+1,y,hy=>by
  rcases List.mem_cons.1 hy with e | e
  ·rw[e];exact⟨rfl,Nat.le_refl _⟩
  ·have:=z3T e;omega
theorem zbP (h:Heap):∀ (n m:Nat),h.length+8≤m→m≤h.length+(8+3*n)→bump (escE h n) m=h.length+(8+3*n)
 | 0,m,h1,h2=>by simp [escE,bump];omega
 | n+1,m,h1,h2=>by
  unfold escE bump
  rw[List.foldl_cons,if_pos (by dsimp only;omega)]
  have e:max m (h.length+(8+3*(n+1)))=h.length+(8+3*(n+1)):=by omega
  dsimp only
  rw[e]
  have:∀ (x:Esc) (m:Nat),(∀ y∈x,y.2≤m)→x.foldl (fun m y=>if y.1<m then max m y.2 else m) m=m:=by
   intro x
   induction x with
   | nil=>intro m _;rfl
   | cons y r ih=>
    intro m hm
    rw[List.foldl_cons]
    have h1:=hm y (List.mem_cons_self ..)
    have:(if y.1<m then max m y.2 else m)=m:=by split <;> omega
    rw[this]
    exact ih m fun z hz=>hm z (List.mem_cons_of_mem _ hz)
  exact this _ _ fun y hy=>by have:=(z3T hy).2;omega
theorem zu7 {b q n:Nat} {P:Post} {H:Heap} (hq:q=b+7) (hH:H.length=b+(8+3*n)) (x:Esc) (hx:∃ h:Heap,h.length=b∧x=escE h n) (k:P (.ref q 0) H x):retK false b P (some [.ref q 0]) H x:=by
 obtain⟨h,rfl,rfl⟩:=hx
 subst hq
 have e1:∀ m,reif m H (.ref (h.length+7) 0)=some (.ref (h.length+7) 0):=fun m=>by simp [reif]
 have e2:AV.top (.ref (h.length+7) 0)=h.length+8:=by simp [AV.top]
 have e6:z0D [AV.ref (h.length+7) 0] = .ref (h.length+7) 0:=rfl
 have e7:max h.length (h.length+8)=h.length+8:=by omega
 have e3:∀ c,bump (escE h n) c=h.length+(8+3*n)→z11 (escE h n).length (escE h n) (h.length+8)=h.length+(8+3*n):=by
  intro c _
  have hb:=fun m h1 h2=>zbP h n m h1 h2
  have:∀ k m,h.length+8≤m→m≤h.length+(8+3*n)→(m=h.length+(8+3*n)∨1≤k)→z11 k (escE h n) m=h.length+(8+3*n):=by
   intro k
   induction k with
   | zero=>intro m h1 h2 h3;unfold z11;omega
   | succ k ih=>
    intro m h1 h2 _
    unfold z11
    rw[hb m h1 h2]
    exact ih _ (by omega) (Nat.le_refl _) (.inl rfl)
  refine this _ _ (Nat.le_refl _) (by omega) ?_
  cases n with
  | zero=>left;omega
  | succ n=>right;simp [escE]
 have e3':=e3 _ (zbP h n _ (Nat.le_refl _) (by omega))
 have e4:z0I (escE h n) (h.length+(8+3*n))=true:=by
  unfold z0I
  rw[List.all_eq_true]
  intro y hy
  have:=(z3T hy).2
  simp [this]
 have e5:(escE h n).filter (fun y=>decide (y.1<h.length+(8+3*n)))=escE h n:=by
  rw[List.filter_eq_self]
  intro y hy
  have:=(z3T hy).1
  simp;omega
 have e8:H.take (h.length+(8+3*n))=H:=List.take_of_length_le (by omega)
 simp only[retK,e6,e1,e2,e7,e3',e4,e5,e8,if_true]
 exact⟨by omega,k⟩
theorem zhE (fb:Obj) (steps:List Nm) (tries:Int) (S:Flo) (l:Heap):(FS h fb steps tries S l).length=h.length+(8+3*S.bs.length+l.length):=by unfold FS;rw[z22,z0J]
end Go.Am
end
section
/- Entries followed: the walk,all. -/
open Go
set_option linter.all false
set_option maxRecDepth 100000
namespace Go.Am
variable {h:Heap} {K:Post}
attribute [-go_sem] oEqa z1o z15 z4u
attribute [local go_sem] z22 z4d z6r z6s z93 z94 z8s z8t z95 z97 z98 z99 z9A z9B z9C z9D
abbrev z8r (steps:List Nm) (tries:Int):AV:=.p (.agg [.sl none (steps.map .str),eI tries])
def flB (steps:List Nm) (tries:Int):Obj:=.box [AStr steps,AI tries]
def zipC (l:List Ent):List (Ent × Bool):=l.zip (cntB l)
theorem z67 (l:List Ent):(zipC l).length=l.length:=by unfold zipC;rw[List.length_zip,z0Z];simp
theorem zrh {l:List Ent} {k:Nat} (hk:k<l.length):(zipC l)[k]'(by rw[z67];exact hk)=(l[k],(cntB l)[k]'(by rw[z0Z];exact hk)):=by unfold zipC;rw[List.getElem_zip]
theorem zsY {S:Flo} {steps:List Nm} {tries:Int} {x:Ent} (hx:zdg S x=false):(S.act steps tries x).2.bs.length=S.bs.length:=by
 unfold Flo.act
 cases hi:ixB x.board S.bs with
 | none=>
  have k1:x.kind≠1:=by
   intro e
   unfold zdg at hx
   rw[hi,e] at hx
   simp at hx
  dsimp only
  rw[if_neg k1]
 | some i=>
  dsimp only
  cases S.bs[i]? with
  | none=>rfl
  | some e=>
   dsimp only
   split
   ·rfl
   ·unfold Flo.old Flo.startR Flo.start Flo.finishR Flo.finish Flo.put
    split
    ·split
     ·rfl
     split
     ·rfl
     split
     ·rfl
     ·simp
    split
    ·split
     ·rfl
     split
     ·rfl
     ·simp
    split
    ·split
     ·rfl
     ·simp
    split
    ·rfl
    split
    ·simp
    ·simp
abbrev z08 (steps:List Nm) (tries:Int) (l:List Ent):Flo:=Flo.go steps tries flo0 0 (zipC l)
set_option maxHeartbeats 8000000 in
theorem zf1 (steps:List Nm) (tries:Int) (h1:steps.length≤1000) (h0:steps≠[]) (l:List Ent) (hl:l.length≤1000) :
 z0c X z3w [z8r steps tries,z1m l] h K=K (.ref (h.length+7) 0) (FS h (flB steps tries) steps tries (z08 steps tries l) []) (escE h (z08 steps tries l).bs.length):=by
 refine rule ?_
 rw[c_q08b rfl]
 have cnt:=fun h K=>zgK (h:=h) (K:=K) l (by omega)
 simp only[zeA,go_sem,↓cnt,cnt]
 have hF0:Flo.go steps tries flo0 0 ((zipC l).drop 0)=z08 steps tries l:=rfl
 generalize z08 steps tries l=F at *
 refine z0Y (fun t:Nat × Flo=>⟨[(5,.ref (h.length+7) 0),(6,.p (.sl none ((cntB l).map z10))),(17,z1m l),(18,AI l.length),(19,AI t.1)],FS h (flB steps tries) steps tries t.2 [],escE h t.2.bs.length⟩)
  (fun t=>t.1≤l.length∧Flo.go steps tries t.2 t.1 ((zipC l).drop t.1)=F∧FlI t.2 steps t.1) (fun t=>l.length-t.1) (0,flo0) ?_ ⟨Nat.zero_le _,hF0,flI0 steps⟩ ?_
 ·rfl
 rintro⟨k,S⟩ ⟨hk,hp,I⟩
 dsimp only at hk hp I ⊢
 rcases Nat.lt_or_ge k l.length with hlt | hge
 ·have w1:IntKind.i64.wrap ((k:Int)+1)=((k+1:Nat):Int):=z0l _ (by omega) (by omega)
  have hkc:k<(cntB l).length:=by rw[z0Z];exact hlt
  have hg:=z1b Ent.pv hlt
  have hc:=z1b z10 hkc
  have cx:=z3c (x:=l[k])
  have cc:∀ b:Bool,cutP none 0 (z10 b)=some (z10 b):=fun _=>rfl
  have hzl:k<(zipC l).length:=by rw[z67];exact hlt
  rw[List.drop_eq_getElem_cons hzl,zrh hlt] at hp
  unfold Flo.go at hp
  generalize (cntB l)[k]=c at *
  generalize hx:l[k]=x at *
  have lenS:=zhE (h:=h) (flB steps tries) steps tries S []
  simp only[List.length_nil,Nat.add_zero] at lenS
  have app0:∀ (S:Flo) (l2:Heap),FS h (flB steps tries) steps tries S []++l2=FS h (flB steps tries) steps tries S l2:=fun S l2=>by unfold FS;rw[z4d];rfl
  have gt:∀ (o:Obj),(FS h (flB steps tries) steps tries S [o])[h.length+(8+3*S.bs.length)]?=some o:=fun o=>by unfold FS;exact tl1 (l:=[])
  have st:∀ (o o':Obj),(FS h (flB steps tries) steps tries S [o]).set (h.length+(8+3*S.bs.length)) o'=FS h (flB steps tries) steps tries S [o']:=fun o o'=>by
   unfold FS
   have:=FH_st (h:=h) (B:=boxB S.bs) (l:=[o]) (o:=o') (o0:=flB steps tries) (o1:=mobj PV.str refA (mapB (h.length+8) S.bs)) (o2:=dobj S.sm S.ck) (o3:=.row (some 5) (S.ends.map EndP.pv) 0) (o4:=.row (some 3) (S.runs.map RunP.pv) 0) (o5:=.row none (S.ref.map eI) 0) (o6:=.row none (S.why.map eI) 0) (o7:=wbx h steps tries S.ends.length S.runs.length S.ref.length S.why.length) 0
   rw[z0J] at this
   exact this
  have tk0:∀ (o:Obj),(FS h (flB steps tries) steps tries S [o]).take (h.length+(8+3*S.bs.length))=FS h (flB steps tries) steps tries S []:=fun o=>z6A (h:=h) (flB steps tries) steps tries S [] [o]
  have f1:h.length+7+1≤h.length+(8+3*S.bs.length):=by omega
  by_cases hskip:c=false∨x.kind=7
  ·rw[if_pos hskip] at hp
   rcases hskip with e | e
   ·subst e
    simp only[go_sem,hlt,hg,hc,cx,cc,Ent.pv,lenS,app0,gt,st,splice,w1,tk0,f1]
    exact⟨(k+1,S),rfl,⟨by dsimp only;omega,hp,I.up⟩,by dsimp only;omega⟩
   ·cases c with
    | false=>
     simp only[go_sem,hlt,hg,hc,cx,cc,Ent.pv,lenS,app0,gt,st,splice,w1,tk0,f1]
     exact⟨(k+1,S),rfl,⟨by dsimp only;omega,hp,I.up⟩,by dsimp only;omega⟩
    | true=>
     simp only[go_sem,hlt,hg,hc,cx,cc,Ent.pv,lenS,app0,gt,st,splice,w1,tk0,f1,eq_true e]
     exact⟨(k+1,S),rfl,⟨by dsimp only;omega,hp,I.up⟩,by dsimp only;omega⟩
  ·rw[if_neg hskip] at hp
   rw[not_or] at hskip
   have c1:c=true:=by simpa using hskip.1
   have k7:=hskip.2
   subst c1
   obtain⟨I2,_⟩:=zsI (tries:=tries) I h0 k x
   by_cases hnew:zdg S x=true
   ·unfold zdg at hnew
    rw[Bool.and_eq_true,Option.isNone_iff_eq_none] at hnew
    obtain⟨n1,n2⟩:=hnew
    have n2:x.kind=1:=by simpa using n2
    have ea:S.act steps tries x=(0,S.enter steps x):=by unfold Flo.act;rw[n1];dsimp only;rw[if_pos n2]
    have es:S.step steps tries k x=S.enter steps x:=by unfold Flo.step;rw[ea];exact if_neg (by simp)
    rw[es] at hp I2
    have tkN:=fun K=>zoq (h:=h) (K:=K) (flB steps tries) steps tries h0 S x n1 n2
    simp only[Ent.pv,Ent.bx] at tkN
    have lenE:(S.enter steps x).bs.length=S.bs.length+1:=by unfold Flo.enter;simp
    have tkE:(FS h (flB steps tries) steps tries (S.enter steps x) []).take (h.length+(8+3*(S.bs.length+1)))=FS h (flB steps tries) steps tries (S.enter steps x) []:=by
     have:=z6A (h:=h) (flB steps tries) steps tries (S.enter steps x) [] []
     rw[lenE] at this
     exact this
    have mx:max (h.length+(8+3*S.bs.length)) (h.length+(8+3*(S.bs.length+1)))=h.length+(8+3*(S.bs.length+1)):=by omega
    have tr:∀ (x0:Esc) (e:List (Nat × AV)) (H:Heap),z5S (h.length+(8+3*S.bs.length)) x0 ⟨e,H,[(h.length+1,h.length+(8+3*(S.bs.length+1)))]⟩=⟨z8x (h.length+(8+3*(S.bs.length+1))) e,H.take (h.length+(8+3*(S.bs.length+1))),(h.length+1,h.length+(8+3*(S.bs.length+1)))::x0⟩:=fun x0 e H=>by rw[zoB (by omega),mx]
    have f2:h.length+7+1≤h.length+(8+3*(S.bs.length+1)):=by omega
    simp only[go_sem,hlt,hg,hc,cx,cc,Ent.pv,lenS,app0,gt,st,splice,w1,k7,↓tkN,tkN,tr,tkE,f2]
    exact⟨(k+1,S.enter steps x),by dsimp only;rw[lenE];rfl,⟨by dsimp only;omega,hp,I2⟩,by dsimp only;omega⟩
   ·have hnew:zdg S x=false:=by simpa using hnew
    have tkO:=fun K=>zdv (h:=h) (K:=K) (flB steps tries) steps tries h1 (n:=k) (by omega) S I [x.bx] x hnew
    have lenA:(S.act steps tries x).2.bs.length=S.bs.length:=zsY hnew
    simp only[Ent.pv,Ent.bx] at tkO
    obtain⟨_,_,I3,a4,a5⟩:=act_P (tries:=tries) I h0 x
    have fr:=I3.fr
    have fw:=I3.fw
    unfold Flo.step at hp I2
    generalize S.act steps tries x=R at *
    obtain⟨e,S2⟩:=R
    dsimp only at *
    have tk2:∀ (o:Obj),(FS h (flB steps tries) steps tries S2 [o]).take (h.length+(8+3*S.bs.length))=FS h (flB steps tries) steps tries S2 []:=fun o=>by
     have:=z6A (h:=h) (flB steps tries) steps tries S2 [] [o]
     rw[lenA] at this
     exact this
    by_cases e0:e=0
    ·rw[if_neg (by simp [e0])] at hp I2
     simp only[go_sem,hlt,hg,hc,cx,cc,Ent.pv,lenS,app0,gt,st,splice,w1,k7,↓tkO,tkO,eq_true e0,tk2,f1]
     exact⟨(k+1,S2),by dsimp only;rw[lenA],⟨by dsimp only;omega,hp,I2⟩,by dsimp only;omega⟩
    ·rw[if_pos e0] at hp I2
     obtain⟨bs2,sm2,ck2,ends2,runs2,ref2,why2⟩:=S2
     dsimp only at *
     have m1:ref2.length+1≤z0V:=by unfold z0V;omega
     have m2:why2.length+1≤z0V:=by unfold z0V;omega
     have e5:=fun n o m=>esc7 h 5 n o m (by decide)
     have e6:=fun n o m=>esc7 h 6 n o m (by decide)
     have tkF:∀ (o0 o1 o2 o3 o4 o5 o6 o7 b:Obj),(FH h o0 o1 o2 o3 o4 o5 o6 o7 (boxB bs2) [b]).take (h.length+(8+3*S.bs.length))=FH h o0 o1 o2 o3 o4 o5 o6 o7 (boxB bs2) []:=fun o0 o1 o2 o3 o4 o5 o6 o7 b=>by
      have:=zoX (h:=h) (o0:=o0) (o1:=o1) (o2:=o2) (o3:=o3) (o4:=o4) (o5:=o5) (o6:=o6) (o7:=o7) (B:=boxB bs2) (l:=[b]) 0
      rw[z0J,lenA] at this
      exact this
     have eS:∀ l,FS h (flB steps tries) steps tries ⟨bs2,sm2,ck2,ends2,runs2,ref2,why2⟩ l=FH h (flB steps tries) (mobj PV.str refA (mapB (h.length+8) bs2)) (dobj sm2 ck2) (.row (some 5) (ends2.map EndP.pv) 0) (.row (some 3) (runs2.map RunP.pv) 0) (.row none (ref2.map eI) 0) (.row none (why2.map eI) 0)
      (.box [AStr steps,AI tries,.mp (h.length+1),.mp (h.length+2),.own (h.length+3) ends2.length 0 ends2.length,.own (h.length+4) runs2.length 0 runs2.length,.own (h.length+5) ref2.length 0 ref2.length,.own (h.length+6) why2.length 0 why2.length]) (boxB bs2) l:=fun l=>rfl
     simp only[eS] at tkO
     simp only[go_sem,hlt,hg,hc,cx,cc,Ent.pv,lenS,app0,gt,st,splice,w1,k7,↓tkO,tkO,e0,tkF,f1,m1,m2,e5,e6]
     refine⟨(k+1,⟨bs2,sm2,ck2,ends2,runs2,ref2++[(k:Int)],why2++[e]⟩),?_,⟨by dsimp only;omega,hp,I2⟩,by dsimp only;omega⟩
     dsimp only
     rw[lenA]
     unfold FS wbx
     simp only[List.map_append,List.length_append,List.map_cons,List.map_nil,List.length_cons,List.length_nil,Nat.zero_add]
 ·have ek:k=l.length:=by omega
  subst ek
  rw[show (zipC l).drop l.length=[] from List.drop_of_length_le (by rw[z67];exact Nat.le_refl _)] at hp
  unfold Flo.go at hp
  subst hp
  have fl:h.length+7+1≤(FS h (flB steps tries) steps tries S []).length:=by rw[zhE];omega
  simp only[go_sem,Nat.lt_irrefl,fl]
  refine zu7 (n:=S.bs.length) (H:=FS h (flB steps tries) steps tries S []) rfl (zhE (flB steps tries) steps tries S []) _ ⟨h,rfl,rfl⟩ ?_
  exact⟨rfl,rfl,rfl⟩
end Go.Am
end
section
/- Flows;what is refused;the status of a board: the program. -/
open Go
set_option linter.all false
set_option maxRecDepth 100000
namespace Go.Am
variable {h:Heap} {K:Post}
attribute [-go_sem] oEqa z1o z15 z4u
attribute [local go_sem] z22 z4d z6r z6s z93 z94 z8s z8t z95 z97 z98 z99 z9A z9B z9C z9D
def z3e:List Nm→List Nm→Int
 | _,[]=>0
 | pre,s::r=>if keyB s=false then 5 else if pre.contains s=true then 6 else z3e (pre++[s]) r
def zdc (steps:List Nm) (tries:Int):Int:=if steps.length=0 then 8 else if (20:Int)<steps.length then 2 else if z3e [] steps≠0 then z3e [] steps else if inB 1 tries 10=false then 1 else 0
attribute [-go_sem] z7n
theorem zdr (steps:List Nm) (tries:Int) (hl:steps.length≤1000) (hk:∀ s∈steps,s.length≤1000000):z0c X z7w [z8r steps tries] h K=K (AI (zdc steps tries)) h []:=by
 refine rule ?_
 rw[c_q07r rfl]
 unfold zdc
 by_cases h0:steps.length=0
 ·have h0':(steps.length:Int)=0:=by omega
  simp only[z8K,go_sem,eq_true h0',h0]
 have h0':¬ (steps.length:Int)=0:=by omega
 by_cases h1:(20:Int)<steps.length
 ·simp only[z8K,go_sem,h0',h0,h1]
 simp only[z8K,go_sem,h0',h0,h1]
 refine z0Y (fun k:Nat=>⟨[(1,.ref h.length 0),(16,AStr steps),(17,AI steps.length),(18,AI k)],h++[.box [AStr steps,AI tries]],[]⟩) (fun k=>k≤steps.length∧z3e (steps.take k) (steps.drop k)=z3e [] steps) (fun k=>steps.length-k) 0 rfl ⟨by omega,rfl⟩ ?_
 rintro k ⟨hkl,hp⟩
 rcases Nat.lt_or_ge k steps.length with hlt | hge
 ·have hg:=z1b PV.str hlt
  have cw:∀ v:List UInt8,cutP none 0 (PV.str v)=some (PV.str v):=fun _=>rfl
  have w2:IntKind.i64.wrap ((k:Int)+1)=((k+1:Nat):Int):=z0l _ (by omega) (by omega)
  have ky:=fun h K=>zgJ (h:=h) (K:=K) steps[k] (by have:=hk _ (List.getElem_mem hlt);omega)
  have ct:=fun h K=>zhw (h:=h) (K:=K) (steps.take k) (fun h' _=>strS _) steps[k] (by simp;omega)
  have hw:win (steps.map PV.str) 0 k=(steps.take k).map PV.str:=by simp [win,List.map_take]
  have hk2:k≤steps.length:=by omega
  rw[List.drop_eq_getElem_cons hlt,z3e] at hp
  cases h2:keyB steps[k] with
  | false=>
   rw[if_pos h2] at hp
   simp only[go_sem,hlt,hg,cw,↓ky,ky,h2]
   rw[← hp]
   first | done | rfl
  | true=>
   rw[if_neg (by simp [h2])] at hp
   cases h3:(steps.take k).contains steps[k] with
   | true=>
    rw[if_pos h3] at hp
    rw[h3] at ct
    simp only[go_sem,hlt,hg,cw,↓ky,ky,h2,hw,hk2,↓ct,ct]
    rw[← hp]
    first | done | rfl
   | false=>
    rw[if_neg (by rw[h3];simp),← List.take_succ_eq_append_getElem hlt] at hp
    rw[h3] at ct
    simp only[go_sem,hlt,hg,cw,↓ky,ky,h2,hw,hk2,↓ct,ct,w2]
    exact⟨k+1,rfl,⟨by omega,hp⟩,by omega⟩
 ·have ek:k=steps.length:=by omega
  subst ek
  rw[List.drop_length] at hp
  have hz:z3e [] steps=0:=by rw[← hp];rfl
  rw[if_neg (by simp [hz])]
  simp only[go_sem,Nat.lt_irrefl]
  rw[z7n]
  cases h4:inB 1 tries 10 with
  | false=>simp only[z4H,go_sem,z2t,h4];first | done | rfl
  | true=>simp only[z4H,go_sem,z2t,h4];first | done | rfl
def momF (n:Int):Int:=if z2w n=true then 0 else 1
theorem zam (n:Int):z0c X z73 [AI n] h K=K (AI (momF n)) h []:=by
 refine rule ?_
 rw[c_q08e rfl]
 unfold momF
 cases h1:z2w n with
 | false=>simp only[zeB,go_sem,z1W,h1,Bool.false_eq_true]
 | true=>simp only[zeB,go_sem,z1W,h1]
def z3x (steps:List Nm) (tries:Int) (l:List Ent) (at_:Int):Int:=orL [zdc steps tries,z3s l,momF at_]
structure StOk (steps:List Nm) (l:List Ent):Prop where
 n:steps.length≤1000
 k:∀ s∈steps,s.length≤1000000
 e:∀ x∈l,EntOk x
 l:l.length≤1000
theorem zoo (steps:List Nm) (tries:Int) (l:List Ent) (O:StOk steps l) (at_:Int):z0c X z4T [z8r steps tries,z1m l,AI at_] h K=K (AI (z3x steps tries l at_)) h []:=by
 refine rule ?_
 rw[c_q083 rfl]
 have q1:=fun h K=>zdr (h:=h) (K:=K) steps tries O.n O.k
 have q2:=fun h K=>z8z (h:=h) (K:=K) l O.e (by have:=O.l;omega)
 have q3:=fun h K=>zam (h:=h) (K:=K) at_
 have q4:=fun h K=>zuA (h:=h) (K:=K) [zdc steps tries,z3s l,momF at_] (by simp)
 simp only[AL,List.map_cons,List.map_nil] at q4
 simp only[zj0,go_sem,↓q1,q1,↓q2,q2,↓q3,q3,↓q4,q4]
 rfl
def sta0:Sta:=⟨0,0,[],[],0⟩
def ofP (steps:List Nm) (tries:Int) (l:List Ent) (board:Nm) (at_:Int):Sta × Int:=
 if z3x steps tries l at_≠0 then (sta0,z3x steps tries l at_) else if keyB board=false then (sta0,5) else match getA (asA (z08 steps tries (upL l at_)).bs) board with
 | none=>(sta0,8)
 | some s=>(s,0)
theorem zsK {steps:List Nm} {l:List Ent} (O:StOk steps l) (at_:Int):StOk steps (upL l at_):=
 ⟨O.n,O.k,fun x hx=>O.e x (List.mem_of_mem_take hx),by unfold upL;rw[List.length_take];have:=O.l;omega⟩
theorem z79 {steps:List Nm} {tries:Int} {l:List Ent} {at_:Int} (h:z3x steps tries l at_=0):steps≠[]:=by
 intro e
 subst e
 unfold z3x at h
 have:zdc [] tries=8:=rfl
 rw[this] at h
 simp [orL] at h
set_option maxHeartbeats 4000000 in
theorem s_Of (steps:List Nm) (tries:Int) (l:List Ent) (O:StOk steps l) (board:Nm) (hb:board.length≤1000000) (at_:Int) :
 z0c X z1Q [z8r steps tries,z1m l,AS board,AI at_] h K=K (.tup [.p (ofP steps tries l board at_).1.pv,AI (ofP steps tries l board at_).2]) h []:=by
 refine rule ?_
 rw[c_q07t rfl]
 have q1:=fun h K=>zoo (h:=h) (K:=K) steps tries l O at_
 have q2:=fun h K=>zgJ (h:=h) (K:=K) board (by omega)
 have q3:=fun h K=>zsF (h:=h) (K:=K) l at_ (by have:=O.l;omega)
 unfold ofP
 by_cases h0:z3x steps tries l at_=0
 case neg=>
  rw[if_pos h0]
  simp only[z8L,go_sem,↓q1,q1,h0,splice]
  first | done | rfl
 rw[if_neg (by simp [h0])]
 cases h1:keyB board with
 | false=>
  rw[if_pos rfl]
  simp only[z8L,go_sem,↓q1,q1,h0,↓q2,q2,h1,splice]
  first | done | rfl
 | true=>
  rw[if_neg (by simp)]
  have q4:=fun h K=>zf1 (h:=h) (K:=K) steps tries O.n (z79 h0) (upL l at_) (zsK O at_).l
  have lk:=fun (h:Heap) (o0 o2 o3 o4 o5 o6 o7:Obj) (B l2:Heap)=>z63 (h:=h) (z08 steps tries (upL l at_)) board o0 o2 o3 o4 o5 o6 o7 B l2
  obtain⟨g1,g2⟩:=zaa board (z08 steps tries (upL l at_)).bs
  generalize z08 steps tries (upL l at_)=F at *
  obtain⟨g,hg⟩:∃ g,h++[Obj.box [AStr steps,AI tries],.box [AI 0,AI 0,AS [],AS [],AI 0]]=g:=⟨_,rfl⟩
  have gl:g.length=h.length+2:=by rw[← hg];simp
  have q5:=fun K=>q4 (h++[Obj.box [AStr steps,AI tries],.box [AI 0,AI 0,AS [],AS [],AI 0]]) K
  have q6:∀ K,z0c X z3w [z8r steps tries,z1m (upL l at_)] (h++[Obj.box [AStr steps,AI tries],.box [AI 0,AI 0,AS [],AS [],AI 0]]) K=K (.ref (g.length+7) 0) (FS g (flB steps tries) steps tries F []) (escE g F.bs.length):=fun K=>by rw[q5,hg]
  have ex:∀ y∈escE g F.bs.length,h.length≤y.1:=fun y hy=>by have:=(z3T hy).1;omega
  have sp:∀ (o0 o1 o2 o3 o4 o5 o6 o7 o:Obj) (B l2:Heap),(FH g o0 o1 o2 o3 o4 o5 o6 o7 B l2).set (h.length+1) o=h++Obj.box [AStr steps,AI tries]::o::o0::o1::o2::o3::o4::o5::o6::o7::(B++l2):=fun o0 o1 o2 o3 o4 o5 o6 o7 o B l2=>by
   rw[← hg];unfold FH
   rw[List.append_assoc,List.set_append_right _ _ (by omega)]
   simp
  have gp:∀ (o0 o1 o2 o3 o4 o5 o6 o7:Obj) (B l2:Heap),(FH g o0 o1 o2 o3 o4 o5 o6 o7 B l2)[h.length+1]?=some (.box [AI 0,AI 0,AS [],AS [],AI 0]):=fun o0 o1 o2 o3 o4 o5 o6 o7 B l2=>by
   rw[← hg];unfold FH
   rw[List.append_assoc,List.getElem?_append_right (by omega)]
   simp
  unfold FS wbx at q6
  cases hi:ixB board F.bs with
  | none=>
   rw[g1 hi]
   rw[hi] at lk
   dsimp only at lk ⊢
   simp only[z8L,go_sem,↓q1,q1,h0,↓q2,q2,h1,↓q3,q3,↓q6,q6,splice,lk,sp,gp]
   rw[zaj (v:=.tup [.p sta0.pv,AI 8]) ex (by simp [reif,z4w,z0D,Sta.pv,sta0]) (by simp [AV.top,AV.tops])]
   exact⟨rfl,by simp,rfl⟩
  | some i=>
   obtain⟨e,he,_,hq⟩:=g2 i hi
   rw[hq]
   rw[hi] at lk
   have gq:=fun (o0 o1 o2 o3 o4 o5 o6 o7:Obj) (l2:Heap)=>zsV (h:=g) (o0:=o0) (o1:=o1) (o2:=o2) (o3:=o3) (o4:=o4) (o5:=o5) (o6:=o6) (o7:=o7) (l:=l2) he
   unfold Sta.bx at gq
   dsimp only at lk ⊢
   simp only[z8L,go_sem,↓q1,q1,h0,↓q2,q2,h1,↓q3,q3,↓q6,q6,splice,lk,sp,gp,gq]
   rw[zaj (v:=.tup [.p e.2.pv,AI 0]) ex (by simp [reif,z4w,z0D,Sta.pv]) (by simp [AV.top,AV.tops])]
   exact⟨rfl,by simp,rfl⟩
theorem zu8 {b i j n m:Nat} {e:Int} {P:Post} {H:Heap} {x:Esc} {xs ys:List PV} (hx:∀ y∈x,b≤y.1) (hi:b≤i) (hj:b≤j) (gi:H[i]?=some (.row none xs 0)) (gj:H[j]?=some (.row none ys 0)) (hn:n=xs.length) (hm:m=ys.length)
 (k:P (.tup [.p (.sl none xs),.p (.sl none ys),AI e]) (H.take b) []):retK false b P (some [.own i n 0 n,.own j m 0 m,AI e]) H x:=by
 subst hn hm
 have w1:win xs 0 xs.length=xs:=z5E rfl
 have w2:win ys 0 ys.length=ys:=z5E rfl
 have r1:rd H (.own i xs.length 0 xs.length)=some (none,xs):=by simp [rd,gi,w1]
 have r2:rd H (.own j ys.length 0 ys.length)=some (none,ys):=by simp [rd,gj,w2]
 rw[zaj (v:=.tup [.p (.sl none xs),.p (.sl none ys),AI e]) hx (by simp [reif,z4w,z0D,hi,hj,r1,r2]) (by simp [AV.top,AV.tops])]
 exact k
def z3X (steps:List Nm) (tries:Int) (l:List Ent) (at_:Int):List Int × List Int × Int:=
 if z3x steps tries l at_≠0 then ([],[],z3x steps tries l at_) else ((z08 steps tries (upL l at_)).ref,(z08 steps tries (upL l at_)).why,0)
set_option maxHeartbeats 4000000 in
theorem zom (steps:List Nm) (tries:Int) (l:List Ent) (O:StOk steps l) (at_:Int) :
 z0c X z9b [z8r steps tries,z1m l,AI at_] h K=K (.tup [AL (z3X steps tries l at_).1,AL (z3X steps tries l at_).2.1,AI (z3X steps tries l at_).2.2]) h []:=by
 refine rule ?_
 rw[c_q07w rfl]
 have q1:=fun h K=>zoo (h:=h) (K:=K) steps tries l O at_
 have q3:=fun h K=>zsF (h:=h) (K:=K) l at_ (by have:=O.l;omega)
 unfold z3X
 by_cases h0:z3x steps tries l at_=0
 case neg=>
  rw[if_pos h0]
  simp only[ze7,go_sem,↓q1,q1,h0]
  first | done | rfl
 rw[if_neg (by simp [h0])]
 have q4:=fun h K=>zf1 (h:=h) (K:=K) steps tries O.n (z79 h0) (upL l at_) (zsK O at_).l
 generalize z08 steps tries (upL l at_)=F at *
 obtain⟨g,hg⟩:∃ g,h++[Obj.box [AStr steps,AI tries]]=g:=⟨_,rfl⟩
 have gl:g.length=h.length+1:=by rw[← hg];simp
 have q5:=fun K=>q4 (h++[Obj.box [AStr steps,AI tries]]) K
 have q6:∀ K,z0c X z3w [z8r steps tries,z1m (upL l at_)] (h++[Obj.box [AStr steps,AI tries]]) K=K (.ref (g.length+7) 0) (FS g (flB steps tries) steps tries F []) (escE g F.bs.length):=fun K=>by rw[q5,hg]
 have ex:∀ y∈escE g F.bs.length,h.length≤y.1:=fun y hy=>by have:=(z3T hy).1;omega
 unfold FS wbx at q6
 simp only[ze7,go_sem,↓q1,q1,h0,↓q3,q3,↓q6,q6]
 refine zu8 ex (by omega) (by omega) z8s z8t (by simp) (by simp) ⟨rfl,?_,rfl⟩
 rw[← hg];unfold FH
 rw[List.append_assoc,List.take_left]
end Go.Am
end
section
/- What is z1r at once is nothing;refused entries left out: plainly. -/
open Go
set_option linter.all false
set_option maxRecDepth 100000
namespace Go.Am
def gtE (a b:Ent):Prop:=0<z0U b a
theorem z2p {x y:Int}:0<cmp3 x y↔y<x:=by unfold cmp3;split <;> (try split) <;> omega
theorem z6a {x y:Int}:cmp3 x y=0↔x=y:=by unfold cmp3;split <;> (try split) <;> omega
theorem zlw {a b c:Ent} (h1:gtE a b) (h2:gtE b c):gtE a c:=by
 unfold gtE z0U at *
 have lt1:∀ {x y:List UInt8},0<cmpL x y↔cmpL y x<0:=fun {x y}=>by rw[z9M y x];omega
 by_cases t1:cmp3 b.time a.time=0
 ·rw[if_neg (by simp [t1])] at h1
  have e1:=z6a.1 t1
  by_cases t2:cmp3 c.time b.time=0
  ·rw[if_neg (by simp [t2])] at h2
   have e2:=z6a.1 t2
   rw[if_neg (by rw[e2,e1];simp [z6a])]
   by_cases s1:cmpL b.site a.site=0
   ·rw[if_neg (by simp [s1])] at h1
    have f1:=z5K s1
    by_cases s2:cmpL c.site b.site=0
    ·rw[if_neg (by simp [s2])] at h2
     have f2:=z5K s2
     rw[if_neg (by rw[f2,f1];simp [z4C])]
     rw[z2p] at *;omega
    ·rw[if_pos s2] at h2
     rw[f1] at s2 h2
     rw[if_pos s2];exact h2
   ·rw[if_pos s1] at h1
    by_cases s2:cmpL c.site b.site=0
    ·have f2:=z5K s2
     rw[f2,if_pos s1];exact h1
    ·rw[if_pos s2] at h2
     have q:=z8F (lt1.1 h1) (lt1.1 h2)
     have q2:=lt1.2 q
     rw[if_pos (by omega)];exact q2
  ·rw[if_pos t2,z2p] at h2
   have:¬ cmp3 c.time a.time=0:=fun z=>by have:=z6a.1 z;omega
   rw[if_pos this,z2p];omega
 ·rw[if_pos t1,z2p] at h1
  by_cases t2:cmp3 c.time b.time=0
  ·have e2:=z6a.1 t2
   have:¬ cmp3 c.time a.time=0:=fun z=>by have:=z6a.1 z;omega
   rw[if_pos this,z2p];omega
  ·rw[if_pos t2,z2p] at h2
   have:¬ cmp3 c.time a.time=0:=fun z=>by have:=z6a.1 z;omega
   rw[if_pos this,z2p];omega
theorem zbN (p:Option Ent) (x:Ent) (r:List Ent):z0B p (x::r)=(if entF x≠0 then entF x else if (p.elim false fun q=>decide (z0U x q≤0))=true then 7 else z0B (some x) r):=by cases p <;> rfl
theorem z6h:∀ (l:List Ent) (p:Option Ent),z0B p l=0↔(∀ x∈l,entF x=0)∧(p.toList++l).Pairwise gtE∨l=[]
 | [],p=>by simp [z0B]
 | x::r,p=>by
  have ih:=z6h r (some x)
  rw[zbN]
  have ord:((p.elim false fun q=>decide (z0U x q≤0))=true)↔¬ ∀ q∈p.toList,gtE q x:=by
   cases p with
   | none=>simp
   | some q=>simp [gtE]
  constructor
  ·intro h
   left
   by_cases h1:entF x=0
   ·rw[if_neg (by simp [h1])] at h
    by_cases h2:(p.elim false fun q=>decide (z0U x q≤0))=true
    ·rw[if_pos h2] at h;exact absurd h (by decide)
    ·rw[if_neg h2] at h
     have h2':∀ q∈p.toList,gtE q x:=by
      rw[ord] at h2
      exact Classical.not_not.1 h2
     have hr:(x::r).Pairwise gtE:=by
      rcases ih.1 h with ⟨_,q⟩ | q
      ·exact q
      ·rw[q];exact List.pairwise_singleton ..
     refine⟨fun y hy=>?_,?_⟩
     ·rcases List.mem_cons.1 hy with e | e
      ·rw[e];exact h1
      ·rcases ih.1 h with ⟨q,_⟩ | q
       ·exact q y e
       ·rw[q] at e;cases e
     ·cases p with
      | none=>exact hr
      | some q=>
       refine List.pairwise_cons.2 ⟨fun y hy=>?_,hr⟩
       have hq:=h2' q (by simp)
       rcases List.mem_cons.1 hy with e | e
       ·rw[e];exact hq
       ·exact zlw hq ((List.pairwise_cons.1 hr).1 y e)
   ·rw[if_pos h1] at h;exact absurd h h1
  ·intro h
   rcases h with ⟨h1,h2⟩ | h
   ·have hx:=h1 x (List.mem_cons_self ..)
    rw[if_neg (by simp [hx])]
    have hr:(x::r).Pairwise gtE:=(List.pairwise_append.1 h2).2.1
    have hn:¬ (p.elim false fun q=>decide (z0U x q≤0))=true:=by
     rw[ord]
     exact Classical.not_not.2 fun q hq=>(List.pairwise_append.1 h2).2.2 q hq x (List.mem_cons_self ..)
    rw[if_neg hn]
    exact ih.2 (.inl ⟨fun y hy=>h1 y (List.mem_cons_of_mem _ hy),hr⟩)
   ·cases h
theorem z9z:∀ (l seen:List Ent),z2j seen l=false↔(∀ x∈l,∀ o∈seen,z2y o x=false)∧l.Pairwise fun o x=>z2y o x=false
 | [],seen=>by simp [z2j]
 | x::r,seen=>by
  have ih:=z9z r (seen++[x])
  unfold z2j
  by_cases h:seen.any (fun o=>z2y o x)=true
  ·rw[if_pos h]
   constructor
   ·intro q;cases q
   ·rintro⟨q,_⟩
    obtain⟨o,ho,hs⟩:=List.any_eq_true.1 h
    rw[q x (List.mem_cons_self ..) o ho] at hs;cases hs
  ·rw[if_neg h,ih,List.pairwise_cons]
   have hs:∀ o∈seen,z2y o x=false:=by simpa using h
   constructor
   ·rintro⟨q1,q2⟩
    refine⟨fun y hy o ho=>?_,fun y hy=>q1 y hy x (by simp),q2⟩
    rcases List.mem_cons.1 hy with e | e
    ·rw[e];exact hs o ho
    ·exact q1 y e o (by simp [ho])
   ·rintro⟨q1,q2,q3⟩
    refine⟨fun y hy o ho=>?_,q3⟩
    rcases List.mem_append.1 ho with e | e
    ·exact q1 y (List.mem_cons_of_mem _ hy) o e
    ·rw[List.mem_singleton.1 e];exact q2 y hy
theorem zbM (l:List Ent):z3s l=0↔l.length≤2000∧(∀ x∈l,entF x=0)∧l.Pairwise gtE∧l.Pairwise fun o x=>z2y o x=false:=by
 have e0:z0B none l=0↔(∀ x∈l,entF x=0)∧l.Pairwise gtE:=by
  rw[z6h]
  constructor
  ·rintro (h | h)
   ·exact h
   ·rw[h];simp
  ·intro h;exact .inl h
 have t0:=z9z l []
 unfold z3s
 constructor
 ·intro h
  split at h
  ·cases h
  rename_i h1
  split at h
  ·rename_i h2;exact absurd h h2
  rename_i h2
  split at h
  ·cases h
  rename_i h3
  have h2':z0B none l=0:=by simpa using h2
  have h3':z2j [] l=false:=by simpa using h3
  exact⟨by omega,(e0.1 h2').1,(e0.1 h2').2,(t0.1 h3').2⟩
 ·rintro⟨h1,h2,h3,h4⟩
  rw[if_neg (by omega),if_neg (by simp [e0.2 ⟨h2,h3⟩]),if_neg (by rw[t0.2 ⟨fun _ _ _ h=>(by cases h),h4⟩];simp)]
theorem zkS {l m:List Ent} (h:m.Sublist l) (hl:z3s l=0):z3s m=0:=by
 rw[zbM] at *
 obtain⟨a,b,c,d⟩:=hl
 exact⟨by have:=h.length_le;omega,fun x hx=>b x (h.subset hx),c.sublist h,d.sublist h⟩
def z2W:Ent:=⟨[122,122],1,10000,6,[98,49],[],[],0⟩
def z40:Ent:=⟨[122,122],2,10000,7,[],[],[122,122],1⟩
theorem early {l:List Ent} (hv:∀ x∈l,EntV x) (hf:z3s l=0):∀ x∈l,x.time≤1000∧x.site≠[122,122]:=fun x hx=>by
 have:=(zkN (zkR hf x hx)).t
 have z:=(hv x hx).z
 exact⟨by omega,z.1⟩
theorem zps {x y:Ent} (h:x.time<y.time):gtE x y:=by
 unfold gtE z0U
 have:¬ cmp3 y.time x.time=0:=fun z=>by have:=z6a.1 z;omega
 rw[if_pos this,z2p];omega
theorem zgr {l:List Ent} (hv:∀ x∈l,EntV x) (hf:z3s l=0) (hl:l.length≤100):z3s (l++[z2W,z40])=0:=by
 have ea:=early hv hf
 rw[zbM] at *
 obtain⟨a,b,c,d⟩:=hf
 refine⟨by simp;omega,fun x hx=>?_,?_,?_⟩
 ·rcases List.mem_append.1 hx with h | h
  ·exact b x h
  ·simp only[List.mem_cons,List.not_mem_nil,or_false] at h
   rcases h with h | h <;> (subst h;decide)
 ·rw[List.pairwise_append]
  refine⟨c,?_,fun x hx y hy=>?_⟩
  ·simp [gtE];decide
  ·have:=(ea x hx).1
   simp only[List.mem_cons,List.not_mem_nil,or_false] at hy
   rcases hy with h | h <;> (subst h;exact zps (by show x.time<10000;omega))
 ·rw[List.pairwise_append]
  refine⟨d,?_,fun x hx y hy=>?_⟩
  ·simp;decide
  ·have:=(ea x hx).2
   simp only[List.mem_cons,List.not_mem_nil,or_false] at hy
   unfold z2y
   rcases hy with h | h <;> (subst h;simp [z2W,z40,this])
theorem zaP:∀ (l:List Ent),(∀ x∈l,x.site≠[122,122])→cntB (l++[z2W,z40])=cntB l++[false,true]
 | [],_=>by decide
 | x::r,h=>by
  have ih:=zaP r (fun y hy=>h y (List.mem_cons_of_mem _ hy))
  have hx:=h x (List.mem_cons_self ..)
  rw[List.cons_append,cntB,cntB,ih]
  have e:(((r++[z2W,z40]).zip (cntB r++[false,true])).any fun y=>y.2&&z5B y.1 x)=((r.zip (cntB r)).any fun y=>y.2&&z5B y.1 x):=by
   rw[List.zip_append (by rw[z0Z]),List.any_append]
   have e2:z5B z40 x=false:=by
    unfold z5B z40
    have:¬ ([122,122]:List UInt8)=x.site:=fun z=>hx z.symm
    simp [this]
   simp [e2]
  rw[e]
  rfl
theorem zlv (steps:List Nm) (tries:Int):∀ (a b:List (Ent × Bool)) (S:Flo) (i:Nat),Flo.go steps tries S i (a++b)=Flo.go steps tries (Flo.go steps tries S i a) (i+a.length) b
 | [],b,S,i=>rfl
 | (x,c)::r,b,S,i=>by
  have e:i+((x,c)::r).length=(i+1)+r.length:=by simp;omega
  have e1:Flo.go steps tries S i ((x,c)::r++b)=if c=false∨x.kind=7 then Flo.go steps tries S (i+1) (r++b) else Flo.go steps tries (S.step steps tries i x) (i+1) (r++b):=rfl
  have e2:Flo.go steps tries S i ((x,c)::r)=if c=false∨x.kind=7 then Flo.go steps tries S (i+1) r else Flo.go steps tries (S.step steps tries i x) (i+1) r:=rfl
  rw[e,e1,e2]
  split
  ·exact zlv steps tries r b S (i+1)
  ·exact zlv steps tries r b _ (i+1)
theorem zpS (steps:List Nm) (tries:Int) {l:List Ent} (h:∀ x∈l,x.site≠[122,122]):z08 steps tries (l++[z2W,z40])=z08 steps tries l:=by
 unfold z08 zipC
 rw[zaP l h,List.zip_append (by rw[z0Z]),zlv]
 rfl
theorem zvj (l:List Ent) (at_:Int) (h:∀ x∈l,x.time≤at_):∀ k,k≤l.length→upK l at_ k=k
 | 0,_=>rfl
 | k+1,hk=>by
  unfold upK
  have hl:k<l.length:=by omega
  rw[List.getElem?_eq_getElem hl]
  have:=h _ (List.getElem_mem hl)
  rw[if_neg (by simp;omega)]
theorem zd4 {l:List Ent} {at_:Int} (h:∀ x∈l,x.time≤at_):upL l at_=l:=by
 unfold upL
 rw[zvj l at_ h _ (Nat.le_refl _),List.take_length]
theorem zsX {S:Flo} {steps:List Nm} {tries:Int} {x:Ent} (h:(S.act steps tries x).1≠0):(S.act steps tries x).2=S:=by
 unfold Flo.act at *
 cases hi:ixB x.board S.bs with
 | none=>
  rw[hi] at h
  dsimp only at *
  by_cases k:x.kind=1
  ·rw[if_pos k] at h;exact absurd rfl h
  ·rw[if_neg k]
 | some i=>
  rw[hi] at h
  dsimp only at *
  cases he:S.bs[i]? with
  | none=>rfl
  | some e=>
   rw[he] at h
   dsimp only at *
   by_cases k:x.kind=1
   ·rw[if_pos k]
   rw[if_neg k] at *
   unfold Flo.old Flo.startR Flo.finishR at *
   split
   ·rename_i k2
    rw[if_pos k2] at h
    split
    ·rfl
    rename_i a1
    rw[if_neg a1] at h
    split
    ·rfl
    rename_i a2
    rw[if_neg a2] at h
    split
    ·rfl
    rename_i a3
    rw[if_neg a3] at h
    exact absurd rfl h
   rename_i k2
   rw[if_neg k2] at h
   split
   ·rename_i k3
    rw[if_pos k3] at h
    split
    ·rfl
    rename_i a1
    rw[if_neg a1] at h
    split
    ·rfl
    rename_i a2
    rw[if_neg a2] at h
    exact absurd rfl h
   rename_i k3
   rw[if_neg k3] at h
   split
   ·rename_i k5
    rw[if_pos k5] at h
    split
    ·rfl
    rename_i a1
    rw[if_neg a1] at h
    exact absurd rfl h
   rename_i k5
   rw[if_neg k5] at h
   split
   ·rfl
   rename_i a1
   rw[if_neg a1] at h
   split
   ·rename_i a2
    rw[if_pos a2] at h
    exact absurd rfl h
   ·rename_i a2
    rw[if_neg a2] at h
    exact absurd rfl h
def zg4 (S T:Flo):Prop:=S.bs=T.bs∧S.sm=T.sm∧S.ck=T.ck∧S.ends=T.ends∧S.runs=T.runs
theorem zfh {S T:Flo} (h:zg4 S T) (steps:List Nm) (tries:Int) (x:Ent):(S.act steps tries x).1=(T.act steps tries x).1∧zg4 (S.act steps tries x).2 (T.act steps tries x).2∧(S.act steps tries x).2.ref=S.ref:=by
 obtain⟨bs,sm,ck,ends,runs,ref,why⟩:=S
 obtain⟨bs',sm',ck',ends',runs',ref',why'⟩:=T
 obtain⟨h1,h2,h3,h4,h5⟩:=h
 dsimp only at h1 h2 h3 h4 h5
 subst h1 h2 h3 h4 h5
 unfold Flo.act
 dsimp only
 cases ixB x.board bs with
 | none=>
  dsimp only
  split
  ·exact⟨rfl,⟨rfl,rfl,rfl,rfl,rfl⟩,rfl⟩
  ·exact⟨rfl,⟨rfl,rfl,rfl,rfl,rfl⟩,rfl⟩
 | some i=>
  dsimp only
  cases bs[i]? with
  | none=>exact⟨rfl,⟨rfl,rfl,rfl,rfl,rfl⟩,rfl⟩
  | some e=>
   dsimp only
   have ok:∀ {a b:Int × Flo},a.1=b.1→zg4 a.2 b.2→a.2.ref=ref→a.1=b.1∧zg4 a.2 b.2∧a.2.ref=ref:=fun a b c=>⟨a,b,c⟩
   split
   ·exact⟨rfl,⟨rfl,rfl,rfl,rfl,rfl⟩,rfl⟩
   ·unfold Flo.old Flo.startR Flo.finishR Flo.start Flo.finish Flo.put
    dsimp only
    repeat' split
    all_goals exact⟨rfl,⟨rfl,rfl,rfl,rfl,rfl⟩,rfl⟩
def z1d (refs:List Int):Nat→List Ent→List Ent
 | _,[]=>[]
 | i,x::r=>if refs.contains (i:Int)=true then z1d refs (i+1) r else x::z1d refs (i+1) r
theorem zcC (refs:List Int):∀ (a b:List Ent) (i:Nat),z1d refs i (a++b)=z1d refs i a++z1d refs (i+a.length) b
 | [],b,i=>rfl
 | x::r,b,i=>by
  have ih:=zcC refs r b (i+1)
  have e:i+(x::r).length=(i+1)+r.length:=by simp;omega
  have e1:z1d refs i (x::r++b)=if refs.contains (i:Int)=true then z1d refs (i+1) (r++b) else x::z1d refs (i+1) (r++b):=rfl
  have e2:z1d refs i (x::r)=if refs.contains (i:Int)=true then z1d refs (i+1) r else x::z1d refs (i+1) r:=rfl
  rw[e,e1,e2,ih]
  split <;> rfl
theorem z2m (refs:List Int):∀ (l:List Ent) (i:Nat),(z1d refs i l).Sublist l
 | [],i=>List.Sublist.slnil
 | x::r,i=>by
  unfold z1d
  split
  ·exact (z2m refs r (i+1)).cons x
  ·exact (z2m refs r (i+1)).cons₂ x
def allT (l:List Ent):List (Ent × Bool):=l.map fun x=>(x,true)
theorem z9N:∀ (l:List Ent),(∀ x∈l,x.kind≠7)→zipC l=allT l
 | [],_=>rfl
 | x::r,h=>by
  have ih:=z9N r (fun y hy=>h y (List.mem_cons_of_mem _ hy))
  unfold zipC allT at *
  rw[cntB]
  have e:((r.zip (cntB r)).any fun y=>y.2&&z5B y.1 x)=false:=by
   rw[ih,List.any_map,List.any_eq_false]
   intro y hy
   have:=h y (List.mem_cons_of_mem _ hy)
   simp [z5B,this]
  rw[e,List.zip_cons_cons,List.map_cons,ih]
  rfl
theorem zdf (steps:List Nm) (tries:Int):∀ (l:List Ent) (S:Flo) (i:Nat),(∀ x∈l,x.kind≠7)→(∀ j∈S.ref,j<(i:Int)) →
 ∃ rs,(Flo.go steps tries S i (allT l)).ref=S.ref++rs∧(∀ j∈rs,(i:Int)≤j) ∧
 ∀ (T:Flo) (k:Nat) (refs:List Int),zg4 S T→(∀ j:Nat,i≤j→(refs.contains (j:Int)=rs.contains (j:Int)))→zg4 (Flo.go steps tries S i (allT l)) (Flo.go steps tries T k (allT (z1d refs i l)))
 | [],S,i,_,_=>⟨[],by simp [Flo.go,allT],by simp,fun T k refs h _=>h⟩
 | x::r,S,i,h7,hr=>by
  have h7r:=fun y hy=>h7 y (List.mem_cons_of_mem x hy)
  have kx:¬ (true=false∨x.kind=7):=by simp [h7 x (List.mem_cons_self ..)]
  have lr:(S.act steps tries x).2.ref=S.ref:=(zfh (S:=S) (T:=S) ⟨rfl,rfl,rfl,rfl,rfl⟩ steps tries x).2.2
  by_cases h0:(S.act steps tries x).1≠0
  ·have es:S.step steps tries i x={ S with ref:=S.ref++[(i:Int)],why:=S.why++[(S.act steps tries x).1] }:=by
    unfold Flo.step;rw[if_pos h0,zsX h0]
   obtain⟨rs,q1,q2,q3⟩:=zdf steps tries r { S with ref:=S.ref++[(i:Int)],why:=S.why++[(S.act steps tries x).1] } (i+1) h7r (fun j hj=>by
    rcases List.mem_append.1 hj with h | h
    ·have:=hr j h;omega
    ·rw[List.mem_singleton.1 h];omega)
   have eg:Flo.go steps tries S i (allT (x::r))=Flo.go steps tries { S with ref:=S.ref++[(i:Int)],why:=S.why++[(S.act steps tries x).1] } (i+1) (allT r):=by
    show Flo.go steps tries S i ((x,true)::allT r)=_
    rw[Flo.go,if_neg kx,es]
   refine⟨(i:Int)::rs,by rw[eg,q1];simp,fun j hj=>?_,fun T k refs hT hc=>?_⟩
   ·rcases List.mem_cons.1 hj with e | e
    ·omega
    ·have:=q2 j e;omega
   ·rw[eg]
    have hi:refs.contains (i:Int)=true:=by rw[hc i (Nat.le_refl _)];simp
    rw[z1d,if_pos hi]
    refine q3 T k refs hT fun j hj=>?_
    rw[hc j (by omega)]
    have:¬ (j:Int)=(i:Int):=by omega
    simp [this]
  ·have h0':(S.act steps tries x).1=0:=by simpa using h0
   have es:S.step steps tries i x=(S.act steps tries x).2:=by unfold Flo.step;rw[if_neg h0]
   obtain⟨rs,q1,q2,q3⟩:=zdf steps tries r (S.act steps tries x).2 (i+1) h7r (fun j hj=>by rw[lr] at hj;have:=hr j hj;omega)
   have eg:Flo.go steps tries S i (allT (x::r))=Flo.go steps tries (S.act steps tries x).2 (i+1) (allT r):=by
    show Flo.go steps tries S i ((x,true)::allT r)=_
    rw[Flo.go,if_neg kx,es]
   refine⟨rs,by rw[eg,q1,lr],fun j hj=>by have:=q2 j hj;omega,fun T k refs hT hc=>?_⟩
   rw[eg]
   have hi:¬ refs.contains (i:Int)=true:=by
    rw[hc i (Nat.le_refl _)]
    intro z
    have:(i:Int)∈rs:=by simpa using z
    have:=q2 _ this
    omega
   rw[z1d,if_neg hi]
   obtain⟨l1,l2,_⟩:=zfh hT steps tries x
   have eT:Flo.go steps tries T k (allT (x::z1d refs (i+1) r))=Flo.go steps tries (T.act steps tries x).2 (k+1) (allT (z1d refs (i+1) r)):=by
    show Flo.go steps tries T k ((x,true)::allT (z1d refs (i+1) r))=_
    have:¬ (T.act steps tries x).1≠0:=by rw[← l1];exact h0
    rw[Flo.go,if_neg kx]
    unfold Flo.step
    rw[if_neg this]
   rw[eT]
   exact q3 _ (k+1) refs l2 fun j hj=>hc j (by omega)
theorem ztH (steps:List Nm) (tries:Int) {l:List Ent} (h:∀ x∈l,x.kind≠7):(z08 steps tries (z1d (z08 steps tries l).ref 0 l)).bs=(z08 steps tries l).bs:=by
 obtain⟨rs,q1,q2,q3⟩:=zdf steps tries l flo0 0 h (fun j hj=>by cases hj)
 have hz:∀ x∈z1d (z08 steps tries l).ref 0 l,x.kind≠7:=fun x hx=>h x ((z2m _ l 0).subset hx)
 have e1:z08 steps tries l=Flo.go steps tries flo0 0 (allT l):=by unfold z08;rw[z9N l h]
 have e2:z08 steps tries (z1d (z08 steps tries l).ref 0 l)=Flo.go steps tries flo0 0 (allT (z1d (z08 steps tries l).ref 0 l)):=by unfold z08 at *;rw[z9N _ hz]
 rw[e2]
 have:=q3 flo0 0 (z08 steps tries l).ref ⟨rfl,rfl,rfl,rfl,rfl⟩ (fun j _=>by rw[e1,q1];simp [flo0])
 rw[e1] at this ⊢
 exact this.1.symm
end Go.Am
end
section
/- stationed: a z0I call,computed. -/
open Go
set_option linter.all false
namespace Go.Am
end Go.Am
end
section
/- EntryTexts returns true. -/
open Go
set_option linter.all false
set_option maxRecDepth 100000
namespace Go.Am
variable {L:List Int} {a:Int} {h l:Heap} {id:Nat} {K:Post}
theorem z8y (hp:posN 20000 a) (n:Nat) (hn:n≤19) :
 GenE z8Q [AI n] L a (fun v a2=>a≤a2∧a2≤a+8000∧∃ rs:List Ent,rs.length≤n∧(∀ r∈rs,EntV r)∧z3s rs=0∧v=z1m rs):=by
 refine GenE.of fun h id hid=>?_
 rw[c_q03p rfl]
 simp only[zez,go_sem,hid]
 refine z0Y (fun t:Nat × Int=>⟨[(0,.ref id 0),(1,AI n),(6,AI t.1)],h.set id (strm L t.2),[]⟩) (fun t=>t.1≤8∧a≤t.2∧t.2≤a+1000*t.1) (fun t=>8-t.1) (0,a) rfl ⟨by simp,by simp,by simp⟩ ?_
 rintro⟨k,b⟩ ⟨h1,h2,h3⟩
 dsimp only at h1 h2 h3 ⊢
 rcases Nat.lt_or_ge k 8 with hlt | hge
 ·have hk:(k:Int)<8:=by omega
  have w1:IntKind.i64.wrap ((k:Int)+1)=((k+1:Nat):Int):=z0l _ (by omega) (by omega)
  obtain⟨_,a2,⟨c1,c2,rs,r1,r2,rfl⟩,V⟩:=(zlo (L:=L) (a:=b) (z0Q hp h2 (by omega)) n hn).set (h:=h) hid
  have F:=fun h K=>z80 (h:=h) (K:=K) rs (fun x hx=>(r2 x hx).ok) (by omega)
  by_cases hf:z3s rs=0
  ·simp only[go_sem,hid,hk,↓V,V,↓F,F,hf]
   exact⟨a2,⟨by omega,by omega,rs,r1,r2,hf,rfl⟩,rfl⟩
  ·simp only[go_sem,hid,hk,↓V,V,↓F,F,hf,w1]
   exact⟨(k+1,a2),rfl,⟨by dsimp only;omega,by dsimp only;omega,by dsimp only;omega⟩,by dsimp only;omega⟩
 ·have hk:¬ (k:Int)<8:=by omega
  simp only[go_sem,hid,hk]
  exact⟨b,⟨by omega,by omega,[],by simp,by simp,by decide,rfl⟩,rfl⟩
end Go.Am
end
section
/- The shortest way between two states of a test access port: a search over a queue. -/
open Go
set_option linter.all false
namespace Go.Am
variable {h:Heap} {K:Post}
attribute [-go_sem] z1o z15 zdn zdo
def nxtT:List (List Nat):=[[1,0],[1,2],[3,9],[4,5],[4,5],[6,8],[6,7],[4,8],[1,2],[10,0],[11,12],[11,12],[13,15],[13,14],[11,15],[1,2]]
def nxt (s t:Nat):Nat:=(nxtT.getD s []).getD t 0
theorem zup {s t:Nat} (hs:s<16) (ht:t<2):([AI 1,AI 0,AI 1,AI 2,AI 3,AI 9,AI 4,AI 5,AI 4,AI 5,AI 6,AI 8,AI 6,AI 7,AI 4,AI 8,AI 1,AI 2,AI 10,AI 0,AI 11,AI 12,AI 11,AI 12,AI 13,AI 15,AI 13,AI 14,AI 11,AI 15,AI 1,AI 2]:List AV)[s*2+t*1]?=some (AI (nxt s t)):=by
 have hs':s=0∨s=1∨s=2∨s=3∨s=4∨s=5∨s=6∨s=7∨s=8∨s=9∨s=10∨s=11∨s=12∨s=13∨s=14∨s=15:=by omega
 have ht':t=0∨t=1:=by omega
 rcases hs' with rfl | rfl | rfl | rfl | rfl | rfl | rfl | rfl | rfl | rfl | rfl | rfl | rfl | rfl | rfl | rfl <;> rcases ht' with rfl | rfl <;> rfl
theorem zlt {Y:Ctx} (hY:Y.fn z75=some zaC) (s t:Nat) (hs:s<16) (ht:t<2):z0c Y z75 [AI s,AI t] h K=K (AI (nxt s t)) h []:=by
 refine rule ?_
 rw[z0j hY rfl (show z0u h [AI s,AI t]=some ([AI s,AI t],h) from rfl) rfl,e_q09p]
 show zj4 _ _ _ _ _ _ (finR [.t 4] false _ _)
 have g:=zup hs ht
 simp only[zj4,go_sem,hs,ht,g]
abbrev Ways:=List (Int × List UInt8)
def keyP (n:Int):PV:=.int .i64 n
def valP (s:List UInt8):AV:=.p (.str s)
def bit1 (t:Nat):List UInt8:=[UInt8.ofNat (48+t)]
def zcA (at_ t:Nat) (s:Ways × List Nat):Ways × List Nat:=
 if (getM (nxt at_ t:Int) s.1).isSome then s else (updM (nxt at_ t:Int) ((getM (at_:Int) s.1).getD []++bit1 t) s.1,s.2++[nxt at_ t])
def z5C (at_:Nat):Nat→Ways × List Nat→Ways × List Nat
 | 0,s=>s
 | t+1,s=>zcA at_ t (z5C at_ t s)
def popS (s:Ways × List Nat):Ways × List Nat:=match s.2 with
 | []=>s
 | a::r=>z5C a 2 (s.1,r)
def bfs (a:Nat):Nat→Ways × List Nat
 | 0=>([((a:Int),[])],[a])
 | k+1=>popS (bfs a k)
def zu0 (a b:Nat):List UInt8:=(getM (b:Int) (bfs a 16).1).getD []
def zgy (s:Ways × List Nat):Bool:=decide (s.1.length≤16)&&decide (s.2.length≤16)&&s.2.all (fun x=>decide (x<16))&&s.1.all (fun e=>decide (e.2.length≤16))
theorem ziL:(List.range 16).all (fun a=>(List.range 16).all (fun k=>zgy (bfs a k) && !(bfs a k).2.isEmpty)&&zgy (bfs a 16)&&(bfs a 16).2.isEmpty)=true:=by kernel_rfl
theorem zpm {a k:Nat} (ha:a<16) (hk:k<16):zgy (bfs a k)=true∧(bfs a k).2≠[]:=by
 have h1:=List.all_eq_true.1 ziL a (List.mem_range.2 ha)
 simp only[Bool.and_eq_true] at h1
 have h2:=List.all_eq_true.1 h1.1.1 k (List.mem_range.2 hk)
 simp only[Bool.and_eq_true,Bool.not_eq_true',List.isEmpty_eq_false_iff] at h2
 exact h2
theorem ztf {a:Nat} (ha:a<16):zgy (bfs a 16)=true∧(bfs a 16).2=[]:=by
 have h1:=List.all_eq_true.1 ziL a (List.mem_range.2 ha)
 simp only[Bool.and_eq_true,List.isEmpty_iff] at h1
 exact⟨h1.1.2,h1.2⟩
theorem zpR {s:Ways × List Nat} (hf:zgy s=true):s.1.length≤16∧s.2.length≤16∧(∀ x∈s.2,x<16)∧∀ e∈s.1,e.2.length≤16:=by
 unfold zgy at hf
 simp only[Bool.and_eq_true,decide_eq_true_eq,List.all_eq_true] at hf
 exact⟨hf.1.1.1,hf.1.1.2,hf.1.2,hf.2⟩
theorem lookP {hp:Heap} {id:Nat} {m:Ways} {b:Int} (hh:hp[id]?=some (mobj keyP valP m)):z1o (none,[0]) false (.p (.str [])) (.mp id) (AI b) hp=some (.p (.str ((getM b m).getD []))):=by
 have:=z3g (key:=keyP) (val:=valP) (fun a b=>zab a b) hh (kk:=(none,[0])) (k:=b) z7D (ok:=false) (z:=.p (.str []))
 rw[cond_false] at this
 refine this.trans ?_
 cases getM b m <;> rfl
theorem lookQ {hp:Heap} {id:Nat} {m:Ways} {b:Int} (hh:hp[id]?=some (mobj keyP valP m)):z1o (none,[0]) true (.p (.str [])) (.mp id) (AI b) hp=some (.tup [.p (.str ((getM b m).getD [])),AB (getM b m).isSome]):=by
 have:=z3g (key:=keyP) (val:=valP) (fun a b=>zab a b) hh (kk:=(none,[0])) (k:=b) z7D (ok:=true) (z:=.p (.str []))
 rw[cond_true] at this
 refine this.trans ?_
 cases getM b m <;> rfl
theorem updP {hp:Heap} {id:Nat} {m:Ways} {b:Int} {v:List UInt8} (hh:hp[id]?=some (mobj keyP valP m)):z15 (none,[0]) (.mp id) (AI b) (.p (.str v)) hp=some (.und,hp.set id (mobj keyP valP (updM b v m)),[]):=
 z5c (key:=keyP) (val:=valP) (fun a b=>zab a b) hh (kk:=(none,[0])) (k:=b) z7D (v:=v) rfl
structure Que (R:Heap) (i:Nat) (xs:List Nat) (off:Nat) (q:List Nat):Prop where
 get:R[i]?=some (.row none (xs.map fun n:Nat=>eI n) 0)
 le:off≤xs.length
 eq:xs.drop off=q
theorem nq_one {hp:Heap} {id:Nat} {xs:List Nat} {off:Nat} {n:Int} {k:AV→Heap→Esc→Prop} (hh:hp[id]?=some (.row none (xs.map fun n:Nat=>eI n) 0)) (ho:off≤xs.length) (hm:xs.length≤1000000)
 (k1:k (.own id (xs.length+1) off (xs.length-off+1)) (hp.set id (.row none (xs.map (fun n:Nat=>eI n)++[eI n]) 0)) [])
 (k2:k (.own hp.length (xs.length-off+1) 0 (xs.length-off+1)) (hp++[.row none ((xs.drop off).map (fun n:Nat=>eI n)++[eI n]) 0]) []) :
 nqK (some none) [.own id xs.length off (xs.length-off),.p (.sl none [eI n])] hp k:=by
 have hx:xs.length-off+1≤z0V:=by unfold z0V;omega
 have hr:rds hp (.p (.sl none [eI n]))=some (none,[eI n]):=rfl
 have hw:win (xs.map fun n:Nat=>eI n) off (xs.length-off)=(xs.drop off).map fun n:Nat=>eI n:=by
  unfold win
  rw[← List.map_drop]
  exact List.take_of_length_le (by simp)
 unfold nqK z4p appq
 simp only[hr,if_true,hh,List.length_map,List.length_cons,List.length_nil,Nat.zero_add]
 rw[if_pos ⟨trivial,trivial,by omega,hx,Nat.zero_le _⟩,hw]
 refine⟨by simp,fun y hy=>?_⟩
 simp only[List.mem_cons,List.not_mem_nil,or_false] at hy
 rcases hy with rfl | rfl
 ·exact k1
 ·exact k2
theorem zfi {α β:Type} [DecidableEq α] {k:α} {v:β}:∀ {l:List (α × β)} {e:α × β},e∈updM k v l→e∈l∨e=(k,v)
 | [],e,h=>by simp [updM] at h;exact .inr h
 | x::r,e,h=>by
  unfold updM at h
  split at h
  ·rcases List.mem_cons.1 h with h | h
   ·exact .inr h
   ·exact .inl (List.mem_cons_of_mem _ h)
  ·rcases List.mem_cons.1 h with h | h
   ·exact .inl (h ▸ List.mem_cons_self)
   ·rcases zfi h with h | h
    ·exact .inl (List.mem_cons_of_mem _ h)
    ·exact .inr h
theorem zfc {α β:Type} [DecidableEq α] {k:α} {v:β}:∀ {l:List (α × β)},getM k l=some v→(k,v)∈l
 | [],h=>by cases h
 | x::r,h=>by
  unfold getM at h
  split at h
  ·rename_i he;cases h;subst he;simp
  ·exact List.mem_cons_of_mem _ (zfc h)
theorem zfG {n:Nat} {w:Ways} (hw:∀ e∈w,e.2.length≤n) (k:Int):((getM k w).getD []).length≤n:=by
 cases hg:getM k w with
 | none=>simp
 | some v=>exact hw _ (zfc hg)
theorem zoG {n at_ t:Nat} {s:Ways × List Nat} (hw:∀ e∈s.1,e.2.length≤n):∀ e∈(zcA at_ t s).1,e.2.length≤n+1:=by
 unfold zcA
 split
 ·intro e he;have:=hw e he;omega
 ·intro e he
  rcases zfi he with h | h
  ·have:=hw e h;omega
  ·subst h
   have:=zfG hw (at_:Int)
   simp [bit1];omega
theorem z91 {n at_:Nat} {s:Ways × List Nat} (hw:∀ e∈s.1,e.2.length≤n):∀ (t:Nat),∀ e∈(z5C at_ t s).1,e.2.length≤n+t
 | 0=>hw
 | t+1=>zoG (z91 hw t)
set_option maxHeartbeats 1000000 in
theorem g_path {Y:Ctx} (hY1:Y.fn z76=some zef) (hY2:Y.fn z75=some zaC) (a b:Nat) (ha:a<16) (hb:b<16):z0c Y z76 [AI a,AI b] h K=K (.p (.str (zu0 a b))) h []:=by
 refine rule ?_
 rw[z2o hY1 rfl (show z0u h [AI a,AI b]=some ([AI a,AI b],h) from rfl) rfl]
 simp only[e_q09q]
 show ∃ v h' x,_∧zeE _ _ _ _ _ _ _ _ (finR [.t 4] false _ _)
 simp only[zeE]
 refine⟨_,_,_,⟨rfl,rfl,rfl⟩,?_⟩
 have em:mobj keyP valP [((a:Int),([]:List UInt8))] = .amap [⟨.int .i64 a,.p (.str []),0⟩] 1:=rfl
 have u0:=fun (hp:Heap) (hh:hp[h.length]?=some (mobj keyP valP []))=>updP (b:=(a:Int)) (v:=[]) hh
 have e0:updM (a:Int) [] ([]:Ways)=[((a:Int),[])]:=rfl
 have em0:mobj keyP valP ([]:Ways) = .amap [] 0:=rfl
 rw[e0] at u0
 simp only[em0] at u0
 simp only[go_sem,u0]
 refine z0Y (fun t:Nat × Heap × Nat × List Nat × Nat × Option Nat=>⟨[(1,AI b),(5,.mp h.length),(6,.own (h.length+(t.2.2.1+1)) t.2.2.2.1.length t.2.2.2.2.1 (t.2.2.2.1.length-t.2.2.2.2.1))]++(match t.2.2.2.2.2 with | none=>[] | some q=>[(7,AI q),(25,AI 2),(26,AB false)]),h++mobj keyP valP (bfs a t.1).1::t.2.1,[]⟩)
  (fun t=>t.1≤16∧Que t.2.1 t.2.2.1 t.2.2.2.1 t.2.2.2.2.1 (bfs a t.1).2∧t.2.2.2.1.length≤1+2*t.1) (fun t=>16-t.1) (0,[.row none [eI a] 0],0,[a],0,none) (by simp [bfs]) ⟨by simp,⟨rfl,by simp,rfl⟩,by simp⟩ ?_
 rintro⟨k,R,i,xs,off,oq⟩ ⟨h1,hq,h2⟩
 dsimp only at h1 hq h2 ⊢
 have hqg:=hq.get
 have hle:=hq.le
 have heq:=hq.eq
 have hln:xs.length-off=(bfs a k).2.length:=by rw[← heq];simp
 by_cases hk:k<16
 ·obtain⟨hf,hne⟩:=zpm ha hk
  obtain⟨f1,f2,f3,f4⟩:=zpR hf
  have hpos:0<xs.length-off:=by rw[hln];exact List.length_pos_iff.2 hne
  have hoff:off<xs.length:=by omega
  obtain⟨q0,qr,hqe⟩:∃ q0 qr,(bfs a k).2=q0::qr:=by
   cases hb2:(bfs a k).2 with
   | nil=>exact absurd hb2 hne
   | cons x y=>exact⟨x,y,rfl⟩
  have hx0:xs[off]?=some q0:=by
   have:(xs.drop off)[0]?=some q0:=by rw[heq,hqe];rfl
   rwa [List.getElem?_drop,Nat.add_zero] at this
  have hdr:xs.drop (off+1)=qr:=by
   rw[← List.drop_drop,heq,hqe];rfl
  have hq0:q0<16:=f3 q0 (by rw[hqe];simp)
  have hgq:(xs.map fun n:Nat=>eI n)[off]?=some (eI q0):=by rw[List.getElem?_map,hx0];rfl
  have hpi:(0:Int)<((xs.length-off:Nat):Int):=by omega
  have hl1:1≤xs.length-off:=by omega
  have hbn:bfs a (k+1)=z5C q0 2 ((bfs a k).1,qr):=by show popS _=_;unfold popS;rw[hqe]
  have e3:xs.length-off-1=xs.length-(off+1):=by omega
  have hcond:off+(xs.length-off)≤xs.length:=by omega
  have hNL:∀ (e:List (Nat × AV)),z01 (some [1,5,6,7,25]) e=z01 (some [1,5,6,7,25]) e:=fun _=>rfl
  rcases oq with _ | oq
  all_goals
  simp only[List.append_nil,List.cons_append,List.nil_append,go_sem,List.getElem?_cons_succ,hqg,hpi,hpos,hgq,hl1,hcond]
  all_goals
  clear u0 em em0 e0
  generalize hw0:((bfs a k).1,qr)=s0 at *
  have es1:(bfs a k).1=s0.1:=by rw[← hw0]
  have es2:qr=s0.2:=by rw[← hw0]
  rw[es1,e3]
  refine z0Y (fun t:Nat × Heap × Nat × List Nat × Nat=>⟨[(1,AI b),(5,.mp h.length),(6,.own (h.length+(t.2.2.1+1)) t.2.2.2.1.length t.2.2.2.2 (t.2.2.2.1.length-t.2.2.2.2)),(7,AI q0),(25,AI t.1)],h++mobj keyP valP (z5C q0 t.1 s0).1::t.2.1,[]⟩)
   (fun t=>t.1≤2∧Que t.2.1 t.2.2.1 t.2.2.2.1 t.2.2.2.2 (z5C q0 t.1 s0).2∧t.2.2.2.1.length≤1+2*k+t.1) (fun t=>2-t.1) (0,R,i,xs,off+1) rfl ⟨by simp,⟨hqg,hoff,by rw[hdr,es2];rfl⟩,by simp;omega⟩ ?_
  rintro⟨j,R',i',ys,of'⟩ ⟨j1,jq,j2⟩
  dsimp only at j1 jq j2 ⊢
  have jg:=jq.get
  have jle:=jq.le
  have jeq:=jq.eq
  by_cases hj:j<2
  ·have hji:(j:Int)<2:=by omega
   have qn:=fun h K=>zlt (h:=h) (K:=K) hY2 q0 j hq0 hj
   have hvis:z5C q0 (j+1) s0=zcA q0 j (z5C q0 j s0):=rfl
   generalize hsj:z5C q0 j s0=s at *
   have lq:=fun (hp:Heap) (hh:hp[h.length]?=some (mobj keyP valP s.1))=>lookQ (b:=(nxt q0 j:Int)) hh
   have lp:=fun (hp:Heap) (hh:hp[h.length]?=some (mobj keyP valP s.1))=>lookP (b:=(q0:Int)) hh
   have up:=fun (hp:Heap) (v:List UInt8) (hh:hp[h.length]?=some (mobj keyP valP s.1))=>updP (b:=(nxt q0 j:Int)) (v:=v) hh
   have w1:IntKind.i64.wrap ((j:Int)+1)=((j+1:Nat):Int):=z0l _ (by omega) (by omega)
   cases hs:(getM (nxt q0 j:Int) s.1).isSome with
   | true=>
    have hv:zcA q0 j s=s:=by unfold zcA;rw[if_pos hs]
    rw[hv] at hvis
    simp only[go_sem,hji,↓qn,qn,lq,hs,w1]
    exact⟨(j+1,R',i',ys,of'),by dsimp only;rw[hvis],⟨by dsimp only;omega,by dsimp only;rw[hvis];exact jq,by dsimp only;omega⟩,by dsimp only;omega⟩
   | false=>
    have hv:zcA q0 j s=(updM (nxt q0 j:Int) ((getM (q0:Int) s.1).getD []++bit1 j) s.1,s.2++[nxt q0 j]):=by unfold zcA;rw[hs];rfl
    rw[hv] at hvis
    have w2:IntKind.i64.wrap (48+(j:Int))=((48+j:Nat):Int):=z0l _ (by omega) (by omega)
    have w3:IntKind.i32.wrap ((48+j:Nat):Int)=((48+j:Nat):Int):=by
     have:j=0∨j=1:=by omega
     rcases this with rfl | rfl <;> rfl
    have w4:(0:Int)≤((48+j:Nat):Int)∧((48+j:Nat):Int)<128:=by omega
    have hln2:=zfG (z91 (n:=16) (at_:=q0) (s:=s0) (by rw[← es1];exact f4) j) (q0:Int)
    rw[hsj] at hln2
    have w5:((getM (q0:Int) s.1).getD []).length+(bit1 j).length≤zcg:=by have:(bit1 j).length=1:=rfl;unfold zcg;omega
    have w6:[UInt8.ofNat ((48+j:Nat):Int).toNat]=bit1 j:=rfl
    simp only[go_sem,hji,↓qn,qn,lq,hs,lp,up,w1,w2,w3,w4,w5,w6]
    have hh1:(h++mobj keyP valP (updM (nxt q0 j:Int) ((getM (q0:Int) s.1).getD []++bit1 j) s.1)::R')[h.length+(i'+1)]?=some (.row none (ys.map fun n:Nat=>eI n) 0):=by
     rw[List.getElem?_append_right (by omega)];simpa using jg
    have hi':i'<R'.length:=z0f jg
    refine nq_one hh1 jle (by omega) ?_ ?_
    ·refine⟨(j+1,R'.set i' (.row none (ys.map (fun n:Nat=>eI n)++[eI (nxt q0 j)]) 0),i',ys++[nxt q0 j],of'),?_,⟨by dsimp only;omega,⟨?_,?_,?_⟩,?_⟩,by dsimp only;omega⟩
     ·dsimp only
      rw[hvis,List.set_append_right _ _ (by omega)]
      simp only[List.length_append,List.length_cons,List.length_nil,Nat.add_sub_cancel_left,List.set_cons_succ]
      rw[show ys.length+1-of'=ys.length-of'+1 by omega]
     ·dsimp only
      rw[List.getElem?_set_self hi'];simp
     ·simp;omega
     ·dsimp only
      rw[hvis,List.drop_append_of_le_length jle,jeq]
     ·simp;omega
    ·refine⟨(j+1,R'++[.row none ((ys.drop of').map (fun n:Nat=>eI n)++[eI (nxt q0 j)]) 0],R'.length,ys.drop of'++[nxt q0 j],0),?_,⟨by dsimp only;omega,⟨?_,?_,?_⟩,?_⟩,by dsimp only;omega⟩
     ·dsimp only
      rw[hvis]
      simp
     ·simp
     ·simp
     ·dsimp only
      rw[hvis,jeq,List.drop_zero]
     ·simp;omega
  ·have hj2:j=2:=by omega
   subst hj2
   simp only[go_sem]
   refine⟨(k+1,R',i',ys,of',some q0),?_,⟨by dsimp only;omega,by dsimp only;rw[hbn];exact jq,by dsimp only;omega⟩,by dsimp only;omega⟩
   dsimp only
   rw[hbn]
 ·have hk16:k=16:=by omega
  subst hk16
  obtain⟨_,hne⟩:=ztf ha
  have hz:xs.length-off=0:=by rw[hln,hne];rfl
  have lk:=fun (hp:Heap) (hh:hp[h.length]?=some (mobj keyP valP (bfs a 16).1))=>lookP (b:=(b:Int)) hh
  have hpv:(getM (b:Int) (bfs a 16).1).getD []=zu0 a b:=rfl
  rcases oq with _ | oq <;> simp only[List.append_nil,List.cons_append,List.nil_append,go_sem,hz,lk,hpv]
end Go.Am
end
section
/- ready: a z0I call,computed. -/
open Go
set_option linter.all false
namespace Go.Am
def orcP (f:Nat) (a:List AV):Option AV:=bif Nat.beq f z76 then match a with
 | [.p (.int .i64 x),.p (.int .i64 y)]=>bif decide (0≤x)&&decide (x<16)&&decide (0≤y)&&decide (y<16) then some (.p (.str (zu0 x.toNat y.toNat))) else none
 | _=>none else none
theorem zuz:∀ f a v,orcP f a=some v→∀ h (K:Post),K v h []→z0c X0 f a h K:=by
 intro f a v hv h K hK
 unfold orcP at hv
 cases hf:Nat.beq f z76 with
 | false=>rw[hf] at hv;cases hv
 | true=>
  have hf':=Nat.eq_of_beq_eq_true hf
  rw[hf] at hv
  subst hf'
  simp only[cond_true] at hv
  split at hv
  ·rename_i x y
   cases hc:(decide (0≤x)&&decide (x<16)&&decide (0≤y)&&decide (y<16)) with
   | false=>rw[hc] at hv;cases hv
   | true=>
    rw[hc] at hv
    simp only[cond_true,Option.some.injEq] at hv
    simp only[Bool.and_eq_true,decide_eq_true_eq] at hc
    obtain⟨a,rfl⟩:=Int.eq_ofNat_of_zero_le hc.1.1.1
    obtain⟨b,rfl⟩:=Int.eq_ofNat_of_zero_le hc.1.2
    have:=g_path (h:=h) (K:=K) zd8 zd7 a b (by omega) (by omega)
    rw[this]
    subst hv
    exact hK
  ·cases hv
theorem zq2:z7o X0 orcP 1000 60 z7s [] []=some (AB true,[],[]):=by kernel_rfl
theorem zvm:z0c X0 z7s [] [] fun v h x=>v=AB true∧h=[]∧x=[]:=(zgY zuz 1000 60 zq2 _).2 ⟨rfl,rfl,rfl⟩
theorem zuC {h:Heap} {K:Post}:z0c X z7s [] h K=K (AB true) h []:=zqm (by kernel_rfl) rfl
end Go.Am
end
section
/- UndoneIsNothing returns true. -/
open Go
set_option linter.all false
set_option maxRecDepth 100000
namespace Go.Am
variable {L:List Int} {a:Int} {h:Heap} {K:Post}
attribute [-go_sem] oEqa
def zbY:List Nm:=[[115,99,97,110],[102,108,97,115,104],[98,117,114,110]]
theorem ztI {n:Nat} {tries:Int} (h1:1≤n) (h2:n≤3) (t1:1≤tries) (t2:tries≤3):zdc (zbY.take n) tries=0∧(∀ s∈zbY.take n,s.length≤1000000)∧(zbY.take n).length≤1000:=by
 have hi:inB 1 tries 10=true:=by unfold inB;simp;omega
 refine⟨?_,fun s hs=>?_,by rw[List.length_take];show min n 3≤1000;omega⟩
 ·unfold zdc
  have:n=1∨n=2∨n=3:=by omega
  rcases this with e | e | e <;> subst e
  ·rw[if_neg (by decide),if_neg (by decide),if_neg (by decide),hi];rfl
  ·rw[if_neg (by decide),if_neg (by decide),if_neg (by decide),hi];rfl
  ·rw[if_neg (by decide),if_neg (by decide),if_neg (by decide),hi];rfl
 ·have:=List.mem_of_mem_take hs
  simp only[zbY,List.mem_cons,List.not_mem_nil,or_false] at this
  rcases this with e | e | e <;> rw[e] <;> simp
theorem zde (hp:posN 10 a):GenE z8R [] L a (fun v a2=>a2=a+1+1∧∃ (n:Nat) (tries:Int),1≤n∧n≤3∧1≤tries∧tries≤3∧v=z8r (zbY.take n) tries):=by
 refine GenE.of fun h id hid=>?_
 rw[c_q03q rfl]
 have p0:posN 0 a:=z0Q hp (by omega) (by omega)
 have p1:posN 0 (a+1):=z0Q hp (by omega) (by omega)
 have r1:1≤z1i 1 3 L a∧z1i 1 3 L a≤3:=z2T L a (by omega) (by omega)
 have r2:1≤z1i 1 3 L (a+1)∧z1i 1 3 L (a+1)≤3:=z2T L (a+1) (by omega) (by omega)
 obtain⟨n,hn⟩:∃ n:Nat,z1i 1 3 L a=n:=⟨(z1i 1 3 L a).toNat,by omega⟩
 generalize ht:z1i 1 3 L (a+1)=tries at *
 have n3:n≤3:=by omega
 have hw:win [PV.str [115,99,97,110],.str [102,108,97,115,104],.str [98,117,114,110]] 0 n=(zbY.take n).map PV.str:=by simp [win,zbY,List.map_take]
 simp only[zjp,go_sem,hid,p0,p1,hn,ht,n3,hw,splice]
 first
 | exact⟨a+1+1,⟨rfl,n,tries,by omega,n3,by omega,by omega,rfl⟩,rfl⟩
 | trace_state
theorem zqE (l:List Ent) (hl:l.length≤1000000):z0c X z8W [z1m l] h K=K (.own h.length l.length 0 l.length) (h++[.row (some 8) (l.map Ent.pv) 0]) []:=by
 refine rule ?_
 rw[c_q05b rfl]
 simp only[zju]
 refine⟨_,_,_,⟨rfl,rfl,rfl⟩,?_⟩
 cases l with
 | nil=>
  simp only[AL,z1m,List.map_nil,List.length_nil,go_sem]
  exact List.take_of_length_le (by simp)
 | cons x r=>
  have hm:r.length+1≤z0V:=by simp only[List.length_cons] at hl;unfold z0V;omega
  simp only[AL,z1m,List.map_cons,List.length_cons,go_sem,hm]
  exact List.take_of_length_le (by simp)
theorem zcm {f:Nat} {F:AFun} {id fz:Nat} {sh:Sh} {xs:List PV} {a c d:PV} (hf:X.fn f=some F) (hr:F.byref=false) (hl:F.nparams=4) (hh:h[id]?=some (.row sh xs fz)):z0c X f [.p a,.own id xs.length 0 xs.length,.p c,.p d] h K=z0c X f [.p a,.p (.sl sh xs),.p c,.p d] (frz h id xs.length) K:=
 ztc (X:=X) (a:=[.p a,.own id xs.length 0 xs.length,.p c,.p d]) (vs:=[a,.sl sh xs,c,d]) hf hr (by
  have:win xs 0 xs.length=xs:=z5E rfl
  simp [z0u,pur,rd,hh,this]) rfl (by simp [hl]) ztJ
theorem eqa5n (c d:Sta):oEqa [0,0,2,2,0] true (.p c.pv) (.p d.pv)=some (AB (!decide (c=d))):=by
 obtain⟨a1,a2,a3,a4,a5⟩:=c
 obtain⟨b1,b2,b3,b4,b5⟩:=d
 have e:decide ((⟨a1,a2,a3,a4,a5⟩:Sta)=⟨b1,b2,b3,b4,b5⟩)=(decide (a1=b1)&&(decide (a2=b2)&&(decide (a3=b3)&&(decide (a4=b4)&&(decide (a5=b5)&&true))))):=by
  rw[Bool.eq_iff_iff];simp [Sta.mk.injEq]
 rw[e]
 rfl
def zg5:List Nm:=[[98,49],[98,50],[98,51]]
theorem zsC {steps:List Nm} {tries:Int} {l m:List Ent} {b:Nm} (h1:z3x steps tries l 10000=0) (h2:z3x steps tries m 10000=0) (u1:upL l 10000=l) (u2:upL m 10000=m) (e:(z08 steps tries m).bs=(z08 steps tries l).bs):ofP steps tries m b 10000=ofP steps tries l b 10000:=by
 unfold ofP
 rw[h1,h2,u1,u2,e]
theorem go_I (steps:List Nm) (tries:Int) (h0:steps≠[]):∀ (l:List (Ent × Bool)) (S:Flo) (i n:Nat),FlI S steps n→FlI (Flo.go steps tries S i l) steps (n+l.length)
 | [],S,i,n,I=>I
 | (x,c)::r,S,i,n,I=>by
  have e1:Flo.go steps tries S i ((x,c)::r)=if c=false∨x.kind=7 then Flo.go steps tries S (i+1) r else Flo.go steps tries (S.step steps tries i x) (i+1) r:=rfl
  have e:n+((x,c)::r).length=(n+1)+r.length:=by simp;omega
  rw[e1,e]
  split
  ·exact go_I steps tries h0 r S (i+1) (n+1) I.up
  ·exact go_I steps tries h0 r _ (i+1) (n+1) (zsI I h0 i x).1
theorem zq3 (steps:List Nm) (tries:Int) {x:List Ent} (O:StOk steps x) (h0:steps≠[]):(z08 steps tries x).ref.length≤1000000:=by
 have:=(go_I steps tries h0 (zipC x) flo0 0 0 (flI0 steps)).fr
 rw[z67] at this
 have:=O.l
 unfold z08
 omega
attribute [-go_sem] z4K z7j
set_option maxHeartbeats 8000000 in
theorem und_k6 {s0 b1 b2:Obj} {n:Nat} (steps:List Nm) (tries:Int) (x y z:List Ent) (u:Bool) (Ox:StOk steps x) (Oy:StOk steps y) (Oz:StOk steps z) (hy:∀ b,ofP steps tries y b 10000=ofP steps tries x b 10000) (hz:u=false→∀ b,ofP steps tries z b 10000=ofP steps tries x b 10000) (hn:n=y.length) (K:Ex→St→Prop)
 (hK:K .ret ⟨[(2,AB true)],[],[]⟩→True) (fin:∀ fy fz,K .ret ⟨[(2,AB true)],[s0,.box [AStr steps,AI tries],b1,b2,.row (some 8) (y.map Ent.pv) fy,.row (some 8) (z.map Ent.pv) fz],[]⟩) :
 NW (z0c X) X.gl z35 ⟨[(4,.ref 1 0),(5,z1m x),(6,AI 10000),(9,.own 4 n 0 n),(13,.own 5 z.length 0 z.length),(14,AB u)],[s0,.box [AStr steps,AI tries],b1,b2,.row (some 8) (y.map Ent.pv) 0,.row (some 8) (z.map Ent.pv) 0],[]⟩ K:=by
 subst hn
 rw[z4K]
 simp only[z4F,go_sem]
 refine z0Y (fun t:Nat × Nat × Nat=>⟨[(4,.ref 1 0),(5,z1m x),(6,AI 10000),(9,.own 4 y.length 0 y.length),(13,.own 5 z.length 0 z.length),(14,AB u),(76,AStr zg5),(77,AI 3),(78,AI t.1)],[s0,.box [AStr steps,AI tries],b1,b2,.row (some 8) (y.map Ent.pv) t.2.1,.row (some 8) (z.map Ent.pv) t.2.2],[]⟩)
  (fun t=>t.1≤3) (fun t=>3-t.1) (0,0,0) rfl (Nat.zero_le _) ?_
 rintro⟨k,fy,fz⟩ hk
 dsimp only at hk ⊢
 rcases Nat.lt_or_ge k 3 with hlt | hge
 ·have hlt':(k:Int)<3:=by omega
  have hll:k<zg5.length:=hlt
  have hg:=z1b PV.str hll
  have cw:∀ v:List UInt8,cutP none 0 (PV.str v)=some (PV.str v):=fun _=>rfl
  have wk:IntKind.i64.wrap ((k:Int)+1)=((k+1:Nat):Int):=z0l _ (by omega) (by omega)
  have bl:(zg5[k]).length≤1000000:=by
   have:=List.getElem_mem hll
   simp only[zg5,List.mem_cons,List.not_mem_nil,or_false] at this
   rcases this with e | e | e <;> (rw[show zg5[k]=_ from e];simp)
  generalize zg5[k]=b at *
  have q1:=fun h K=>s_Of (h:=h) (K:=K) steps tries x Ox b bl 10000
  have q2:=fun h K=>s_Of (h:=h) (K:=K) steps tries y Oy b bl 10000
  have q3:=fun h K=>s_Of (h:=h) (K:=K) steps tries z Oz b bl 10000
  rw[hy b] at q2
  have yl:(y.map Ent.pv).length=y.length:=List.length_map ..
  have zl:(z.map Ent.pv).length=z.length:=List.length_map ..
  have o2:∀ (t:Heap) K,z0c X z1Q [z8r steps tries,.own 4 y.length 0 y.length,AS b,AI 10000] (s0 :: .box [AStr steps,AI tries]::b1::b2 :: .row (some 8) (y.map Ent.pv) fy::t) K=K (.tup [.p (ofP steps tries x b 10000).1.pv,AI (ofP steps tries x b 10000).2]) (s0 :: .box [AStr steps,AI tries]::b1::b2 :: .row (some 8) (y.map Ent.pv) (max fy y.length)::t) []:=fun t K=>by
   have:=zcm (K:=K) (f:=z1Q) (F:=z86) (id:=4) (fz:=fy) (sh:=some 8) (xs:=y.map Ent.pv) (a:=.agg [.sl none (steps.map .str),eI tries]) (c:=.str b) (d:=eI 10000) (h:=s0 :: .box [AStr steps,AI tries]::b1::b2 :: .row (some 8) (y.map Ent.pv) fy::t) zoJ rfl rfl rfl
   rw[yl] at this
   rw[this,q2]
   rfl
  have o3:∀ (o4:Obj) (t:Heap) K,z0c X z1Q [z8r steps tries,.own 5 z.length 0 z.length,AS b,AI 10000] (s0 :: .box [AStr steps,AI tries]::b1::b2::o4 :: .row (some 8) (z.map Ent.pv) fz::t) K=K (.tup [.p (ofP steps tries z b 10000).1.pv,AI (ofP steps tries z b 10000).2]) (s0 :: .box [AStr steps,AI tries]::b1::b2::o4 :: .row (some 8) (z.map Ent.pv) (max fz z.length)::t) []:=fun o4 t K=>by
   have:=zcm (K:=K) (f:=z1Q) (F:=z86) (id:=5) (fz:=fz) (sh:=some 8) (xs:=z.map Ent.pv) (a:=.agg [.sl none (steps.map .str),eI tries]) (c:=.str b) (d:=eI 10000) (h:=s0 :: .box [AStr steps,AI tries]::b1::b2::o4 :: .row (some 8) (z.map Ent.pv) fz::t) zoJ rfl rfl rfl
   rw[zl] at this
   rw[this,q3]
   rfl
  have hzb:u=false→ofP steps tries z b 10000=ofP steps tries x b 10000:=fun e=>hz e b
  generalize ofP steps tries x b 10000=A at *
  generalize ofP steps tries z b 10000=C at *
  obtain⟨⟨A1,A2,A3,A4,A5⟩,e⟩:=A
  obtain⟨⟨C1,C2,C3,C4,C5⟩,e'⟩:=C
  have hq:=eqa5n ⟨A1,A2,A3,A4,A5⟩ ⟨A1,A2,A3,A4,A5⟩
  rw[decide_eq_true rfl] at hq
  dsimp only at q1 q2 q3 o2 o3
  simp only[Sta.pv] at q1 q2 q3 o2 o3 hq
  cases u with
  | true=>
   simp only[go_sem,hlt',hll,hg,cw,↓q1,q1,↓o2,o2,↓o3,o3,splice,hq,wk]
   exact⟨(k+1,max fy y.length,max fz z.length),rfl,by dsimp only;omega,by dsimp only;omega⟩
  | false=>
   have hC:=hzb rfl
   simp only[Prod.mk.injEq,Sta.mk.injEq] at hC
   obtain⟨⟨rfl,rfl,rfl,rfl,rfl⟩,rfl⟩:=hC
   simp only[go_sem,hlt',hll,hg,cw,↓q1,q1,↓o2,o2,↓o3,o3,splice,hq,wk]
   exact⟨(k+1,max fy y.length,max fz z.length),rfl,by dsimp only;omega,by dsimp only;omega⟩
 ·have ek:k=3:=by omega
  subst ek
  have c3:¬ ((3:Nat):Int)<3:=by omega
  simp only[go_sem,c3]
  rw[z7j]
  simp only[z6W,go_sem,zuC]
  exact fin fy fz
set_option maxHeartbeats 8000000 in
theorem law_UN (L:List Int) {K:Post}:z0c X zeQ [AL L] [] K=K (AB true) [] []:=by
 refine rule ?_
 rw[c_q02v rfl]
 have pp:posN 100000 0:=by unfold posN;omega
 obtain⟨_,a1,⟨d1,n,tries,n1,n3,t1,t3,rfl⟩,V1⟩:=(zde (L:=L) (a:=0) (z0Q pp (by omega) (by omega))).hd (l:=[])
 have pr:posN 0 a1:=z0Q pp (by omega) (by omega)
 have rb:0≤z1i 0 14 L a1∧z1i 0 14 L a1≤14:=z2T L a1 (by omega) (by omega)
 obtain⟨m,hm⟩:∃ m:Nat,z1i 0 14 L a1=m:=⟨(z1i 0 14 L a1).toNat,by omega⟩
 obtain⟨_,a2,⟨e1,e2,x,xl,xv,xf,rfl⟩,V2⟩:=(z8y (L:=L) (a:=a1+1) (z0Q pp (by omega) (by omega)) m (by omega)).hd (l:=[])
 obtain⟨f1,f2,f3⟩:=ztI n1 n3 t1 t3
 generalize zbY.take n=steps at *
 have Ox:StOk steps x:=⟨f3,f2,fun y hy=>(xv y hy).ok,by omega⟩
 have ea:=early xv xf
 have ux:upL x 10000=x:=zd4 fun y hy=>by have:=(ea y hy).1;omega
 have mo:momF 10000=0:=by decide
 have fx:z3x steps tries x 10000=0:=by unfold z3x;rw[f1,xf,mo];rfl
 have RF:=fun h K=>zom (h:=h) (K:=K) steps tries x Ox 10000
 have rx:z3X steps tries x 10000=((z08 steps tries x).ref,(z08 steps tries x).why,0):=by unfold z3X;rw[if_neg (by simp [fx]),ux]
 rw[rx] at RF
 have CL:=fun h K=>zqE (h:=h) (K:=K) x (by omega)
 have m1:x.length+2≤z0V:=by unfold z0V;omega
 have h0s:steps≠[]:=z79 fx
 simp only[zev,go_sem,V1,V2,pr,hm,splice,↓RF,RF,↓CL,CL,m1]
 have eyl:(x++[z2W,z40]).length=x.length+2:=by simp
 have Oy:StOk steps (x++[z2W,z40]):=⟨f3,f2,fun y hy=>by
  rcases List.mem_append.1 hy with h | h
  ·exact (xv y h).ok
  ·simp only[List.mem_cons,List.not_mem_nil,or_false] at h
   rcases h with h | h <;> (subst h;exact⟨by decide,by decide,by decide,by decide⟩),by rw[eyl];omega⟩
 have yf:=zgr xv xf (by omega)
 have fy0:z3x steps tries (x++[z2W,z40]) 10000=0:=by unfold z3x;rw[f1,yf,mo];rfl
 have uy:upL (x++[z2W,z40]) 10000=x++[z2W,z40]:=zd4 fun y hy=>by
  rcases List.mem_append.1 hy with h | h
  ·have:=(ea y h).1;omega
  ·simp only[List.mem_cons,List.not_mem_nil,or_false] at h
   rcases h with h | h <;> (subst h;decide)
 have hY:∀ b,ofP steps tries (x++[z2W,z40]) b 10000=ofP steps tries x b 10000:=fun b=>zsC fx fy0 ux uy (by rw[zpS steps tries fun y hy=>(ea y hy).2])
 have rl:(z08 steps tries x).ref.length≤1000000:=zq3 steps tries Ox h0s
 have hout:(∀ y∈x,y.kind≠7)→(z08 steps tries (z1d (z08 steps tries x).ref 0 x)).bs=(z08 steps tries x).bs:=ztH steps tries
 generalize (z08 steps tries x).ref=refs at *
 have hZ:x.any (fun y=>decide (y.kind=7))=false→∀ b,ofP steps tries (z1d refs 0 x) b 10000=ofP steps tries x b 10000:=fun hu b=>by
  have h7:∀ y∈x,y.kind≠7:=by simpa using hu
  have zs:=z2m refs x 0
  have zf:=zkS zs xf
  have fz0:z3x steps tries (z1d refs 0 x) 10000=0:=by unfold z3x;rw[f1,zf,mo];rfl
  have uz:upL (z1d refs 0 x) 10000=z1d refs 0 x:=zd4 fun y hy=>by have:=(ea y (zs.subset hy)).1;omega
  exact zsC fx fz0 ux uz (hout h7)
 have Oz:StOk steps (z1d refs 0 x):=⟨f3,f2,fun y hy=>(xv y ((z2m refs x 0).subset hy)).ok,by have:=(z2m refs x 0).length_le;omega⟩
 have ey:(x.map Ent.pv++[PV.agg [.str [122,122],.int .i64 1,.int .i64 10000,.int .i64 6,.str [98,49],.str [],.str [],.int .i64 0],PV.agg [.str [122,122],.int .i64 2,.int .i64 10000,.int .i64 7,.str [],.str [],.str [122,122],.int .i64 1]])=(x++[z2W,z40]).map Ent.pv:=by rw[List.map_append];rfl
 rw[ey,← eyl]
 have fp:∀ y:Ent,Ent.pv y = .agg [.str y.site,eI y.no,eI y.time,eI y.kind,.str y.board,.str y.step,.str y.of,eI y.other]:=fun _=>rfl
 generalize x++[z2W,z40]=y at *
 refine z0Y (fun k:Nat=>⟨[(4,.ref 1 0),(5,z1m x),(6,AI 10000),(9,.own 4 y.length 0 y.length),(10,AL refs),(13,.own 5 (z1d refs 0 (x.take k)).length 0 (z1d refs 0 (x.take k)).length),(14,AB ((x.take k).any fun y=>decide (y.kind=7))),(54,z1m x),(55,AI x.length),(56,AI k)],
  [strm L a2,.box [AStr steps,AI tries],.box [AS [122,122],AI 1,AI 10000,AI 6,AS [98,49],AS [],AS [],AI 0],.box [AS [122,122],AI 2,AI 10000,AI 7,AS [],AS [],AS [122,122],AI 1],.row (some 8) (y.map Ent.pv) 0,.row (some 8) ((z1d refs 0 (x.take k)).map Ent.pv) 0],[]⟩) (fun k=>k≤x.length) (fun k=>x.length-k) 0 rfl (Nat.zero_le _) ?_
 intro k hk
 rcases Nat.lt_or_ge k x.length with hlt | hge
 ·have hlt':(k:Int)<(x.length:Int):=by omega
  have hg:=z1b Ent.pv hlt
  have cx:=z3c (x:=x[k])
  have wk:IntKind.i64.wrap ((k:Int)+1)=((k+1:Nat):Int):=z0l _ (by omega) (by omega)
  have et:x.take (k+1)=x.take k++[x[k]]:=List.take_succ_eq_append_getElem hlt
  have tl:(x.take k).length=k:=by rw[List.length_take];omega
  have zk:z1d refs 0 (x.take (k+1))=z1d refs 0 (x.take k)++(if refs.contains (k:Int)=true then [] else [x[k]]):=by
   rw[et,zcC,tl,Nat.zero_add]
   simp only[z1d]
  have uk:((x.take (k+1)).any fun y=>decide (y.kind=7))=((x.take k).any (fun y=>decide (y.kind=7))||decide (x[k].kind=7)):=by rw[et,List.any_append,List.any_cons,List.any_nil,Bool.or_false]
  have zl:=(z2m refs (x.take k) 0).length_le
  have CI:=fun h K=>zds (h:=h) (K:=K) refs (k:Int) rl
  generalize x[k]=e at *
  generalize z1d refs 0 (x.take k)=Z at *
  generalize (x.take k).any (fun y=>decide (y.kind=7))=u at *
  have mz:Z.length+1≤z0V:=by unfold z0V;omega
  have zml:(Z.map Ent.pv).length=Z.length:=List.length_map ..
  have step:∀ (Z':List Ent) (u':Bool),z1d refs 0 (x.take (k+1))=Z'→((x.take (k+1)).any fun y=>decide (y.kind=7))=u'→True:=fun _ _ _ _=>trivial
  cases hc:refs.contains (k:Int) with
  | true=>
   rw[hc] at CI
   rw[hc,if_pos rfl,List.append_nil] at zk
   cases u with
   | true=>
    simp only[go_sem,hlt',hlt,hg,cx,fp,splice,↓CI,CI,wk]
    refine⟨k+1,?_,by omega,by omega⟩
    rw[zk,uk,Bool.true_or]
   | false=>
    by_cases k7:e.kind=7
    ·simp only[go_sem,hlt',hlt,hg,cx,fp,splice,↓CI,CI,wk,eq_true k7]
     refine⟨k+1,?_,by omega,by omega⟩
     rw[zk,uk,decide_eq_true k7,Bool.false_or]
    ·simp only[go_sem,hlt',hlt,hg,cx,fp,splice,↓CI,CI,wk,k7]
     refine⟨k+1,?_,by omega,by omega⟩
     rw[zk,uk,decide_eq_false k7,Bool.false_or]
  | false=>
   rw[hc] at CI
   rw[hc,if_neg (by simp)] at zk
   have eZ:Z.map Ent.pv++[PV.agg [.str e.site,eI e.no,eI e.time,eI e.kind,.str e.board,.str e.step,.str e.of,eI e.other]]=(Z++[e]).map Ent.pv:=by rw[List.map_append];rfl
   have eZl:Z.length+1=(Z++[e]).length:=by simp
   cases u with
   | true=>
    simp only[go_sem,hlt',hlt,hg,cx,fp,splice,↓CI,CI,wk,mz,zml]
    refine⟨k+1,?_,by omega,by omega⟩
    rw[zk,uk,Bool.true_or,← eZ,← eZl]
   | false=>
    by_cases k7:e.kind=7
    ·simp only[go_sem,hlt',hlt,hg,cx,fp,splice,↓CI,CI,wk,mz,zml,eq_true k7]
     refine⟨k+1,?_,by omega,by omega⟩
     rw[zk,uk,decide_eq_true k7,Bool.false_or,← eZ,← eZl]
    ·simp only[go_sem,hlt',hlt,hg,cx,fp,splice,↓CI,CI,wk,mz,zml,k7]
     refine⟨k+1,?_,by omega,by omega⟩
     rw[zk,uk,decide_eq_false k7,Bool.false_or,← eZ,← eZl]
 ·have ek:k=x.length:=by omega
  subst ek
  have c3:¬ (x.length:Int)<(x.length:Int):=by omega
  rw[List.take_length]
  simp only[go_sem,c3,Nat.lt_irrefl]
  refine und_k6 steps tries x y (z1d refs 0 x) (x.any fun y=>decide (y.kind=7)) Ox Oy Oz hY hZ rfl _ (fun _=>trivial) (fun fy fz=>?_)
  simp only[go_sem]
end Go.Am
end
section
/- From a law that is true here tov the model's calls at what came in. -/
open Go
namespace Go.Am
variable {P:Program}
theorem law_nil {X:Ctx} (HX:Fits P X) {f:Nat} {F:AFun} (hF:X.fn f=some F) (H:∀ L:List Int,z0c X f [zqy L] [] fun v _ _=>v = .p (.bool true)) (W:World) (hG:GInv X.gl (imm [] [] W)) :
 Calls P f #[.slice none 0 0] W fun e W'=>e = .returned (.bool true)∧RowKit.Below W.heap.size W W':=by
 refine (zen HX hF (H []) (W:=W) (vs:=[.slice none 0 0]) hG rfl (fun j y v hy hv=>?_)).mono fun e W' he=>?_
 ·cases j with
  | zero=>cases hy;cases hv;exact zpo W
  | succ j=>cases hy
 ·cases e with
  | returned r=>
   obtain⟨⟨v,h,x,μ,hk,hr⟩,hb⟩:=he
   subst hk
   exact⟨by rw[hr.p_bool],hb⟩
  | panicked _=>exact he.elim
  | outgrown=>exact he.elim
theorem law_ints {X:Ctx} (HX:Fits P X) {f:Nat} {F:AFun} (hF:X.fn f=some F) (H:∀ L:List Int,z0c X f [zqy L] [] fun v _ _=>v = .p (.bool true)) {W:World} (hG:GInv X.gl (imm [] [] W)) {a:Addr} {len cap:Nat} {zs:List Int}
 (hl:len≤cap) (hz:len≤zs.length) (hc:∀ i,i<zs.length→W.cell? (a.add i)=some (.int .i64 (zs.getD i 0))) :
 Calls P f #[.slice (some a) len cap] W fun e W'=>e = .returned (.bool true)∧RowKit.Below W.heap.size W W':=by
 refine (zen HX hF (H (zs.take len)) (W:=W) (vs:=[.slice (some a) len cap]) hG rfl (fun j y v hy hv=>?_)).mono fun e W' he=>?_
 ·cases j with
  | zero=>
   cases hy;cases hv
   rcases Nat.eq_zero_or_pos len with h0 | h0
   ·subst h0
    exact .p _ _ (.nils _ _ _)
   ·exact ziP (by simpa [Addr.add] using World.cell?_spot (hc 0 (by omega))) hl hz hc
  | succ j=>cases hy
 ·cases e with
  | returned r=>
   obtain⟨⟨v,h,x,μ,hk,hr⟩,hb⟩:=he
   subst hk
   exact⟨by rw[hr.p_bool],hb⟩
  | panicked _=>exact he.elim
  | outgrown=>exact he.elim
end Go.Am
namespace Go.ChangeShapes
open Go.RowKit Go.WideShapes
section
variable {H:Type} {enc:TypeId × Value→H} {P:Program}
end
end Go.ChangeShapes
end
section
/- The abstract machine,part L2: the kit's contracts asv rows. -/
set_option linter.unusedSimpArgs false
set_option linter.unusedVariables false
namespace Go.Am
variable {P:Program} {gl:Nat→Option PV}
open Go.Shelf
end Go.Am
end
