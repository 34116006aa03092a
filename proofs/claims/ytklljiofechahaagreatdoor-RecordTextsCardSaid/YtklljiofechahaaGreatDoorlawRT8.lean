/- Texts of the proof, laid together: SpGenR, PMerge, SpMrgA, SpSort, SpMrgB, SpMrgC, SpMrgD, PFin, SpTxt, AmL4, AmL5, SpSplit, SpLines, SpNum, SpNums, SpQNum, SpFlt1, SpFlt2, SpWords, SpJoin, SpBld, PBits, SpFlt3, SpFlt4, SpFlt5, SpArg, SpFlt6, SpFltT, PRecT, SpEach, SpFltR, SpFltR2, SpFltR3, SpSortO, SpGenF, SpChg, SpGenA2, SpDelF, SpGenF2, SpInts, SpFltE, SpRecT, SpRecT2, SpRecT3, SpRecT4, SpRecT5, SpRecT6, SpRecT7, SpRecT8, SpRecT9, SpPath, SpReady, SpKeep, SpRight, SpRecT10, SpBin, SpLawRT, Bridge, AmL2, AmL3. -/
import Derived.Shelf.Strings.Repeat
import Derived.Shelf.Strings.SlTrimAscii
import Derived.Shelf.Spec.TrailingZeros
import Derived.Shelf.Strings.Count
import Derived.Shelf.Strings.OnBuilder
import Derived.KernelRfl
import Derived.ProofKit
import Derived.Shelf.Strconv.Itoa3
import Derived.Lib.LaidTab
import Derived.Shelf.Strconv.AtoiAll
import Derived.Test.YtklljiofechahaaGreatDoorlawRT7
set_option linter.all false
section
/- What is drawn: records. -/
open Go
set_option linter.unusedSimpArgs false
namespace Go.Am
variable {L:List Int} {a:Int} {h l:Heap} {id:Nat} {K:Post}
theorem zcP {b:Nat} {x:Esc} (hx:∀ y∈x,b≤y.1):∀ k,z2a k x b=b:=by
 have hb:bump x b=b:=by
  unfold bump
  induction x with
  | nil=>rfl
  | cons y r ih=>
   simp only[List.foldl_cons]
   rw[if_neg (by have:=hx y (by simp);omega)]
   exact ih (fun z hz=>hx z (by simp [hz]))
 intro k
 induction k with
 | zero=>rfl
 | succ k ih=>unfold z2a;rw[hb,ih]
theorem zfo {b:Nat} {x0 x:Esc} {e:List (Nat × AV)} {h:Heap} (hx:∀ y∈x,b≤y.1):z5l b x0 ⟨e,h,x⟩=⟨z73 b e,h.take b,x0⟩:=by
 unfold z5l
 simp only[zcP hx]
 have hc:z1a x b=true:=by
  unfold z1a
  rw[List.all_eq_true]
  intro y hy
  simp [hx y hy]
 have hf:x.filter (fun y=>decide (y.1<b))=[]:=by
  rw[List.filter_eq_nil_iff]
  intro y hy
  have:=hx y hy
  simp;omega
 rw[if_pos hc,hf,List.nil_append]
theorem zfn {b i t:Nat} {x0:Esc} {e:List (Nat × AV)} {h:Heap} (hi:i<b):z5l b x0 ⟨e,h,[(i,t)]⟩=⟨z73 (max b t) e,h.take (max b t),(i,t)::x0⟩:=by
 unfold z5l
 have hb:z2a [(i,t)].length [(i,t)] b=max b t:=by simp [z2a,bump,hi]
 simp only[hb]
 have hc:z1a [(i,t)] (max b t)=true:=by simp [z1a];omega
 have hf:[(i,t)].filter (fun y=>decide (y.1<max b t))=[(i,t)]:=by simp;omega
 rw[if_pos hc,hf];rfl
theorem frz3 {o0 o1 o2:Obj} {sh:Sh} {xs:List PV} {fz k:Nat}:frz [o0,o1,o2,.row sh xs fz] 3 k=[o0,o1,o2,.row sh xs (max fz k)]:=rfl
set_option maxHeartbeats 2000000 in
theorem rec_k5 (hid:id<h.length) (hp:posN 30 a) (rs:List Rec) (hrs:rs.length≤1000) (u s:List UInt8) (hu:u.length≤1000) (hs:s.length≤1000) (t:Int) (ns:List Int) (hns:ns.length≤100) (G:Obj) (v1 v8 v13 v14:AV) (x:Esc) (hx:∀ y∈x,h.length+1≤y.1) (K:Ex→St→Prop)
 (hK:∀ (r':Rec) (a':Int) (J:Heap) (x':Esc),RecOk r'→a≤a'→a'≤a+8→(∀ y∈x',h.length+1≤y.1) →
  K .normal ⟨[(0,.ref id 0),(1,v1),(7,.own h.length (rs.length+1) 0 (rs.length+1)),(8,v8),(13,v13),(14,v14)],h.set id (strm L a') ++ .row (some 4) (rs.map Rec.pv++[r'.pv]) 0::J,x'⟩) :
 z1b (z0c X) X.gl z2Z (.ref id 0) v1 (.own h.length rs.length 0 rs.length) v8 (.ref (h.length+1) 0) v13 v14
  (h.set id (strm L a)++[.row (some 4) (rs.map Rec.pv) 0,.box [AS u,AI t,AS s,.own (h.length+3) ns.length 0 ns.length],G,.row none (ns.map eI) 0]) x K:=by
 have P:=z6t (z0K hp (Int.le_refl a) (by omega))
 have hmx:rs.length+1≤z0P:=by unfold z0P;omega
 have hmn:ns.length+1≤z0P:=by unfold z0P;omega
 have e1:h.length+1<h.length+3+1:=by omega
 by_cases hf:z1l L a 60=0
 ·by_cases h0:z1l L (a+1) 3=0
  ·obtain⟨kv,a3,c1,c2,_,_,O⟩:=zvL (L:=L) (a:=a+1+1+1+1) (z0K hp (by omega) (by omega)) 0 50 (by omega) (by omega) (by omega)
   have O':=fun l K=>O.app (h:=h) (id:=id) (l:=l) (K:=K) hid
   have p1:=z1A (l:=[[],[117,49]]) (L:=L) (a:=a+1+1) (by simp) (by simp)
   have p2:=z1A (l:=[[65],[115,49]]) (L:=L) (a:=a+1+1+1) (by simp) (by simp)
   simp only[List.mem_cons,List.not_mem_nil,or_false] at p1 p2
   simp only[z1b,go_sem,hid,P,hf,h0,↓O',O',hmx,frz3]
   rw[z4G (by simp)]
   exact hK ⟨z2y [[],[117,49]] L (a+1+1),kv,z2y [[65],[115,49]] L (a+1+1+1),ns⟩ a3 _ _ ⟨by rcases p1 with p1 | p1 <;> simp [p1],by rcases p2 with p2 | p2 <;> simp [p2],by dsimp only;omega⟩ (by omega) (by omega) hx
  ·by_cases h1:z1l L (a+1) 3=1
   ·simp only[z1b,go_sem,hid,P,hf,h0,h1,hmx,hmn,z1C,e1,frz3]
    rw[z4G (by simp)]
    have e:List.map eI ns++[PV.int .i64 (z16 [0,100001,-100001] L (a+1+1))]=(ns++[z16 [0,100001,-100001] L (a+1+1)]).map eI:=by simp
    rw[e]
    refine hK ⟨u,t,s,ns++[z16 [0,100001,-100001] L (a+1+1)]⟩ (a+1+1+1) _ _ ⟨hu,hs,by simp;omega⟩ (by omega) (by omega) (fun y hy=>?_)
    rcases List.mem_cons.1 hy with rfl | hy
    ·exact Nat.le_refl _
    ·exact hx y hy
   ·obtain⟨m1,m2⟩:=z1N L (a+1+1) (ns.length+1) (by omega) (by omega)
    obtain⟨m,hm⟩:=Int.eq_ofNat_of_zero_le m1
    have w1:IntKind.i64.wrap ((ns.length:Int)+1)=(ns.length:Int)+1:=z0h _ (by omega) (by omega)
    have hml:m≤ns.length:=by omega
    simp only[z1b,go_sem,hid,P,hf,h0,h1,w1,hm,hml,hmx,z1C,e1,frz3]
    rw[zgp]
    refine hK ⟨u,t,s,win ns 0 m⟩ (a+1+1+1) _ _ ⟨hu,hs,by simp [win];omega⟩ (by omega) (by omega) (fun y hy=>?_)
    rcases List.mem_cons.1 hy with rfl | hy
    ·exact Nat.le_refl _
    ·exact hx y hy
 ·simp only[z1b,go_sem,hid,P,hf,hmx,frz3]
  rw[z4G (by simp)]
  exact hK ⟨u,t,s,ns⟩ (a+1) _ _ ⟨hu,hs,by dsimp only;omega⟩ (by omega) (by omega) hx
attribute [-go_sem] z1b
def z2c:PV→Rec
 | .agg [.str u,.int _ t,.str s,.sl _ xs]=>⟨u,t,s,xs.map unI⟩
 | _=>⟨[],0,[],[]⟩
theorem z2A (r:Rec):z2c r.pv=r:=by
 cases r with | mk u t s ns=>
 have:(ns.map eI).map unI=ns:=by
  rw[List.map_map]
  have:(unI ∘ eI)=id:=by funext n;rfl
  rw[this,List.map_id]
 simp only[Rec.pv,z2c,this]
theorem z9x {P:Rec→Prop}:∀ {xs:List PV},(∀ x∈xs,∃ r,P r∧x=Rec.pv r)→∃ rs:List Rec,(∀ r∈rs,P r)∧xs=rs.map Rec.pv
 | [],_=>⟨[],by simp,rfl⟩
 | x::xs,h=>by
  obtain⟨r,h1,h2⟩:=h x (by simp)
  obtain⟨rs,h3,h4⟩:=z9x (xs:=xs) (fun y hy=>h y (List.mem_cons_of_mem _ hy))
  refine⟨r::rs,fun z hz=>?_,by rw[h2,h4];rfl⟩
  rcases List.mem_cons.1 hz with rfl | hz
  ·exact h1
  ·exact h3 z hz
theorem zuJ (a b:Rec):z0c X z7i [.p a.pv,.p b.pv] h K=K (AI (z1s a b)) h []:=by
 refine rule ?_
 rw[c_q03n rfl]
 have o:=fun h K=>zqK (h:=h) (K:=K) [cmp3 a.time b.time,cmpL a.unit b.unit] (by simp)
 simp only[AL,List.map_cons,List.map_nil] at o
 have e:orL [cmp3 a.time b.time,cmpL a.unit b.unit]=z1s a b:=by
  unfold z1s orL
  split
  ·rfl
  ·unfold orL
   split
   ·rfl
   ·rename_i h;simp only[ne_eq,Decidable.not_not] at h;rw[h];rfl
 rw[e] at o
 simp only[zmA,Rec.pv,go_sem,z7z,z4r,o]
def z71 (a b:Rec):Bool:=decide (a.time=b.time)&&decide (a.unit=b.unit)
theorem zuK (a b:Rec):z0c X z7j [.p a.pv,.p b.pv] h K=K (AB (z71 a b)) h []:=by
 refine rule ?_
 rw[c_q03o rfl]
 unfold z71
 by_cases h1:a.time=b.time
 ·simp only[zgN,Rec.pv,go_sem,h1]
 ·simp only[zgN,Rec.pv,go_sem,h1]
set_option maxHeartbeats 4000000 in
theorem ze6 (hp:posN 4000 a) (l:List Lim) (hl1:1≤l.length) (hl2:l.length≤3) (n:Nat) (hn:n≤19) :
 GenE z5A [ALim l,AI n] L a (fun v a2=>a≤a2∧a2≤a+2000∧∃ rs:List Rec,rs.length≤n∧(∀ r∈rs,RecOk r)∧v=ARec rs):=by
 refine GenE.of fun h id hid=>?_
 rw[zux rfl]
 simp only[zd2,go_sem,hid]
 refine z0D (fun t:List Rec × Int × Int=>⟨[(0,.ref id 0),(1,ALim l),(7,.own h.length t.1.length 0 t.1.length),(8,AI t.2.1),(13,AI n),(14,AI t.1.length)],h.set id (strm L t.2.2)++[.row (some 4) (t.1.map Rec.pv) 0],[]⟩)
  (fun t=>t.1.length≤n∧(∀ r∈t.1,RecOk r)∧a≤t.2.2∧t.2.2≤a+40*t.1.length) (fun t=>n-t.1.length) ([],0,a) rfl ⟨by simp,by simp,by simp,by simp⟩ ?_
 rintro⟨rs,t,b⟩ ⟨q1,q2,q3,q4⟩
 dsimp only at q1 q2 q3 q4
 rcases Nat.lt_or_ge rs.length n with hlt | hge
 ·have P:=z6t (z0K hp q3 (show b+14≤a+4000 by omega))
  have w1:IntKind.i64.wrap ((rs.length:Int)+1)=((rs.length+1:Nat):Int):=z0h _ (by omega) (by omega)
  have p1:=z1A (l:=[[117,49],[117,50],[117,51],[117,52]]) (L:=L) (a:=b+1) (by simp) (by simp)
  have p2:=z1A (l:=[[115,49],[115,49],[115,50]]) (L:=L) (a:=b+1+1) (by simp) (by simp)
  have pu:(z2y [[117,49],[117,50],[117,51],[117,52]] L (b+1)).length≤1000:=by
   simp only[List.mem_cons,List.not_mem_nil,or_false] at p1
   rcases p1 with p1 | p1 | p1 | p1 <;> simp [p1]
  have ps:(z2y [[115,49],[115,49],[115,50]] L (b+1+1)).length≤1000:=by
   simp only[List.mem_cons,List.not_mem_nil,or_false] at p2
   rcases p2 with p2 | p2 | p2 <;> simp [p2]
  simp only[go_sem,hid,P,hlt]
  generalize z2y [[117,49],[117,50],[117,51],[117,52]] L (b+1)=u at *
  generalize z2y [[115,49],[115,49],[115,50]] L (b+1+1)=s at *
  generalize IntKind.i64.wrap (t+z16 [1,1,5,0] L b)=t' at *
  have hb3:b+1+1+1+14≤a+4000:=by omega
  have fin:∀ (c:Int) (ns:List Int) (G:Obj) (x:Esc),ns.length≤100→b+3≤c→c≤b+3+9→(∀ y∈x,h.length+1≤y.1) →
   z1b (z0c X) X.gl z2Z (.ref id 0) (ALim l) (.own h.length rs.length 0 rs.length) (AI t') (.ref (h.length+1) 0) (AI n) (AI rs.length)
    (h.set id (strm L c)++[.row (some 4) (rs.map Rec.pv) 0,.box [AS u,AI t',AS s,.own (h.length+3) ns.length 0 ns.length],G,.row none (ns.map eI) 0]) x
    (z0q 1 (seqN (z0c X) X.gl z5Y (zb1 (h.length+1) [] (zfO
     (fun t:List Rec × Int × Int=>⟨[(0,.ref id 0),(1,ALim l),(7,.own h.length t.1.length 0 t.1.length),(8,AI t.2.1),(13,AI n),(14,AI t.1.length)],h.set id (strm L t.2.2)++[.row (some 4) (t.1.map Rec.pv) 0],[]⟩)
     (fun t=>t.1.length≤n∧(∀ r∈t.1,RecOk r)∧a≤t.2.2∧t.2.2≤a+40*t.1.length) (fun t=>n-t.1.length)
     (z0q 0 (seqN (z0c X) X.gl z4h (finR [.t 6] false h.length (fun v1 h1 x1=>∃ a2,(a≤a2∧a2≤a+2000∧∃ rs:List Rec,rs.length≤n∧(∀ r∈rs,RecOk r)∧v1=ARec rs)∧h1=h.set id (strm L a2)∧x1=[])))) (rs,t,b))))):=by
   intro c ns G x h1 h2 h3 h4
   refine rec_k5 hid (z0K hp (by omega) (by omega)) rs (by omega) u s pu ps t' ns h1 G (ALim l) (AI t') (AI n) (AI rs.length) x h4 _ (fun r' a' J x' r1 r2 r3 r4=>?_)
   have f1:id+1≤h.length+1:=by omega
   simp only[go_sem,w1,zfo r4,f1]
   refine⟨(rs++[r'],t',a'),?_,⟨by simp;omega,fun r hr=>?_,by dsimp only;omega,by simp;omega⟩,by simp;omega⟩
   ·simp only[List.length_append,List.length_cons,List.length_nil,List.map_append,List.map_cons,List.map_nil]
   ·rcases List.mem_append.1 hr with hr | hr
    ·exact q2 r hr
    ·rw[List.mem_singleton] at hr;rw[hr];exact r1
  generalize hc0:b+1+1+1=c0 at *
  refine z0D (fun o:Option (List Int × Int × Obj × Esc)=>match o with
   | none=>⟨[(0,.ref id 0),(1,ALim l),(7,.own h.length rs.length 0 rs.length),(8,AI t'),(9,.ref (h.length+1) 0),(13,AI n),(14,AI rs.length),(29,ALim l),(30,AI l.length),(31,AI 0)],h.set id (strm L c0)++[.row (some 4) (rs.map Rec.pv) 0,.box [AS u,AI t',AS s,.sl0 none]],[]⟩
   | some (ns,c,G,x)=>⟨[(0,.ref id 0),(1,ALim l),(7,.own h.length rs.length 0 rs.length),(8,AI t'),(9,.ref (h.length+1) 0),(13,AI n),(14,AI rs.length),(29,ALim l),(30,AI l.length),(31,AI ns.length)],h.set id (strm L c)++[.row (some 4) (rs.map Rec.pv) 0,.box [AS u,AI t',AS s,.own (h.length+3) ns.length 0 ns.length],G,.row none (ns.map eI) 0],x⟩)
   (fun o=>match o with
    | none=>True
    | some (ns,c,G,x)=>1≤ns.length∧ns.length≤l.length∧c0≤c∧c≤c0+3*ns.length∧∀ y∈x,h.length+1≤y.1)
   (fun o=>match o with
    | none=>l.length+1
    | some (ns,c,G,x)=>l.length-ns.length) none rfl trivial ?_
  rintro (_ | ⟨ns,c,G,x⟩) hP
  ·have P:=z6t (z0K hp (show a≤c0 by omega) (show c0+14≤a+4000 by omega))
   have hl0:(0:Int)<l.length:=by omega
   have hg:=z0C Lim.pv (show 0<l.length by omega)
   have cx:cutP (some 4) 0 (l[0].pv)=some l[0].pv:=rfl
   generalize l[0]=y at *
   have e2:h.length+1<h.length+2:=by omega
   have e3:max (h.length+2) (h.length+3+1)=h.length+4:=by omega
   have eo:z1C (h.length+1) (.own (h.length+3) 1 0 1)=[(h.length+1,h.length+3+1)]:=by unfold z1C;rw[if_pos (by simp [AV.top]),zgm]
   have e4:id+1≤h.length+4:=by omega
   have e5:h.length+1≤h.length+4:=by omega
   have e6:h.length+1+1≤h.length+4:=by omega
   have hmx:1≤z0P:=by unfold z0P;omega
   have hnb:Nat.beq 2 3=false:=rfl
   have wk:IntKind.i64.wrap 1=1:=rfl
   have tr:∀ (x0:Esc) (e:List (Nat × AV)) (H:Heap),z5l (h.length+2) x0 ⟨e,H,[(h.length+1,h.length+3+1)]⟩=⟨z73 (h.length+4) e,H.take (h.length+4),(h.length+1,h.length+3+1)::x0⟩:=fun x0 e H=>by rw[zfn e2,e3]
   by_cases hf:z1l L (c0+1) 5=0
   ·obtain⟨v,hv⟩:∃ v,z16 [IntKind.i64.wrap (y.lo-1),IntKind.i64.wrap (y.hi+1),IntKind.i64.wrap (y.hi+7)] L (c0+1+1)=v:=⟨_,rfl⟩
    by_cases b1:v<y.lo
    ·simp only[go_sem,hid,P,hl0,hg,cx,Lim.pv,hf,eo,hv,b1,hmx,hnb,tr,e4,e5,e6]
     refine fin (c0+1+1+1) [v] _ _ (by simp) (by omega) (by omega) (by simp)
    ·by_cases b2:y.hi<v
     ·simp only[go_sem,hid,P,hl0,hg,cx,Lim.pv,hf,eo,hv,b1,b2,hmx,hnb,tr,e4,e5,e6]
      refine fin (c0+1+1+1) [v] _ _ (by simp) (by omega) (by omega) (by simp)
     ·simp only[go_sem,hid,P,hl0,hg,cx,Lim.pv,hf,eo,hv,b1,b2,hmx,hnb,tr,e4,e5,e6,wk]
      exact⟨some ([v],c0+1+1+1,_,_),rfl,⟨by simp,by simpa using hl1,by omega,by simp;omega,by simp⟩,by show l.length-[v].length<l.length+1;simp only[List.length_cons,List.length_nil];omega⟩
   ·obtain⟨v,hv⟩:∃ v,z16 [y.lo,y.hi,IntKind.i64.wrap ((IntKind.i64.wrap (y.lo+y.hi)).tdiv 2),IntKind.i64.wrap ((IntKind.i64.wrap (y.lo+y.hi)).tdiv 2),IntKind.i64.wrap (y.lo+1)] L c0=v:=⟨_,rfl⟩
    by_cases b1:v<y.lo
    ·simp only[go_sem,hid,P,hl0,hg,cx,Lim.pv,hf,eo,hv,b1,hmx,hnb,tr,e4,e5,e6]
     refine fin (c0+1+1) [v] _ _ (by simp) (by omega) (by omega) (by simp)
    ·by_cases b2:y.hi<v
     ·simp only[go_sem,hid,P,hl0,hg,cx,Lim.pv,hf,eo,hv,b1,b2,hmx,hnb,tr,e4,e5,e6]
      refine fin (c0+1+1) [v] _ _ (by simp) (by omega) (by omega) (by simp)
     ·simp only[go_sem,hid,P,hl0,hg,cx,Lim.pv,hf,eo,hv,b1,b2,hmx,hnb,tr,e4,e5,e6,wk]
      exact⟨some ([v],c0+1+1,_,_),rfl,⟨by simp,by simpa using hl1,by omega,by simp;omega,by simp⟩,by show l.length-[v].length<l.length+1;simp only[List.length_cons,List.length_nil];omega⟩
  ·obtain⟨r1,r2,r3,r4,r5⟩:=hP
   rcases Nat.lt_or_ge ns.length l.length with hlt2 | hge2
   ·have P:=z6t (z0K hp (show a≤c by omega) (show c+14≤a+4000 by omega))
    have hg:=z0C Lim.pv hlt2
    have cx:cutP (some 4) 0 (l[ns.length].pv)=some l[ns.length].pv:=rfl
    generalize l[ns.length]=y at *
    have e2:h.length+1<h.length+4:=by omega
    have e3:max (h.length+4) (h.length+3+1)=h.length+4:=by omega
    have eo:z1C (h.length+1) (.own (h.length+3) (ns.length+1) 0 (ns.length+1))=[(h.length+1,h.length+3+1)]:=by unfold z1C;rw[if_pos (by simp [AV.top]),zgm]
    have e4:id+1≤h.length+4:=by omega
    have e5:h.length+1≤h.length+4:=by omega
    have e6:h.length+1+1≤h.length+4:=by omega
    have e7:h.length+3+1≤h.length+4:=by omega
    have e8:h.length+4≤h.length+4:=by omega
    have hmx:ns.length+1≤z0P:=by unfold z0P;omega
    have hnb:Nat.beq 2 3=false:=rfl
    have wi:IntKind.i64.wrap ((ns.length:Int)+1)=((ns.length+1:Nat):Int):=z0h _ (by omega) (by omega)
    have tr:∀ (x0:Esc) (e:List (Nat × AV)) (H:Heap),z5l (h.length+4) x0 ⟨e,H,[(h.length+1,h.length+3+1)]⟩=⟨z73 (h.length+4) e,H.take (h.length+4),(h.length+1,h.length+3+1)::x0⟩:=fun x0 e H=>by rw[zfn e2,e3]
    by_cases hf:z1l L (c+1) 5=0
    ·obtain⟨v,hv⟩:∃ v,z16 [IntKind.i64.wrap (y.lo-1),IntKind.i64.wrap (y.hi+1),IntKind.i64.wrap (y.hi+7)] L (c+1+1)=v:=⟨_,rfl⟩
     have ev:ns.map eI++[PV.int .i64 v]=(ns++[v]).map eI:=by simp
     have el:(ns++[v]).length=ns.length+1:=by simp
     have hx2:∀ z∈(h.length+1,h.length+3+1)::x,h.length+1≤z.1:=fun z hz=>by
      rcases List.mem_cons.1 hz with rfl | hz
      ·exact Nat.le_refl _
      ·exact r5 z hz
     by_cases b1:v<y.lo
     ·simp only[go_sem,hid,P,hlt2,hg,cx,Lim.pv,hf,eo,hv,b1,hmx,hnb,tr,e4,e5,e6,e7,e8]
      rw[ev,← el]
      exact fin (c+1+1+1) (ns++[v]) _ _ (by omega) (by omega) (by omega) hx2
     ·by_cases b2:y.hi<v
      ·simp only[go_sem,hid,P,hlt2,hg,cx,Lim.pv,hf,eo,hv,b1,b2,hmx,hnb,tr,e4,e5,e6,e7,e8]
       rw[ev,← el]
       exact fin (c+1+1+1) (ns++[v]) _ _ (by omega) (by omega) (by omega) hx2
      ·simp only[go_sem,hid,P,hlt2,hg,cx,Lim.pv,hf,eo,hv,b1,b2,hmx,hnb,tr,e4,e5,e6,e7,e8,wi]
       rw[ev]
       refine⟨some (ns++[v],c+1+1+1,G,(h.length+1,h.length+3+1)::x),?_,⟨by omega,by omega,by omega,by rw[el];omega,hx2⟩,by show l.length-(ns++[v]).length<l.length-ns.length;omega⟩
       simp only[el]
    ·obtain⟨v,hv⟩:∃ v,z16 [y.lo,y.hi,IntKind.i64.wrap ((IntKind.i64.wrap (y.lo+y.hi)).tdiv 2),IntKind.i64.wrap ((IntKind.i64.wrap (y.lo+y.hi)).tdiv 2),IntKind.i64.wrap (y.lo+1)] L c=v:=⟨_,rfl⟩
     have ev:ns.map eI++[PV.int .i64 v]=(ns++[v]).map eI:=by simp
     have el:(ns++[v]).length=ns.length+1:=by simp
     have hx2:∀ z∈(h.length+1,h.length+3+1)::x,h.length+1≤z.1:=fun z hz=>by
      rcases List.mem_cons.1 hz with rfl | hz
      ·exact Nat.le_refl _
      ·exact r5 z hz
     by_cases b1:v<y.lo
     ·simp only[go_sem,hid,P,hlt2,hg,cx,Lim.pv,hf,eo,hv,b1,hmx,hnb,tr,e4,e5,e6,e7,e8]
      rw[ev,← el]
      exact fin (c+1+1) (ns++[v]) _ _ (by omega) (by omega) (by omega) hx2
     ·by_cases b2:y.hi<v
      ·simp only[go_sem,hid,P,hlt2,hg,cx,Lim.pv,hf,eo,hv,b1,b2,hmx,hnb,tr,e4,e5,e6,e7,e8]
       rw[ev,← el]
       exact fin (c+1+1) (ns++[v]) _ _ (by omega) (by omega) (by omega) hx2
      ·simp only[go_sem,hid,P,hlt2,hg,cx,Lim.pv,hf,eo,hv,b1,b2,hmx,hnb,tr,e4,e5,e6,e7,e8,wi]
       rw[ev]
       refine⟨some (ns++[v],c+1+1,G,(h.length+1,h.length+3+1)::x),?_,⟨by omega,by omega,by omega,by rw[el];omega,hx2⟩,by show l.length-(ns++[v]).length<l.length-ns.length;omega⟩
       simp only[el]
   ·have hb2:¬ (ns.length<l.length):=by omega
    have e4:id+1≤h.length+4:=by omega
    have e5:h.length+1≤h.length+4:=by omega
    have e6:h.length+1+1≤h.length+4:=by omega
    simp only[go_sem,hb2,e4,e5,e6]
    exact fin c ns G x (by omega) (by omega) (by omega) r5
 ·have en:rs.length=n:=by omega
  have hb2:¬ (rs.length<n):=by omega
  have hh:(h.set id (strm L b)++[Obj.row (some 4) (rs.map Rec.pv) 0])[h.length]?=some (.row (some 4) (rs.map Rec.pv) 0):=by rw[List.getElem?_append_right (by simp)];simp
  have st:=fun K=>z3x (h:=h.set id (strm L b)++[Obj.row (some 4) (rs.map Rec.pv) 0]) (K:=K) h.length (rs.map Rec.pv) z7K (by simp;omega) hh (g:=z7i) (caps:=[]) (c:=fun x y=>z1s (z2c x) (z2c y))
   (fun o x hx y hy K=>by
    obtain⟨p,_,rfl⟩:=List.mem_map.1 hx
    obtain⟨q,_,rfl⟩:=List.mem_map.1 hy
    dsimp only
    rw[z2A,z2A]
    exact zuJ p q)
  have so:=z6E (ltC fun x y=>z1s (z2c x) (z2c y)) (rs.map Rec.pv)
  have hsm:∀ x∈zbS (ltC fun x y=>z1s (z2c x) (z2c y)) (rs.map Rec.pv),∃ r,RecOk r∧x=Rec.pv r:=fun x hx=>by
   obtain⟨r,hr,rfl⟩:=List.mem_map.1 (zeC.1 hx)
   exact⟨r,q2 r hr,rfl⟩
  obtain⟨ss,s1,s2⟩:=z9x hsm
  have hsl:ss.length=rs.length:=by have:=congrArg List.length s2;simp [zeB] at this;omega
  simp only[List.length_map,s2] at st
  have hh2:(h.set id (strm L b)++[Obj.row (some 4) (ss.map Rec.pv) 0])[h.length]?=some (.row (some 4) (ss.map Rec.pv) 0):=by rw[List.getElem?_append_right (by simp)];simp
  have cp:=fun K=>z2z (h:=h.set id (strm L b)++[Obj.row (some 4) (ss.map Rec.pv) 0]) (K:=K) h.length (ss.map Rec.pv) z7K (by simp;omega) hh2 (g:=z7j) (caps:=[]) (q:=fun x y=>z71 (z2c x) (z2c y))
   (fun o x hx y hy K=>by
    obtain⟨p,_,rfl⟩:=List.mem_map.1 hx
    obtain⟨q,_,rfl⟩:=List.mem_map.1 hy
    dsimp only
    rw[z2A,z2A]
    exact zuK p q)
  have hcm:∀ x∈z0V (fun x y=>z71 (z2c x) (z2c y)) (ss.map Rec.pv),∃ r,RecOk r∧x=Rec.pv r:=fun x hx=>by
   obtain⟨r,hr,rfl⟩:=List.mem_map.1 (z6T hx)
   exact⟨r,s1 r hr,rfl⟩
  obtain⟨cs,c1,c2⟩:=z9x hcm
  have hcl:cs.length≤ss.length:=by
   have h1:=congrArg List.length c2
   have h2:=z6S (fun x y=>z71 (z2c x) (z2c y)) (ss.map Rec.pv)
   simp at h1 h2;omega
  simp only[List.length_map,c2,hsl] at cp
  have e0:∀ o,(h.set id (strm L b)++[Obj.row (some 4) (rs.map Rec.pv) 0]).set h.length o=h.set id (strm L b)++[o]:=fun o=>by rw[List.set_append_right _ _ (by simp)];simp
  have e1:∀ o,(h.set id (strm L b)++[Obj.row (some 4) (ss.map Rec.pv) 0]).set h.length o=h.set id (strm L b)++[o]:=fun o=>by rw[List.set_append_right _ _ (by simp)];simp
  simp only[e0] at st
  simp only[e1] at cp
  have rl:(cs.map Rec.pv++List.replicate (rs.length-cs.length) (PV.agg [.str [],.int .i64 0,.str [],.sl none []])).length=rs.length:=by simp;omega
  have hw:win (cs.map Rec.pv++List.replicate (rs.length-cs.length) (PV.agg [.str [],.int .i64 0,.str [],.sl none []])) 0 cs.length=cs.map Rec.pv:=by simp [win]
  have hcr:cs.length≤rs.length:=by omega
  generalize cs.map Rec.pv++List.replicate (rs.length-cs.length) (PV.agg [.str [],.int .i64 0,.str [],.sl none []])=row at *
  simp only[go_sem,hb2,↓st,st,↓cp,cp,rl,hw,hcr]
  exact⟨b,⟨q3,by omega,cs,by omega,c1,rfl⟩,rfl⟩
end Go.Am
end
section
/- Merging two ordered lists: by sorting and leaving out what is alike,and by looking each one up. Plain lists. -/
namespace Go.Am
variable {α:Type}
structure Ordr (c:α→α→Int):Prop where
 neg:∀ a b,c b a = - c a b
 trans:∀ a b d,c a b≤0→c b d≤0→c a d≤0
theorem Ordr.refl {c:α→α→Int} (o:Ordr c) (a:α):c a a=0:=by have:=o.neg a a;omega
variable {c:α→α→Int} {q:α→α→Bool} {a b:List α}
end Go.Am
end
section
/- Records alike;copies;bins. -/
open Go
set_option linter.unusedSimpArgs false
namespace Go.Am
variable {h:Heap} {K:Post}
def zwO (a b:Rec):Bool:=decide (a.unit=b.unit)&&(decide (a.time=b.time)&&(decide (a.site=b.site)&&decide (a.res=b.res)))
theorem zqM (a b:Rec):zwO a b=true↔a=b:=by
 cases a;cases b
 simp [zwO]
theorem ztc {b:Nat} {P:Post} {vs:List AV} {h:Heap} {x:Esc} (hx:∀ y∈x,b≤y.1) {v:AV} (h1:reif b h (z1d vs)=some v) (h2:v.top≤b):retK false b P (some vs) h x=P v (h.take b) []:=by
 have e:max b v.top=b:=by omega
 have c:z1a x b=true:=by
  unfold z1a
  rw[List.all_eq_true]
  intro y hy
  simp [hx y hy]
 have f:x.filter (fun y=>decide (y.1<b))=[]:=by
  rw[List.filter_eq_nil_iff]
  intro y hy
  have:=hx y hy
  simp;omega
 simp only[retK,h1,e,zcP hx,c,if_true,f]
 exact propext ⟨fun h=>h.2,fun h=>⟨h2,h⟩⟩
end Go.Am
end
section
/- Sorting numbers: printed by program. -/
open Go
set_option linter.unusedSimpArgs false
namespace Go.Am
attribute [-go_sem] PV.cells splice
variable {h:Heap} {K:Post}
end Go.Am
end
section
/- Bins,both ways;lists joined;records sorted. -/
open Go
set_option linter.unusedSimpArgs false
namespace Go.Am
variable {h:Heap} {K:Post}
end Go.Am
end
section
/- Lists of records joined,compared,merged. -/
open Go
set_option linter.unusedSimpArgs false
namespace Go.Am
variable {h:Heap} {K:Post}
instance:DecidableEq Rec:=fun a b=>decidable_of_iff (zwO a b=true) (zqM a b)
end Go.Am
end
section
/- Records merged asv the reference does it. -/
open Go
set_option linter.unusedSimpArgs false
namespace Go.Am
variable {h:Heap} {K:Post}
end Go.Am
end
section
/- Retests: which record of a unit counts. Plain lists;both ways yield the same. -/
set_option linter.all false
namespace Go.Am
def badR (l:List Lim) (r:Rec):Bool:=decide (0≤z2C l r.res)
def rec0:Rec:=⟨[],0,[],[]⟩
def cntL (l:List Lim) (rule:Int) (f:List Rec):Rec:=
 if rule=1 then f.headD rec0 else if f.findIdx (fun x=>!badR l x)<f.length∧rule=3 then f.getD (f.findIdx fun x=>!badR l x) rec0 else f.getLastD rec0
end Go.Am
end
section
/- Lists of strings. -/
open Go
set_option linter.all false
namespace Go.Am
variable {h:Heap} {K:Post}
theorem zr0:X.ex2=libF GRL PRL:=rfl
abbrev AStr (us:List (List UInt8)):AV:=.p (.sl none (us.map PV.str))
theorem zt1 {us:List (List UInt8)}:shps none (us.map PV.str):=fun x hx=>by obtain⟨n,_,rfl⟩:=List.mem_map.1 hx;rfl
end Go.Am
end
section
/- The abstract machine,part L4: strings.Repeat,strings.Trim,math/bits.TrailingZeros64 asv rows. -/
set_option linter.all false
namespace Go.Am
variable {P:Program} {gl:Nat→Option PV}
open Go.Shelf
theorem zlS {w w':World} (h:Go.RowKit.Below w.heap.size w w'):WExt w w':=⟨h.size,fun b hb=>h.block b hb,by unfold zed;rw[h.os,h.tape,h.output]⟩
end Go.Am
end
section
/- The abstract machine,part L5: strings.Count at one byte,strings.Join asv rows. -/
set_option linter.all false
namespace Go.Am
variable {P:Program} {gl:Nat→Option PV}
open Go.Shelf
theorem countRow {ρ:Ren} (L:Go.Proofs.Lays.n138 P ρ) (he:∀ us w,(callFunc (ρ.f 138) us).run P w = .ok (.enter (ρ.f 138) us) w):PureRow P gl (ρ.f 138) zg1 where
 enter:=he
 run M w vs r us hc hb hG hl hr hs:=by
  unfold zg1 at hs
  split at hs
  ·rename_i s c
   match us,hl with
   | [u,v],_=>
    have q:=hr 0 _ u rfl rfl
    cases q
    have q2:=hr 1 _ v rfl rfl
    cases q2
    simp only[Option.some.injEq] at hs
    subst hs
    refine (Go.Proofs.Any.strings_Count_one L ⟨s.toArray⟩ c w).mono fun e w' h=>?_
    obtain⟨rfl,rfl⟩:=h
    exact⟨_,rfl,WExt.refl _,.p _ _ (.int _ _)⟩
  ·cases hs
theorem zoR (l:List (List UInt8)):(l.map PV.str).flatMap PV.cells=l.map PV.str:=by
 induction l with
 | nil=>rfl
 | cons a r ih=>rw[List.map_cons,List.flatMap_cons,ih];rfl
theorem joinRow {ρ:Ren} (L:Go.Proofs.Lays.n156 P ρ) (E:Go.Proofs.Builder.Extra P ρ) (he:∀ us w,(callFunc (ρ.f 156) us).run P w = .ok (.enter (ρ.f 156) us) w):PureRow P gl (ρ.f 156) zpg where
 enter:=he
 run M w vs r us hc hb hG hl hr hs:=by
  unfold zpg at hs
  split at hs
  ·rename_i xs sep
   obtain⟨l,hlx,hs2⟩:=Option.bind_eq_some_iff.1 hs
   have hx:=zfk hlx
   subst hx
   split at hs2
   ·rename_i hbd
    simp only[Option.some.injEq] at hs2
    subst hs2
    match us,hl with
    | [u,v],_=>
     have q:=hr 0 _ u rfl rfl
     have q2:=hr 1 _ v rfl rfl
     cases q2
     have hmk:∀ x:List UInt8,(⟨x.toArray⟩:ByteArray).data.toList=x:=fun x=>rfl
     have key:∀ (bk o c:Nat),bk<w.heap.size→l.length≤c→(∀ (j:Nat) (x:List UInt8),l[j]?=some x→w.cell? ⟨bk,o+j,none⟩=some (.string ⟨x.toArray⟩)) →
      Calls P (ρ.f 156) #[.slice (some ⟨bk,o,none⟩) l.length c,.string ⟨sep.toArray⟩] w fun e w'=>∃ x,e = .returned x∧WExt w w'∧RAV (ExtM M w w') [] [] (.p (.str (sep.intercalate l))) x:=by
      intro bk o c h1 h2 h3
      have hm:(l.map fun x=>(⟨x.toArray⟩:ByteArray)).map (·.data.toList)=l:=by
       rw[List.map_map]
       conv=>rhs;rw[← List.map_id l]
       exact List.map_congr_left (fun x _=>rfl)
      have hJ:=Go.Proofs.Any.strings_Join L E bk o c (l.map fun x=>(⟨x.toArray⟩:ByteArray)) ⟨sep.toArray⟩ w (fun j x hx=>by
       rw[List.getElem?_map] at hx
       obtain⟨y,hy,rfl⟩:=Option.map_eq_some_iff.1 hx
       exact h3 j y hy) h1 (by simp;omega) (by simpa using h2) (by rw[hm];show (sep.intercalate l).length≤_;omega)
      rw[hm,List.length_map] at hJ
      refine hJ.mono fun e w' h=>?_
      obtain⟨rfl,h⟩:=h
      exact⟨_,rfl,zlS h,.p _ _ (.str _)⟩
     generalize hxs:l.map PV.str=xs at q hl hr
     cases q with
     | nils _ a cap=>
      have h0:l=[]:=List.map_eq_nil_iff.1 hxs
      subst h0
      refine (Go.Proofs.Any.strings_Join_none L E a cap ⟨sep.toArray⟩ w).mono fun e w' h=>?_
      obtain⟨rfl,rfl⟩:=h
      exact⟨_,rfl,WExt.refl _,.p _ _ (.str [])⟩
     | sl _ _ b o cap f hne hcap hshp hm hrr=>
      subst hxs
      rw[List.length_map] at hcap ⊢
      rw[zoR] at hm hrr
      have hcell:∀ (j:Nat) (x:List UInt8),l[j]?=some x→w.cell? ⟨b,o+j,none⟩=some (.string ⟨x.toArray⟩):=by
       intro j x hx
       have hy:(l.map PV.str)[j]?=some (.str x):=by rw[List.getElem?_map,hx];rfl
       have h1:=hc _ _ _ (hm j _ hy)
       have h2:=hrr j _ hy
       generalize hf:f j=fj at h1 h2
       cases h2
       exact h1
      refine key b o cap ?_ hcap hcell
      cases l with
      | nil=>exact absurd rfl hne
      | cons a r=>exact Go.Am.cell_lt (hcell 0 a rfl)
   ·cases hs2
  ·cases hs
end Go.Am
end
section
/- Texts split at a byte. -/
open Go
set_option linter.all false
namespace Go.Am
variable {h:Heap} {K:Post}
theorem zwG (s:List UInt8) (c:UInt8):z0c X zhl [AS s,AS [c]] h K=K (AI (s.count c)) h []:=by
 refine z7H (X:=X) (by kernel_rfl) ?_
 rw[zr0]
 exact z8U (vs:=[.str s,.str [c]]) (by kernel_rfl) (s:=zg1) (by kernel_rfl) rfl rfl
theorem z6H (s:List UInt8) (c:UInt8) (hs:s.length≤1000000):z0c X z7d [AS s,AS [c]] h K=K (AI (idxB s c)) h []:=by
 refine rule ?_
 rw[c_q01y rfl]
 have q:=fun h K=>zcj (h:=h) (K:=K) s c
 simp only[zgC,go_sem,↓q,q,List.length_cons,List.length_nil]
 split
 ·rename_i h1;subst h1;simp [idxB]
 ·trivial
theorem zti (s:List UInt8) (c:UInt8) (hs:s.length≤1000000):z0c X zbb [AS s,AS [c]] h K=K (AI (idxB s c)) h []:=by
 refine rule ?_
 rw[c_q096 rfl]
 have q:=fun h K=>z6H (h:=h) (K:=K) s c hs
 simp only[zmQ,go_sem,↓q,q]
theorem zvN {s:List UInt8} {c:UInt8} (h:c∉s):idxB s c = -1:=by
 unfold idxB
 rw[if_neg]
 rw[List.findIdx_lt_length]
 rintro⟨x,hx,e⟩
 simp at e
 subst e
 exact h hx
theorem zwP {α:Type} (a:List α) (x y:α) (b:List α):(a++x::b).set a.length y=a++y::b:=by simp
def z5i (c:UInt8) (s:List UInt8) (k:Nat):List PV:=((z0m c s).take k).map PV.str++List.replicate (s.count c+1-k) (.str [])
theorem zqU (c:UInt8) (s:List UInt8) (k:Nat) (hk:k≤s.count c+1):(z5i c s k).length=s.count c+1:=by
 unfold z5i
 have:=z0M c s
 simp;omega
theorem zfg (c:UInt8) (s:List UInt8) (k:Nat) (hk:k<s.count c+1) (p:List UInt8) (hp:(z0m c s)[k]?=some p):(z5i c s k).set k (.str p)=z5i c s (k+1):=by
 have hl:=z0M c s
 have e:((z0m c s).take k).map PV.str=((z0m c s).take k).map PV.str:=rfl
 have el:(((z0m c s).take k).map PV.str).length=k:=by simp;omega
 unfold z5i
 rw[show s.count c+1-k=(s.count c+1-(k+1))+1 by omega,List.replicate_succ]
 conv=>lhs;arg 2;rw[← el]
 rw[zwP,List.take_succ,hp]
 simp
theorem zff (c:UInt8) (s:List UInt8) (k:Nat) (hk:k<s.count c+1):(z5i c s k)[k]?=some (.str []):=by
 have hl:=z0M c s
 unfold z5i
 rw[List.getElem?_append_right (by simp;omega)]
 rw[List.getElem?_replicate,if_pos (by simp;omega)]
theorem zqT (c:UInt8) (s:List UInt8):z5i c s (s.count c+1)=(z0m c s).map PV.str:=by
 have hl:=z0M c s
 unfold z5i
 rw[List.take_of_length_le (by omega),Nat.sub_self]
 simp
attribute [-go_sem] z8D
theorem ziX (s:List UInt8) (c:UInt8) (hs:s.length≤1000000):z0c X zbd [AS s,AS [c],AI 0,AI (-1)] h K=K (AStr (z0m c s)) h []:=by
 refine rule ?_
 rw[c_q09f rfl]
 have ec:=fun h K=>zwG (h:=h) (K:=K) s c
 have hcl:s.count c≤s.length:=List.count_le_length
 have w1:IntKind.i64.wrap ((s.count c:Int)+1)=((s.count c+1:Nat):Int):=z0h _ (by omega) (by omega)
 simp only[zhd,go_sem,↓ec,ec,w1]
 rw[z8D]
 have w2:IntKind.i64.wrap ((s.length:Int)+1)=((s.length+1:Nat):Int):=z0h _ (by omega) (by omega)
 have w3:min ((s.count c+1:Nat):Int) ((s.length+1:Nat):Int)=((s.count c+1:Nat):Int):=by omega
 have w4:IntKind.i64.wrap (((s.count c+1:Nat):Int)-1)=(s.count c:Int):=by rw[z0h _ (by omega) (by omega)];omega
 have hm:s.count c+1≤z0P:=by unfold z0P;omega
 simp only[z52,go_sem,w2,w3,w4,hm]
 have row0:List.replicate (s.count c+1) (PV.str [])=z5i c s 0:=by simp [z5i]
 rw[row0]
 refine z0D (fun k:Nat=>⟨[(0,AS (z1v c k s)),(1,AS [c]),(2,AI 0),(3,AI (s.count c)),(9,.own h.length (s.count c+1) 0 (s.count c+1)),(10,AI k)],h++[.row none (z5i c s k) 0],[]⟩) (fun k=>k≤s.count c) (fun k=>s.count c-k) 0 rfl (by omega) ?_
 intro k hk
 obtain⟨r1,r2,r3⟩:=z3s c k s hk
 have hrl:=zqU c s k (by omega)
 have hsl:=z0M c s
 rcases Nat.lt_or_ge k (s.count c) with hlt | hge
 ·obtain⟨a,b,hab,ha⟩:=zmq (c:=c) (s:=z1v c k s) (List.count_pos_iff.1 (by omega))
  have hi:=fun h K=>zti (h:=h) (K:=K) (z1v c k s) c (by omega)
  have hix:idxB (z1v c k s) c=(a.length:Int):=by rw[hab];exact zpc a b c ha
  rw[hix] at hi
  have hnext:z1v c (k+1) s=b:=by rw[z9y,hab,zvE ha]
  have hrl2:(z1v c k s).length=a.length+(b.length+1):=by rw[hab];simp
  have g1:(z0m c s)[k]?=some a:=by
   have:=congrArg (fun l=>l[0]?) r1
   simp only[List.getElem?_drop,Nat.add_zero] at this
   rw[← this,hab,z4E ha]
   rfl
  have W1:win (z1v c k s) 0 a.length=a:=by rw[hab];unfold win;simp
  have W2:win (z1v c k s) (a.length+1) ((z1v c k s).length-(a.length+1))=b:=by
   rw[hab];unfold win
   rw[show a++c::b=(a++[c])++b by simp,List.drop_left' (by simp)]
   exact List.take_of_length_le (by simp;omega)
  have hp:¬ (a.length:Int)<0:=by omega
  have wa:IntKind.i64.wrap ((a.length:Int)+0)=(a.length:Int):=by rw[Int.add_zero];exact z0h _ (by omega) (by omega)
  have wb:IntKind.i64.wrap ((a.length:Int)+1)=((a.length+1:Nat):Int):=z0h _ (by omega) (by omega)
  have wk:IntKind.i64.wrap ((k:Int)+1)=((k+1:Nat):Int):=z0h _ (by omega) (by omega)
  have hlt':(k:Int)<(s.count c:Int):=by omega
  have hse:=zfg c s k (by omega) a g1
  have st:=fun h1=>zfe (sh:=none) (x:=.str a) (y:=.str []) rfl rfl h.length k 0 (z5i c s k) h1
  have c1:a.length≤(z1v c k s).length:=by omega
  have c2:a.length+1≤(z1v c k s).length:=by omega
  have c3:k<s.count c+1:=by omega
  simp only[go_sem,hlt',hi,↓hi,hp,wa,wb,wk,hrl,W1,W2,zff c s k c3,st,hse,c1,c2,c3]
  exact⟨k+1,by rw[hnext],by omega,by omega⟩
 ·have hk':k=s.count c:=by omega
  have hlt':¬ (k:Int)<(s.count c:Int):=by omega
  have st:=fun h1=>zfe (sh:=none) (x:=.str (z1v c k s)) (y:=.str []) rfl rfl h.length k 0 (z5i c s k) h1
  have c3:k<s.count c+1:=by omega
  have wk:IntKind.i64.wrap ((k:Int)+1)=((k+1:Nat):Int):=z0h _ (by omega) (by omega)
  have g1:(z0m c s)[k]?=some (z1v c k s):=by
   have:=congrArg (fun l=>l[0]?) r1
   simp only[List.getElem?_drop,Nat.add_zero] at this
   rw[← this,z5j (List.count_eq_zero.1 (by omega))]
   rfl
  have hse:(z5i c s k).set k (.str (z1v c k s))=(z0m c s).map PV.str:=by
   rw[zfg c s k c3 _ g1,hk',zqT]
  have c4:k+1=s.count c+1:=by omega
  have hwin:win ((z0m c s).map PV.str) 0 (s.count c+1)=(z0m c s).map PV.str:=by unfold win;rw[List.drop_zero,List.take_of_length_le (by simp;omega)]
  have hml:((z0m c s).map PV.str).length=s.count c+1:=by simp [hsl]
  simp only[go_sem,hlt',hrl,zff c s k c3,st,hse,c3,wk,hml,c4,hwin]
theorem zfY (s:List UInt8) (c:UInt8) (hs:s.length≤1000000):z0c X z4T [AS s,AS [c]] h K=K (AStr (z0m c s)) h []:=by
 refine rule ?_
 rw[c_q09a rfl]
 have q:=fun h K=>ziX (h:=h) (K:=K) s c hs
 simp only[zmS,go_sem,↓q,q]
theorem zch (s p:List UInt8) (hs:s.length≤1000000) (hp:p.length≤1000000):z0c X zay [AS s,AS p] h K=K (AB (decide (s.take p.length=p))) h []:=by
 refine rule ?_
 rw[c_q01w rfl]
 by_cases h1:p.length≤s.length
 ·have h1':(p.length:Int)≤(s.length:Int):=by omega
  have W:win s 0 p.length=s.take p.length:=by unfold win;simp
  simp only[zgA,go_sem,h1',h1,W]
 ·have h1':¬ (p.length:Int)≤(s.length:Int):=by omega
  have e:decide (s.take p.length=p)=false:=by
   simp only[decide_eq_false_iff_not]
   intro e
   have:=congrArg List.length e
   simp at this
   omega
  simp only[zgA,go_sem,h1',h1,e]
theorem z7y (s p:List UInt8) (hs:s.length≤1000000) (hp:p.length≤1000000):z0c X z7s [AS s,AS p] h K=K (AS (if s.take p.length=p then s.drop p.length else s)) h []:=by
 refine rule ?_
 rw[c_q09c rfl]
 have key:∀ (h:Heap) (K:Post),z0c X za0 [AS s,AS p] h K=K (AS (if s.take p.length=p then s.drop p.length else s)) h []:=by
  intro h K
  refine rule ?_
  rw[c_q020 rfl]
  have q:=fun h K=>zch (h:=h) (K:=K) s p hs hp
  by_cases e:s.take p.length=p
  ·have hl:p.length≤s.length:=by
    have:=congrArg List.length e
    simp at this
    omega
   have W:win s p.length (s.length-p.length)=s.drop p.length:=by unfold win;rw[List.take_of_length_le (by simp)]
   simp only[zgE,go_sem,↓q,q,e,decide_true,hl,W]
  ·simp only[zgE,go_sem,↓q,q,e,decide_false]
 simp only[zmT,go_sem,↓key,key]
end Go.Am
end
section
/- Lines of a text. -/
open Go
set_option linter.all false
namespace Go.Am
variable {h:Heap} {K:Post}
theorem zci (s p:List UInt8) (hs:s.length≤1000000) (hp:p.length≤1000000):z0c X zaz [AS s,AS p] h K=K (AB (decide (p.length≤s.length∧s.drop (s.length-p.length)=p))) h []:=by
 refine rule ?_
 rw[c_q01x rfl]
 by_cases h1:p.length≤s.length
 ·have h1':(p.length:Int)≤(s.length:Int):=by omega
  have w:IntKind.i64.wrap ((s.length:Int)-(p.length:Int))=((s.length-p.length:Nat):Int):=by rw[z0h _ (by omega) (by omega)];omega
  have W:win s (s.length-p.length) (s.length-(s.length-p.length))=s.drop (s.length-p.length):=by unfold win;rw[List.take_of_length_le (by simp)]
  have h2:s.length-p.length≤s.length:=by omega
  simp only[zgB,go_sem,h1',h1,w,W,h2]
 ·have h1':¬ (p.length:Int)≤(s.length:Int):=by omega
  simp only[zgB,go_sem,h1',h1]
def z2L (s:List UInt8):Bool:=decide (s.getLast?=some 10)
def z2I (s:List UInt8):List UInt8:=if z2L s then s.dropLast else s
theorem zfI (s:List UInt8):decide (([10]:List UInt8).length≤s.length∧s.drop (s.length-([10]:List UInt8).length)=[10])=z2L s:=by
 unfold z2L
 rw[decide_eq_decide]
 rcases List.eq_nil_or_concat s with rfl | ⟨r,x,rfl⟩
 ·simp
 ·simp
theorem zcc (s:List UInt8) (hs:s.length≤1000000):z0c X zba [AS s,AS [10]] h K=K (.tup [AS (z2I s),AB (z2L s)]) h []:=by
 refine rule ?_
 rw[c_q095 rfl]
 have key:∀ (h:Heap) (K:Post),z0c X zax [AS s,AS [10]] h K=K (.tup [AS (z2I s),AB (z2L s)]) h []:=by
  intro h K
  refine rule ?_
  rw[c_q01v rfl]
  have q:=fun h K=>zci (h:=h) (K:=K) s [10] hs (by simp)
  rw[zfI] at q
  cases e:z2L s with
  | false=>
   have eb:z2I s=s:=by unfold z2I;rw[e];rfl
   rw[e] at q
   simp only[zg9,go_sem,↓q,q,eb]
  | true=>
   have eb:z2I s=s.dropLast:=by unfold z2I;rw[e];rfl
   rw[e] at q
   have h1:1≤s.length:=by
    cases s with
    | nil=>simp [z2L] at e
    | cons a r=>simp
   have w:IntKind.i64.wrap ((s.length:Int)-1)=((s.length-1:Nat):Int):=by rw[z0h _ (by omega) (by omega)];omega
   have W:win s 0 (s.length-1)=s.dropLast:=by unfold win;rw[List.drop_zero,List.dropLast_eq_take]
   have h2:s.length-1≤s.length:=by omega
   simp only[zg9,go_sem,↓q,q,eb,List.length_cons,List.length_nil,w,W,h2]
 simp only[zmP,go_sem,↓key,key]
def z1k (s:List UInt8):List (List UInt8):=if s=[] then [] else z0m 10 (z2I s)
def zev (s:List UInt8):Bool:=decide (s=[])||z2L s
theorem zwJ (s:List UInt8) (hs:s.length≤1000000):z0c X zat [AS s] h K=K (.tup [AStr (z1k s),AB (zev s)]) h []:=by
 refine rule ?_
 rw[c_q006 rfl]
 by_cases h0:s=[]
 ·subst h0
  simp only[zg5,go_sem]
  rfl
 ·have q:=fun h K=>zcc (h:=h) (K:=K) s hs
  have hb:(z2I s).length≤1000000:=by
   unfold z2I
   split
   ·simp;omega
   ·exact hs
  have q2:=fun h K=>zfY (h:=h) (K:=K) (z2I s) 10 hb
  have e1:z1k s=z0m 10 (z2I s):=by unfold z1k;rw[if_neg h0]
  have e2:zev s=z2L s:=by unfold zev;simp [h0]
  simp only[zg5,go_sem,h0,↓q,q,↓q2,q2,e1,e2]
end Go.Am
end
section
/- Numbers read. -/
open Go
set_option linter.all false
namespace Go.Am
variable {h:Heap} {K:Post}
theorem zqD {s:List UInt8} (h1:z09 s≠[]) (h2:(z09 s).length≤17) (h3:(z09 s).all digB=true):z0c X z8M [AS s] h K=K (.tup [AI (numV s),.nili]) h []:=by
 refine z7H (X:=X) (by kernel_rfl) ?_
 rw[zr0]
 exact z8U (vs:=[.str s]) (by kernel_rfl) (s:=zis) rfl rfl (zr7 h1 h2 h3)
theorem z8V {K':Ex→St→Prop} (s d:List UInt8) (hd:d.length≤1000000) (h1:d.all digB=false→K' .ret ⟨[(4,AI 0),(5,AB false)],h,[]⟩)
 (h2:d.all digB=true→K' (.exit 0) ⟨[(0,AS s),(6,AS d),(38,AI d.length),(39,AI d.length),(40,AB false)],h,[]⟩) :
 z0N (z0c X) X.gl z2r K' [(0,AS s),(6,AS d),(38,AI d.length),(39,AI 0)] h []:=by
 refine z0D (fun k:Nat=>⟨[(0,AS s),(6,AS d),(38,AI d.length),(39,AI k)],h,[]⟩) (fun k=>k≤d.length∧(d.take k).all digB=true) (fun k=>d.length-k) 0 rfl ⟨by omega,by simp⟩ ?_
 rintro k ⟨hk,hp⟩
 rcases Nat.lt_or_ge k d.length with hlt | hge
 ·have hlt':(k:Int)<(d.length:Int):=by omega
  have hg:d[k]?=some d[k]:=List.getElem?_eq_getElem hlt
  have wk:IntKind.i64.wrap ((k:Int)+1)=((k+1:Nat):Int):=z0h _ (by omega) (by omega)
  have hnot:digB d[k]=false→d.all digB=false:=fun e=>by
   rw[← Bool.not_eq_true,List.all_eq_true]
   intro ha
   have:=ha d[k] (List.getElem_mem hlt)
   rw[e] at this
   cases this
  by_cases c1:d[k].toNat<48
  ·have c1':(d[k].toNat:Int)<48:=by omega
   have:=h1 (hnot (by simp [digB];omega))
   simp only[go_sem,hlt',hg,c1',this]
  ·have c1':¬ (d[k].toNat:Int)<48:=by omega
   by_cases c2:57<d[k].toNat
   ·have c2':(57:Int)<(d[k].toNat:Int):=by omega
    have:=h1 (hnot (by simp [digB];omega))
    simp only[go_sem,hlt',hg,c1',c2',this]
   ·have c2':¬ (57:Int)<(d[k].toNat:Int):=by omega
    simp only[go_sem,hlt',hg,c1',c2',wk]
    refine⟨k+1,rfl,⟨by omega,?_⟩,by omega⟩
    rw[List.take_succ,hg,List.all_append,hp]
    simp [digB]
    omega
 ·have hk':k=d.length:=by omega
  have hlt':¬ (k:Int)<(d.length:Int):=by omega
  have:=h2 (by rw[← hp,hk',List.take_length])
  subst hk'
  simp only[go_sem,Nat.lt_irrefl,decide_false,this]
attribute [-go_sem] z54
theorem zeT (s:List UInt8) (dg:Nat) (hd:dg≤17) (hs:s.length≤1000000):z0c X z6Z [AS s,AI dg] h K=K (.tup [AI (if numF dg s then numV s else 0),AB (numF dg s)]) h []:=by
 refine rule ?_
 rw[c_q008 rfl]
 have q:=fun h K=>z7y (h:=h) (K:=K) s [45] hs (by simp)
 have eq:(if s.take ([45]:List UInt8).length=[45] then s.drop ([45]:List UInt8).length else s)=z09 s:=rfl
 rw[eq] at q
 obtain⟨d,hdd⟩:∃ d,z09 s=d:=⟨_,rfl⟩
 have hsl:d.length≤s.length:=by rw[← hdd];unfold z09;split <;> simp
 have nF:numF dg s=(!d.isEmpty&&decide (d.length≤dg) && !(decide (d.head?=some 48)&&(decide (1<d.length)||decide (d.length<s.length)))&&d.all digB):=by unfold numF;rw[hdd]
 rw[hdd] at q
 by_cases h0:d=[]
 ·subst h0
  have e:numF dg s=false:=by rw[nF];rfl
  simp only[z5y,go_sem,↓q,q,e]
 by_cases h1:dg<d.length
 ·have h1':(dg:Int)<(d.length:Int):=by omega
  have e:numF dg s=false:=by
   have a3:decide (d.length≤dg)=false:=by simpa using h1
   rw[nF,a3];simp
  simp only[z5y,go_sem,↓q,q,e,h0,h1']
 have h1':¬ (dg:Int)<(d.length:Int):=by omega
 obtain⟨c,r,rfl⟩:∃ c r,d=c::r:=by cases d with | nil=>exact absurd rfl h0 | cons c r=>exact⟨c,r,rfl⟩
 have h1n:¬ dg<r.length+1:=h1
 have h1i:¬ (dg:Int)<((r.length+1:Nat):Int):=by omega
 have hl6:(c::r).length≤1000000:=by omega
 have fin:∀ (e:numF dg s=(c::r).all digB) (hb:(c::r).all digB=true) (h:Heap) (K:Post),z0c X z8M [AS s] h K=K (.tup [AI (numV s),.nili]) h []:=fun e hb h K=>zqD (by rw[hdd];simp) (by rw[hdd];omega) (by rw[hdd];exact hb)
 by_cases hc:c=48
 ·have hc':(c.toNat:Int)=48:=by subst hc;rfl
  by_cases h3:1<r.length+1
  ·have h3':(1:Int)<((r.length+1:Nat):Int):=by omega
   have e:numF dg s=false:=by
    have a1:decide (1<(c::r).length)=true:=by simpa using h3
    have a4:decide ((c::r).head?=some 48)=true:=by simp [hc]
    rw[nF,a1,a4];simp
   simp only[z5y,go_sem,↓q,q,h0,h1',h1n,h1i,hc',h3',e]
  have h3':¬ (1:Int)<((r.length+1:Nat):Int):=by omega
  by_cases h4:r.length+1<s.length
  ·have h4':((r.length+1:Nat):Int)<(s.length:Int):=by omega
   have e:numF dg s=false:=by
    have a1:decide ((c::r).length<s.length)=true:=by simpa using h4
    have a4:decide ((c::r).head?=some 48)=true:=by simp [hc]
    rw[nF,a1,a4];simp
   simp only[z5y,go_sem,↓q,q,h0,h1',h1n,h1i,hc',h3',h4',e]
  have h4':¬ ((r.length+1:Nat):Int)<(s.length:Int):=by omega
  have e:numF dg s=(c::r).all digB:=by
   rw[nF]
   have a1:decide (1<(c::r).length)=false:=by simpa using h3
   have a2:decide ((c::r).length<s.length)=false:=by simpa using h4
   have a3:decide ((c::r).length≤dg)=true:=by simpa using h1n
   rw[a1,a2,a3]
   simp
  simp only[z5y,go_sem,↓q,q,h0,h1',h1n,h1i,hc',h3',h4']
  refine z8V s (c::r) hl6 (fun hb=>?_) (fun hb=>?_)
  ·rw[hb] at e
   simp only[go_sem,e]
  ·have ea:=fin e hb
   rw[hb] at e
   rw[z1G,z1L,z54]
   simp only[z5z,go_sem,↓ea,ea,e]
 ·have hc':¬ (c.toNat:Int)=48:=by
   intro q
   apply hc
   apply UInt8.toNat_inj.1
   exact Int.ofNat_inj.1 q
  have e:numF dg s=(c::r).all digB:=by
   rw[nF]
   have a3:decide ((c::r).length≤dg)=true:=by simpa using h1n
   rw[a3]
   simp [hc]
  simp only[z5y,go_sem,↓q,q,h0,h1',h1n,h1i,hc']
  refine z8V s (c::r) hl6 (fun hb=>?_) (fun hb=>?_)
  ·rw[hb] at e
   simp only[go_sem,e]
  ·have ea:=fin e hb
   rw[hb] at e
   rw[z1G,z1L,z54]
   simp only[z5z,go_sem,↓ea,ea,e]
end Go.Am
end
section
/- Several numbers read. -/
open Go
set_option linter.all false
namespace Go.Am
variable {h:Heap} {K:Post}
attribute [-go_sem] z84
theorem ziT (ws:List (List UInt8)) (dg:Nat) (hd:dg≤17) (hs:∀ s∈ws,s.length≤1000000) (hl:ws.length≤1000000):z0c X zav [AStr ws,AI dg] h K=K (.tup [AL (if ws.all (numF dg) then ws.map numV else []),AB (ws.all (numF dg))]) h []:=by
 refine rule ?_
 rw[c_q009 rfl]
 simp only[zg6,go_sem]
 refine z0D (fun k:Nat=>⟨[(1,AI dg),(6,.own h.length k 0 k),(11,AStr ws),(12,AI ws.length),(13,AI k)],h++[.row none ((ws.take k).map fun s=>eI (numV s)) 0],[]⟩) (fun k=>k≤ws.length∧(ws.take k).all (numF dg)=true) (fun k=>ws.length-k) 0 (by simp) ⟨by omega,by simp⟩ ?_
 rintro k ⟨hk,hp⟩
 have hrl:((ws.take k).map fun s=>eI (numV s)).length=k:=by simp;omega
 rcases Nat.lt_or_ge k ws.length with hlt | hge
 ·have hlt':(k:Int)<(ws.length:Int):=by omega
  have hg:=z0C PV.str hlt
  have cz:cutP none 0 (PV.str ws[k])=some (PV.str ws[k]):=rfl
  have wk:IntKind.i64.wrap ((k:Int)+1)=((k+1:Nat):Int):=z0h _ (by omega) (by omega)
  have q:=fun h K=>zeT (h:=h) (K:=K) ws[k] dg hd (hs _ (List.getElem_mem hlt))
  cases e:numF dg ws[k] with
  | false=>
   have ea:ws.all (numF dg)=false:=by
    rw[← Bool.not_eq_true,List.all_eq_true]
    intro ha
    have:=ha _ (List.getElem_mem hlt)
    rw[e] at this
    cases this
   rw[e] at q
   simp only[go_sem,hlt',hlt,hg,cz,↓q,q,ea]
   rfl
  | true=>
   rw[e] at q
   have hm:k+1≤z0P:=by unfold z0P;omega
   simp only[go_sem,hlt',hlt,hg,cz,↓q,q,hrl,hm,wk]
   refine⟨k+1,?_,⟨by omega,?_⟩,by omega⟩
   ·rw[List.take_succ,List.getElem?_eq_getElem hlt,List.map_append]
    rfl
   ·rw[List.take_succ,List.getElem?_eq_getElem hlt,List.all_append,hp]
    simp [e]
 ·have hk':k=ws.length:=by omega
  subst hk'
  rw[List.take_length] at hp hrl
  rw[List.take_length]
  have hlt':¬ (ws.length:Int)<(ws.length:Int):=by omega
  simp only[go_sem,Nat.lt_irrefl,decide_false,hrl,hp]
  rw[z84]
  simp only[z8f,go_sem,hrl]
  rw[show win (ws.map fun s=>eI (numV s)) 0 ws.length=(ws.map numV).map eI from by unfold win;rw[List.drop_zero,List.take_of_length_le (by simp),List.map_map];rfl]
end Go.Am
end
section
/- Numbers read,the reference's way. -/
open Go
set_option linter.all false
namespace Go.Am
variable {h:Heap} {K:Post}
set_option maxRecDepth 100000 in
theorem zer (c:UInt8):([48,49,50,51,52,53,54,55,56,57]:List UInt8).contains c=digB c:=by
 have:∀ n:Fin 256,([48,49,50,51,52,53,54,55,56,57]:List UInt8).contains (UInt8.ofNat n.val)=digB (UInt8.ofNat n.val):=by decide
 simpa using this ⟨c.toNat,c.toNat_lt⟩
theorem z94 (n:Int) (h1 : -1000000000000000000≤n) (h2:n≤1000000000000000000):z0c X z3I [AI n] h K=K (AS (itoa n)) h []:=by
 refine z7H (X:=X) (by kernel_rfl) ?_
 rw[zr0]
 exact z8U (vs:=[.int .i64 n]) (by kernel_rfl) (s:=zpf) (by kernel_rfl) rfl (by
  unfold zpf
  have a1:decide (-9223372036854775808≤n)=true:=by simp;omega
  have a2:decide (n≤9223372036854775807)=true:=by simp;omega
  show (bif decide (-9223372036854775808≤n)&&decide (n≤9223372036854775807) then some (AV.p (PV.str (itoa n))) else none)=_
  rw[a1,a2]
  rfl)
theorem zmX:∀ (d:List UInt8) (acc n k:Nat),acc<10^k→digN acc d=some n→n<10^(k+d.length)
 | [],acc,n,k,ha,h=>by simp only[digN,Option.some.injEq] at h;subst h;simpa using ha
 | c::r,acc,n,k,ha,h=>by
  unfold digN at h
  split at h
  ·rename_i hc
   have:=zmX r (acc*10+(c.toNat-48)) n (k+1) (by rw[Nat.pow_succ];omega) h
   rw[List.length_cons,show k+(r.length+1)=k+1+r.length by omega]
   exact this
  ·cases h
theorem zwt {s:List UInt8} (h2:(z09 s).length≤17) (h:(z09 s).all digB=true) : -1000000000000000000≤numV s∧numV s≤1000000000000000000:=by
 obtain⟨n,hn⟩:=z7F (z09 s) 0 h
 have b:=zmX _ 0 n 0 (by simp) hn
 have h18:10^(0+(z09 s).length)≤10^17:=Nat.pow_le_pow_right (by omega) (by omega)
 have e17:(10:Nat)^17=100000000000000000:=rfl
 unfold numV
 rw[hn]
 simp only[Option.getD_some]
 split <;> omega
theorem zeU (s:List UInt8) (dg:Nat) (hd:dg≤17) (hs:s.length≤1000000):z0c X z7l [AS s,AI dg] h K=K (.tup [AI (numR dg s),AB (numF dg s)]) h []:=by
 refine rule ?_
 rw[c_q048 rfl]
 have q:=fun h K=>z7y (h:=h) (K:=K) s [45] hs (by simp)
 have eq:(if s.take ([45]:List UInt8).length=[45] then s.drop ([45]:List UInt8).length else s)=z09 s:=rfl
 rw[eq] at q
 have hsl:(z09 s).length≤s.length:=by unfold z09;split <;> simp
 have qo:=fun h K=>zqL (h:=h) (K:=K) (z09 s) [48,49,50,51,52,53,54,55,56,57] (by omega)
 have eo:((z09 s).all fun c=>([48,49,50,51,52,53,54,55,56,57]:List UInt8).contains c)=(z09 s).all digB:=by congr 1;funext c;exact zer c
 rw[eo] at qo
 by_cases h0:z09 s=[]
 ·have e:numF dg s=false:=by unfold numF;rw[h0];rfl
  have e2:numR dg s=0:=by unfold numR;rw[if_neg (fun z=>z.1 h0)]
  rw[h0] at q
  simp only[zal,go_sem,↓q,q,e,e2]
 by_cases h1:dg<(z09 s).length
 ·have h1':(dg:Int)<((z09 s).length:Int):=by omega
  have e:numF dg s=false:=by
   have a3:decide ((z09 s).length≤dg)=false:=by simpa using h1
   unfold numF;rw[a3];simp
  have e2:numR dg s=0:=by unfold numR;rw[if_neg (fun z=>by omega)]
  simp only[zal,go_sem,↓q,q,e,e2,h0,h1',h1]
 have h1':¬ (dg:Int)<((z09 s).length:Int):=by omega
 cases ha:(z09 s).all digB with
 | false=>
  have e:numF dg s=false:=by unfold numF;rw[ha];simp
  have e2:numR dg s=0:=by unfold numR;rw[if_neg (fun z=>by rw[ha] at z;exact absurd z.2.2 (by simp))]
  rw[ha] at qo
  simp only[zal,go_sem,↓q,q,↓qo,qo,e,e2,h0,h1',h1]
 | true=>
  have e2:numR dg s=numV s:=by unfold numR;rw[if_pos ⟨h0,by omega,ha⟩]
  have bd:=zwt (s:=s) (by omega) ha
  have qa:=fun h K=>zqD (h:=h) (K:=K) (s:=s) h0 (by omega) ha
  have qi:=fun h K=>z94 (h:=h) (K:=K) (numV s) bd.1 bd.2
  have e:numF dg s=decide (itoa (numV s)=s):=by
   rw[zs5 h0 ha]
   unfold numF
   have a3:decide ((z09 s).length≤dg)=true:=by simpa using h1
   have a4:(z09 s).isEmpty=false:=by cases hq:z09 s with | nil=>exact absurd hq h0 | cons _ _=>rfl
   rw[a3,a4,ha]
   simp
  rw[ha] at qo
  simp only[zal,go_sem,↓q,q,↓qo,qo,↓qa,qa,↓qi,qi,e,e2,h0,h1',h1]
attribute [-go_sem] z8B
theorem zeV (ws:List (List UInt8)) (dg:Nat) (hd:dg≤17) (hs:∀ s∈ws,s.length≤1000000) (hl:ws.length≤1000000):z0c X zaK [AStr ws,AI dg] h K=K (.tup [AL (ws.map (numR dg)),AB (ws.all (numF dg))]) h []:=by
 refine rule ?_
 rw[c_q04a rfl]
 simp only[zgQ,go_sem]
 refine z0D (fun k:Nat=>⟨[(1,AI dg),(6,.own h.length k 0 k),(7,AB ((ws.take k).all (numF dg))),(12,AStr ws),(13,AI ws.length),(14,AI k)],h++[.row none ((ws.take k).map fun s=>eI (numR dg s)) 0],[]⟩) (fun k=>k≤ws.length) (fun k=>ws.length-k) 0 (by simp) (by omega) ?_
 intro k hk
 have hrl:((ws.take k).map fun s=>eI (numR dg s)).length=k:=by simp;omega
 rcases Nat.lt_or_ge k ws.length with hlt | hge
 ·have hlt':(k:Int)<(ws.length:Int):=by omega
  have hg:=z0C PV.str hlt
  have cz:cutP none 0 (PV.str ws[k])=some (PV.str ws[k]):=rfl
  have wk:IntKind.i64.wrap ((k:Int)+1)=((k+1:Nat):Int):=z0h _ (by omega) (by omega)
  have q:=fun h K=>zeU (h:=h) (K:=K) ws[k] dg hd (hs _ (List.getElem_mem hlt))
  have hm:k+1≤z0P:=by unfold z0P;omega
  have et:ws.take (k+1)=ws.take k++[ws[k]]:=by rw[List.take_succ,List.getElem?_eq_getElem hlt];rfl
  have ea:(ws.take (k+1)).all (numF dg)=((ws.take k).all (numF dg)&&numF dg ws[k]):=by rw[et,List.all_append];simp
  cases e:(ws.take k).all (numF dg) with
  | false=>
   rw[e,Bool.false_and] at ea
   simp only[go_sem,hlt',hlt,hg,cz,↓q,q,hrl,hm,wk,e]
   refine⟨k+1,?_,by omega,by omega⟩
   rw[ea,et,List.map_append]
   rfl
  | true=>
   rw[e,Bool.true_and] at ea
   simp only[go_sem,hlt',hlt,hg,cz,↓q,q,hrl,hm,wk,e]
   refine⟨k+1,?_,by omega,by omega⟩
   rw[ea,et,List.map_append]
   rfl
 ·have hk':k=ws.length:=by omega
  subst hk'
  rw[List.take_length] at hrl
  rw[List.take_length]
  simp only[go_sem,Nat.lt_irrefl,decide_false,hrl]
  rw[z8B]
  simp only[z8s,go_sem,hrl]
  rw[show win (ws.map fun s=>eI (numR dg s)) 0 ws.length=(ws.map (numR dg)).map eI from by unfold win;rw[List.drop_zero,List.take_of_length_le (by simp),List.map_map];rfl]
  try rfl
end Go.Am
end
section
/- Tests and faults: what is wrong with them,both ways. -/
open Go
set_option linter.all false
namespace Go.Am
variable {h:Heap} {K:Post}
end Go.Am
end
section
/- Faults: what is wrong with them,both ways. -/
open Go
set_option linter.all false
namespace Go.Am
variable {h:Heap} {K:Post}
def Flt.pv (f:Flt):PV:=.agg [eI f.kind,.sl none (f.nets.map eI)]
end Go.Am
end
section
/- Where a string stands among strings;words. -/
open Go
set_option linter.all false
namespace Go.Am
variable {h:Heap} {K:Post}
theorem IndexS {v:AV} (l:List (List UInt8)) (hv:Shows none v (l.map PV.str) h) (x:List UInt8) (hl:l.length≤1000000):z0c X zaW [v,AS x] h K=K (AI (if l.findIdx (fun y=>decide (y=x))<l.length then (l.findIdx (fun y=>decide (y=x)):Int) else -1)) h []:=by
 refine rule ?_
 rw[c_q05z]
 have vl:=hv.len
 rw[List.length_map] at vl
 simp only[zgX,go_sem,vl]
 refine z0D (fun k:Nat=>⟨[(0,v),(1,AS x),(7,AI l.length),(8,AI k)],h,[]⟩) (fun k=>k≤l.length∧∀ y∈l.take k,decide (y=x)=false) (fun k=>l.length-k) 0 rfl (by simp) ?_
 rintro k ⟨hk,hn⟩
 rcases Nat.lt_or_ge k l.length with hlt | hge
 ·obtain⟨a,ha,hb⟩:=hv.get k (by simpa using hlt)
  rw[List.getElem_map] at hb
  have w2:IntKind.i64.wrap ((k:Int)+1)=((k+1:Nat):Int):=z0h _ (by omega) (by omega)
  by_cases hpk:x=l[k]
  ·have hf:l.findIdx (fun y=>decide (y=x))=k:=by
    rw[List.findIdx_eq hlt]
    refine⟨by simp [hpk],fun j hj=>?_⟩
    have:=hn l[j] (by rw[List.mem_take_iff_getElem];exact⟨j,by omega,rfl⟩)
    simpa using this
   simp only[go_sem,hlt,ha,hb,hpk.symm,w2]
   simp only[hf,hlt,if_true]
  ·simp only[go_sem,hlt,ha,hb,hpk,w2]
   refine⟨k+1,rfl,⟨by omega,fun y hy=>?_⟩,by omega⟩
   rw[List.take_succ_eq_append_getElem hlt,List.mem_append,List.mem_singleton] at hy
   rcases hy with hy | hy
   ·exact hn y hy
   ·rw[hy];simp;exact fun e=>hpk e.symm
 ·have e1:k=l.length:=by omega
  subst e1
  simp only[go_sem,Nat.lt_irrefl]
  rw[List.take_length] at hn
  have:¬ l.findIdx (fun y=>decide (y=x))<l.length:=by
   rw[Nat.not_lt,Nat.le_iff_lt_or_eq];right
   exact (List.findIdx_eq_length.2 (fun y hy=>by simp [hn y hy])).symm
  rw[if_neg this]
theorem zcu {v:AV} (l:List (List UInt8)) (hv:∀ h':Heap,h'=h→Shows none v (l.map PV.str) h') (x:List UInt8) (hl:l.length≤1000000):z0c X z7o [v,AS x] h K=K (AB (l.contains x)) h []:=by
 refine rule ?_
 rw[c_q05k]
 have e:=fun K=>IndexS (h:=h) (K:=K) l (hv h rfl) x hl
 have hd:decide (0≤(if l.findIdx (fun y=>decide (y=x))<l.length then (l.findIdx (fun y=>decide (y=x)):Int) else -1))=l.contains x:=by
  rw[Bool.eq_iff_iff,decide_eq_true_eq,List.contains_iff_mem]
  constructor
  ·intro hq
   split at hq
   ·rename_i hlt
    have:=List.findIdx_getElem (w:=hlt)
    simp only[decide_eq_true_eq] at this
    exact this ▸ List.getElem_mem hlt
   ·omega
  ·intro hm
   rw[if_pos (List.findIdx_lt_length_of_exists ⟨x,hm,by simp⟩)];omega
 simp only[zmJ,go_sem,e,hd]
theorem strS (ws:List (List UInt8)) {h:Heap}:Shows none (AStr ws) (ws.map PV.str) h:=z7M zt1
theorem z2f {c:UInt8}:∀ {s p:List UInt8},p∈z0m c s→p.length≤s.length
 | [],p,h=>by simp [z0m] at h;subst h;simp
 | b::r,p,h=>by
  rw[z0m.eq_2] at h
  split at h
  ·rcases List.mem_cons.1 h with rfl | h
   ·simp
   ·have:=z2f h;simp;omega
  ·split at h
   ·rename_i hq;exact absurd hq (z4t c r)
   ·rename_i p0 q hq
    rcases List.mem_cons.1 h with rfl | h
    ·have:=z2f (s:=r) (p:=p0) (by rw[hq];simp);simp;omega
    ·have:=z2f (s:=r) (p:=p) (by rw[hq];simp [h]);simp;omega
theorem ztm (s:List UInt8) (hs:s.length≤900000):z0c X zaN [AS s] h K=K (.tup [AStr (z0m 32 s),AB (zuR s)]) h []:=by
 refine rule ?_
 rw[c_q04p rfl]
 have q:=fun h K=>zfY (h:=h) (K:=K) s 32 (by omega)
 have hl:(z0m 32 s).length≤1000000:=by
  rw[z0M]
  have:s.count 32≤s.length:=List.count_le_length
  omega
 have q2:=fun h K=>zcu (h:=h) (K:=K) (z0m 32 s) (fun h' _=>strS _) [] hl
 simp only[zmF,go_sem,↓q,q,↓q2,q2]
 rfl
end Go.Am
end
section
/- Numbers written,joined. -/
open Go
set_option linter.all false
namespace Go.Am
variable {h:Heap} {K:Post}
theorem zs6 {l:List (List UInt8)} {sep:List UInt8} (h1:l.length≤1000000) (h2:(sep.intercalate l).length≤1000000000):zpg [.sl none (l.map PV.str),.str sep]=some (AS (sep.intercalate l)):=by
 show (z29 (l.map PV.str)).bind _=_
 rw[zji,Option.bind_some,if_pos ⟨h1,h2⟩]
theorem zqG (l:List (List UInt8)) (sep:List UInt8) {id:Nat} (hh:h[id]?=some (.row none (l.map PV.str) 0)) (h1:l.length≤1000000) (h2:(sep.intercalate l).length≤1000000000):z0c X zhm [.own id l.length 0 l.length,AS sep] h K=K (AS (sep.intercalate l)) (frz h id l.length) []:=by
 refine z7H (X:=X) (by kernel_rfl) ?_
 rw[zr0]
 have hrd:rd h (.own id l.length 0 l.length)=some (none,l.map PV.str):=by
  simp only[rd,hh,List.length_map,Nat.zero_add,Nat.le_refl,and_self,if_true]
  unfold win
  rw[List.drop_zero,List.take_of_length_le (by simp)]
 exact zs9 (vs:=[.sl none (l.map PV.str),.str sep]) (asv':=[AStr l,AS sep]) (by kernel_rfl) (s:=zpg) (by kernel_rfl) rfl (by
  simp only[z0n,hrd,Nat.zero_add,Option.map_some,pur]) rfl (zs6 h1 h2)
attribute [-go_sem] z8A
theorem ziU (l:List Int) (hb:∀ n∈l,-1000000000000000000≤n∧n≤1000000000000000000) (hl:l.length≤1000000) (h2:(z4a l).length≤1000000000):z0c X zaJ [AL l] h K=K (AS (z4a l)) h []:=by
 refine rule ?_
 rw[c_q049 rfl]
 simp only[zgP,go_sem]
 refine z0D (fun k:Nat=>⟨[(3,.own h.length k 0 k),(6,AL l),(7,AI l.length),(8,AI k)],h++[.row none ((l.take k).map fun n=>PV.str (itoa n)) 0],[]⟩) (fun k=>k≤l.length) (fun k=>l.length-k) 0 (by simp) (by omega) ?_
 intro k hk
 have hrl:((l.take k).map fun n=>PV.str (itoa n)).length=k:=by simp;omega
 rcases Nat.lt_or_ge k l.length with hlt | hge
 ·have hg:=z0C eI hlt
  have cz:cutP none 0 (eI l[k])=some (eI l[k]):=rfl
  have wk:IntKind.i64.wrap ((k:Int)+1)=((k+1:Nat):Int):=z0h _ (by omega) (by omega)
  have b:=hb _ (List.getElem_mem hlt)
  have q:=fun h K=>z94 (h:=h) (K:=K) l[k] b.1 b.2
  have hm:k+1≤z0P:=by unfold z0P;omega
  simp only[go_sem,hlt,hg,cz,↓q,q,hrl,hm,wk]
  refine⟨k+1,?_,by omega,by omega⟩
  rw[List.take_succ,List.getElem?_eq_getElem hlt,List.map_append]
  rfl
 ·have hk':k=l.length:=by omega
  subst hk'
  rw[List.take_length] at hrl
  rw[List.take_length]
  have em:(l.map fun n=>PV.str (itoa n))=(l.map itoa).map PV.str:=by rw[List.map_map];rfl
  have lm:(l.map itoa).length=l.length:=by simp
  have hh:(h++[Obj.row none ((l.map itoa).map PV.str) 0])[h.length]?=some (.row none ((l.map itoa).map PV.str) 0):=by simp
  have qj:=fun K=>zqG (K:=K) (l.map itoa) [32] hh (by rw[lm];exact hl) h2
  rw[lm] at qj
  simp only[go_sem,Nat.lt_irrefl,decide_false,hrl]
  rw[z8A,em]
  simp only[z8r,go_sem,↓qj,qj]
  rfl
end Go.Am
end
section
/- A builder of strings. -/
open Go
set_option linter.all false
namespace Go.Am
variable {h:Heap} {K:Post}
theorem zq0 {b:Nat}:reif b h .nili=some .nili:=by simp only[reif]
attribute [local go_sem] zq0
def bldB (u:Bool) (id n:Nat):Obj:=.box [bif u then .ref id 0 else .bt 0 bldT id 0,.bt 1 bldE (id+1) n]
theorem zgx (id n:Nat):bldB true id n = .box [.ref id 0,.bt 1 bldE (id+1) n]:=rfl
theorem bldB_f (id n:Nat):bldB false id n = .box [.bt 0 bldT id 0,.bt 1 bldE (id+1) n]:=rfl
theorem set_id {o:Obj} {id:Nat} (hh:h[id]?=some o):h.set id o=h:=by
 apply List.ext_getElem?
 intro j
 by_cases e:id=j
 ·subst e;rw[List.getElem?_set_self (z2n hh),hh]
 ·rw[List.getElem?_set_ne e]
theorem z97 (u:Bool) (id n:Nat) (hh:h[id]?=some (bldB u id n)):z0c X z7r [.ref id 0] h K=K (.tup []) (h.set id (bldB true id n)) []:=by
 refine rule ?_
 rw[c_q08z rfl]
 cases u with
 | true=>
  rw[set_id hh]
  rw[zgx] at hh
  simp only[zhb,go_sem,hh]
 | false=>
  rw[bldB_f] at hh
  rw[zgx]
  simp only[bldT] at hh
  simp only[zhb,go_sem,hh]
theorem zfd {h:Heap} {i j:Nat} {a b:Obj} (e:i≠j):(h.set i a).set j b=(h.set j b).set i a:=List.set_comm a b e
def zjT (h:Heap) (u:Bool) (id:Nat) (s:List UInt8):Prop:=h[id]?=some (bldB u id s.length)∧h[id+1]?=some (.row none (z05 s) 0)
def held (h:Heap) (id:Nat) (s:List UInt8):Heap:=(h.set id (bldB true id s.length)).set (id+1) (.row none (z05 s) 0)
theorem z42 (s:List UInt8):(z05 s).length=s.length:=by simp [z05]
theorem z9Y (s t:List UInt8):z05 s++z05 t=z05 (s++t):=by simp [z05]
theorem zcd {u:Bool} {id:Nat} {s t:List UInt8} (H:zjT h u id s) (hm:s.length+t.length≤200000000000):z0c X z5B [.ref id 0,AS t] h K=K (.tup [AI t.length,.nili]) (held h id (s++t)) []:=by
 refine rule ?_
 rw[c_q08y rfl]
 have l:=z2n H.1
 have l2:=z2n H.2
 have e:=fun K=>z97 (K:=K) u id s.length H.1
 have g1:(h.set id (bldB true id s.length))[id]?=some (.box [.ref id 0,.bt 1 bldE (id+1) s.length]):=by rw[List.getElem?_set_self l,zgx]
 have g2:(h.set id (bldB true id s.length))[id+1]?=some (.row none (z05 s) 0):=by rw[List.getElem?_set_ne (by omega)];exact H.2
 have g3:∀ o,((h.set id (bldB true id s.length)).set (id+1) o)[id]?=some (.box [.ref id 0,.bt 1 bldE (id+1) s.length]):=fun o=>by rw[List.getElem?_set_ne (by omega)];exact g1
 have hl:s.length+t.length≤z0P:=by unfold z0P;omega
 simp only[bldE] at g1 g3
 simp only[zmN,go_sem,e,g1,g2,g3,z42,hl]
 rw[List.take_of_length_le (by simp)]
 unfold held
 rw[zfd (i:=id+1) (j:=id) (by omega),List.set_set,z9Y,List.length_append]
 rfl
theorem zfZ {u:Bool} {id:Nat} {s:List UInt8} {c:UInt8} (H:zjT h u id s) (hm:s.length+1≤200000000000):z0c X z8O [.ref id 0,.p (.int .u8 c.toNat)] h K=K .nili (held h id (s++[c])) []:=by
 refine rule ?_
 rw[c_q08x rfl]
 have l:=z2n H.1
 have l2:=z2n H.2
 have e:=fun K=>z97 (K:=K) u id s.length H.1
 have g1:(h.set id (bldB true id s.length))[id]?=some (.box [.ref id 0,.bt 1 bldE (id+1) s.length]):=by rw[List.getElem?_set_self l,zgx]
 have g2:(h.set id (bldB true id s.length))[id+1]?=some (.row none (z05 s) 0):=by rw[List.getElem?_set_ne (by omega)];exact H.2
 have g3:∀ o,((h.set id (bldB true id s.length)).set (id+1) o)[id]?=some (.box [.ref id 0,.bt 1 bldE (id+1) s.length]):=fun o=>by rw[List.getElem?_set_ne (by omega)];exact g1
 have hl:s.length+1≤z0P:=by unfold z0P;omega
 simp only[bldE] at g1 g3
 simp only[zmM,go_sem,e,g1,g2,g3,z42,hl]
 rw[List.take_of_length_le (by simp)]
 unfold held
 rw[zfd (i:=id+1) (j:=id) (by omega),List.set_set,show [PV.int .u8 (c.toNat:Int)]=z05 [c] from rfl,z9Y,List.length_append]
 rfl
theorem s_BLen {u:Bool} {id:Nat} {s:List UInt8} (H:zjT h u id s):z0c X z8N [.ref id 0] h K=K (AI s.length) h []:=by
 refine rule ?_
 rw[c_q08v rfl]
 have g1:=H.1
 unfold bldB at g1
 simp only[zmL,go_sem,g1]
def zgc (h:Heap) (id:Nat) (s:List UInt8):Heap:=if s=[] then h else h.set (id+1) (.row none (z05 s) (s.length+1))
theorem z9Q (s:List UInt8):z3G (z05 s)=some s:=by
 induction s with
 | nil=>rfl
 | cons a r ih=>
  have h1:(0:Int)≤(a.toNat:Int)∧(a.toNat:Int)<256:=⟨by omega,by have:=a.toNat_lt;omega⟩
  have e:z05 (a::r) = .int .u8 a.toNat::z05 r:=rfl
  rw[e]
  unfold z3G
  rw[if_pos h1,ih]
  simp
theorem zqE {u:Bool} {id:Nat} {s:List UInt8} (H:zjT h u id s) (hm:s.length≤200000000000):z0c X zaZ [.ref id 0] h K=K (AS s) (zgc h id s) []:=by
 refine rule ?_
 rw[c_q08w rfl]
 have l:=z2n H.1
 have l2:=z2n H.2
 have g1:=H.1
 have g2:=H.2
 unfold bldB at g1
 have hl:s.length≤z0P:=by unfold z0P;omega
 unfold zgc
 by_cases h0:s=[]
 ·subst h0
  simp only[bldE,List.length_nil] at g1
  simp only[zha,go_sem,g1,g2,z42,hl]
  exact if_pos rfl ▸ trivial
 ·have h0':¬ s.length=0:=by simpa using h0
  have h1:1≤s.length:=by omega
  simp only[bldE] at g1
  have e0:(0:Int)≤(s.length:Int):=by omega
  simp only[zha,go_sem,g1,g2,z42,hl,h0',h1,z9Q,e0,Int.toNat_natCast,h0]
def bh (h:Heap) (u:Bool) (s:List UInt8) (l:Heap):Heap:=h++bldB u h.length s.length :: .row none (z05 s) 0::l
theorem z7C {u:Bool} {s:List UInt8} {l:Heap}:zjT (bh h u s l) u h.length s:=by
 unfold bh
 exact⟨by simp,by rw[List.getElem?_append_right (by omega)];simp⟩
theorem zlT {u:Bool} {s t:List UInt8} {l:Heap}:held (bh h u s l) h.length t=bh h true t l:=by
 unfold held bh
 rw[List.set_append_right _ _ (by omega),List.set_append_right _ _ (by omega),Nat.sub_self,show h.length+1-h.length=1 by omega]
 rfl
theorem s_WS {u:Bool} {s t:List UInt8} {l:Heap} (hm:s.length+t.length≤200000000000):z0c X z5B [.ref h.length 0,AS t] (bh h u s l) K=K (.tup [AI t.length,.nili]) (bh h true (s++t) l) []:=by
 rw[zcd z7C hm,zlT]
theorem s_WB {u:Bool} {s:List UInt8} {c:UInt8} {l:Heap} (hm:s.length+1≤200000000000):z0c X z8O [.ref h.length 0,.p (.int .u8 c.toNat)] (bh h u s l) K=K .nili (bh h true (s++[c]) l) []:=by
 rw[zfZ z7C hm,zlT]
theorem s_BL {u:Bool} {s:List UInt8} {l:Heap}:z0c X z8N [.ref h.length 0] (bh h u s l) K=K (AI s.length) (bh h u s l) []:=s_BLen z7C
theorem zlU {u:Bool} {s:List UInt8} {l:Heap}:(bh h u s l).length=h.length+(l.length+2):=by
 unfold bh
 simp
theorem bh_app {u:Bool} {s:List UInt8} {l l2:Heap}:bh h u s l++l2=bh h u s (l++l2):=by
 unfold bh
 simp
theorem bh_get {u:Bool} {s:List UInt8} {l:Heap} {n:Nat}:(bh h u s l)[h.length+(n+2)]?=l[n]?:=by
 unfold bh
 rw[List.getElem?_append_right (by omega),show h.length+(n+2)-h.length=n+2 by omega]
 rfl
theorem bh_set {u:Bool} {s:List UInt8} {l:Heap} {n:Nat} {o:Obj}:(bh h u s l).set (h.length+(n+2)) o=bh h u s (l.set n o):=by
 unfold bh
 rw[List.set_append_right _ _ (by omega),show h.length+(n+2)-h.length=n+2 by omega]
 rfl
theorem zf6 {u:Bool} {s:List UInt8} {l:Heap} {n:Nat}:(bh h u s l).take (h.length+(n+2))=bh h u s (l.take n):=by
 unfold bh
 rw[List.take_length_add_append]
 rfl
end Go.Am
end
section
/- Numbers asv sets of bits;rows of a test asv numbers. -/
set_option linter.all false
namespace Go.Am
end Go.Am
end
section
/- Lists of faults: what is wrong with them,both ways. -/
open Go
set_option linter.all false
namespace Go.Am
variable {h:Heap} {K:Post}
end Go.Am
end
section
/- Rows of a test asv numbers. -/
open Go
set_option linter.all false
namespace Go.Am
variable {h:Heap} {K:Post}
end Go.Am
end
section
/- Faults on rows: what the program makes of them. -/
open Go
set_option linter.all false
namespace Go.Am
variable {h:Heap} {K:Post}
end Go.Am
end
section
/- Rows that are handed tov a function: it sees their values. -/
open Go
namespace Go.Am
theorem zvg {X:Ctx} {f:Nat} {F:AFun} {a:List AV} {vs:List PV} {h h1:Heap} {P:Post} (hf:X.fn f=some F) (hr:F.byref=false) (hp:z0n h a=some (vs.map .p,h1)) (hq:z0n h1 (vs.map .p)=some (vs.map .p,h1)) (hl:vs.length=F.nparams) (hlen:h1.length=h.length):z0c X f a h P=z0c X f (vs.map .p) h1 P:=by
 cases hd:F.isDet with
 | false=>rw[z0d hf hr hp (by simpa using hl) hd,z0d hf hr hq (by simpa using hl) hd,hlen]
 | true=>rw[z6Q hf hr hp (by simpa using hl) hd,z6Q hf hr hq (by simpa using hl) hd,hlen]
theorem zvJ {h:Heap} {id k:Nat}:(frz h id k).length=h.length:=by
 unfold frz
 split <;> simp
end Go.Am
end
section
/- Responses,asv the program computes them. -/
open Go
set_option linter.all false
namespace Go.Am
variable {h:Heap} {K:Post}
end Go.Am
end
section
/- Faults written. -/
open Go
set_option linter.all false
namespace Go.Am
variable {h:Heap} {K:Post}
def z3y (ns:List Int):List UInt8:=(ns.map fun n=>32::itoa n).flatten
theorem zjj {ns:List Int} {k:Nat} (h:k<ns.length):z3y (ns.take (k+1))=z3y (ns.take k)++32::itoa ns[k]:=by
 unfold z3y
 rw[List.take_succ,List.getElem?_eq_getElem h,List.map_append,List.flatten_append]
 simp
theorem zjk (ns:List Int) (k:Nat):(z3y (ns.take k)).length≤(z3y ns).length:=by
 conv=>rhs;rw[← List.take_append_drop k ns]
 unfold z3y
 rw[List.map_append,List.flatten_append,List.length_append]
 omega
theorem zb3:∀ (ns:List Int),ns≠[]→32::z4a ns=z3y ns
 | [],h=>absurd rfl h
 | [a],_=>by simp [z4a,z3y,List.intercalate]
 | a::b::r,_=>by
  have ih:=zb3 (b::r) (by simp)
  have e:z4a (a::b::r)=itoa a++32::z4a (b::r):=by
   unfold z4a
   simp [List.intercalate,List.intersperse]
  have e2:z3y (a::b::r)=32::itoa a++z3y (b::r):=by simp [z3y]
  rw[e,e2,← ih]
  simp
theorem zwE {b:Nat} {P:Post} {s:List UInt8} {n:Int} {g:Heap} (k:P (.tup [AS s,AI n]) (g.take b) []):retK false b P (some [AS s,AI n]) g [(b,b+2)]:=by
 have e1:∀ m,reif m g (.tup [AS s,AI n])=some (.tup [AS s,AI n]):=fun m=>by simp [reif,z6G]
 have e2:AV.top (.tup [AS s,AI n])=0:=by simp [AV.top,AV.tops]
 have e3:z2a 1 [(b,b+2)] b=b:=by simp [z2a,bump]
 have e4:z1a [(b,b+2)] b=true:=by simp [z1a]
 simp only[retK,z1d,e1,e2,Nat.max_zero,List.length_cons,List.length_nil,Nat.zero_add,e3,e4,if_true]
 refine⟨Nat.zero_le _,?_⟩
 simpa using k
end Go.Am
end
section
/- Records asv texts,plainly: read both ways. -/
set_option linter.all false
namespace Go.Am
def z2E (r:Rec):List UInt8:=r.unit++32::(itoa r.time++32::(r.site++32::(z4a r.res++[10])))
def z04 (l:List Rec):List UInt8:=(l.map z2E).flatten
theorem z6w {l:List Rec} {k:Nat} (hk:k<l.length):z04 (l.take (k+1))=z04 (l.take k)++z2E l[k]:=by
 unfold z04
 rw[List.take_succ_eq_append_getElem hk,List.map_append,List.flatten_append]
 simp
theorem z7w {r:Rec} (h:r.res≠[]):z2E r=(r.unit++32::(itoa r.time++32::r.site))++z3y r.res++[10]:=by
 unfold z2E
 rw[← zb3 r.res h]
 simp
def wr (ws:List (List UInt8)) (i:Nat):List UInt8:=(ws[i]?).getD []
def recZ:Rec:=⟨[],0,[],[]⟩
def rdPR (ws:List (List UInt8)):Rec × Bool:=
 if ws.length<4∨ws.contains []=true then (recZ,false)
 else if numF 15 (wr ws 1)=false then (recZ,false)
 else (⟨wr ws 0,numV (wr ws 1),wr ws 2,if (ws.drop 3).all (numF 15)=true then (ws.drop 3).map numV else []⟩,(ws.drop 3).all (numF 15))
def zf5 (ws:List (List UInt8)):Bool:=ws.contains []||decide (ws.length<4)
def rdQR (ws:List (List UInt8)):Rec × Bool:=(⟨wr ws 0,numR 15 (wr ws 1),wr ws 2,(ws.drop 3).map (numR 15)⟩,numF 15 (wr ws 1)&&(ws.drop 3).all (numF 15))
def tkPR (rs:List Rec) (s:List UInt8):Bool × List Rec:=((rdPR (z0m 32 s)).2,rs++[(rdPR (z0m 32 s)).1])
def tkQR (rs:List Rec) (s:List UInt8):Bool × List Rec:=if zf5 (z0m 32 s)=true then (false,rs) else ((rdQR (z0m 32 s)).2,rs++[(rdQR (z0m 32 s)).1])
theorem tkR_eq (rs:List Rec) (s:List UInt8):(tkPR rs s).1=(tkQR rs s).1∧((tkPR rs s).1=true→(tkPR rs s).2=(tkQR rs s).2):=by
 have no:(tkPR rs s).1=false→(tkQR rs s).1=false→(tkPR rs s).1=(tkQR rs s).1∧((tkPR rs s).1=true→(tkPR rs s).2=(tkQR rs s).2):=fun e1 e2=>by
  rw[e1,e2];exact⟨rfl,fun e=>by cases e⟩
 have pp:tkPR rs s=((rdPR (z0m 32 s)).2,rs++[(rdPR (z0m 32 s)).1]):=rfl
 have qq:tkQR rs s=if zf5 (z0m 32 s)=true then (false,rs) else ((rdQR (z0m 32 s)).2,rs++[(rdQR (z0m 32 s)).1]):=rfl
 generalize z0m 32 s=ws at pp qq
 by_cases h:ws.length<4∨ws.contains []=true
 ·have hb:zf5 ws=true:=by
   unfold zf5
   rcases h with h | h
   ·simp [h]
   ·rw[h];rfl
  refine no ?_ ?_
  ·rw[pp];unfold rdPR;rw[if_pos h]
  ·rw[qq,if_pos hb]
 ·have hb:¬ zf5 ws=true:=by
   unfold zf5
   rw[not_or] at h
   have h2:ws.contains []=false:=by simpa using h.2
   rw[h2]
   simpa using h.1
  rw[if_neg hb] at qq
  by_cases h1:numF 15 (wr ws 1)=false
  ·refine no ?_ ?_
   ·rw[pp];unfold rdPR;rw[if_neg h,if_pos h1]
   ·rw[qq];unfold rdQR;rw[h1];rfl
  ·have h1':numF 15 (wr ws 1)=true:=by simpa using h1
   have eP:rdPR ws=(⟨wr ws 0,numV (wr ws 1),wr ws 2,if (ws.drop 3).all (numF 15)=true then (ws.drop 3).map numV else []⟩,(ws.drop 3).all (numF 15)):=by
    unfold rdPR;rw[if_neg h,if_neg h1]
   have eQ:rdQR ws=(⟨wr ws 0,numR 15 (wr ws 1),wr ws 2,(ws.drop 3).map (numR 15)⟩,(ws.drop 3).all (numF 15)):=by
    unfold rdQR;rw[h1',Bool.true_and]
   rw[pp,qq,eP,eQ]
   refine⟨rfl,fun e=>?_⟩
   dsimp only at e ⊢
   have hall:∀ x∈ws.drop 3,numF 15 x=true:=fun x hx=>List.all_eq_true.1 e x hx
   have em:(ws.drop 3).map (numR 15)=(ws.drop 3).map numV:=List.map_congr_left fun x hx=>zuF (hall x hx)
   rw[if_pos e,em,zuF h1']
theorem zxh (tail:Bool) (ls:List (List UInt8)) (i:Nat) (rs:List Rec):(lnsF tkPR tail i ls rs).1=(lnsF tkQR tail i ls rs).1∧((lnsF tkPR tail i ls rs).1.2=true→(lnsF tkPR tail i ls rs).2=(lnsF tkQR tail i ls rs).2):=by
 refine zh2 (fun a b=>a=b) (fun s t l e=>?_) tail ls i rs rs rfl
 subst e
 exact tkR_eq s l
end Go.Am
end
section
/- A text taken line by line: base.Each,scanref2.Lines. -/
open Go
set_option linter.all false
namespace Go.Am
variable {h:Heap} {K:Post}
attribute [-go_sem] z83
theorem z49 (s:List UInt8):(zev s=true∧z1k s=lnsD s∧lnsT s=false)∨(zev s=false∧(∃ t,z1k s=lnsD s++[t])∧lnsT s=true):=by
 by_cases h0:s=[]
 ·subst h0
  exact .inl ⟨rfl,rfl,rfl⟩
 ·by_cases h1:s.getLast?=some 10
  ·left
   obtain⟨e1,e2⟩:=ziG h1
   refine⟨by simp [zev,z2L,h1],?_,e2⟩
   unfold z1k z2I z2L
   rw[if_neg h0,if_pos (by simpa using h1),e1]
  ·right
   obtain⟨t,e1,e2⟩:=zpW h0 h1
   refine⟨by simp [zev,z2L,h0,h1],⟨t,?_⟩,e2⟩
   unfold z1k z2I z2L
   rw[if_neg h0,if_neg (by simpa using h1),e1]
theorem z48 {s l:List UInt8} (h:l∈lnsD s):l.length≤s.length:=z2f (List.dropLast_subset _ h)
theorem z5F (s:List UInt8):(lnsD s).length≤s.length:=by
 unfold lnsD
 rw[List.length_dropLast,z0M]
 have:s.count 10≤s.length:=List.count_le_length
 omega
theorem s_Each {σ:Type} (c:Nat) (caps:List AV) (take:σ→List UInt8→Bool × σ) (H:σ→Heap) (I:Nat→σ→Prop) (s:List UInt8) (hs:s.length≤900000) (n:Nat) (hn:∀ t,(H t).length=n)
 (hc:∀ (k:Nat) (t:σ) (l:List UInt8) (K:Post),I k t→k≤900000→l.length≤s.length→z0c X c (AS l::caps) (H t) K=K (AB (take t l).1) (H (take t l).2) [])
 (hI:∀ (k:Nat) (t:σ) (l:List UInt8),I k t→l.length≤s.length→(take t l).1=true→I (k+1) (take t l).2) (t0:σ) (h0:I 0 t0) {K:Post} :
 z0c X zar [AS s,.fn c caps] (H t0) K=K (.tup [AI (lnsF take (lnsT s) 0 (lnsD s) t0).1.1,AB (lnsF take (lnsT s) 0 (lnsD s) t0).1.2]) (H (lnsF take (lnsT s) 0 (lnsD s) t0).2) []:=by
 refine rule ?_
 rw[c_q001 rfl]
 have q:=fun h K=>zwJ (h:=h) (K:=K) s (by omega)
 have hD:=z5F s
 simp only[zg3,go_sem,↓q,q]
 have hT:∀ t,List.take (List.length (H t0)) (H t)=H t:=fun t=>List.take_of_length_le (by rw[hn,hn];exact Nat.le_refl _)
 have hLl:(z1k s).length≤(lnsD s).length+1∧(lnsD s).length≤(z1k s).length:=by
  rcases z49 s with ⟨e1,e2,e3⟩ | ⟨e1,⟨t,e2⟩,e3⟩ <;> rw[e2] <;> simp
 refine z0D (fun y:Nat × σ=>⟨[(1,.fn c caps),(6,AStr (z1k s)),(7,AB (zev s)),(15,AStr (z1k s)),(16,AI (z1k s).length),(17,AI y.1)],H y.2,[]⟩) (fun y=>I y.1 y.2∧y.1≤(lnsD s).length∧lnsF take (lnsT s) 0 (lnsD s) t0=lnsF take (lnsT s) y.1 ((lnsD s).drop y.1) y.2) (fun y=>(lnsD s).length-y.1) (0,t0) (by simp) ⟨h0,by omega,rfl⟩ ?_
 rintro⟨k,t⟩ ⟨hi,hk,hF⟩
 dsimp only at hi hk hF ⊢
 rw[hF]
 rcases Nat.lt_or_ge k (lnsD s).length with hlt | hge
 ·have hL:k<(z1k s).length:=by omega
  have hg:(z1k s)[k]=(lnsD s)[k]:=by
   rcases z49 s with ⟨e1,e2,e3⟩ | ⟨e1,⟨t,e2⟩,e3⟩
   ·simp only[e2]
   ·simp only[e2]
    rw[List.getElem_append_left hlt]
  have hL':(k:Int)<((z1k s).length:Int):=by omega
  have hgm:=z0C PV.str hL
  rw[hg] at hgm
  have cz:cutP none 0 (PV.str (lnsD s)[k])=some (PV.str (lnsD s)[k]):=rfl
  have hll:((lnsD s)[k]).length≤s.length:=z48 (List.getElem_mem hlt)
  have wk:IntKind.i64.wrap ((k:Int)+1)=((k+1:Nat):Int):=z0h _ (by omega) (by omega)
  have wl:IntKind.i64.wrap (((z1k s).length:Int)-1)=(((z1k s).length-1:Nat):Int):=by rw[z0h _ (by omega) (by omega)];omega
  have hq:=fun K=>hc k t (lnsD s)[k] K hi (by omega) hll
  rw[List.drop_eq_getElem_cons hlt,z3Y]
  rcases z49 s with ⟨e1,e2,e3⟩ | ⟨e1,⟨t1,e2⟩,e3⟩
  ·cases hb:(take t (lnsD s)[k]).1 with
   | true=>
    rw[hb] at hq
    simp only[go_sem,hL',hL,hgm,cz,e1,↓hq,hq,wk,cond_true]
    exact⟨(k+1,(take t (lnsD s)[k]).2),rfl,⟨hI k t _ hi hll hb,by omega,rfl⟩,by simp;omega⟩
   | false=>
    rw[hb] at hq
    simp only[go_sem,hL',hL,hgm,cz,e1,↓hq,hq,wk,cond_false,hT]
  ·have hne:¬ (k:Int)=(((z1k s).length-1:Nat):Int):=by
    rw[e2];simp;omega
   cases hb:(take t (lnsD s)[k]).1 with
   | true=>
    rw[hb] at hq
    simp only[go_sem,hL',hL,hgm,cz,e1,wl,hne,↓hq,hq,wk,cond_true]
    exact⟨(k+1,(take t (lnsD s)[k]).2),rfl,⟨hI k t _ hi hll hb,by omega,rfl⟩,by simp;omega⟩
   | false=>
    rw[hb] at hq
    simp only[go_sem,hL',hL,hgm,cz,e1,wl,hne,↓hq,hq,wk,cond_false,hT]
 ·have hk':k=(lnsD s).length:=by omega
  subst hk'
  rw[List.drop_length,z5G]
  rcases z49 s with ⟨e1,e2,e3⟩ | ⟨e1,⟨t1,e2⟩,e3⟩
  ·have hL':¬ ((lnsD s).length:Int)<((z1k s).length:Int):=by rw[e2];omega
   have hL:¬ (lnsD s).length<(z1k s).length:=by rw[e2];omega
   simp only[go_sem,hL',hL,decide_false,e3,cond_false]
   rw[z83]
   simp only[z8e,go_sem,hT]
  ·have hL:(lnsD s).length<(z1k s).length:=by rw[e2];simp
   have hL':((lnsD s).length:Int)<((z1k s).length:Int):=by omega
   have hgm:=z0C PV.str hL
   have cz:cutP none 0 (PV.str (z1k s)[(lnsD s).length])=some (PV.str (z1k s)[(lnsD s).length]):=rfl
   have wl:IntKind.i64.wrap (((z1k s).length:Int)-1)=((lnsD s).length:Int):=by rw[z0h _ (by omega) (by omega),e2];simp
   simp only[go_sem,hL',hL,hgm,cz,e1,wl,e3,cond_true,hT]
theorem s_CutC (a b:List UInt8) (c:UInt8) (ha:c∉a) (hs:(a++c::b).length≤1000000):z0c X z8P [AS (a++c::b),AS [c]] h K=K (.tup [AS a,AS b,AB true]) h []:=by
 have key:∀ (h:Heap) (K:Post),z0c X z8E [AS (a++c::b),AS [c]] h K=K (.tup [AS a,AS b,AB true]) h []:=by
  intro h K
  refine rule ?_
  rw[zuu rfl]
  have q:=fun h K=>z6H (h:=h) (K:=K) (a++c::b) c hs
  rw[zpc a b c ha] at q
  have W1:win (a++c::b) 0 a.length=a:=by unfold win;simp
  have W2:win (a++c::b) (a.length+1) (a.length+(b.length+1)-(a.length+1))=b:=by unfold win;rw[show a++c::b=(a++[c])++b by simp,List.drop_left' (by simp)];exact List.take_of_length_le (by omega)
  have hp:¬ (a.length:Int)<0:=by omega
  have hp2:(0:Int)≤a.length:=by omega
  have hl:a.length≤(a++c::b).length:=by simp
  have hl2:a.length+1≤(a++c::b).length:=by simp
  have w:IntKind.i64.wrap ((a.length:Int)+1)=((a.length+1:Nat):Int):=z0h _ (by simp at hs;omega) (by simp at hs;omega)
  simp only[zg8,go_sem,↓q,q,hp,hp2,hl,hl2,w,W1,W2,List.length_cons,List.length_nil]
 refine rule ?_
 rw[zuz rfl]
 simp only[zhc,go_sem,↓key,key]
theorem zwH (s:List UInt8) (c:UInt8) (ha:c∉s) (hs:s.length≤1000000):z0c X z8P [AS s,AS [c]] h K=K (.tup [AS s,AS [],AB false]) h []:=by
 have key:∀ (h:Heap) (K:Post),z0c X z8E [AS s,AS [c]] h K=K (.tup [AS s,AS [],AB false]) h []:=by
  intro h K
  refine rule ?_
  rw[zuu rfl]
  have q:=fun h K=>z6H (h:=h) (K:=K) s c hs
  rw[zvN ha] at q
  have hp:¬ (0:Int) ≤ -1:=by omega
  simp only[zg8,go_sem,↓q,q,hp]
 refine rule ?_
 rw[zuz rfl]
 simp only[zhc,go_sem,↓key,key]
theorem z2d (s:List UInt8):(lnsD s).length=s.count 10:=by
 unfold lnsD
 rw[List.length_dropLast,z0M]
 omega
theorem zwD {s:List UInt8} {k:Nat} (h:k<(lnsD s).length):∃ b,z1v 10 k s=(lnsD s)[k]++10::b∧(10:UInt8)∉(lnsD s)[k]∧z1v 10 (k+1) s=b:=by
 have hk:k<s.count 10:=by rw[← z2d];exact h
 obtain⟨h1,h2,h3⟩:=z3s 10 k s (by omega)
 obtain⟨a,b,e,ha⟩:=zmq (c:=10) (s:=z1v 10 k s) (List.count_pos_iff.1 (by omega))
 rw[e,z4E ha] at h1
 have hl:k<(z0m 10 s).length:=by rw[z0M];omega
 rw[List.drop_eq_getElem_cons hl] at h1
 injection h1 with h1 h4
 have e2:(lnsD s)[k]=a:=by
  rw[h1]
  exact List.getElem_dropLast h
 refine⟨b,by rw[e2];exact e,by rw[e2];exact ha,?_⟩
 rw[z9y,e]
 exact zvE ha
theorem zta (s:List UInt8):(10:UInt8)∉z1v 10 (lnsD s).length s∧lnsT s = !(z1v 10 (lnsD s).length s).isEmpty:=by
 obtain⟨h1,h2,h3⟩:=z3s 10 (lnsD s).length s (by rw[z2d];exact Nat.le_refl _)
 rw[z2d,Nat.sub_self] at h3
 have hn:(10:UInt8)∉z1v 10 (lnsD s).length s:=by rw[z2d];exact List.count_eq_zero.1 h3
 refine⟨hn,?_⟩
 rw[z5j hn] at h1
 unfold lnsT
 have:(z0m 10 s).getLast?=some (z1v 10 (lnsD s).length s):=by
  have hl:(lnsD s).length<(z0m 10 s).length:=by rw[z0M,z2d];omega
  have:=List.getLast?_drop (l:=z0m 10 s) (i:=(lnsD s).length)
  rw[if_neg (by omega),← h1] at this
  simpa using this.symm
 rw[this]
 rfl
attribute [-go_sem] z89
theorem ztj {σ:Type} (c:Nat) (caps:List AV) (take:σ→List UInt8→Bool × σ) (H:σ→Heap) (I:Nat→σ→Prop) (s:List UInt8) (hs:s.length≤900000) (n:Nat) (hn:∀ t,(H t).length=n)
 (hc:∀ (k:Nat) (t:σ) (l:List UInt8) (K:Post),I k t→k≤900000→l.length≤s.length→z0c X c (AS l::caps) (H t) K=K (AB (take t l).1) (H (take t l).2) [])
 (hI:∀ (k:Nat) (t:σ) (l:List UInt8),I k t→l.length≤s.length→(take t l).1=true→I (k+1) (take t l).2) (t0:σ) (h0:I 0 t0) {K:Post} :
 z0c X zaH [AS s,.fn c caps] (H t0) K=K (.tup [AI (lnsF take (lnsT s) 0 (lnsD s) t0).1.1,AB (lnsF take (lnsT s) 0 (lnsD s) t0).1.2]) (H (lnsF take (lnsT s) 0 (lnsD s) t0).2) []:=by
 refine rule ?_
 rw[c_q045 rfl]
 have hD:=z5F s
 have hT:∀ t,List.take (List.length (H t0)) (H t)=H t:=fun t=>List.take_of_length_le (by rw[hn,hn];exact Nat.le_refl _)
 simp only[zgO,go_sem]
 refine z0D (fun y:Nat × σ=>⟨[(0,AS (z1v 10 y.1 s)),(1,.fn c caps),(6,AI y.1)],H y.2,[]⟩) (fun y=>I y.1 y.2∧y.1≤(lnsD s).length∧lnsF take (lnsT s) 0 (lnsD s) t0=lnsF take (lnsT s) y.1 ((lnsD s).drop y.1) y.2) (fun y=>(lnsD s).length-y.1) (0,t0) (by simp [z1v]) ⟨h0,by omega,rfl⟩ ?_
 rintro⟨k,t⟩ ⟨hi,hk,hF⟩
 dsimp only at hi hk hF ⊢
 rw[hF]
 have hr:=(z3s 10 k s (by rw[← z2d];exact hk)).2.1
 rcases Nat.lt_or_ge k (lnsD s).length with hlt | hge
 ·obtain⟨b,e,hne,e2⟩:=zwD hlt
  rw[e] at hr
  have hcut:=fun h K=>s_CutC (h:=h) (K:=K) _ b 10 hne (by omega)
  rw[← e] at hcut
  have h0:¬ z1v 10 k s=[]:=by rw[e];simp
  have hll:((lnsD s)[k]).length≤s.length:=z48 (List.getElem_mem hlt)
  have wk:IntKind.i64.wrap ((k:Int)+1)=((k+1:Nat):Int):=z0h _ (by omega) (by omega)
  have hq:=fun K=>hc k t (lnsD s)[k] K hi (by omega) hll
  rw[List.drop_eq_getElem_cons hlt,z3Y]
  cases hb:(take t (lnsD s)[k]).1 with
  | true=>
   rw[hb] at hq
   simp only[go_sem,h0,↓hcut,hcut,↓hq,hq,wk,cond_true]
   exact⟨(k+1,(take t (lnsD s)[k]).2),by simp only[e2],⟨hI k t _ hi hll hb,by omega,rfl⟩,by simp;omega⟩
  | false=>
   rw[hb] at hq
   simp only[go_sem,h0,↓hcut,hcut,↓hq,hq,wk,cond_false,hT]
 ·have hk':k=(lnsD s).length:=by omega
  subst hk'
  rw[List.drop_length,z5G]
  obtain⟨r1,r2⟩:=zta s
  by_cases h0:z1v 10 (lnsD s).length s=[]
  ·rw[h0] at r2
   simp only[go_sem,h0,r2,List.isEmpty_nil,Bool.not_true,cond_false]
   rw[z89]
   simp only[z8q,go_sem,hT]
  ·have hcut:=fun h K=>zwH (h:=h) (K:=K) _ 10 r1 (by omega)
   have r3:lnsT s=true:=by rw[r2];cases hq:z1v 10 (lnsD s).length s with | nil=>exact absurd hq h0 | cons a b=>rfl
   simp only[go_sem,h0,r3,↓hcut,hcut,cond_true,hT]
end Go.Am
end
section
/- Faults read. -/
open Go
set_option linter.all false
namespace Go.Am
variable {h:Heap} {K:Post}
end Go.Am
end
section
/- Lists of faults read. -/
open Go
set_option linter.all false
namespace Go.Am
variable {h:Heap} {K:Post}
end Go.Am
end
section
/- fault.Read,scanref2.FaultsRead. -/
open Go
set_option linter.all false
namespace Go.Am
variable {h:Heap} {K:Post}
theorem frzA {h:Heap} {sh:Sh} {xs:List PV} {o:Obj} {k:Nat}:frz (h++[.row sh xs 0,o]) h.length k=h++[.row sh xs k,o]:=by
 unfold frz
 rw[List.getElem?_append_right (Nat.le_refl _),Nat.sub_self]
 simp
end Go.Am
end
section
/- Sorting the middle of a row: printed by program. -/
open Go
set_option linter.unusedSimpArgs false
namespace Go.Am
attribute [-go_sem] PV.cells splice
variable {h:Heap} {K:Post}
end Go.Am
end
section
/- What is drawn: orders,tests. -/
open Go
set_option linter.all false
namespace Go.Am
variable {L:List Int} {a:Int} {h l:Heap} {id:Nat} {K:Post}
def GenK (f:Nat) (args:List AV) (L:List Int) (a:Int) (sh:Sh) (Q:List PV→Int→Prop):Prop:=∀ (h:Heap) (id:Nat),h[id]?=some (strm L a)→∃ xs a2,Q xs a2∧∀ K:Post,z0c X f (.ref id 0::args) h K=K (.own h.length xs.length 0 xs.length) (h.set id (strm L a2)++[.row sh xs 0]) []
theorem GenK.of {f:Nat} {args:List AV} {L:List Int} {a:Int} {sh:Sh} {Q:List PV→Int→Prop} (H:∀ (h:Heap) (id:Nat),id<h.length→z0c X f (.ref id 0::args) (h.set id (strm L a)) fun v1 h1 x1=>∃ xs a2,Q xs a2∧v1 = .own h.length xs.length 0 xs.length∧h1=h.set id (strm L a2)++[.row sh xs 0]∧x1=[]):GenK f args L a sh Q:=by
 intro h id hh
 have hid:=z2n hh
 have k:=H h id hid
 rw[z4C hh] at k
 obtain⟨v,h',x,⟨xs,a2,q,e0,e1,e2⟩,r⟩:=z0c.one zgs k
 subst e0;subst e1;subst e2
 exact⟨xs,a2,q,r⟩
end Go.Am
end
section
/- A text changed at random. -/
open Go
set_option linter.all false
namespace Go.Am
variable {L:List Int} {a:Int} {h l:Heap} {id:Nat} {K:Post}
theorem zri {α:Type} (xs:List α) (a n:Nat):(win xs a n).length≤n:=by simp [win];omega
theorem zoT (t w:List UInt8) (ht:t.length≤1000000) (hw:w.length≤1000) (hw0:w≠[]) (ha:w.all (fun b=>decide (b.toNat<128))=true) (hp:posN 3 a):GenE zaE [AS t,AS w] L a (fun v a2=>a≤a2∧a2≤a+3∧∃ t':List UInt8,t'.length≤t.length+w.length∧v=AS t'):=by
 refine GenE.of fun h id hid=>?_
 rw[c_q03b rfl]
 by_cases h0:t=[]
 ·subst h0
  simp only[zgK,go_sem,hid,hw0]
  exact⟨a,⟨by omega,by omega,w,by omega,rfl⟩,rfl⟩
 ·have hl:0<t.length:=List.length_pos_iff.2 h0
  have hlw:0<w.length:=List.length_pos_iff.2 hw0
  have p0:=z0K (n:=0) hp (Int.le_refl a) (by omega)
  have p1:posN 0 (a+1):=z0K hp (by omega) (by omega)
  have p2:posN 0 (a+1+1):=z0K hp (by omega) (by omega)
  obtain⟨n1,n2⟩:=z1N L a t.length (by omega) (by omega)
  obtain⟨i,hi⟩:=Int.eq_ofNat_of_zero_le n1
  rw[hi] at n2
  obtain⟨m1,m2⟩:=z1N L (a+1) w.length (by omega) (by omega)
  obtain⟨j,hj⟩:=Int.eq_ofNat_of_zero_le m1
  rw[hj] at m2
  have hjl:j<w.length:=by omega
  have hgj:w[j]?=some w[j]:=List.getElem?_eq_getElem hjl
  have hc:(w[j]).toNat<128:=by
   have:=List.all_eq_true.1 ha _ (List.getElem_mem hjl)
   simpa using this
  have wc:IntKind.i32.wrap ((w[j]).toNat:Int)=((w[j]).toNat:Int):=by simp [IntKind.wrap,IntKind.bits,IntKind.signed];omega
  have wi:IntKind.i64.wrap ((i:Int)+1)=((i+1:Nat):Int):=z0h _ (by omega) (by omega)
  have hil:i≤t.length:=by omega
  have hil2:i+1≤t.length:=by omega
  have c0:(0:Int)≤((w[j]).toNat:Int):=by omega
  have c1:((w[j]).toNat:Int)<128:=by omega
  have l1:=zri t 0 i
  have l2:=zri t (i+1) (t.length-(i+1))
  have l3:=zri t i (t.length-i)
  have mx:3000000≤z1o:=by unfold z1o;omega
  simp only[zgK,go_sem,hid,h0,hw0,p0,p1,p2,hi,hj,hgj]
  by_cases z0:z1l L (a+1+1) 3=0
  ·simp only[go_sem,z0,hil,hil2,wc,wi,c0,c1]
   rw[if_pos (by omega),if_pos (by first | omega | (simp only[List.length_append,List.length_cons,List.length_nil];omega))]
   exact⟨a+1+1+1,⟨by omega,by omega,_,by simp only[List.length_append,List.length_cons,List.length_nil];omega,rfl⟩,rfl⟩
  ·by_cases z1:z1l L (a+1+1) 3=1
   ·have z0':¬ (1:Int)=0:=by omega
    simp only[go_sem,z1,z0',hil,hil2,wc,wi,c0,c1]
    rw[if_pos (by omega),if_pos (by first | omega | (simp only[List.length_append,List.length_cons,List.length_nil];omega))]
    exact⟨a+1+1+1,⟨by omega,by omega,_,by simp only[List.length_append,List.length_cons,List.length_nil];omega,rfl⟩,rfl⟩
   ·simp only[go_sem,z0,z1,hil,hil2,wc,wi,c0,c1]
    rw[if_pos (by omega)]
    exact⟨a+1+1+1,⟨by omega,by omega,_,by simp only[List.length_append];omega,rfl⟩,rfl⟩
theorem decN18 {n:Nat} (h:n≤9000000000000000000):(decN n).length≤19:=(zbG 18 n (by omega)).2
theorem z7G {n:Int} (h1 : -9000000000000000000≤n) (h2:n≤9000000000000000000):(itoa n).length≤20:=by
 unfold itoa
 have:=decN18 (n:=n.natAbs) (by omega)
 split
 ·simp;omega
 ·omega
end Go.Am
end
section
/- What is drawn: faults. -/
open Go
set_option linter.all false
namespace Go.Am
variable {L:List Int} {a:Int} {h l:Heap} {id:Nat} {K:Post}
end Go.Am
end
section
/- Deleting faults: printed by program. -/
open Go
set_option linter.unusedSimpArgs false
namespace Go.Am
attribute [-go_sem] PV.cells splice
variable {h:Heap} {K:Post}
attribute [-go_sem] AV.cells cut
attribute [go_sem] AV.cells cut
end Go.Am
end
section
/- What is drawn: lists of faults. -/
open Go
set_option linter.all false
namespace Go.Am
variable {L:List Int} {a:Int} {h l:Heap} {id:Nat} {K:Post}
end Go.Am
end
section
/- Stable sorts of numbers: printed by program. -/
open Go
set_option linter.unusedSimpArgs false
namespace Go.Am
attribute [-go_sem] PV.cells splice
variable {h:Heap} {K:Post}
end Go.Am
end
section
/- Faults compared;texts of faults drawn. -/
open Go
set_option linter.all false
namespace Go.Am
variable {L:List Int} {a:Int} {h:Heap} {K:Post}
theorem zsO {f:Nat} {F:AFun} {id fz:Nat} {sh:Sh} {xs:List PV} {v:PV} (hf:X.fn f=some F) (hr:F.byref=false) (hl:F.nparams=2) (hh:h[id]?=some (.row sh xs fz)):z0c X f [.p v,.own id xs.length 0 xs.length] h K=z0c X f [.p v,.p (.sl sh xs)] (frz h id xs.length) K:=
 zvg (X:=X) (a:=[.p v,.own id xs.length 0 xs.length]) (vs:=[v,.sl sh xs]) hf hr (by
  have:win xs 0 xs.length=xs:=z4G rfl
  simp [z0n,pur,rd,hh,this]) rfl (by simp [hl]) zvJ
theorem z8Z:∀ (l:List Int),(∀ n∈l,-9000000000000000000≤n∧n≤9000000000000000000)→(z4a l).length≤21*l.length
 | [],_=>by simp [z4a]
 | [x],h=>by
  have:=z7G (h x (by simp)).1 (h x (by simp)).2
  simp [z4a,List.intercalate]
  omega
 | x::y::r,h=>by
  have ih:=z8Z (y::r) (fun n hn=>h n (by simp [hn]))
  have e:z4a (x::y::r)=itoa x++32::z4a (y::r):=by
   unfold z4a
   simp [List.intercalate,List.intersperse]
  have:=z7G (h x (by simp)).1 (h x (by simp)).2
  rw[e]
  simp only[List.length_append,List.length_cons] at ih ⊢
  omega
end Go.Am
end
section
/- Records read: a line,both ways. -/
open Go
set_option linter.all false
set_option maxRecDepth 100000
namespace Go.Am
variable {h:Heap} {K:Post}
theorem zb5 {ws:List (List UInt8)} {i:Nat} (hi:i<ws.length):(ws.map PV.str)[i]?=some (.str (wr ws i)):=by
 unfold wr
 rw[List.getElem?_map,List.getElem?_eq_getElem hi]
 rfl
theorem zb6 (s:List UInt8) (i:Nat):(wr (z0m 32 s) i).length≤s.length:=by
 unfold wr
 cases hx:(z0m 32 s)[i]? with
 | none=>simp
 | some x=>exact z2f (List.mem_of_getElem? hx)
theorem win3 (ws:List (List UInt8)):win (ws.map PV.str) 3 (ws.length-3)=(ws.drop 3).map PV.str:=by
 unfold win
 rw[← List.map_drop,List.take_of_length_le (by simp)]
theorem zbH (s:List UInt8):(∀ w∈(z0m 32 s).drop 3,w.length≤s.length)∧((z0m 32 s).drop 3).length≤s.length+1:=by
 refine⟨fun w hw=>z2f (List.mem_of_mem_drop hw),?_⟩
 rw[List.length_drop,z0M]
 have:s.count 32≤s.length:=List.count_le_length
 omega
def HR (h:Heap) (rs:List Rec):Heap:=h++[.row (some 4) (rs.map Rec.pv) 0,.box [.own h.length rs.length 0 rs.length]]
theorem ztD (h:Heap) (rs:List Rec):(HR h rs).length=h.length+2:=by simp [HR]
theorem s_RQ1 (rs:List Rec) (s:List UInt8) (hs:s.length≤900000) (hf:rs.length≤1000000):z0c X z8J [AS s,.ref (h.length+1) 0] (HR h rs) K=K (AB (tkQR rs s).1) (HR h (tkQR rs s).2) []:=by
 refine rule ?_
 rw[c_q04e rfl]
 have q:=fun h K=>ztm (h:=h) (K:=K) s hs
 have l1:=zb6 s 1
 obtain⟨b1,b2⟩:=zbH s
 have qn:=fun h K=>zeU (h:=h) (K:=K) (wr (z0m 32 s) 1) 15 (by omega) (by omega)
 have qs:=fun h K=>zeV (h:=h) (K:=K) ((z0m 32 s).drop 3) 15 (by omega) (fun w hw=>by have:=b1 w hw;omega) (by omega)
 have e15:((15:Nat):Int)=15:=rfl
 rw[e15] at qn qs
 have w3:=win3 (z0m 32 s)
 unfold zuR at q
 unfold HR tkQR rdQR zf5
 generalize z0m 32 s=ws at *
 have cw:∀ w:List UInt8,cutP none 0 (PV.str w)=some (PV.str w):=fun _=>rfl
 have hm:rs.length+1≤z0P:=by unfold z0P;omega
 have hl:(rs.map Rec.pv).length=rs.length:=List.length_map ..
 cases hc:ws.contains [] with
 | true=>
  rw[hc] at q
  simp only[zao,go_sem,↓q,q,Bool.not_true,Bool.true_or,if_true]
 | false=>
  rw[hc] at q
  by_cases h4:ws.length<4
  ·have h4':(ws.length:Int)<4:=by omega
   simp only[zao,go_sem,↓q,q,Bool.not_false,Bool.false_or,h4,h4',decide_true,if_true]
  ·have h4':¬ (ws.length:Int)<4:=by omega
   have i0:0<ws.length:=by omega
   have i1:1<ws.length:=by omega
   have i2:2<ws.length:=by omega
   have i3:3≤ws.length:=by omega
   have g0:=zb5 i0
   have g1:=zb5 i1
   have g2:=zb5 i2
   have fp:∀ r:Rec,Rec.pv r = .agg [.str r.unit,eI r.time,.str r.site,.sl none (r.res.map eI)]:=fun _=>rfl
   have hz:∀ a b c d,PV.shp (some 4) (.agg [.str a,.int .i64 b,.str c,.sl none d])=true:=fun _ _ _ _=>rfl
   simp only[h4,decide_false,Bool.or_false,Bool.false_eq_true,if_false]
   cases hn:numF 15 (wr ws 1) with
   | false=>
    simp only[zao,go_sem,↓q,q,Bool.not_false,h4',g0,g1,g2,i0,i1,i2,i3,cw,w3,↓qn,qn,↓qs,qs,hn,hm,hl,hz,z1C,AV.top,Nat.lt_irrefl,Nat.not_lt_zero,List.map_append,fp,Bool.false_and]
   | true=>
    simp only[zao,go_sem,↓q,q,Bool.not_false,h4',g0,g1,g2,i0,i1,i2,i3,cw,w3,↓qn,qn,↓qs,qs,hn,hm,hl,hz,z1C,AV.top,Nat.lt_irrefl,Nat.not_lt_zero,List.map_append,fp,Bool.true_and]
end Go.Am
end
section
/- Records read: the program's line. -/
open Go
set_option linter.all false
set_option maxRecDepth 100000
namespace Go.Am
variable {h:Heap} {K:Post}
theorem zgb (s:List UInt8) (hs:s.length≤900000):z0c X za9 [AS s] h K=K (.tup [.p (rdPR (z0m 32 s)).1.pv,AB (rdPR (z0m 32 s)).2]) h []:=by
 refine rule ?_
 rw[c_q02e rfl]
 have q:=fun h K=>zfY (h:=h) (K:=K) s 32 (by omega)
 have hlw:(z0m 32 s).length≤1000000:=by
  rw[z0M]
  have:s.count 32≤s.length:=List.count_le_length
  omega
 have qc:=fun h K=>zcu (h:=h) (K:=K) (z0m 32 s) (fun h' _=>strS _) [] hlw
 have l1:=zb6 s 1
 obtain⟨b1,b2⟩:=zbH s
 have qn:=fun h K=>zeT (h:=h) (K:=K) (wr (z0m 32 s) 1) 15 (by omega) (by omega)
 have qs:=fun h K=>ziT (h:=h) (K:=K) ((z0m 32 s).drop 3) 15 (by omega) (fun w hw=>by have:=b1 w hw;omega) (by omega)
 have e15:((15:Nat):Int)=15:=rfl
 rw[e15] at qn qs
 have w3:=win3 (z0m 32 s)
 generalize z0m 32 s=ws at *
 have cw:∀ w:List UInt8,cutP none 0 (PV.str w)=some (PV.str w):=fun _=>rfl
 have fp:∀ r:Rec,Rec.pv r = .agg [.str r.unit,eI r.time,.str r.site,.sl none (r.res.map eI)]:=fun _=>rfl
 have hE:∀ b:Nat,∀ y∈z1C b (AV.agg [AV.p (PV.str []),AV.p (PV.int IntKind.i64 0),AV.p (PV.str []),AV.sl0 none]),b≤y.1:=by simp [z1C,AV.top,AV.tops]
 have hZ:∀ (x:Esc),(∀ y∈x,h.length≤y.1)→retK false (List.length h) (fun v1 h1 x1=>v1=AV.tup [AV.p (PV.agg [PV.str [],eI 0,PV.str [],PV.sl none []]),AB false]∧h1=h∧x1=[]) (some [AV.agg [AV.p (PV.str []),AV.p (PV.int IntKind.i64 0),AV.p (PV.str []),AV.sl0 none],AV.p (PV.bool false)]) (h++[Obj.box [AV.p (PV.str []),AV.p (PV.int IntKind.i64 0),AV.p (PV.str []),AV.sl0 none]]) x:=fun x hx=>by
  rw[ztc (v:=.tup [.p (.agg [.str [],eI 0,.str [],.sl none []]),AB false]) hx rfl (by simp [AV.top,AV.tops])]
  simp
 unfold rdPR
 by_cases h4:ws.length<4
 ·have h4':(ws.length:Int)<4:=by omega
  rw[if_pos (.inl h4)]
  simp only[zai,go_sem,↓q,q,h4',splice,recZ,fp]
  exact hZ _ (hE _)
 ·have h4':¬ (ws.length:Int)<4:=by omega
  cases hc:ws.contains [] with
  | true=>
   rw[hc] at qc
   rw[if_pos (.inr rfl)]
   simp only[zai,go_sem,↓q,q,↓qc,qc,h4',splice,recZ,fp]
   exact hZ _ (hE _)
  | false=>
   rw[hc] at qc
   rw[if_neg (by rintro (z | z);exact h4 z;cases z)]
   have i0:0<ws.length:=by omega
   have i1:1<ws.length:=by omega
   have i2:2<ws.length:=by omega
   have i3:3≤ws.length:=by omega
   have g0:=zb5 i0
   have g1:=zb5 i1
   have g2:=zb5 i2
   by_cases hn:numF 15 (wr ws 1)=true
   ·rw[hn,if_pos rfl] at qn
    rw[if_neg (by simp [hn])]
    simp only[zai,go_sem,↓q,q,↓qc,qc,h4',g0,g1,g2,i0,i1,i2,i3,cw,w3,↓qn,qn,↓qs,qs,splice,fp]
    first | done | rfl | trace_state
   ·have hn':numF 15 (wr ws 1)=false:=by simpa using hn
    rw[hn'] at qn
    rw[if_pos hn']
    simp only[zai,go_sem,↓q,q,↓qc,qc,h4',g0,g1,g2,i0,i1,i2,i3,cw,↓qn,qn,splice,recZ,fp]
    exact hZ _ (hE _)
end Go.Am
end
section
/- Records read: all lines. -/
open Go
set_option linter.all false
set_option maxRecDepth 100000
namespace Go.Am
variable {h:Heap} {K:Post}
theorem s_RR1 (rs:List Rec) (s:List UInt8) (hs:s.length≤900000) (hf:rs.length≤1000000):z0c X z8F [AS s,.ref (h.length+1) 0] (HR h rs) K=K (AB (tkPR rs s).1) (HR h (tkPR rs s).2) []:=by
 refine rule ?_
 rw[c_q024 rfl]
 have q:=fun h K=>zgb (h:=h) (K:=K) s hs
 have hm:rs.length+1≤z0P:=by unfold z0P;omega
 have hl:(rs.map Rec.pv).length=rs.length:=List.length_map ..
 have fp:∀ r:Rec,Rec.pv r = .agg [.str r.unit,eI r.time,.str r.site,.sl none (r.res.map eI)]:=fun _=>rfl
 unfold HR tkPR
 generalize (rdPR (z0m 32 s)).1=c at *
 generalize (rdPR (z0m 32 s)).2=ok at *
 obtain⟨u,t,st,res⟩:=c
 simp only[fp] at q
 simp only[zmy,go_sem,↓q,q,hm,hl,z1C,AV.top,Nat.lt_irrefl,Nat.not_lt_zero,List.map_append,splice,fp]
theorem z9C (tk:List Rec→List UInt8→Bool × List Rec) (P:Rec→Prop) (tail:Bool) (ls0:List (List UInt8)) (ht:∀ rs,∀ l∈ls0,(tk rs l).2=rs∨∃ r,P r∧(tk rs l).2=rs++[r]):∀ (ls:List (List UInt8)) (i:Nat) (rs:List Rec),(∀ l∈ls,l∈ls0)→(∀ r∈rs,P r) →
 (∀ r∈(lnsF tk tail i ls rs).2,P r)∧(lnsF tk tail i ls rs).2.length≤rs.length+ls.length
 | [],i,rs,_,h=>by
  rw[z5G]
  cases tail <;> exact⟨h,by simp⟩
 | l::r,i,rs,hl,h=>by
  rw[z3Y]
  have h1:(∀ x∈(tk rs l).2,P x)∧(tk rs l).2.length≤rs.length+1:=by
   rcases ht rs l (hl l (by simp)) with e | ⟨r,hr,e⟩
   ·rw[e];exact⟨h,by omega⟩
   ·rw[e]
    refine⟨fun x hx=>?_,by simp⟩
    rcases List.mem_append.1 hx with hx | hx
    ·exact h x hx
    ·rw[List.mem_singleton.1 hx];exact hr
  cases (tk rs l).1 with
  | true=>
   obtain⟨q1,q2⟩:=z9C tk P tail ls0 ht r (i+1) (tk rs l).2 (fun x hx=>hl x (by simp [hx])) h1.1
   refine⟨q1,?_⟩
   simp only[cond_true,List.length_cons]
   omega
  | false=>
   refine⟨h1.1,?_⟩
   simp only[cond_false,List.length_cons]
   omega
end Go.Am
end
section
/- lot.Read,scanref2.RecordsRead. -/
open Go
set_option linter.all false
set_option maxRecDepth 100000
namespace Go.Am
variable {h:Heap} {K:Post}
theorem zhB {f:Nat} {F:AFun} {h:Heap} {o:Obj} {xs:List PV} {v:PV} {K:Post} (hf:X.fn f=some F) (hr:F.byref=false) (hl:F.nparams=2):z0c X f [.p v,.own h.length xs.length 0 xs.length] (h++[.row (some 4) xs 0,o]) K=z0c X f [.p v,.p (.sl (some 4) xs)] (h++[.row (some 4) xs xs.length,o]) K:=by
 have:=zsO (K:=K) (f:=f) (F:=F) (id:=h.length) (fz:=0) (sh:=some 4) (xs:=xs) (v:=v) (h:=h++[.row (some 4) xs 0,o]) hf hr hl (by simp)
 rw[this,frzA]
abbrev rdTR (tk:List Rec→List UInt8→Bool × List Rec) (s:List UInt8):(Nat × Bool) × List Rec:=lnsF tk (lnsT s) 0 (lnsD s) []
def rdVR (tk:List Rec→List UInt8→Bool × List Rec) (l:List Lim) (s:List UInt8):List Rec × Int × Int:=
 if z0T l≠0 then ([],0,z0T l) else if (rdTR tk s).1.2=false then ([],((rdTR tk s).1.1:Nat),9) else if z07 l (rdTR tk s).2≠0 then ([],0,z07 l (rdTR tk s).2) else ((rdTR tk s).2,0,0)
theorem zw6 (l:List Lim) (s:List UInt8):rdVR tkPR l s=rdVR tkQR l s:=by
 obtain⟨h1,h2⟩:=zxh (lnsT s) (lnsD s) 0 []
 have e1:(rdTR tkPR s).1=(rdTR tkQR s).1:=h1
 have e2:(rdTR tkPR s).1.2=true→(rdTR tkPR s).2=(rdTR tkQR s).2:=h2
 unfold rdVR
 rw[e1]
 rw[e1] at e2
 by_cases q:(rdTR tkQR s).1.2=false
 ·simp only[q,if_true]
 ·rw[Bool.not_eq_false] at q
  rw[e2 q]
theorem zw4 {s:List UInt8} (hs:s.length≤900):RecOk (rdPR (z0m 32 s)).1:=by
 have a0:=zb6 s 0
 have a2:=zb6 s 2
 have b:=(zbH s).2
 have z:RecOk recZ:=⟨Nat.zero_le _,Nat.zero_le _,Nat.zero_le _⟩
 unfold rdPR
 split
 ·exact z
 split
 ·exact z
 ·refine⟨by dsimp only;omega,by dsimp only;omega,?_⟩
  dsimp only
  split
  ·rw[List.length_map];omega
  ·exact Nat.zero_le _
theorem zw5 {s:List UInt8} (hs:s.length≤900):RecOk (rdQR (z0m 32 s)).1:=by
 have a0:=zb6 s 0
 have a2:=zb6 s 2
 have b:=(zbH s).2
 unfold rdQR
 exact⟨by dsimp only;omega,by dsimp only;omega,by dsimp only;rw[List.length_map];omega⟩
set_option maxHeartbeats 4000000 in
theorem zqH (l:List Lim) (hl:LimOk l) (s:List UInt8) (hs:s.length≤900):z0c X za2 [ALim l,AS s] h K=K (.tup [ARec (rdVR tkPR l s).1,AI (rdVR tkPR l s).2.1,AI (rdVR tkPR l s).2.2]) h []:=by
 refine rule ?_
 rw[c_q023 rfl]
 have hn:=hl.n
 have q0:=fun h K=>z61 (h:=h) (K:=K) l hl.k (by omega)
 have h2':¬ (200000:Int)<(s.length:Int):=by omega
 have hL:=fun K=>s_Each (K:=K) z8F [.ref (h.length+1) 0] tkPR (HR h) (fun k rs=>rs.length=k) s (by omega) (h.length+2) (ztD h)
  (fun k t l K hi hk hll=>s_RR1 t l (by omega) (by omega)) (fun k t l hi hll _=>by simp [tkPR,hi]) [] rfl
 obtain⟨i1,i2⟩:=z9C tkPR RecOk (lnsT s) (lnsD s) (fun rs l hm=>.inr ⟨_,zw4 (Nat.le_trans (z48 hm) hs),rfl⟩) (lnsD s) 0 [] (fun _ h=>h) (by simp)
 have hD:=z5F s
 unfold rdVR rdTR
 generalize lnsF tkPR (lnsT s) 0 (lnsD s) []=R at *
 obtain⟨⟨i,ok⟩,rs⟩:=R
 dsimp only at i1 i2 hL ⊢
 rw[List.length_nil,Nat.zero_add] at i2
 have q3:=fun o K=>(zhB (f:=z59) (F:=zgt) (h:=h) (o:=o) (xs:=rs.map Rec.pv) (v:=.sl (some 4) (l.map Lim.pv)) (K:=K) zuS rfl rfl).trans (z4W l rs hl i1 (by omega))
 simp only[List.length_map] at q3
 simp only[HR,List.map_nil,List.length_nil] at hL
 have hw:win (rs.map Rec.pv) 0 rs.length=rs.map Rec.pv:=z4G (by simp)
 have hll:(rs.map Rec.pv).length=rs.length:=List.length_map ..
 by_cases hf:z0T l=0
 ·rw[if_neg (by simp [hf])]
  have e0:z07 l rs=z1H l rs:=by unfold z07;rw[if_neg (by simp [hf])]
  rw[e0]
  cases ok with
  | false=>
   simp only[zag,go_sem,↓q0,q0,hf,↓hL,hL,h2']
   first | done | rfl
  | true=>
   by_cases h4:z1H l rs=0
   ·simp only[zag,go_sem,↓q0,q0,hf,↓hL,hL,h2',↓q3,q3,h4,hw,hll]
    first | done | rfl
   ·simp only[zag,go_sem,↓q0,q0,hf,↓hL,hL,h2',↓q3,q3,h4]
    first | done | rfl
 ·rw[if_pos hf]
  simp only[zag,go_sem,↓q0,q0,hf]
  first | done | rfl
end Go.Am
end
section
/- scanref2.RecordsRead. -/
open Go
set_option linter.all false
set_option maxRecDepth 100000
namespace Go.Am
variable {h:Heap} {K:Post}
theorem zt3 (t:List Rec) (l:List UInt8) (k:Nat) (hi:t.length≤k):(tkQR t l).2.length≤k+1:=by
 unfold tkQR
 split
 ·exact Nat.le_succ_of_le hi
 ·simp;omega
theorem zco (rs:List Rec) {l:List UInt8} (hl:l.length≤900):(tkQR rs l).2=rs∨∃ r,RecOk r∧(tkQR rs l).2=rs++[r]:=by
 unfold tkQR
 split
 ·exact .inl rfl
 ·exact .inr ⟨_,zw5 hl,rfl⟩
set_option maxHeartbeats 4000000 in
theorem z9P (l:List Lim) (hl:LimOk l) (s:List UInt8) (hs:s.length≤900):z0c X zaL [ALim l,AS s] h K=K (.tup [ARec (rdVR tkQR l s).1,AI (rdVR tkQR l s).2.1,AI (rdVR tkQR l s).2.2]) h []:=by
 refine rule ?_
 rw[c_q04d rfl]
 have hn:=hl.n
 have q0:=fun h K=>z3D (h:=h) (K:=K) l hl.k (by omega)
 have h2':¬ (200000:Int)<(s.length:Int):=by omega
 have hL:=fun K=>ztj (K:=K) z8J [.ref (h.length+1) 0] tkQR (HR h) (fun k rs=>rs.length≤k) s (by omega) (h.length+2) (ztD h)
  (fun k t l K hi hk hll=>s_RQ1 t l (by omega) (by omega)) (fun k t l hi hll _=>zt3 t l k hi) [] (Nat.le_refl _)
 obtain⟨i1,i2⟩:=z9C tkQR RecOk (lnsT s) (lnsD s) (fun rs l hm=>zco rs (Nat.le_trans (z48 hm) hs)) (lnsD s) 0 [] (fun _ h=>h) (by simp)
 have hD:=z5F s
 unfold rdVR rdTR
 generalize lnsF tkQR (lnsT s) 0 (lnsD s) []=R at *
 obtain⟨⟨i,ok⟩,rs⟩:=R
 dsimp only at i1 i2 hL ⊢
 rw[List.length_nil,Nat.zero_add] at i2
 have q3:=fun o K=>(zhB (f:=z3T) (F:=zgu) (h:=h) (o:=o) (xs:=rs.map Rec.pv) (v:=.sl (some 4) (l.map Lim.pv)) (K:=K) zuT rfl rfl).trans (z1P l rs hl i1 (by omega))
 simp only[List.length_map] at q3
 simp only[HR,List.map_nil,List.length_nil] at hL
 have hw:win (rs.map Rec.pv) 0 rs.length=rs.map Rec.pv:=z4G (by simp)
 have hll:(rs.map Rec.pv).length=rs.length:=List.length_map ..
 by_cases hf:z0T l=0
 ·rw[if_neg (by simp [hf])]
  cases ok with
  | false=>
   simp only[zan,go_sem,↓q0,q0,hf,↓hL,hL,h2']
   first | done | rfl
  | true=>
   by_cases h4:z07 l rs=0
   ·simp only[zan,go_sem,↓q0,q0,hf,↓hL,hL,h2',↓q3,q3,h4,hw,hll]
    first | done | rfl
   ·simp only[zan,go_sem,↓q0,q0,hf,↓hL,hL,h2',↓q3,q3,h4]
    first | done | rfl
 ·rw[if_pos hf]
  simp only[zan,go_sem,↓q0,q0,hf]
  first | done | rfl
end Go.Am
end
section
/- Records compared. -/
open Go
set_option linter.all false
set_option maxRecDepth 100000
namespace Go.Am
variable {h:Heap} {K:Post}
theorem ziV (x y:Rec) (hx:x.res.length≤1000000):z0c X z7n [.p x.pv,.p y.pv] h K=K (AB (decide (x=y))) h []:=by
 refine rule ?_
 rw[c_q04i rfl]
 have q:=fun h K=>zth (h:=h) (K:=K) x.res y.res (by omega)
 have fx:Rec.pv x = .agg [.str x.unit,eI x.time,.str x.site,.sl none (x.res.map eI)]:=rfl
 have fy:Rec.pv y = .agg [.str y.unit,eI y.time,.str y.site,.sl none (y.res.map eI)]:=rfl
 have e:decide (x=y)=(decide (x.unit=y.unit)&&decide (x.time=y.time)&&decide (x.site=y.site)&&decide (x.res=y.res)):=by
  obtain⟨a,b,c,d⟩:=x;obtain⟨a2,b2,c2,d2⟩:=y
  simp [Rec.mk.injEq,Bool.and_assoc]
 rw[fx,fy,e]
 by_cases h1:x.unit=y.unit
 ·by_cases h2:x.time=y.time
  ·by_cases h3:x.site=y.site
   ·simp only[zap,go_sem,h1,h2,h3,↓q,q,splice]
   ·simp only[zap,go_sem,h1,h2,h3,splice]
  ·simp only[zap,go_sem,h1,h2,splice]
 ·simp only[zap,go_sem,h1,splice]
end Go.Am
end
section
/- Records compared,all. -/
open Go
set_option linter.all false
set_option maxRecDepth 100000
namespace Go.Am
variable {h:Heap} {K:Post}
theorem zqz {r:Rec}:cutP (some 4) 0 r.pv=some r.pv:=rfl
theorem zeQ (x y:List Rec) (ha:x.length≤1000000) (hr:∀ f∈x,f.res.length≤1000000):z0c X zaT [ARec x,ARec y,.fn z7n []] h K=K (AB (decide (x=y))) h []:=by
 refine rule ?_
 rw[c_q05m rfl]
 by_cases hl:x.length=y.length
 ·have hl':(x.length:Int)=(y.length:Int):=by omega
  simp only[zdT,go_sem,eq_true hl']
  refine z0D (fun k:Nat=>⟨[(1,ARec y),(2,.fn z7n []),(15,ARec x),(16,AI x.length),(17,AI k)],h,[]⟩) (fun k=>k≤x.length∧x.take k=y.take k) (fun k=>x.length-k) 0 rfl ⟨by omega,rfl⟩ ?_
  rintro k ⟨hk,hp⟩
  rcases Nat.lt_or_ge k x.length with hlt | hge
  ·have hkb:k<y.length:=by omega
   have g1:=z0C Rec.pv hlt
   have g2:=z0C Rec.pv hkb
   have c1:=zqz (r:=x[k])
   have c2:=zqz (r:=y[k])
   have q:=fun h K=>ziV (h:=h) (K:=K) x[k] y[k] (hr _ (List.getElem_mem hlt))
   simp only[Rec.pv] at q g1 g2 c1 c2
   have w2:IntKind.i64.wrap ((k:Int)+1)=((k+1:Nat):Int):=z0h _ (by omega) (by omega)
   by_cases hs:x[k]=y[k]
   ·rw[decide_eq_true hs] at q
    simp only[go_sem,hlt,hkb,g1,g2,c1,c2,↓q,q,w2]
    refine⟨k+1,rfl,⟨by omega,?_⟩,by omega⟩
    rw[List.take_succ_eq_append_getElem hlt,List.take_succ_eq_append_getElem hkb,hp,hs]
   ·rw[decide_eq_false hs] at q
    have:¬ x=y:=fun e=>by subst e;exact hs rfl
    simp only[go_sem,hlt,hkb,g1,g2,c1,c2,↓q,q,this]
  ·have ek:k=x.length:=by omega
   subst ek
   have:x=y:=by rw[List.take_length,hl,List.take_length] at hp;exact hp
   simp only[go_sem,Nat.lt_irrefl,eq_true this]
 ·have hl':¬ (x.length:Int)=(y.length:Int):=by omega
  have:¬ x=y:=fun e=>hl (by rw[e])
  simp only[zdT,go_sem,hl',this]
end Go.Am
end
section
/- Records that are right: how long their lines are. -/
open Go
set_option linter.all false
namespace Go.Am
theorem zph {s:List UInt8} (h:keyB s=true):s.length≤40:=by
 cases s with
 | nil=>simp
 | cons c r=>
  unfold keyB at h
  simp only[Bool.and_eq_true,decide_eq_true_eq] at h
  simp only[List.length_cons];omega
theorem zfW {l:List Lim} {r:Rec} (hf:z0I l r=0):r.unit.length≤40∧r.site.length≤40∧(0≤r.time∧r.time≤345686399999)∧(∀ n∈r.res,-100000≤n∧n≤100000)∧r.res≠[]∧r.res.length≤l.length:=by
 have ht:=z3A hf
 unfold z0I at hf
 split at hf
 ·cases hf
 rename_i h1
 split at hf
 ·cases hf
 split at hf
 ·cases hf
 rename_i h3
 split at hf
 ·cases hf
 rename_i h4
 have h1':(keyB r.unit&&keyB r.site)=true:=by simpa using h1
 rw[Bool.and_eq_true] at h1'
 have h3':r.res.all isM=true:=by simpa using h3
 have h4':z5a l r.res=true:=by simpa using h4
 refine⟨zph h1'.1,zph h1'.2,ht,fun n hn=>?_,?_,?_⟩
 ·have:=List.all_eq_true.1 h3' n hn
  unfold isM at this
  simpa using this
 ·rintro e
  rw[e] at h4'
  unfold z5a inB at h4'
  simp at h4'
 ·unfold z5a at h4'
  rw[Bool.and_eq_true,Bool.and_eq_true] at h4'
  have:=h4'.1.1
  unfold inB at this
  simp at this
  omega
def ordBT (x:Rec):Option Rec→Bool
 | some q=>decide (z1s x q≤0)
 | none=>false
theorem z5e {l:List Lim} {p:Option Rec} {x:Rec} {r:List Rec}:z0E l p (x::r)=if z0I l x≠0 then z0I l x else if ordBT x p=true then 7 else z0E l (some x) r:=by cases p <;> rfl
theorem z27 {l:List Lim}:∀ {r:List Rec} {p:Option Rec},z0E l p r=0→∀ x∈r,z0I l x=0
 | [],_,_,x,hx=>by cases hx
 | y::r,p,h,x,hx=>by
  rw[z5e] at h
  by_cases h1:z0I l y=0
  ·rw[if_neg (by simp [h1])] at h
   by_cases h2:ordBT y p=true
   ·rw[if_pos h2] at h
    exact absurd h (by decide)
   ·rw[if_neg h2] at h
    rcases List.mem_cons.1 hx with rfl | hx
    ·exact h1
    ·exact z27 h x hx
  ·rw[if_pos h1] at h
   exact absurd h h1
theorem z9N {l:List Lim} {rs:List Rec} (hf:z07 l rs=0):∀ r∈rs,z0I l r=0:=by
 unfold z07 at hf
 split at hf
 ·rename_i h;exact absurd hf h
 ·unfold z1H at hf
  split at hf
  ·cases hf
  ·exact z27 hf
theorem zfX {r:Rec} {m:Nat} (h1:r.unit.length≤40) (h2:r.site.length≤40) (h3:0≤r.time∧r.time≤345686399999) (h4:∀ n∈r.res,-100000≤n∧n≤100000) (h5:r.res.length≤m):(z2E r).length≤104+21*m:=by
 have e1:=z7G (n:=r.time) (by omega) (by omega)
 have e2:=z8Z r.res (fun n hn=>by have:=h4 n hn;omega)
 have e3:21*r.res.length≤21*m:=Nat.mul_le_mul_left _ h5
 unfold z2E
 simp only[List.length_append,List.length_cons,List.length_nil]
 omega
theorem z26 {rs:List Rec} {m:Nat} (h:∀ r∈rs,(z2E r).length≤m):(z04 rs).length≤m*rs.length:=by
 induction rs with
 | nil=>simp [z04]
 | cons r rs ih=>
  have e:z04 (r::rs)=z2E r++z04 rs:=by simp [z04]
  have h1:=h r (by simp)
  have h2:=ih (fun x hx=>h x (by simp [hx]))
  rw[e,List.length_append,List.length_cons,Nat.mul_succ]
  omega
end Go.Am
end
section
/- Records written. -/
open Go
set_option linter.all false
set_option maxRecDepth 100000
namespace Go.Am
variable {h:Heap} {K:Post}
structure RecB (r:Rec):Prop where
 u:r.unit.length≤40
 s:r.site.length≤40
 t:0≤r.time∧r.time≤345686399999
 n:∀ n∈r.res,-100000≤n∧n≤100000
 e:r.res≠[]
 l:r.res.length≤3
theorem RecB.len {r:Rec} (b:RecB r):(z2E r).length≤167:=zfX (m:=3) b.u b.s b.t b.n b.l
theorem zw8 {l:List Lim} {rs:List Rec} (hf:z07 l rs=0) (hl:l.length≤3):∀ r∈rs,RecB r:=fun r hr=>by
 obtain⟨a,b,c,d,e,f⟩:=zfW (z9N hf r hr)
 exact⟨a,b,c,d,e,by omega⟩
attribute [-go_sem] z8C
theorem z62 (rs:List Rec) (hb:∀ r∈rs,RecB r) (hl:rs.length≤100):z0c X z7m [ARec rs] h K=K (AS (z04 rs)) h []:=by
 refine rule ?_
 rw[c_q04b rfl]
 simp only[zgR,go_sem]
 refine z0D (fun k:Nat=>⟨[(3,AS (z04 (rs.take k))),(6,ARec rs),(7,AI rs.length),(8,AI k)],h,[]⟩) (fun k=>k≤rs.length) (fun k=>rs.length-k) 0 (by simp [z04]) (by omega) ?_
 intro k hkl
 rcases Nat.lt_or_ge k rs.length with hlt | hge
 ·have hg:=z0C Rec.pv hlt
  have wk:IntKind.i64.wrap ((k:Int)+1)=((k+1:Nat):Int):=z0h _ (by omega) (by omega)
  have b:=hb _ (List.getElem_mem hlt)
  have bl:=b.len
  have hs:=z6w hlt
  have ht2:(z04 (rs.take k)).length≤167*(rs.take k).length:=z26 fun r hr=>(hb r (List.mem_of_mem_take hr)).len
  rw[List.length_take] at ht2
  have q:=fun h K=>z94 (h:=h) (K:=K) rs[k].time (by have:=b.t;omega) (by have:=b.t;omega)
  have i1:=z7G (n:=rs[k].time) (by have:=b.t;omega) (by have:=b.t;omega)
  have nl:=z8Z rs[k].res (fun n hn=>by have:=b.n n hn;omega)
  have l3:=b.l
  have qn:=fun h K=>ziU (h:=h) (K:=K) rs[k].res (fun n hn=>by have:=b.n n hn;omega) (by omega) (by omega)
  have cz:cutP (some 4) 0 (Rec.pv rs[k])=some (Rec.pv rs[k]):=rfl
  have fp:Rec.pv rs[k] = .agg [.str rs[k].unit,eI rs[k].time,.str rs[k].site,.sl none (rs[k].res.map eI)]:=rfl
  have bu:=b.u
  have bs:=b.s
  have m0:1000000000≤z1o:=by unfold z1o;omega
  have m1:rs[k].unit.length+1≤z1o:=by omega
  have m2:rs[k].unit.length+1+(itoa rs[k].time).length≤z1o:=by omega
  have m3:rs[k].unit.length+1+(itoa rs[k].time).length+1≤z1o:=by omega
  have m4:rs[k].unit.length+1+(itoa rs[k].time).length+1+rs[k].site.length≤z1o:=by omega
  have m5:rs[k].unit.length+1+(itoa rs[k].time).length+1+rs[k].site.length+1≤z1o:=by omega
  have m6:rs[k].unit.length+1+(itoa rs[k].time).length+1+rs[k].site.length+1+(z4a rs[k].res).length≤z1o:=by omega
  have m7:rs[k].unit.length+1+(itoa rs[k].time).length+1+rs[k].site.length+1+(z4a rs[k].res).length+1≤z1o:=by omega
  have m8:(z04 (rs.take k)).length+(rs[k].unit.length+1+(itoa rs[k].time).length+1+rs[k].site.length+1+(z4a rs[k].res).length+1)≤z1o:=by omega
  simp only[go_sem,hlt,hg,cz,fp,↓q,q,↓qn,qn,wk,splice,m1,m2,m3,m4,m5,m6,m7,m8]
  repeat rw[if_pos (by omega)]
  refine⟨k+1,?_,by omega,by omega⟩
  rw[hs]
  unfold z2E
  simp
 ·have hk':k=rs.length:=by omega
  subst hk'
  rw[List.take_length]
  simp only[go_sem,Nat.lt_irrefl,decide_false]
  rw[z8C]
  simp only[z8t,go_sem]
theorem zsE {K':Ex→St→Prop} (ns:List Int) (s0:List UInt8) (v18 v19 v20:AV) (l:Heap) (hb:∀ n∈ns,-1000000000000000000≤n∧n≤1000000000000000000) (hl:ns.length≤1000000) (ht:s0.length+(z3y ns).length≤1000000000)
 (hK:K' (.exit 2) ⟨[(7,.ref h.length 0),(18,v18),(19,v19),(20,v20),(37,AL ns),(38,AI ns.length),(39,AI ns.length),(40,AB false)],bh h true (s0++z3y ns) l,[]⟩) :
 z0N (z0c X) X.gl z2V K' [(7,.ref h.length 0),(18,v18),(19,v19),(20,v20),(37,AL ns),(38,AI ns.length),(39,AI 0)] (bh h true s0 l) []:=by
 refine z0D (fun k:Nat=>⟨[(7,.ref h.length 0),(18,v18),(19,v19),(20,v20),(37,AL ns),(38,AI ns.length),(39,AI k)],bh h true (s0++z3y (ns.take k)) l,[]⟩) (fun k=>k≤ns.length) (fun k=>ns.length-k) 0 (by simp [z3y]) (by omega) ?_
 intro k hk
 rcases Nat.lt_or_ge k ns.length with hlt | hge
 ·have hg:=z0C eI hlt
  have cz:cutP none 0 (eI ns[k])=some (eI ns[k]):=rfl
  have wk:IntKind.i64.wrap ((k:Int)+1)=((k+1:Nat):Int):=z0h _ (by omega) (by omega)
  have b:=hb _ (List.getElem_mem hlt)
  have q:=fun h K=>z94 (h:=h) (K:=K) ns[k] b.1 b.2
  have hs:=zjj hlt
  have ht2:=zjk ns (k+1)
  have hll:(z3y (ns.take (k+1))).length=(z3y (ns.take k)).length+((itoa ns[k]).length+1):=by rw[hs];simp
  have m0:1000000000≤z1o:=by unfold z1o;omega
  have m1:(itoa ns[k]).length+1≤z1o:=by omega
  have qw:=fun K=>s_WS (h:=h) (K:=K) (u:=true) (s:=s0++z3y (ns.take k)) (t:=32::itoa ns[k]) (l:=l) (by simp;omega)
  simp only[go_sem,hlt,hg,cz,↓q,q,↓qw,qw,wk,m1]
  rw[if_pos (by omega)]
  exact⟨k+1,by rw[hs],by omega,by omega⟩
 ·have hk':k=ns.length:=by omega
  subst hk'
  rw[List.take_length]
  simp only[go_sem,Nat.lt_irrefl,decide_false,hK]
attribute [-go_sem] z86 z87 z88
theorem zpZ {K':Ex→St→Prop} {x:Esc} (rs:List Rec) (hb:∀ r∈rs,RecB r) (hl:rs.length≤100)
 (hK:∀ u,K' (.exit 0) ⟨[(7,.ref h.length 0),(18,ARec rs),(19,AI rs.length),(20,AI rs.length),(21,AB false)],bh h u (z04 rs) [],x⟩) :
 z0N (z0c X) X.gl (.scope z2s) K' [(7,.ref h.length 0),(18,ARec rs),(19,AI rs.length),(20,AI 0)] (bh h false [] []) x:=by
 refine z0D (fun k:Nat=>⟨[(7,.ref h.length 0),(18,ARec rs),(19,AI rs.length),(20,AI k)],bh h (decide (0<k)) (z04 (rs.take k)) [],x⟩) (fun k=>k≤rs.length) (fun k=>rs.length-k) 0 (by simp [z04]) (by omega) ?_
 intro k hkl
 rcases Nat.lt_or_ge k rs.length with hlt | hge
 ·have hg:=z0C Rec.pv hlt
  have wk:IntKind.i64.wrap ((k:Int)+1)=((k+1:Nat):Int):=z0h _ (by omega) (by omega)
  have b:=hb _ (List.getElem_mem hlt)
  have bl:=b.len
  rw[z7w b.e] at bl
  have hs:=z6w hlt
  have ht2:(z04 (rs.take k)).length≤167*(rs.take k).length:=z26 fun r hr=>(hb r (List.mem_of_mem_take hr)).len
  rw[List.length_take] at ht2
  have q:=fun h K=>z94 (h:=h) (K:=K) rs[k].time (by have:=b.t;omega) (by have:=b.t;omega)
  have cz:cutP (some 4) 0 (Rec.pv rs[k])=some (Rec.pv rs[k]):=rfl
  have fp:Rec.pv rs[k] = .agg [.str rs[k].unit,eI rs[k].time,.str rs[k].site,.sl none (rs[k].res.map eI)]:=rfl
  have l3:=b.l
  have e0:=b.e
  have nb:=b.n
  rw[z7w e0] at hs
  simp only[List.length_append,List.length_cons,List.length_nil] at bl
  have m0:1000000000≤z1o:=by unfold z1o;omega
  have m1:rs[k].unit.length+1≤z1o:=by omega
  have m2:rs[k].unit.length+1+(itoa rs[k].time).length≤z1o:=by omega
  have m3:rs[k].unit.length+1+(itoa rs[k].time).length+1≤z1o:=by omega
  have m4:rs[k].unit.length+1+(itoa rs[k].time).length+1+rs[k].site.length≤z1o:=by omega
  generalize rs[k]=r at *
  obtain⟨un,tm,st,rsu⟩:=r
  dsimp only at *
  have q1:=fun l K=>s_WS (h:=h) (K:=K) (u:=decide (0<k)) (s:=z04 (rs.take k)) (t:=un++32::(itoa tm++32::st)) (l:=l) (by simp;omega)
  simp only[go_sem,hlt,hg,cz,fp,zlU,bh_app,bh_get,bh_set,zf6,↓q,q,splice,m1,m2,m3,m4,↓q1,q1]
  repeat rw[if_pos (by omega)]
  refine zsE rsu _ _ _ _ _ (fun n hn=>by have:=nb n hn;omega) (by omega) (by simp;omega) ?_
  have e10:((10:UInt8).toNat:Int)=10:=rfl
  have qB:=fun l K=>s_WB (h:=h) (K:=K) (u:=true) (s:=z04 (rs.take k)++(un++32::(itoa tm++32::(st++z3y rsu)))) (c:=10) (l:=l) (by simp;omega)
  rw[e10] at qB
  rw[z1G,z1L,z86]
  simp only[z8k,go_sem,↓qB,qB,List.append_assoc,List.cons_append,List.nil_append]
  rw[z87]
  simp only[z8l,go_sem,wk,zlU,zf6]
  refine⟨k+1,?_,by omega,by omega⟩
  rw[hs,show decide (0<k+1)=true by simp]
  simp
 ·have hk':k=rs.length:=by omega
  subst hk'
  rw[List.take_length]
  have:=hK (decide (0<rs.length))
  simp only[go_sem,Nat.lt_irrefl,decide_false,zlU,zf6,this]
theorem zqI (l:List Lim) (hl:LimOk l) (h3:l.length≤3) (rs:List Rec) (hr:∀ x∈rs,RecOk x) (hn:rs.length≤100):z0c X za4 [ALim l,ARec rs] h K=K (.tup [AS (if z07 l rs=0 then z04 rs else []),AI (z07 l rs)]) h []:=by
 refine rule ?_
 rw[c_q026 rfl]
 have q0:=fun h K=>z9O (h:=h) (K:=K) l rs hl hr (by omega)
 by_cases h0:z07 l rs=0
 ·have hb:=zw8 h0 h3
  have ll:(z04 rs).length≤167*rs.length:=z26 fun r hr=>(hb r hr).len
  simp only[zdl,go_sem,↓q0,q0,h0]
  refine zpZ rs hb hn (fun u=>?_)
  rw[z1G,z1L,z88]
  have q1:=fun K=>s_BL (h:=h) (K:=K) (u:=u) (s:=z04 rs) (l:=[])
  have q2:=fun K=>zqE (K:=K) (z7C (h:=h) (u:=u) (s:=z04 rs) (l:=[])) (by omega)
  have h3':¬ (200000:Int)<((z04 rs).length:Int):=by omega
  simp only[z8n,go_sem,↓q1,q1,↓q2,q2,h3']
  refine zwE ?_
  refine⟨rfl,?_,rfl⟩
  unfold zgc bh
  split
  ·simp
  ·rw[List.set_append_right _ _ (by omega)];simp
 ·simp only[zdl,go_sem,↓q0,q0,h0]
  first | done | rfl
end Go.Am
end
section
/- The shortest way between two states of a test access port: a search over a queue. -/
open Go
set_option linter.all false
namespace Go.Am
variable {h:Heap} {K:Post}
attribute [-go_sem] zsJ zww zfS zfT
end Go.Am
end
section
/- ready: a z1a call,computed. -/
open Go
set_option linter.all false
namespace Go.Am
end Go.Am
end
section
/- What all laws of the keep package use. -/
open Go
set_option linter.all false
namespace Go.Am
variable {h:Heap} {K:Post}
end Go.Am
end
section
/- What is drawn and right: limits,records. -/
open Go
set_option linter.all false
namespace Go.Am
variable {L:List Int} {a:Int} {h l:Heap} {id:Nat} {K:Post}
theorem zsC {l:List Lim} (h2:l.length≤3) (hb:∀ x∈l,LimBd x):LimOk l:=⟨by omega,fun x hx=>(hb x hx).k⟩
theorem z9M (hp:posN 20000 a) (l:List Lim) (hl1:1≤l.length) (hl2:l.length≤3) (hl:LimOk l) (hz:z0T l=0) (n:Nat) (hn:n≤19) :
 GenE z7k [ALim l,AI n] L a (fun v a2=>a≤a2∧a2≤a+12000∧∃ rs:List Rec,rs.length≤n∧(∀ r∈rs,RecOk r)∧z07 l rs=0∧v=ARec rs):=by
 refine GenE.of fun h id hid=>?_
 rw[zuy rfl]
 simp only[zd8,go_sem,hid]
 refine z0D (fun t:Nat × Int=>⟨[(0,.ref id 0),(1,ALim l),(2,AI n),(8,AI t.1)],h.set id (strm L t.2),[]⟩) (fun t=>t.1≤6∧a≤t.2∧t.2≤a+2000*t.1) (fun t=>6-t.1) (0,a) rfl ⟨by simp,by simp,by simp⟩ ?_
 rintro⟨k,b⟩ ⟨h1,h2,h3⟩
 dsimp only at h1 h2 h3 ⊢
 rcases Nat.lt_or_ge k 6 with hlt | hge
 ·have hk:(k:Int)<6:=by omega
  have w1:IntKind.i64.wrap ((k:Int)+1)=((k+1:Nat):Int):=z0h _ (by omega) (by omega)
  obtain⟨_,a2,⟨c1,c2,rs,r1,r2,rfl⟩,V⟩:=(ze6 (L:=L) (a:=b) (z0K hp h2 (by omega)) l hl1 hl2 n hn).set (h:=h) hid
  have F:=fun h K=>z1P (h:=h) (K:=K) l rs hl r2 (by omega)
  by_cases hf:z07 l rs=0
  ·simp only[go_sem,hid,hk,↓V,V,↓F,F,hf]
   exact⟨a2,⟨by omega,by omega,rs,r1,r2,hf,rfl⟩,rfl⟩
  ·simp only[go_sem,hid,hk,↓V,V,↓F,F,hf,w1]
   exact⟨(k+1,a2),rfl,⟨by dsimp only;omega,by dsimp only;omega,by dsimp only;omega⟩,by dsimp only;omega⟩
 ·have hk:¬ (k:Int)<6:=by omega
  simp only[go_sem,hid,hk]
  refine⟨b,⟨by omega,by omega,[],by simp,by simp,?_,rfl⟩,rfl⟩
  unfold z07
  rw[if_neg (by simp [hz])]
  rfl
end Go.Am
end
section
/- Records drawn without limits;texts of records drawn. -/
open Go
set_option linter.all false
set_option maxRecDepth 100000
namespace Go.Am
variable {L:List Int} {a:Int} {h l:Heap} {id:Nat} {K:Post}
theorem frz2 {o0 o1:Obj} {sh:Sh} {xs:List PV} {fz k:Nat}:frz [o0,o1,.row sh xs fz] 2 k=[o0,o1,.row sh xs (max fz k)]:=rfl
set_option maxHeartbeats 2000000 in
theorem zw7 (hid:id<h.length) (hp:posN 30 a) (rs:List Rec) (hrs:rs.length≤1000) (u s:List UInt8) (hu:u.length≤1000) (hs:s.length≤1000) (t:Int) (v1 v8 v13 v14:AV) (K:Ex→St→Prop)
 (hK:∀ (r':Rec) (a':Int) (J:Heap) (x':Esc),RecOk r'→a≤a'→a'≤a+8→(∀ y∈x',h.length+1≤y.1) →
  K .normal ⟨[(0,.ref id 0),(1,v1),(7,.own h.length (rs.length+1) 0 (rs.length+1)),(8,v8),(13,v13),(14,v14)],h.set id (strm L a') ++ .row (some 4) (rs.map Rec.pv++[r'.pv]) 0::J,x'⟩) :
 z1b (z0c X) X.gl z2Z (.ref id 0) v1 (.own h.length rs.length 0 rs.length) v8 (.ref (h.length+1) 0) v13 v14
  (h.set id (strm L a)++[.row (some 4) (rs.map Rec.pv) 0,.box [AS u,AI t,AS s,.sl0 none]]) [] K:=by
 have P:=z6t (z0K hp (Int.le_refl a) (by omega))
 have hmx:rs.length+1≤z0P:=by unfold z0P;omega
 have hm1:1≤z0P:=by unfold z0P;omega
 have e1:h.length+1<h.length+2+1:=by omega
 unfold z1b
 by_cases hf:z1l L a 60=0
 ·by_cases h0:z1l L (a+1) 3=0
  ·obtain⟨kv,a3,c1,c2,_,_,O⟩:=zvL (L:=L) (a:=a+1+1+1+1) (z0K hp (by omega) (by omega)) 0 50 (by omega) (by omega) (by omega)
   have O':=fun l K=>O.app (h:=h) (id:=id) (l:=l) (K:=K) hid
   have p1:=z1A (l:=[[],[117,49]]) (L:=L) (a:=a+1+1) (by simp) (by simp)
   have p2:=z1A (l:=[[65],[115,49]]) (L:=L) (a:=a+1+1+1) (by simp) (by simp)
   simp only[List.mem_cons,List.not_mem_nil,or_false] at p1 p2
   simp only[go_sem,hid,P,hf,h0,↓O',O',hmx,frz3]
   exact hK ⟨z2y [[],[117,49]] L (a+1+1),kv,z2y [[65],[115,49]] L (a+1+1+1),[]⟩ a3 _ _ ⟨by rcases p1 with p1 | p1 <;> simp [p1],by rcases p2 with p2 | p2 <;> simp [p2],by simp⟩ (by omega) (by omega) (by simp)
  ·by_cases h1:z1l L (a+1) 3=1
   ·simp only[go_sem,hid,P,hf,h0,h1,hmx,hm1,z1C,e1,frz2]
    refine hK ⟨u,t,s,[z16 [0,100001,-100001] L (a+1+1)]⟩ (a+1+1+1) _ _ ⟨hu,hs,by simp⟩ (by omega) (by omega) ?_
    intro y hy
    simp only[List.mem_cons,List.not_mem_nil,or_false] at hy
    first
    | (subst hy;exact Nat.le_refl _)
    | trace_state
   ·obtain⟨m1,m2⟩:=z1N L (a+1+1) 1 (by omega) (by omega)
    have hm:z1l L (a+1+1) 1=0:=by omega
    have w1:IntKind.i64.wrap (0+1)=1:=rfl
    have w2:IntKind.i64.wrap 1=1:=rfl
    simp only[go_sem,hid,P,hf,h0,h1,w1,w2,hm,hmx,z1C,e1,frz3]
    exact hK ⟨u,t,s,[]⟩ (a+1+1+1) _ _ ⟨hu,hs,by simp⟩ (by omega) (by omega) (by simp)
 ·simp only[go_sem,hid,P,hf,hmx,frz3]
  exact hK ⟨u,t,s,[]⟩ (a+1) _ _ ⟨hu,hs,by simp⟩ (by omega) (by omega) (by simp)
attribute [-go_sem] z1b
set_option maxHeartbeats 4000000 in
theorem ziB (hp:posN 4000 a) (n:Nat) (hn:n≤19) :
 GenE z5A [ALim [],AI n] L a (fun v a2=>a≤a2∧a2≤a+2000∧∃ rs:List Rec,rs.length≤n∧(∀ r∈rs,RecOk r)∧v=ARec rs):=by
 refine GenE.of fun h id hid=>?_
 rw[zux rfl]
 simp only[zd2,go_sem,hid]
 refine z0D (fun t:List Rec × Int × Int=>⟨[(0,.ref id 0),(1,ALim []),(7,.own h.length t.1.length 0 t.1.length),(8,AI t.2.1),(13,AI n),(14,AI t.1.length)],h.set id (strm L t.2.2)++[.row (some 4) (t.1.map Rec.pv) 0],[]⟩)
  (fun t=>t.1.length≤n∧(∀ r∈t.1,RecOk r)∧a≤t.2.2∧t.2.2≤a+40*t.1.length) (fun t=>n-t.1.length) ([],0,a) rfl ⟨by simp,by simp,by simp,by simp⟩ ?_
 rintro⟨rs,t,b⟩ ⟨q1,q2,q3,q4⟩
 dsimp only at q1 q2 q3 q4
 rcases Nat.lt_or_ge rs.length n with hlt | hge
 ·have P:=z6t (z0K hp q3 (show b+14≤a+4000 by omega))
  have w1:IntKind.i64.wrap ((rs.length:Int)+1)=((rs.length+1:Nat):Int):=z0h _ (by omega) (by omega)
  have p1:=z1A (l:=[[117,49],[117,50],[117,51],[117,52]]) (L:=L) (a:=b+1) (by simp) (by simp)
  have p2:=z1A (l:=[[115,49],[115,49],[115,50]]) (L:=L) (a:=b+1+1) (by simp) (by simp)
  have pu:(z2y [[117,49],[117,50],[117,51],[117,52]] L (b+1)).length≤1000:=by
   simp only[List.mem_cons,List.not_mem_nil,or_false] at p1
   rcases p1 with p1 | p1 | p1 | p1 <;> simp [p1]
  have ps:(z2y [[115,49],[115,49],[115,50]] L (b+1+1)).length≤1000:=by
   simp only[List.mem_cons,List.not_mem_nil,or_false] at p2
   rcases p2 with p2 | p2 | p2 <;> simp [p2]
  simp only[go_sem,hid,P,hlt]
  generalize z2y [[117,49],[117,50],[117,51],[117,52]] L (b+1)=u at *
  generalize z2y [[115,49],[115,49],[115,50]] L (b+1+1)=s at *
  generalize IntKind.i64.wrap (t+z16 [1,1,5,0] L b)=t' at *
  generalize hc0:b+1+1+1=c0 at *
  refine z0D (fun _:Unit=>⟨[(0,.ref id 0),(1,ALim []),(7,.own h.length rs.length 0 rs.length),(8,AI t'),(9,.ref (h.length+1) 0),(13,AI n),(14,AI rs.length),(29,ALim []),(30,AI 0),(31,AI 0)],h.set id (strm L c0)++[.row (some 4) (rs.map Rec.pv) 0,.box [AS u,AI t',AS s,.sl0 none]],[]⟩)
   (fun _=>True) (fun _=>0) () rfl trivial ?_
  intro _ _
  have f0:¬ (0:Int)<0:=by omega
  have f2:h.length+1+1≤h.length+2:=by omega
  have f3:id+1≤h.length+2:=by omega
  have f4:h.length+1≤h.length+2:=by omega
  simp only[go_sem,f0,f2,f3,f4]
  refine zw7 hid (z0K hp (by omega) (by omega)) rs (by omega) u s pu ps t' (ALim []) (AI t') (AI n) (AI rs.length) _ (fun r' a' J x' r1 r2 r3 r4=>?_)
  have f1:id+1≤h.length+1:=by omega
  simp only[go_sem,w1,zfo r4,f1]
  refine⟨(rs++[r'],t',a'),?_,⟨by simp;omega,fun r hr=>?_,by dsimp only;omega,by simp;omega⟩,by simp;omega⟩
  ·simp only[List.length_append,List.length_cons,List.length_nil,List.map_append,List.map_cons,List.map_nil]
  ·rcases List.mem_append.1 hr with hr | hr
   ·exact q2 r hr
   ·rw[List.mem_singleton] at hr;rw[hr];exact r1
 ·have en:rs.length=n:=by omega
  have hb2:¬ (rs.length<n):=by omega
  have hh:(h.set id (strm L b)++[Obj.row (some 4) (rs.map Rec.pv) 0])[h.length]?=some (.row (some 4) (rs.map Rec.pv) 0):=by rw[List.getElem?_append_right (by simp)];simp
  have st:=fun K=>z3x (h:=h.set id (strm L b)++[Obj.row (some 4) (rs.map Rec.pv) 0]) (K:=K) h.length (rs.map Rec.pv) z7K (by simp;omega) hh (g:=z7i) (caps:=[]) (c:=fun x y=>z1s (z2c x) (z2c y))
   (fun o x hx y hy K=>by
    obtain⟨p,_,rfl⟩:=List.mem_map.1 hx
    obtain⟨q,_,rfl⟩:=List.mem_map.1 hy
    dsimp only
    rw[z2A,z2A]
    exact zuJ p q)
  have hsm:∀ x∈zbS (ltC fun x y=>z1s (z2c x) (z2c y)) (rs.map Rec.pv),∃ r,RecOk r∧x=Rec.pv r:=fun x hx=>by
   obtain⟨r,hr,rfl⟩:=List.mem_map.1 (zeC.1 hx)
   exact⟨r,q2 r hr,rfl⟩
  obtain⟨ss,s1,s2⟩:=z9x hsm
  have hsl:ss.length=rs.length:=by have:=congrArg List.length s2;simp [zeB] at this;omega
  simp only[List.length_map,s2] at st
  have hh2:(h.set id (strm L b)++[Obj.row (some 4) (ss.map Rec.pv) 0])[h.length]?=some (.row (some 4) (ss.map Rec.pv) 0):=by rw[List.getElem?_append_right (by simp)];simp
  have cp:=fun K=>z2z (h:=h.set id (strm L b)++[Obj.row (some 4) (ss.map Rec.pv) 0]) (K:=K) h.length (ss.map Rec.pv) z7K (by simp;omega) hh2 (g:=z7j) (caps:=[]) (q:=fun x y=>z71 (z2c x) (z2c y))
   (fun o x hx y hy K=>by
    obtain⟨p,_,rfl⟩:=List.mem_map.1 hx
    obtain⟨q,_,rfl⟩:=List.mem_map.1 hy
    dsimp only
    rw[z2A,z2A]
    exact zuK p q)
  have hcm:∀ x∈z0V (fun x y=>z71 (z2c x) (z2c y)) (ss.map Rec.pv),∃ r,RecOk r∧x=Rec.pv r:=fun x hx=>by
   obtain⟨r,hr,rfl⟩:=List.mem_map.1 (z6T hx)
   exact⟨r,s1 r hr,rfl⟩
  obtain⟨cs,c1,c2⟩:=z9x hcm
  have hcl:cs.length≤ss.length:=by
   have h1:=congrArg List.length c2
   have h2:=z6S (fun x y=>z71 (z2c x) (z2c y)) (ss.map Rec.pv)
   simp at h1 h2;omega
  simp only[List.length_map,c2,hsl] at cp
  have e0:∀ o,(h.set id (strm L b)++[Obj.row (some 4) (rs.map Rec.pv) 0]).set h.length o=h.set id (strm L b)++[o]:=fun o=>by rw[List.set_append_right _ _ (by simp)];simp
  have e1:∀ o,(h.set id (strm L b)++[Obj.row (some 4) (ss.map Rec.pv) 0]).set h.length o=h.set id (strm L b)++[o]:=fun o=>by rw[List.set_append_right _ _ (by simp)];simp
  simp only[e0] at st
  simp only[e1] at cp
  have rl:(cs.map Rec.pv++List.replicate (rs.length-cs.length) (PV.agg [.str [],.int .i64 0,.str [],.sl none []])).length=rs.length:=by simp;omega
  have hw:win (cs.map Rec.pv++List.replicate (rs.length-cs.length) (PV.agg [.str [],.int .i64 0,.str [],.sl none []])) 0 cs.length=cs.map Rec.pv:=by simp [win]
  have hcr:cs.length≤rs.length:=by omega
  generalize cs.map Rec.pv++List.replicate (rs.length-cs.length) (PV.agg [.str [],.int .i64 0,.str [],.sl none []])=row at *
  simp only[go_sem,hb2,↓st,st,↓cp,cp,rl,hw,hcr]
  exact⟨b,⟨q3,by omega,cs,by omega,c1,rfl⟩,rfl⟩
theorem z8R (hp:posN 20000 a) (n:Nat) (hn:n≤19) :
 GenE z7k [ALim [],AI n] L a (fun v a2=>a≤a2∧a2≤a+12000∧v=ARec []):=by
 refine GenE.of fun h id hid=>?_
 rw[zuy rfl]
 simp only[zd8,go_sem,hid]
 refine z0D (fun t:Nat × Int=>⟨[(0,.ref id 0),(1,ALim []),(2,AI n),(8,AI t.1)],h.set id (strm L t.2),[]⟩) (fun t=>t.1≤6∧a≤t.2∧t.2≤a+2000*t.1) (fun t=>6-t.1) (0,a) rfl ⟨by simp,by simp,by simp⟩ ?_
 rintro⟨k,b⟩ ⟨h1,h2,h3⟩
 dsimp only at h1 h2 h3 ⊢
 rcases Nat.lt_or_ge k 6 with hlt | hge
 ·have hk:(k:Int)<6:=by omega
  have w1:IntKind.i64.wrap ((k:Int)+1)=((k+1:Nat):Int):=z0h _ (by omega) (by omega)
  obtain⟨_,a2,⟨c1,c2,rs,r1,r2,rfl⟩,V⟩:=(ziB (L:=L) (a:=b) (z0K hp h2 (by omega)) n hn).set (h:=h) hid
  have F:=fun h K=>z1P (h:=h) (K:=K) [] rs ⟨by simp,by simp⟩ r2 (by omega)
  have hf:z07 [] rs=8:=by unfold z07 z0T;simp
  rw[hf] at F
  have h8:¬ (8:Int)=0:=by omega
  simp only[go_sem,hid,hk,↓V,V,↓F,F,h8,w1]
  exact⟨(k+1,a2),rfl,⟨by dsimp only;omega,by dsimp only;omega,by dsimp only;omega⟩,by dsimp only;omega⟩
 ·have hk:¬ (k:Int)<6:=by omega
  simp only[go_sem,hid,hk]
  exact⟨b,⟨by omega,by omega,rfl⟩,rfl⟩
attribute [-go_sem] z56
set_option maxHeartbeats 4000000 in
theorem zbl (hid:id<h.length) (hp:posN 40000 a) (m:List Lim) (rs:Nat→List Rec) (K:Ex→St→Prop)
 (hg:∀ (b:Int) (n:Nat),a+1=b→n≤4→GenE z7k [ALim m,AI n] L b (fun v a2=>b≤a2∧a2≤b+12000∧∃ rs:List Rec,rs.length≤n∧(∀ r∈rs,RecB r)∧v=ARec rs))
 (hK:∀ (t:List UInt8) (a2:Int) (e:List (Nat × AV)),a≤a2→a2≤a+13000→t.length≤900→K .ret ⟨[(4,AS t)],h.set id (strm L a2),[]⟩) :
 NW (z0c X) X.gl z4f ⟨[(0,.ref id 0),(1,ALim m)],h.set id (strm L a),[]⟩ K:=by
 rw[z56]
 have hid':id≤h.length:=by omega
 have p0:=z0K (n:=0) hp (Int.le_refl a) (by omega)
 have rb:0≤z1B 0 4 L a∧z1B 0 4 L a≤4:=z4o L a (by omega) (by omega)
 obtain⟨n,hn⟩:∃ n:Nat,z1B 0 4 L a=n:=⟨(z1B 0 4 L a).toNat,by omega⟩
 obtain⟨_,a2,⟨d1,d2,l,hl,hb,rfl⟩,V⟩:=(hg (a+1) n rfl (by omega)).set (h:=h) hid
 have fl:=fun (h':Heap) (K':Post)=>z62 (h:=h') (K:=K') l hb (by omega)
 have lb:(z04 l).length≤167*l.length:=z26 fun r hr=>(hb r hr).len
 have p2:posN 0 a2:=z0K hp (by omega) (by omega)
 have hm:=z6r (L:=L) (a:=a2) (l:=[0,0,1,2]) (by simp) (by simp)
 have hbd:0≤z16 [0,0,1,2] L a2∧z16 [0,0,1,2] L a2≤2:=by
  simp only[List.mem_cons,List.not_mem_nil,or_false] at hm
  omega
 have hx:([.int .i64 0,.int .i64 0,.int .i64 1,.int .i64 2]:List PV).all isI=true:=rfl
 have hu:([.int .i64 0,.int .i64 0,.int .i64 1,.int .i64 2]:List PV).map unI=[0,0,1,2]:=rfl
 generalize hpk:z16 [0,0,1,2] L a2=pk at *
 generalize z04 l=t0 at *
 simp only[z50,go_sem,hid,hid',p0,hn,↓V,V,↓fl,fl,p2,hx,hu,hpk]
 refine z0D (fun t:Nat × List UInt8 × Int=>⟨[(0,.ref id 0),(5,AS t.2.1),(17,AI pk),(18,AI t.1)],h.set id (strm L t.2.2),[]⟩) (fun t=>(t.1:Int)≤pk∧t.2.1.length≤t0.length+8*t.1∧a2+1≤t.2.2∧t.2.2≤a2+1+3*t.1) (fun t=>2-t.1) (0,t0,a2+1) rfl ⟨by simpa using hbd.1,by simp,by simp,by simp⟩ ?_
 rintro⟨k,t,b⟩ ⟨h1,h2,h3,h4⟩
 dsimp only at h1 h2 h3 h4 ⊢
 by_cases hlt:(k:Int)<pk
 ·have w1:IntKind.i64.wrap ((k:Int)+1)=((k+1:Nat):Int):=z0h _ (by omega) (by omega)
  obtain⟨_,b2,⟨e1,e2,t',ht',rfl⟩,V2⟩:=(zoT (L:=L) (a:=b) t [32,10,48,45,57,117,115,49] (by omega) (by simp) (by simp) (by decide) (z0K hp (by omega) (by omega))).set (h:=h) hid
  simp only[go_sem,hid,hlt,↓V2,V2,w1]
  have h10:([32,10,48,45,57,117,115,49]:List UInt8).length=8:=rfl
  exact⟨(k+1,t',b2),rfl,⟨by dsimp only;omega,by dsimp only;omega,by dsimp only;omega,by dsimp only;omega⟩,by dsimp only;omega⟩
 ·simp only[go_sem,hid,hlt]
  exact hK t b [] (by omega) (by omega) (by omega)
end Go.Am
end
section
/- Package lot computes spreads. -/
open Go
set_option linter.unusedSimpArgs false
namespace Go.Am
variable {h:Heap} {K:Post}
theorem ztt:zgi [1,3] = .tup [.p (.agg [eI 2,eI 1]),.p (.agg [eI 1,eI 1]),AI 0]:=by kernel_rfl
theorem zhH:z0c X zaD [] h K=K (AB true) h []:=by
 refine rule ?_
 rw[c_q032 rfl]
 have s1:=fun h K=>ztk (h:=h) (K:=K) [1,3] (by simp)
 rw[ztt] at s1
 simp only[AL,List.map_cons,List.map_nil] at s1
 simp only[zm6,go_sem,↓s1,s1]
end Go.Am
end
section
/- RecordTexts returns true. -/
open Go
set_option linter.all false
set_option maxRecDepth 100000
namespace Go.Am
variable {L:List Int} {a:Int} {h:Heap} {K:Post}
attribute [-go_sem] z56
set_option maxHeartbeats 4000000 in
theorem ze5 (hp:posN 40000 a) (l:List Lim) (h1:1≤l.length) (h3:l.length≤3) (hl:LimOk l) :
 GenE zaG [ALim l] L a (fun v a2=>a≤a2∧a2≤a+13000∧∃ t:List UInt8,t.length≤900∧v=AS t):=by
 refine GenE.of fun h id hid=>?_
 rw[c_q03l rfl]
 have F:=fun h K=>z3D (h:=h) (K:=K) l hl.k (by have:=hl.n;omega)
 by_cases h0:z0T l=0
 ·simp only[zdz,go_sem,hid,↓F,F,h0]
  refine zbl hid hp l (fun _=>[]) _ (fun b n hb hn=>?_) (fun t a2 e b1 b2 ht=>?_)
  ·intro g i hi
   obtain⟨v,a2,⟨c1,c2,rs,r1,r2,r3,rfl⟩,V⟩:=z9M (L:=L) (a:=b) (z0K hp (by omega) (by omega)) l h1 h3 hl h0 n (by omega) g i hi
   exact⟨_,a2,⟨c1,c2,rs,r1,zw8 r3 h3,rfl⟩,V⟩
  ·simp only[go_sem]
   exact⟨a2,⟨b1,b2,t,ht,rfl⟩,rfl⟩
 ·simp only[zdz,go_sem,hid,↓F,F,h0]
  refine zbl hid hp [] (fun _=>[]) _ (fun b n hb hn=>?_) (fun t a2 e b1 b2 ht=>?_)
  ·intro g i hi
   obtain⟨v,a2,⟨c1,c2,rfl⟩,V⟩:=z8R (L:=L) (a:=b) (z0K hp (by omega) (by omega)) n (by omega) g i hi
   exact⟨_,a2,⟨c1,c2,[],by simp,by simp,rfl⟩,V⟩
  ·simp only[go_sem]
   exact⟨a2,⟨b1,b2,t,ht,rfl⟩,rfl⟩
theorem zsU (l:List Lim) (s:List UInt8) (hs:s.length≤900):∀ r∈(rdVR tkQR l s).1,r.res.length≤1000000:=by
 obtain⟨i1,_⟩:=z9C tkQR RecOk (lnsT s) (lnsD s) (fun rs l hm=>zco rs (Nat.le_trans (z48 hm) hs)) (lnsD s) 0 [] (fun _ h=>h) (by simp)
 unfold rdVR
 split
 ·simp
 split
 ·simp
 split
 ·simp
 ·intro r hr
  have:=(i1 r hr).n
  omega
theorem zqx (l:List Lim) (s:List UInt8) (hs:s.length≤900):(rdVR tkQR l s).1.length≤1000000:=by
 obtain⟨_,i2⟩:=z9C tkQR RecOk (lnsT s) (lnsD s) (fun rs l hm=>zco rs (Nat.le_trans (z48 hm) hs)) (lnsD s) 0 [] (fun _ h=>h) (by simp)
 have hD:=z5F s
 rw[List.length_nil,Nat.zero_add] at i2
 unfold rdVR
 split
 ·simp
 split
 ·simp
 split
 ·simp
 ·show (rdTR tkQR s).2.length≤_
  exact Nat.le_trans i2 (by omega)
attribute [-go_sem] z55 z3O
set_option maxHeartbeats 4000000 in
theorem law_RT (L:List Int) {K:Post}:z0c X zhj [AL L] [] K=K (AB true) [] []:=by
 refine rule ?_
 rw[c_q031 rfl]
 have p0:posN 100000 0:=by unfold posN;omega
 obtain⟨_,a1,⟨d1,d2,l,l1,l3,lb,rfl⟩,V1⟩:=(zfK (L:=L) (a:=0) (z0K p0 (by omega) (by omega))).hd (l:=[])
 have pr:posN 0 a1:=z0K p0 (by omega) (by omega)
 have rb:0≤z1B 0 6 L a1∧z1B 0 6 L a1≤6:=z4o L a1 (by omega) (by omega)
 obtain⟨n,hn⟩:∃ n:Nat,z1B 0 6 L a1=n:=⟨(z1B 0 6 L a1).toNat,by omega⟩
 have hl:LimOk l:=zsC l3 lb
 obtain⟨_,a2,⟨e1,e2,rs,r1,r2,rfl⟩,V2⟩:=(ze6 (L:=L) (a:=a1+1) (z0K p0 (by omega) (by omega)) l l1 l3 n (by omega)).hd (l:=[])
 obtain⟨_,a3,⟨f1,f2,t,ht,rfl⟩,V3⟩:=(ze5 (L:=L) (a:=a2) (z0K p0 (by omega) (by omega)) l l1 l3 hl).hd (l:=[])
 have C1:=fun h K=>zqI (h:=h) (K:=K) l hl l3 rs r2 (by omega)
 have C2:=fun h K=>z1P (h:=h) (K:=K) l rs hl r2 (by omega)
 have C4:=fun h K=>zqH (h:=h) (K:=K) l hl t ht
 have C5:=fun h K=>z9P (h:=h) (K:=K) l hl t ht
 rw[zw6] at C4
 have E1:=fun h K=>zeQ (h:=h) (K:=K) (rdVR tkQR l t).1 (rdVR tkQR l t).1 (zqx l t ht) (zsU l t ht)
 generalize rdVR tkQR l t=R at *
 obtain⟨cs,i,e⟩:=R
 dsimp only at C4 C5 E1
 simp only[decide_true] at E1
 by_cases h0:z07 l rs=0
 ·have C3:=fun h K=>z62 (h:=h) (K:=K) rs (zw8 h0 l3) (by omega)
  simp only[h0,if_true] at C1 C2
  simp only[zdv,go_sem,pr,hn,V1,V2,V3,C1,C2,C3]
  rw[z55]
  simp only[z3O,go_sem,C4,C5,E1,zhH]
 ·simp only[h0,if_false] at C1
  simp only[zdv,go_sem,pr,hn,V1,V2,V3,C1,C2,h0]
  rw[z55]
  simp only[z3O,go_sem,C4,C5,E1,zhH]
end Go.Am
end
section
/- From a law that is true here tov the model's calls at what came in. -/
open Go
namespace Go.Am
variable {P:Program}
theorem law_nil {X:Ctx} (HX:Fits P X) {f:Nat} {F:AFun} (hF:X.fn f=some F) (H:∀ L:List Int,z0c X f [zsQ L] [] fun v _ _=>v = .p (.bool true)) (W:World) (hG:GInv X.gl (imm [] [] W)) :
 Calls P f #[.slice none 0 0] W fun e W'=>e = .returned (.bool true)∧RowKit.Below W.heap.size W W':=by
 refine (zgy HX hF (H []) (W:=W) (vs:=[.slice none 0 0]) hG rfl (fun j y v hy hv=>?_)).mono fun e W' he=>?_
 ·cases j with
  | zero=>cases hy;cases hv;exact zrB W
  | succ j=>cases hy
 ·cases e with
  | returned r=>
   obtain⟨⟨v,h,x,μ,hk,hr⟩,hb⟩:=he
   subst hk
   exact⟨by rw[hr.p_bool],hb⟩
  | panicked _=>exact he.elim
  | outgrown=>exact he.elim
theorem law_ints {X:Ctx} (HX:Fits P X) {f:Nat} {F:AFun} (hF:X.fn f=some F) (H:∀ L:List Int,z0c X f [zsQ L] [] fun v _ _=>v = .p (.bool true)) {W:World} (hG:GInv X.gl (imm [] [] W)) {a:Addr} {len cap:Nat} {zs:List Int}
 (hl:len≤cap) (hz:len≤zs.length) (hc:∀ i,i<zs.length→W.cell? (a.add i)=some (.int .i64 (zs.getD i 0))) :
 Calls P f #[.slice (some a) len cap] W fun e W'=>e = .returned (.bool true)∧RowKit.Below W.heap.size W W':=by
 refine (zgy HX hF (H (zs.take len)) (W:=W) (vs:=[.slice (some a) len cap]) hG rfl (fun j y v hy hv=>?_)).mono fun e W' he=>?_
 ·cases j with
  | zero=>
   cases hy;cases hv
   rcases Nat.eq_zero_or_pos len with h0 | h0
   ·subst h0
    exact .p _ _ (.nils _ _ _)
   ·exact zlZ (by simpa [Addr.add] using World.cell?_spot (hc 0 (by omega))) hl hz hc
  | succ j=>cases hy
 ·cases e with
  | returned r=>
   obtain⟨⟨v,h,x,μ,hk,hr⟩,hb⟩:=he
   subst hk
   exact⟨by rw[hr.p_bool],hb⟩
  | panicked _=>exact he.elim
  | outgrown=>exact he.elim
end Go.Am
namespace Go.ChangeShapes
open Go.RowKit Go.WideShapes
section
variable {H:Type} {enc:TypeId × Value→H} {P:Program}
end
end Go.ChangeShapes
end
section
/- The abstract machine,part L2: the kit's contracts asv rows. -/
set_option linter.unusedSimpArgs false
set_option linter.unusedVariables false
namespace Go.Am
variable {P:Program} {gl:Nat→Option PV}
open Go.Shelf
theorem zpU:∀ n:Nat,Go.Lib.decDigits n=decN n:=by
 intro n
 induction n using Nat.strongRecOn with
 | _ n ih=>
  rw[Go.Lib.decDigits,decN]
  split
  ·rfl
  ·rw[ih _ (by omega)];rfl
theorem zsB (n:Int):Go.Lib.itoa n=itoa n:=by
 unfold Go.Lib.itoa itoa
 split
 ·rw[zpU]
 ·rw[zpU];congr 1;omega
theorem tab_of {M:Mem} {w:World} {g:Nat} {name:String} {k:IntKind} {zs:List Int} (hn:P.globalNamed name=some g) (hg:gl g=some (.agg (zs.map (PV.int k)))) (hc:∀ b o v,M.c b o=some v→w.cell? ⟨b,o,none⟩=some v) (hb:∀ b o,M.b b=some o→w.heap[b]?=some o) (hG:GInv gl M) :
 Go.Lib.TabIs P w name k zs:=by
 obtain⟨hv,cs,t,x,h2,h3⟩:=hG g _ hg
 have h4:=hb _ _ h2
 unfold Go.Lib.TabIs World.var?
 rw[hn]
 simp only[Option.bind_some,h4,Option.some.injEq]
 simp only[PV.cells,List.length_map] at h3
 apply Array.ext
 ·simpa using h3
 ·intro i hi1 hi2
  have hi:i<zs.length:=by omega
  cases hv with
  | vp _ _ _ f hm hr=>
   have hy:(PV.agg (zs.map (PV.int k))).cells[i]?=some (.int k zs[i]):=by simp [PV.cells,hi]
   have q1:=hc _ _ _ (hm i _ hy)
   have q2:=hr i _ hy
   have q3:f i = .int k zs[i]:=by
    generalize f i=u at q2
    cases q2;rfl
   rw[q3] at q1
   have q4:cs[i]?=some (.int k zs[i]):=by simpa [World.cell?,h4] using q1
   rw[Array.getElem?_eq_getElem hi1] at q4
   simpa using q4
theorem ginv_tab {W:World} {g:Nat} {name:String} {k:IntKind} {zs:List Int} {v:PV} (hn:P.globalNamed name=some g) (ht:Go.Lib.TabIs P W name k zs) (hv:v = .agg (zs.map (PV.int k))):GInv (glOf [(g,v)]) (imm [] [] W):=by
 intro n v' hv'
 unfold glOf at hv'
 cases hq:Nat.beq n g with
 | false=>rw[hq] at hv';cases hv'
 | true=>
  rw[hq] at hv'
  have e:=Nat.eq_of_beq_eq_true hq
  subst e
  simp only[cond_true,Option.some.injEq] at hv'
  subst hv'
  subst hv
  unfold Go.Lib.TabIs World.var? at ht
  rw[hn] at ht
  simp only[Option.bind_some] at ht
  cases hb:W.heap[n]? with
  | none=>rw[hb] at ht;cases ht
  | some o=>
   rw[hb] at ht
   cases o with
   | cells cs t x=>
    simp only[Option.some.injEq] at ht
    refine⟨.vp _ n 0 (fun j=>(zs.map fun z=>Value.int k z).getD j undef) (fun j y hy=>?_) (fun j y hy=>?_),cs,t,x,zhx hb,by rw[ht];simp [PV.cells]⟩
    ·have hj:j<zs.length:=by have:=z0e hy;simpa [PV.cells] using this
     refine ze9 ?_
     simp [World.cell?,hb,ht,hj,List.getD_eq_getElem?_getD]
    ·have hj:j<zs.length:=by have:=z0e hy;simpa [PV.cells] using this
     have e1:y = .int k zs[j]:=by simpa [PV.cells,hj] using hy.symm
     have e2:(zs.map fun z=>Value.int k z).getD j undef = .int k zs[j]:=by simp [List.getD_eq_getElem?_getD,hj]
     rw[e1,e2]
     exact .int k _
   | _=>cases ht
theorem zss (w:World) (k:Nat) (os:Array Go.Obj):WExt w (Go.Sort.grow (w.drewN k) os):=by
 refine⟨?_,fun b hb=>?_,rfl⟩
 ·show w.heap.size≤(w.heap++os).size
  simp
 ·show (w.heap++os)[b]?=_
  rw[Array.getElem?_append_left hb]
theorem itoaRow {ρ:Ren} (L:Go.Proofs.LaysM.n171 P ρ) (g:Nat) (hn:P.globalNamed "internal/strconv.uint64pow10" = some g) (hg:gl g=some zbX) (he:∀ us w,(callFunc (ρ.f 171) us).run P w = .ok (.enter (ρ.f 171) us) w):PureRow P gl (ρ.f 171) zpf where
 enter:=he
 run M w vs r us hc hb hG hl hr hs:=by
  unfold zpf at hs
  split at hs
  ·rename_i n
   match us,hl with
   | [u],_=>
    have q:=hr 0 _ u rfl rfl
    cases q
    cases hbd:(decide (-9223372036854775808≤n)&&decide (n≤9223372036854775807)) with
    | false=>rw[hbd] at hs;cases hs
    | true=>
     rw[hbd] at hs
     simp only[cond_true,Option.some.injEq] at hs
     subst hs
     simp only[Bool.and_eq_true,decide_eq_true_eq] at hbd
     have hpw:zbX = .agg (Go.Lib.pow10Tab.map (PV.int .u64)):=by unfold zbX Go.Lib.pow10Tab;rw[List.map_map];rfl
     rw[hpw] at hg
     refine (Go.Proofs.Any.strconv_Itoa L n hbd.1 hbd.2 w (tab_of hn hg hc hb hG)).mono fun e w' h=>?_
     obtain⟨rfl,k,os,rfl⟩:=h
     exact⟨_,rfl,zss w k os,by rw[zsB];exact .p _ _ (.str _)⟩
  ·cases hs
end Go.Am
end
section
/- The abstract machine,part L3: strconv.Atoi asv a row. -/
set_option linter.all false
namespace Go.Am
variable {P:Program} {gl:Nat→Option PV}
open Go.Shelf
theorem zbT:∀ (l:List UInt8) (acc n k:Nat),digN acc l=some n→acc<10^k→l.length+k≤18→Go.Lib.parseUint10 acc l = .ok n∧n<10^(k+l.length)
 | [],acc,n,k,h,ha,hl=>by
  simp only[digN,Option.some.injEq] at h
  subst h
  exact⟨rfl,by simpa using ha⟩
 | c::r,acc,n,k,h,ha,hl=>by
  simp only[digN] at h
  split at h
  ·rename_i hc
   simp only[List.length_cons] at hl ⊢
   have h18:10^(k+1)≤10^18:=Nat.pow_le_pow_right (by omega) (by omega)
   have e18:(10:Nat)^18=1000000000000000000:=rfl
   have hp:acc*10+(c.toNat-48)<10^(k+1):=by rw[Nat.pow_succ];omega
   obtain⟨q1,q2⟩:=zbT r _ n (k+1) h hp (by omega)
   refine⟨?_,by rw[show k+(r.length+1)=k+1+r.length by omega];exact q2⟩
   unfold Go.Lib.parseUint10
   rw[if_pos hc,if_neg (by omega),if_neg (by omega)]
   exact q1
  ·cases h
theorem zsA {s:List UInt8} {n:Nat} (h1:1≤s.length) (h2:s.length≤18) (h:digN 0 s=some n):Go.Lib.atoiAll s = .ok (n:Int):=by
 obtain⟨q1,q2⟩:=zbT s 0 n 0 h (by simp) (by omega)
 have h18:10^(0+s.length)≤10^18:=Nat.pow_le_pow_right (by omega) (by omega)
 have e18:(10:Nat)^18=1000000000000000000:=rfl
 cases s with
 | nil=>simp at h1
 | cons c r=>
  have hc:48≤c.toNat∧c.toNat≤57:=by
   simp only[digN] at h
   split at h
   ·assumption
   ·cases h
  unfold Go.Lib.atoiAll
  dsimp only
  rw[if_neg (by omega)]
  have hm:Go.Lib.parseMag (c::r) = .ok n:=by unfold Go.Lib.parseMag;rw[if_neg (by simp)];exact q1
  rw[hm]
  dsimp only
  rw[if_neg (by omega),if_neg (by omega),if_neg (by omega)]
theorem zpT {s:List UInt8} {n:Nat} (h1:2≤s.length) (h2:s.length≤18) (h0:s.head?=some 45) (h:digN 0 s.tail=some n):Go.Lib.atoiAll s = .ok (-(n:Int)):=by
 cases s with
 | nil=>simp at h1
 | cons c r=>
  simp only[List.head?_cons,Option.some.injEq] at h0
  subst h0
  simp only[List.tail_cons,List.length_cons] at h h1 h2
  obtain⟨q1,q2⟩:=zbT r 0 n 0 h (by simp) (by omega)
  have h18:10^(0+r.length)≤10^18:=Nat.pow_le_pow_right (by omega) (by omega)
  have e18:(10:Nat)^18=1000000000000000000:=rfl
  have hm:Go.Lib.parseMag r = .ok n:=by
   unfold Go.Lib.parseMag
   rw[if_neg (by intro e;subst e;simp at h1)]
   exact q1
  have e45:(45:UInt8).toNat=45:=rfl
  unfold Go.Lib.atoiAll
  dsimp only
  rw[if_pos (Or.inr e45),hm]
  dsimp only
  rw[if_neg (by simp [e45]),if_neg (by omega),if_pos e45]
theorem zlW (w:World) (e:TypeId) (t:ByteArray):WExt w (Go.Lib.bytesWorld w e t):=
 ⟨by rw[Go.Lib.bytesWorld_size];omega,fun b hb=>Go.Lib.bytesWorld_at_old w e t b hb,by unfold zed Go.Lib.bytesWorld World.freeze;split <;> rfl⟩
theorem atoiRow {ρ:Ren} (L:Go.Proofs.LaysC.n172 P ρ) (he:∀ us w,(callFunc (ρ.f 172) us).run P w = .ok (.enter (ρ.f 172) us) w):PureRow P gl (ρ.f 172) zis where
 enter:=he
 run M w vs r us hc hb hG hl hr hs:=by
  unfold zis at hs
  split at hs
  ·rename_i s
   match us,hl with
   | [u],_=>
    have q:=hr 0 _ u rfl rfl
    cases q
    split at hs
    ·rename_i hbd
     have hv:∃ v:Int,Go.Lib.atoiAll s = .ok v∧r = .tup [.p (.int .i64 v),.nili]:=by
      split at hs
      ·rename_i n hn
       simp only[Option.some.injEq] at hs
       exact⟨_,zsA hbd.1 hbd.2 hn,hs.symm⟩
      ·split at hs
       ·rename_i h45
        obtain⟨n,hn,rfl⟩:=Option.map_eq_some_iff.1 hs
        exact⟨_,zpT h45.2 hbd.2 h45.1 hn,rfl⟩
       ·cases hs
     obtain⟨n,hn,rfl⟩:=hv
     have hsz:(⟨s.toArray⟩:ByteArray).size=s.length:=by simp [ByteArray.size]
     refine (Go.Proofs.Any.strconv_Atoi_ok L ⟨s.toArray⟩ (by rw[hsz];omega) n hn w).mono fun e w' h=>?_
     obtain⟨rfl,h⟩:=h
     refine⟨_,rfl,?_,?_⟩
     ·rcases h with h | ⟨t,h⟩
      ·rw[h];exact WExt.refl _
      ·rw[h];exact zlW _ _ t
     ·refine .tup _ [.int .i64 n,.nilIface] rfl (fun j y v h1 h2=>?_)
      match j with
      | 0=>simp at h1 h2;subst h1;subst h2;exact .p _ _ (.int _ _)
      | 1=>simp at h1 h2;subst h1;subst h2;exact .nili
      | j+2=>simp at h1
    ·cases hs
  ·cases hs
end Go.Am
end
