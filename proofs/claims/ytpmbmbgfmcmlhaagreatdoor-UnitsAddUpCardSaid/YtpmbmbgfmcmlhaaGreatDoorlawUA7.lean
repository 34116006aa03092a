/- Texts of the proof, laid together: SpRec, SpSortRec, SpCompact, SpGenR, PMerge, SpMrgA, SpLen, SpSort, SpMrgB, SpMrgC, SpMrgD, SpMrgE, SpMrgF, SpMrgG, PSym, PSym2, PSym3, SpSymR, PFin, PCnt, PFail. -/
import Derived.Test.YtpmbmbgfmcmlhaaGreatDoorlawUA6
set_option linter.all false
section
/- Records: what is wrong with them,both ways. -/
open Go
set_option linter.unusedSimpArgs false
namespace Go.Am
variable {h:aA} {K:kA}
theorem s_rf1 (n:Int):gA X uI [AI n] h K=K (AB (!isM n)) h []:=by
 refine rule ?_;rw[z8R rfl];simp only[DN,go_sem,zkz]
theorem zk8 (n:Int):gA X zI [AI n] h K=K (AB (!isM n)) h []:=by
 refine rule ?_;rw[z9x rfl];simp only[YN,go_sem,TJ];rfl
theorem zk3 (l:List Lim)(r:Rec)(hl:LimOk l)(hr:RecOk r):gA X RK [JA l,.p r.pv] h K=K (AI (GB l r)) h []:=by
 refine rule ?_;rw[z8Q rfl];have ku:=fun h K=>EY (h:=h) (K:=K) r.unit (by have:=hr.u;omega)
 have ks:=fun h K=>EY (h:=h) (K:=K) r.site (by have:=hr.s;omega)
 have cf:=fun h K=>tZ (h:=h) (K:=K) (g:=uI) (caps:=[]) (p:=noM) (xs:=r.res.map eI) (fun x hx K=>by obtain⟨n,_,rfl⟩:=List.mem_map.1 hx;exact s_rf1 n) UZ (by have:=hr.n;simp;omega)
 have cp:=fun h K=>zkt (h:=h) (K:=K) l r hl.n hr.n
 rw[YZ]at cf;simp only[Rec.pv]at cp;unfold GB;cases h1:MB r.unit with
 | false=>simp only[gF,Rec.pv,go_sem,↓ku,ku,h1]
 | true=>
  cases h2:MB r.site with
  | false=>simp only[gF,Rec.pv,go_sem,↓ku,ku,↓ks,ks,h1,h2]
  | true=>
   cases h3:RI r.time with
   | false=>simp only[gF,Rec.pv,go_sem,↓ku,ku,↓ks,ks,h1,h2,IQ,h3]
   | true=>
    cases h4:r.res.all isM with
    | false=>simp only[gF,Rec.pv,go_sem,↓ku,ku,↓ks,ks,h1,h2,IQ,h3,↓cf,cf,h4]
    | true=>
     cases h5:uB l r.res with
     | false=>simp only[gF,Rec.pv,go_sem,↓ku,ku,↓ks,ks,h1,h2,IQ,h3,↓cf,cf,h4,↓cp,cp,h5]
     | true=>simp only[gF,Rec.pv,go_sem,↓ku,ku,↓ks,ks,h1,h2,IQ,h3,↓cf,cf,h4,↓cp,cp,h5]
theorem zk6 (l:List Lim)(res:List Int)(hl:l.length≤1000)(hr:res.length≤1000):gA X eL [JA l,AL res] h K=K (AI (cC l res)) h []:=by
 refine rule ?_;rw[z9t rfl];simp only[VN,go_sem];refine CA (fun k:Nat=>⟨[(0,JA l),(7,AL res),(8,AI res.length),(9,AI k)],h,[]⟩) (fun k=>k≤res.length∧UI l res k) (fun k=>res.length-k) 0 rfl ⟨by omega,fun i hi=>by omega⟩ ?_
 rintro k ⟨hk,hok⟩
 rcases Nat.lt_or_ge k res.length with hlt|hge
 ·have g2:=bB eI hlt
  have w2:IntKind.i64.wrap ((k:Int)+1)=((k+1:Nat):Int):=nA _ (by omega) (by omega)
  rcases Nat.lt_or_ge k l.length with hkl|hkl
  ·have g1:=bB Lim.pv hkl
   have gg:=FO (l:=l) (res:=res) hkl hlt
   unfold oE at gg;cases hg:inB l[k].lo res[k] l[k].hi with
   | false=>
    rw[hg]at gg;simp only[go_sem,hlt,hkl,g1,g2,Lim.pv,bE,hg];rw[IV hok gg]
   | true=>
    simp only[go_sem,hlt,hkl,g1,g2,Lim.pv,bE,hg,w2];refine⟨k+1,rfl,⟨by omega,fun i hi=>?_⟩,by omega⟩
    rcases Nat.lt_or_ge i k with h3|h3
    ·exact hok i h3
    ·have:i=k:=by omega
     subst this;rw[gg,hg];simp
  ·have hkl':¬k<l.length:=by omega
   simp only[go_sem,hlt,hkl',g2,w2];refine⟨k+1,rfl,⟨by omega,fun i hi=>?_⟩,by omega⟩
   rcases Nat.lt_or_ge i k with h3|h3
   ·exact hok i h3
   ·have:(RB l res)[i]?=none:=List.getElem?_eq_none (by simp [RB];omega)
    rw[this];simp
 ·have ek:k=res.length:=by omega
  subst ek;have:UI l res (RB l res).length:=fun i hi=>hok i (by simp [RB]at hi;omega)
  simp only[go_sem,Nat.lt_irrefl];rw[z24 this]
set_option maxHeartbeats 1000000 in
theorem zk7 (l:List Lim)(r:Rec)(hl:LimOk l)(hr:RecOk r):gA X fL [JA l,.p r.pv] h K=K (AI (GB l r)) h []:=by
 refine rule ?_;rw[z9w rfl];have ku:=fun h K=>JY (h:=h) (K:=K) r.unit (by have:=hr.u;omega)
 have ks:=fun h K=>JY (h:=h) (K:=K) r.site (by have:=hr.s;omega)
 have cf:=fun h K=>tZ (h:=h) (K:=K) (g:=zI) (caps:=[]) (p:=noM) (xs:=r.res.map eI) (fun x hx K=>by obtain⟨n,_,rfl⟩:=List.mem_map.1 hx;exact zk8 n) UZ (by have:=hr.n;simp;omega)
 have fl:=fun h K=>zk6 (h:=h) (K:=K) l r.res hl.n hr.n
 rw[YZ]at cf;have hw:IntKind.i64.wrap ((r.res.length:Int)-1)=(r.res.length:Int)-1:=nA _ (by omega) (by have:=hr.n;omega)
 unfold GB;cases h1:MB r.unit with
 | false=>simp only[SD,Rec.pv,go_sem,↓ku,ku,h1]
 | true=>
  cases h2:MB r.site with
  | false=>simp only[SD,Rec.pv,go_sem,↓ku,ku,↓ks,ks,h1,h2]
  | true=>
   cases h3:RI r.time with
   | false=>simp only[SD,Rec.pv,go_sem,↓ku,ku,↓ks,ks,h1,h2,wH,h3]
   | true=>
    cases h4:r.res.all isM with
    | false=>simp only[SD,Rec.pv,go_sem,↓ku,ku,↓ks,ks,h1,h2,wH,h3,↓cf,cf,h4]
    | true=>
     unfold uB;generalize cC l r.res=w at *;cases h5:inB 1 r.res.length l.length with
     | false=>simp only[SD,Rec.pv,go_sem,↓ku,ku,↓ks,ks,h1,h2,wH,h3,↓cf,cf,h4,↓fl,fl,bE,h5]
     | true=>
      by_cases h6:0≤w
      ·have h6':¬w<0:=by omega
       by_cases h7:w=(r.res.length:Int)-1
       ·simp only[SD,Rec.pv,go_sem,↓ku,ku,↓ks,ks,h1,h2,wH,h3,↓cf,cf,h4,↓fl,fl,bE,h5,h6,h6',hw,eq_true h7]
       ·simp only[SD,Rec.pv,go_sem,↓ku,ku,↓ks,ks,h1,h2,wH,h3,↓cf,cf,h4,↓fl,fl,bE,h5,h6,h6',hw,h7]
      ·have h6':w<0:=by omega
       by_cases h7:(r.res.length:Int)=l.length
       ·simp only[SD,Rec.pv,go_sem,↓ku,ku,↓ks,ks,h1,h2,wH,h3,↓cf,cf,h4,↓fl,fl,bE,h5,h6,h6',eq_true h7]
       ·simp only[SD,Rec.pv,go_sem,↓ku,ku,↓ks,ks,h1,h2,wH,h3,↓cf,cf,h4,↓fl,fl,bE,h5,h6,h6',h7]
def orL:List Int→Int
 | []=>0
 | x::r=>if x≠0 then x else orL r
theorem z5e (l:List Int)(hl:l.length≤1000):gA X mF [AL l] h K=K (AI (orL l)) h []:=by
 refine rule ?_;rw[z83 rfl];simp only[qN,go_sem];refine CA (fun k:Nat=>⟨[(3,AI 0),(6,AL l),(7,AI l.length),(8,AI k)],h,[]⟩) (fun k=>k≤l.length∧orL (l.drop k)=orL l) (fun k=>l.length-k) 0 rfl ⟨by omega,rfl⟩ ?_
 rintro k ⟨hk,hp⟩
 rcases Nat.lt_or_ge k l.length with hlt|hge
 ·have g2:=bB eI hlt
  have w2:IntKind.i64.wrap ((k:Int)+1)=((k+1:Nat):Int):=nA _ (by omega) (by omega)
  rw[List.drop_eq_getElem_cons hlt,orL]at hp;by_cases hz:l[k]=0
  ·rw[if_neg (by simp [hz])]at hp
   simp only[go_sem,hlt,g2,hz,w2];exact⟨k+1,rfl,⟨by omega,hp⟩,by omega⟩
  ·rw[if_pos hz]at hp
   simp only[go_sem,hlt,g2,hz];rw[hp]
 ·have ek:k=l.length:=by omega
  subst ek;rw[List.drop_length]at hp;simp only[go_sem,Nat.lt_irrefl];rw[←hp];rfl
theorem FY (a b:Rec):gA X HE [.p a.pv,.p b.pv] h K=K (AI (EA a b)) h []:=by
 refine rule ?_;rw[z8F rfl];have o:=fun h K=>z5e (h:=h) (K:=K) [oC a.time b.time,OA a.unit b.unit] (by simp)
 simp only[AL,List.map_cons,List.map_nil]at o;have e:orL [oC a.time b.time,OA a.unit b.unit]=EA a b:=by
  unfold EA orL;split
  ·rfl
  ·unfold orL
   split
   ·rfl
   ·rename_i h;simp only[ne_eq,Decidable.not_not]at h;rw[h];rfl
 rw[e]at o;simp only[uN,Rec.pv,go_sem,z5d,KQ,o]
theorem zk4 (a b:Rec)(ha : -1000000000000000000≤a.time∧a.time≤1000000000000000000)(hb : -1000000000000000000≤b.time∧b.time≤1000000000000000000):gA X gL [.p a.pv,.p b.pv] h K=K (AI (EA a b)) h []:=by
 refine rule ?_;rw[z9y rfl];have w:IntKind.i64.wrap (a.time-b.time)=a.time-b.time:=nA _ (by omega) (by omega)
 unfold EA;by_cases he:a.time=b.time
 ·have:oC a.time b.time=0:=by rw[he];unfold oC;simp
  rw[if_neg (by simp [this])]
  simp only[BK,Rec.pv,go_sem,he,KQ]
 ·have hc:oC a.time b.time≠0:=by unfold oC;split <;> (try split) <;> omega
  rw[if_pos hc];rw[z9R];simp only[BK,Rec.pv,go_sem,he,w,zkA]
theorem zQ {l:List Lim}{p:Option Rec}{x:Rec}{r:List Rec}:wC l p (x::r)=if GB l x≠0 then GB l x else if(match p with|some q=>decide (EA x q≤0)|none=>false)=true then 7 else wC l (some x) r:=rfl
theorem pY {l:List Lim}{r:Rec}(hf:GB l r=0):0≤r.time∧r.time≤345686399999:=by
 unfold GB at hf;split at hf
 ·cases hf
 ·split at hf
  ·cases hf
  ·rename_i h
   simp [RI,inB]at h;exact h
theorem zk5 (l:List Lim)(r:List Rec)(hl:LimOk l)(hr:∀ x∈r,RecOk x)(hn:r.length≤1000000):gA X SK [JA l,UA r] h K=K (AI (tH l r)) h []:=by
 refine rule ?_;rw[z8S rfl];unfold tH;by_cases h1:(5000:Int)<r.length
 ·simp only[vK,go_sem,h1]
 simp only[vK,go_sem,h1];refine CA (fun k:Nat=>⟨[(0,JA l),(1,UA r),(11,UA r),(12,AI r.length),(13,AI k)],h,[]⟩) (fun k=>k≤r.length∧wC l (r.take k).getLast? (r.drop k)=wC l none r) (fun k=>r.length-k) 0 rfl ⟨by omega,rfl⟩ ?_
 rintro k ⟨hkl,hp⟩
 rcases Nat.lt_or_ge k r.length with hlt|hge
 ·have hg:=bB Rec.pv hlt
  have w2:IntKind.i64.wrap ((k:Int)+1)=((k+1:Nat):Int):=nA _ (by omega) (by omega)
  have hx:=hr _ (List.getElem_mem hlt)
  have hlast:(r.take (k+1)).getLast?=some r[k]:=by rw[List.take_succ_eq_append_getElem hlt];exact List.getLast?_concat
  rw[List.drop_eq_getElem_cons hlt,zQ]at hp;have cx:MA (some 4) 0 (r[k].pv)=some r[k].pv:=rfl
  have rf:=fun h K=>zk3 (h:=h) (K:=K) l r[k] hl hx
  simp only[Rec.pv]at rf;by_cases h2:GB l r[k]=0
  ·rw[if_neg (by simp [h2])]at hp
   cases k with
   | zero=>
    simp only[List.take_zero,List.getLast?_nil,reduceCtorEq,if_false]at hp;have hlt0:(0:Int)<r.length:=by omega
    simp only[go_sem,hlt0,hg,cx,Rec.pv,rf,h2,Int.lt_irrefl,show IntKind.i64.wrap 1=1 from rfl]
    exact⟨0+1,rfl,⟨by omega,by rw[hlast];exact hp⟩,by omega⟩
   | succ j=>
    have hj:j<r.length:=by omega
    have hgj:=bB Rec.pv hj
    have cj:MA (some 4) 0 (r[j].pv)=some r[j].pv:=rfl
    have hlj:(r.take (j+1)).getLast?=some r[j]:=by rw[List.take_succ_eq_append_getElem hj];exact List.getLast?_concat
    have w3:IntKind.i64.wrap (((j+1:Nat):Int)-1)=(j:Int):=by rw[nA _ (by omega) (by omega)];omega
    have p1:(0:Int)<((j+1:Nat):Int):=by omega
    have bt:=fun h K=>FY (h:=h) (K:=K) r[j+1] r[j]
    simp only[Rec.pv]at bt;rw[hlj]at hp;by_cases h3:EA r[j+1] r[j]≤0
    ·simp only[h3,decide_true,if_true]at hp
     simp only[go_sem,hlt,hj,hg,hgj,cx,cj,Rec.pv,rf,h2,p1,w3,bt,h3];rw[←hp]
    ·simp only[h3,decide_false,reduceCtorEq,if_false]at hp
     simp only[go_sem,hlt,hj,hg,hgj,cx,cj,Rec.pv,rf,h2,p1,w3,bt,h3,w2];exact⟨j+1+1,rfl,⟨by omega,by rw[hlast];exact hp⟩,by omega⟩
  ·rw[if_pos h2]at hp
   simp only[go_sem,hlt,hg,cx,Rec.pv,rf,h2];rw[←hp]
 ·have ek:k=r.length:=by omega
  subst ek;rw[List.drop_length]at hp;simp only[go_sem,Nat.lt_irrefl];rw[←hp];cases (r.take r.length).getLast? <;> rfl
theorem DY (l:List Lim)(r:List Rec)(hl:LimOk l)(hr:∀ x∈r,RecOk x)(hn:r.length≤1000000):gA X nF [JA l,UA r] h K=K (AI (QA l r)) h []:=by
 refine rule ?_;rw[z8A rfl];have cl:=fun h K=>zkh (h:=h) (K:=K) l hl.k (by have:=hl.n;omega)
 have cr:=fun h K=>zk5 (h:=h) (K:=K) l r hl hr hn
 unfold QA;by_cases h1:PC l=0
 ·simp only[qK,go_sem,cl,cr,h1]
 ·simp only[qK,go_sem,cl,cr,h1]
theorem zko (l:List Lim)(r:List Rec)(hl:LimOk l)(hr:∀ x∈r,RecOk x)(hn:r.length≤1000000):gA X bL [JA l,UA r] h K=K (AI (QA l r)) h []:=by
 refine rule ?_;rw[z9p rfl];have cl:=fun h K=>z4R (h:=h) (K:=K) l hl.k (by have:=hl.n;omega)
 unfold QA tH;by_cases h0:PC l=0
 case neg=>simp only[VH,go_sem,cl,h0]
 by_cases h1:(5000:Int)<r.length
 ·simp only[VH,go_sem,cl,h0,h1]
 simp only[VH,go_sem,cl,h0,h1];refine CA (fun k:Nat=>⟨[(0,JA l),(1,UA r),(17,UA r),(18,AI r.length),(19,AI k)],h,[]⟩) (fun k=>k≤r.length∧wC l (r.take k).getLast? (r.drop k)=wC l none r∧∀x∈r.take k,GB l x=0) (fun k=>r.length-k) 0 rfl ⟨by omega,rfl,by simp⟩ ?_
 rintro k ⟨hkl,hp,hz⟩
 rcases Nat.lt_or_ge k r.length with hlt|hge
 ·have hg:=bB Rec.pv hlt
  have w2:IntKind.i64.wrap ((k:Int)+1)=((k+1:Nat):Int):=nA _ (by omega) (by omega)
  have hx:=hr _ (List.getElem_mem hlt)
  have hlast:(r.take (k+1)).getLast?=some r[k]:=by rw[List.take_succ_eq_append_getElem hlt];exact List.getLast?_concat
  rw[List.drop_eq_getElem_cons hlt,zQ]at hp;have cx:MA (some 4) 0 (r[k].pv)=some r[k].pv:=rfl
  have rf:=fun h K=>zk7 (h:=h) (K:=K) l r[k] hl hx
  simp only[Rec.pv]at rf;by_cases h2:GB l r[k]=0
  ·rw[if_neg (by simp [h2])]at hp
   have hz':∀x∈r.take (k+1),GB l x=0:=fun x hx=>by
    rw[List.take_succ_eq_append_getElem hlt,List.mem_append,List.mem_singleton]at hx;rcases hx with hx|rfl
    ·exact hz x hx
    ·exact h2
   cases k with
   | zero=>
    simp only[List.take_zero,List.getLast?_nil,reduceCtorEq,if_false]at hp;have hlt0:(0:Int)<r.length:=by omega
    simp only[go_sem,hlt0,hg,cx,Rec.pv,rf,h2,Int.lt_irrefl,show IntKind.i64.wrap 1=1 from rfl]
    exact⟨0+1,rfl,⟨by omega,by rw[hlast];exact hp,hz'⟩,by omega⟩
   | succ j=>
    have hj:j<r.length:=by omega
    have hgj:=bB Rec.pv hj
    have cj:MA (some 4) 0 (r[j].pv)=some r[j].pv:=rfl
    have hlj:(r.take (j+1)).getLast?=some r[j]:=by rw[List.take_succ_eq_append_getElem hj];exact List.getLast?_concat
    have w3:IntKind.i64.wrap (((j+1:Nat):Int)-1)=(j:Int):=by rw[nA _ (by omega) (by omega)];omega
    have p1:(0:Int)<((j+1:Nat):Int):=by omega
    have t1:=pY h2
    have t2:=pY (hz r[j] (by rw[List.mem_take_iff_getElem];exact⟨j,by omega,rfl⟩))
    have bt:=fun h K=>zk4 (h:=h) (K:=K) r[j] r[j+1] (by omega) (by omega)
    simp only[Rec.pv]at bt;rw[hlj]at hp;have hneg:=yQ r[j+1] r[j]
    by_cases h3:EA r[j+1] r[j]≤0
    ·have h3':0≤EA r[j] r[j+1]:=by omega
     simp only[h3,decide_true,if_true]at hp;simp only[go_sem,hlt,hj,hg,hgj,cx,cj,Rec.pv,rf,h2,p1,w3,bt,h3'];rw[←hp]
    ·have h3':¬0≤EA r[j] r[j+1]:=by omega
     simp only[h3,decide_false,reduceCtorEq,if_false]at hp;simp only[go_sem,hlt,hj,hg,hgj,cx,cj,Rec.pv,rf,h2,p1,w3,bt,h3',w2];exact⟨j+1+1,rfl,⟨by omega,by rw[hlast];exact hp,hz'⟩,by omega⟩
  ·rw[if_pos h2]at hp
   simp only[go_sem,hlt,hg,cx,Rec.pv,rf,h2];rw[←hp]
 ·have ek:k=r.length:=by omega
  subst ek;rw[List.drop_length]at hp;simp only[go_sem,Nat.lt_irrefl];rw[←hp];cases (r.take r.length).getLast? <;> rfl
end Go.Am
end
section
/- Sorting records: printed by program. -/
open Go
set_option linter.unusedSimpArgs false
namespace Go.Am
attribute [-go_sem] PV.cells splice
variable {h:aA} {K:kA}
theorem WV (id n:Nat)(l tl:List PV)(hn:n=l.length+tl.length)(hs:mC (some 4) l)(hl:l.length≤1000)(hh:h[id]?=some (.row (some 4) (l++tl) 0)){g:Nat}{caps:List AV}{c:PV→PV→Int}(hc:MC g caps c l id h) :
 gA X DD [.own id n 0 l.length,AI 0,AI l.length,.fn g caps] h K=K (.tup []) (h.set id (.row (some 4) (vA (ltC c) l++tl) 0)) []:=by
 refine rule ?_;rw[FS];have hid:=ED hh
 have hst:∀o,(h.set id o)[id]?=some o:=fun o=>uD hid
 simp only[YH,go_sem,show IntKind.i64.wrap 1=1 from rfl]
 refine CA (fun i:Nat=>⟨[(0,.own id n 0 l.length),(1,AI 0),(2,AI l.length),(3,.fn g caps),(8,AI i)],h.set id (.row (some 4) ((JC (ltC c) (l.take i)).reverse++(l.drop i++tl)) 0),[]⟩) (fun i=>1≤i∧(i≤l.length∨i=1)) (fun i=>l.length-i) 1 ?_ (by simp) ?_
 ·have:(JC (ltC c) (l.take 1)).reverse++(l.drop 1++tl)=l++tl:=by cases l <;> rfl
  rw[this,xF hh];rfl
 rintro i ⟨hi1,hi2⟩
 rcases Nat.lt_or_ge i l.length with hlt|hge
 ·simp only[go_sem,hlt]
  have hxl:l[i]∈l:=List.getElem_mem hlt
  generalize hx:l[i]=x at *;generalize hR:JC (ltC c) (l.take i)=R;have hRl:R.length=i:=by rw[←hR,z31];simp;omega
  have hRm:∀z∈R,z∈l:=fun z hz=>List.mem_of_mem_take ((KO (ltC c) (l.take i)).mem_iff.1 (by rw[hR];exact hz))
  have hdrop:l.drop i=x::l.drop (i+1):=by rw[←hx];exact List.drop_eq_getElem_cons hlt
  have hnext:JC (ltC c) (l.take (i+1))=WA (ltC c) x R:=by rw[z34 _ _ _ hlt,hR,hx]
  refine CA (fun t:List PV×List PV=>⟨[(0,.own id n 0 l.length),(1,AI 0),(2,AI l.length),(3,.fn g caps),(8,AI i),(9,AI t.1.length)],h.set id (.row (some 4) (t.1.reverse++x::t.2) 0),[]⟩)
   (fun t=>∃B,R=B++t.1∧t.2=B.reverse++(l.drop (i+1)++tl)∧∀b∈B,ltC c x b=true) (fun t=>t.1.length) (R,l.drop (i+1)++tl) (by rw[hdrop,hRl];rfl) ⟨[],rfl,rfl,by simp⟩ ?_
  rintro⟨A,C⟩ ⟨B,q1,q2,q3⟩
  dsimp only at q1 q2 q3;have hlen:(A.reverse++x::C).length=n:=by
   have:R.length=B.length+A.length:=by rw[q1];simp
   rw[q2];simp;omega
  have hBA:B.length+A.length<l.length:=by
   have:R.length=B.length+A.length:=by rw[q1];simp
   omega
  have hln:l.length≤n:=by omega
  have w1:IntKind.i64.wrap ((i:Int)+1)=((i+1:Nat):Int):=nA _ (by omega) (by omega)
  cases A with
  | nil=>
   have hd:WA (ltC c) x R=B++[x]:=by rw[q1];exact BL (ltC c) x [] B q3 (fun y r h=>by cases h)
   simp only[go_sem,Int.lt_irrefl,w1];refine⟨i+1,?_,by omega,by omega⟩
   simp only[hnext,hd,q2,List.reverse_append,List.reverse_nil,List.nil_append,List.reverse_cons,List.append_assoc,List.cons_append]
  | cons y A=>
   have hyl:y∈l:=hRm y (by rw[q1];simp)
   have g1:=z3y (y::A) C x
   have g2:=z3z A C x y
   have sw:=z30 A C x y
   simp only[List.length_cons]at hBA;generalize hrow:(y::A).reverse++x::C=row at *;simp only[List.length_cons]at g1;have w2:IntKind.i64.wrap (((A.length+1:Nat):Int)-1)=(A.length:Int):=by rw[nA _ (by omega) (by omega)];omega
   have p1:(0:Int)<((A.length+1:Nat):Int):=by omega
   have b1:A.length+1<l.length:=by omega
   have b2:A.length<l.length:=by omega
   have cx:=eC (hs x hxl)
   have cy:=eC (hs y hyl)
   have hcc:=fun o K=>hc o x hxl y hyl K
   by_cases hxy:c x y<0
   ·have g3:(row.set (A.length+1) y)[A.length]?=some y:=by rw[List.getElem?_set_ne (by omega),g2]
    have lx:=wE (hs x hxl)
    have ly:=wE (hs y hyl)
    have sx:=vE (hs x hxl)
    have sy:=vE (hs y hyl)
    simp only[jA]at lx ly;have t1:=fun i xs h1=>cE (hs x hxl) (hs y hyl) id i 0 xs h1
    have t2:=fun i xs h1=>cE (hs y hyl) (hs x hxl) id i 0 xs h1
    simp only[go_sem,hst,p1,hlen,g1,g2,g3,w2,b1,b2,hln,cx,cy,hcc,hxy,lx,ly,sx,sy,t1,t2,sw];refine⟨(A,y::C),rfl,⟨B++[y],by simp [q1],by simp [q2],fun b hb=>?_⟩,by simp⟩
    rw[List.mem_append,List.mem_singleton]at hb;rcases hb with hb|rfl
    ·exact q3 b hb
    ·simpa [ltC] using hxy
   ·have hd:WA (ltC c) x R=B++x::y::A:=by rw[q1];exact BL (ltC c) x (y::A) B q3 (fun z r h=>by cases h;simpa [ltC] using hxy)
    simp only[go_sem,hst,p1,hlen,g1,g2,w2,b1,b2,hln,cx,cy,hcc,hxy,w1];refine⟨i+1,?_,by omega,by omega⟩
    simp only[hnext,hd,←hrow,q2,List.reverse_append,List.reverse_cons,List.append_assoc,List.cons_append,List.nil_append]
 ·have hge':¬i<l.length:=by omega
  have e1:l.take i=l:=List.take_of_length_le hge
  have e2:l.drop i=[]:=List.drop_of_length_le hge
  simp only[go_sem,hge',e1,e2];rfl
theorem zkW (id:Nat)(l:List PV)(hs:mC (some 4) l)(hl:l.length≤19)(hh:h[id]?=some (.row (some 4) l 0)){g:Nat}{caps:List AV}{c:PV→PV→Int}(hc:MC g caps c l id h) :
 gA X IE [.own id l.length 0 l.length,.fn g caps] h K=K (.tup []) (h.set id (.row (some 4) (vA (ltC c) l) 0)) []:=by
 refine rule ?_;rw[ES];have key:∀K:kA,gA X YG [.own id l.length 0 l.length,AI l.length,.fn g caps] h K=K (.tup []) (h.set id (.row (some 4) (vA (ltC c) l) 0)) []:=by
  intro K;refine rule ?_;rw[GS];have is:=fun K=>WV (h:=h) (K:=K) id l.length l [] rfl hs (by omega) (by rw[List.append_nil];exact hh) hc
  simp only[List.append_nil]at is;have b1:¬((20:Int)≤(l.length:Int)):=by omega
  have b2:¬((20:Int)<(l.length:Int)):=by omega
  simp only[ZH,go_sem];refine CA (fun _:Unit=>⟨[(0,.own id l.length 0 l.length),(1,AI l.length),(2,.fn g caps),(6,AI 20),(7,AI 0),(8,AI 20)],h,[]⟩) (fun _=>True) (fun _=>0) () rfl trivial ?_
  intro _ _;simp only[go_sem,b1,is];refine CA (fun _:Unit=>⟨[(0,.own id l.length 0 l.length),(1,AI l.length),(2,.fn g caps),(6,AI 20)],h.set id (.row (some 4) (vA (ltC c) l) 0),[]⟩) (fun _=>True) (fun _=>0) () rfl trivial ?_
  intro _ _;simp only[go_sem,b2]
 simp only[XH,go_sem,key]
end Go.Am
end
section
/- Leaving out what is alike: printed by program. -/
open Go
set_option linter.unusedSimpArgs false
namespace Go.Am
attribute [-go_sem] PV.cells splice
variable {h:aA} {K:kA}
theorem sZ (id:Nat)(l:List PV)(hs:mC (some 4) l)(hl:l.length≤100000)(hh:h[id]?=some (.row (some 4) l 0)){g:Nat}{caps:List AV}{q:PV→PV→Bool}(hq:z6a g caps q l id h) :
 gA X TF [.own id l.length 0 l.length,.fn g caps] h K=K (.own id l.length 0 (iB q l).length) (h.set id (.row (some 4) (iB q l++List.replicate (l.length-(iB q l).length) (PV.agg [.str [],.int .i64 0,.str [],.sl none []])) 0)) []:=by
 refine rule ?_;rw[z91];have hid:=ED hh
 have hst:∀o,(h.set id o)[id]?=some o:=fun o=>uD hid
 have hb:¬h.length≤id:=by omega
 have hb2:max h.length (id+1)=h.length:=by omega
 have hb3:id+1≤h.length:=hid
 have hq0:∀x∈l,∀y∈l,∀K:kA,gA X g (.p x :: .p y::caps) h K=K (AB (q x y)) h []:=fun x hx y hy K=>by have:=hq (.row (some 4) l 0) x hx y hy K;rwa [xF hh]at this
 by_cases h2:l.length<2
 ·have h2':(l.length:Int)<2:=by omega
  have e:iB q l=l:=by
   cases l with
   | nil=>rfl
   | cons x r=>
    have:r=[]:=List.length_eq_zero_iff.1 (by simp only[List.length_cons]at h2;omega)
    subst this;rfl
  simp only[CK,go_sem,h2',e,Nat.sub_self,List.replicate_zero,List.append_nil,hb,hb2,hb3];rw[xF hh]
 have h2':¬(l.length:Int)<2:=by omega
 simp only[CK,go_sem,h2'];refine CA (fun k:Nat=>⟨[(0,.own id l.length 0 l.length),(1,.fn g caps),(5,AI ((k+1:Nat):Int))],h,[]⟩) (fun k=>k+1≤l.length∧iB q (l.take (k+1))=l.take (k+1)) (fun k=>l.length-(k+1)) 0 rfl ⟨by omega,?_⟩ ?_
 ·cases l with
  | nil=>rfl
  | cons x r=>rfl
 rintro k ⟨hk,hc⟩
 rcases Nat.lt_or_ge (k+1) l.length with hlt|hge
 ·have hk0:k<l.length:=by omega
  have g1:l[k+1]?=some l[k+1]:=List.getElem?_eq_getElem hlt
  have g2:l[k]?=some l[k]:=List.getElem?_eq_getElem hk0
  have c1:=eC (WJ hs hlt)
  have c2:=eC (WJ hs hk0)
  have w1:IntKind.i64.wrap (((k+1:Nat):Int)-1)=(k:Int):=by rw[nA _ (by omega) (by omega)];omega
  have w2:IntKind.i64.wrap (((k+1:Nat):Int)+1)=((k+1+1:Nat):Int):=nA _ (by omega) (by omega)
  have hqk:=fun K=>hq0 _ (List.getElem_mem hlt) _ (List.getElem_mem hk0) K
  have hcs:=z0F q l k hlt
  cases hqx:q l[k+1] l[k]with
  | false=>
   rw[hqx]at hcs;simp only[go_sem,hh,hlt,hk0,g1,g2,c1,c2,w1,w2,hqk,hqx];exact⟨k+1,rfl,⟨by omega,by rw[hcs,hc,cond_false,List.take_succ_eq_append_getElem hlt]⟩,by omega⟩
  | true=>
   rw[hqx,cond_true,List.append_nil,hc]at hcs;have hle:k+1≤l.length:=by omega
   simp only[go_sem,hh,hlt,hk0,hle,g1,g2,c1,c2,w1,hqk,hqx];have e0:k+1+(l.length-(k+1))=l.length:=by omega
   refine CA (fun t:List PV×Nat×Nat=>⟨[(0,.own id l.length 0 l.length),(1,.fn g caps),(5,AI ((t.2.1:Nat):Int)),(6,.own id l.length (k+1) (l.length-(k+1))),(7,AI ((t.2.2+1:Nat):Int))],h.set id (.row (some 4) t.1 0),[]⟩)
    (fun t=>t.1.length=l.length∧mC (some 4) t.1∧t.2.1≤k+1+t.2.2∧k+1+t.2.2<l.length∧t.1.take t.2.1=iB q (l.take (k+1+t.2.2+1))∧t.1.drop (k+1+t.2.2)=l.drop (k+1+t.2.2)) (fun t=>l.length-t.2.2)
    (l,k+1,0) (by rw[xF hh];rfl) ⟨rfl,hs,by simp,by simpa using hlt,by simpa using hcs.symm,rfl⟩ ?_
   rintro⟨row,i,j⟩ ⟨r1,r2,r3,r4,r5,r6⟩
   dsimp only at r1 r2 r3 r4 r5 r6;rcases Nat.lt_or_ge (k+1+j+1) l.length with hlt2|hge2
   ·have a1:row[k+1+j+1]?=some l[k+1+j+1]:=by
     have:=congrArg (·[1]?) r6
     simp only[List.getElem?_drop]at this;rw[this,List.getElem?_eq_getElem hlt2]
    have a2:row[k+1+j]?=some l[k+1+j]:=by
     have:=congrArg (·[0]?) r6
     simp only[List.getElem?_drop,Nat.add_zero]at this;rw[this,List.getElem?_eq_getElem r4]
    have s1:=WJ hs hlt2
    have d1:=eC s1
    have d2:=eC (WJ hs r4)
    have hil:i<l.length:=by omega
    have hir:i<row.length:=by omega
    have g3:row[i]?=some row[i]:=List.getElem?_eq_getElem hir
    have t1:=fun xs h1=>cE s1 (WJ r2 hir) id i 0 xs h1
    have lx:=wE s1
    have sx:=vE s1
    simp only[jA]at lx;have v1:IntKind.i64.wrap (((j+1:Nat):Int)-1)=(j:Int):=by rw[nA _ (by omega) (by omega)];omega
    have v2:IntKind.i64.wrap (((j+1:Nat):Int)+1)=((j+1+1:Nat):Int):=nA _ (by omega) (by omega)
    have v3:IntKind.i64.wrap ((i:Int)+1)=((i+1:Nat):Int):=nA _ (by omega) (by omega)
    have p1:j+1<l.length-(k+1):=by omega
    have p2:j<l.length-(k+1):=by omega
    have p3:k+1+(j+1)=k+1+j+1:=by omega
    have p4:k+1+(l.length-(k+1))≤l.length:=by omega
    have hqj:=fun o K=>hq o _ (List.getElem_mem hlt2) _ (List.getElem_mem r4) K
    have hcs2:=z0F q l (k+1+j) hlt2
    cases hqy:q l[k+1+j+1] l[k+1+j]with
    | true=>
     rw[hqy,cond_true,List.append_nil]at hcs2;simp only[go_sem,hst,r1,p1,p2,p3,p4,e0,a1,a2,d1,d2,v1,v2,hqj,hqy];refine⟨(row,i,j+1),rfl,⟨r1,r2,by dsimp only;omega,by dsimp only;omega,?_,?_⟩,by dsimp only;omega⟩
     ·dsimp only;rw[r5,←hcs2];rfl
     ·dsimp only;rw[show k+1+(j+1)=k+1+j+1 from rfl,←List.drop_drop,r6,List.drop_drop]
    | false=>
     rw[hqy,cond_false]at hcs2;simp only[go_sem,hst,r1,p1,p2,p3,p4,e0,a1,a2,g3,d1,d2,v1,v2,v3,hil,hqj,hqy,lx,sx,t1];refine⟨(row.set i l[k+1+j+1],i+1,j+1),rfl,⟨by simpa using r1,fun x hx=>?_,by dsimp only;omega,by dsimp only;omega,?_,?_⟩,by dsimp only;omega⟩
     ·rcases List.mem_or_eq_of_mem_set hx with hx|rfl
      ·exact r2 x hx
      ·exact s1
     ·dsimp only
      rw[show k+1+(j+1)+1=k+1+j+1+1 from rfl,hcs2,←r5,List.take_succ_eq_append_getElem (by simp;omega)]
      simp [List.take_set_of_le]
     ·dsimp only
      rw[List.drop_set_of_lt (by omega),show k+1+(j+1)=k+1+j+1 from rfl,←List.drop_drop,r6,List.drop_drop]
   ·have ej:k+1+j+1=l.length:=by omega
    rw[ej,List.take_length]at r5;have hil:i≤l.length:=by omega
    have hm:(iB q l).length=i:=by rw[←r5];simp;omega
    have p1:¬(j+1<l.length-(k+1)):=by omega
    have sp:splice row i (List.replicate (l.length-i) (PV.agg [.str [],.int .i64 0,.str [],.sl none []]))=iB q l++List.replicate (l.length-i) (PV.agg [.str [],.int .i64 0,.str [],.sl none []]):=by
     unfold splice;rw[r5,List.length_replicate,List.drop_of_length_le (by omega),List.append_nil]
    have rl:(iB q l++List.replicate (l.length-i) (PV.agg [.str [],.int .i64 0,.str [],.sl none []])).length=l.length:=by simp only[List.length_append,hm,List.length_replicate];omega
    rw[hm];generalize iB q l++List.replicate (l.length-i) (PV.agg [.str [],.int .i64 0,.str [],.sl none []])=row' at *;simp only[go_sem,hst,r1,rl,hil,p1,sp,show i+(l.length-i)=l.length by omega,hb,hb2,hb3]
 ·have ek:k+1=l.length:=by omega
  rw[ek,List.take_length]at hc;have hge':¬k+1<l.length:=by omega
  simp only[go_sem,hge',hc,Nat.sub_self,List.replicate_zero,List.append_nil,hb,hb2,hb3];rw[xF hh]
end Go.Am
end
section
/- What is drawn: records. -/
open Go
set_option linter.unusedSimpArgs false
namespace Go.Am
variable {L:List Int} {a:Int} {h l:aA} {id:Nat} {K:kA}
theorem z07 {b:Nat}{x:Esc}(hx:∀ y∈x,b≤y.1):∀k,LB k x b=b:=by
 have hb:FH x b=b:=by
  unfold FH;induction x with
  | nil=>rfl
  | cons y r ih=>
   simp only[List.foldl_cons];rw[if_neg (by have:=hx y (by simp);omega)]
   exact ih (fun z hz=>hx z (by simp [hz]))
 intro k;induction k with
 | zero=>rfl
 | succ k ih=>unfold LB;rw[hb,ih]
theorem zlE {b:Nat}{x0 x:Esc}{e:List (Nat × AV)}{h:aA}(hx:∀ y∈x,b≤y.1):SC b x0 ⟨e,h,x⟩=⟨QD b e,h.take b,x0⟩:=by
 unfold SC;simp only[z07 hx];have hc:zB x b=true:=by
  unfold zB;rw[List.all_eq_true];intro y hy;simp [hx y hy]
 have hf:x.filter (fun y=>decide (y.1<b))=[]:=by
  rw[List.filter_eq_nil_iff];intro y hy;have:=hx y hy;simp;omega
 rw[if_pos hc,hf,List.nil_append]
theorem z59 {b i t:Nat}{x0:Esc}{e:List (Nat × AV)}{h:aA}(hi:i<b):SC b x0 ⟨e,h,[(i,t)]⟩=⟨QD (max b t) e,h.take (max b t),(i,t)::x0⟩:=by
 unfold SC;have hb:LB [(i,t)].length [(i,t)] b=max b t:=by simp [LB,FH,hi]
 simp only[hb];have hc:zB [(i,t)] (max b t)=true:=by simp [zB];omega
 have hf:[(i,t)].filter (fun y=>decide (y.1<max b t))=[(i,t)]:=by simp;omega
 rw[if_pos hc,hf];rfl
theorem frz3 {o0 o1 o2:Obj}{sh:Sh}{xs:List PV}{fz k:Nat}:frz [o0,o1,o2,.row sh xs fz] 3 k=[o0,o1,o2,.row sh xs (max fz k)]:=rfl
set_option maxHeartbeats 2000000 in
theorem zjM (hid:id<h.length)(hp:LA 30 a)(rs:List Rec)(hrs:rs.length≤1000)(u s:List UInt8)(hu:u.length≤1000)(hs:s.length≤1000)(t:Int)(ns:List Int)(hns:ns.length≤100)(G:Obj)(v1 v8 v13 v14:AV)(x:Esc)(hx:∀ y∈x,h.length+1≤y.1)(K:Ex→St→Prop)
 (hK:∀(r':Rec) (a':Int) (J:aA) (x':Esc),RecOk r'→a≤a'→a'≤a+8→(∀y∈x',h.length+1≤y.1) →
  K .normal ⟨[(0,.ref id 0),(1,v1),(7,.own h.length (rs.length+1) 0 (rs.length+1)),(8,v8),(13,v13),(14,v14)],h.set id (AA L a') ++ .row (some 4) (rs.map Rec.pv++[r'.pv]) 0::J,x'⟩) :
 FE (gA X) X.gl ZL (.ref id 0) v1 (.own h.length rs.length 0 rs.length) v8 (.ref (h.length+1) 0) v13 v14
  (h.set id (AA L a)++[.row (some 4) (rs.map Rec.pv) 0,.box [AS u,AI t,AS s,.own (h.length+3) ns.length 0 ns.length],G,.row none (ns.map eI) 0]) x K:=by
 have P:=jG (sE hp (Int.le_refl a) (by omega))
 have hmx:rs.length+1≤PA:=by unfold PA;omega
 have hmn:ns.length+1≤PA:=by unfold PA;omega
 have e1:h.length+1<h.length+3+1:=by omega
 by_cases hf:jB L a 60=0
 ·by_cases h0:jB L (a+1) 3=0
  ·obtain⟨kv,a3,c1,c2,_,_,O⟩:=z3j (L:=L) (a:=a+1+1+1+1) (sE hp (by omega) (by omega)) 0 50 (by omega) (by omega) (by omega)
   have O':=fun l K=>O.app (h:=h) (id:=id) (l:=l) (K:=K) hid
   have p1:=kM (l:=[[],[117,49]]) (L:=L) (a:=a+1+1) (by simp) (by simp)
   have p2:=kM (l:=[[65],[115,49]]) (L:=L) (a:=a+1+1+1) (by simp) (by simp)
   simp only[List.mem_cons,List.not_mem_nil,or_false]at p1 p2;simp only[FE,go_sem,hid,P,hf,h0,↓O',O',hmx,frz3];rw[UE (by simp)]
   exact hK ⟨sD [[],[117,49]] L (a+1+1),kv,sD [[65],[115,49]] L (a+1+1+1),ns⟩ a3 _ _ ⟨by rcases p1 with p1|p1 <;> simp [p1],by rcases p2 with p2|p2 <;> simp [p2],by dsimp only;omega⟩ (by omega) (by omega) hx
  ·by_cases h1:jB L (a+1) 3=1
   ·simp only[FE,go_sem,hid,P,hf,h0,h1,hmx,hmn,bC,e1,frz3]
    rw[UE (by simp)]
    have e:List.map eI ns++[PV.int .i64 (PB [0,100001,-100001] L (a+1+1))]=(ns++[PB [0,100001,-100001] L (a+1+1)]).map eI:=by simp
    rw[e];refine hK ⟨u,t,s,ns++[PB [0,100001,-100001] L (a+1+1)]⟩ (a+1+1+1) _ _ ⟨hu,hs,by simp;omega⟩ (by omega) (by omega) (fun y hy=>?_)
    rcases List.mem_cons.1 hy with rfl|hy
    ·exact Nat.le_refl _
    ·exact hx y hy
   ·obtain⟨m1,m2⟩:=ZF L (a+1+1) (ns.length+1) (by omega) (by omega)
    obtain⟨m,hm⟩:=Int.eq_ofNat_of_zero_le m1;have w1:IntKind.i64.wrap ((ns.length:Int)+1)=(ns.length:Int)+1:=nA _ (by omega) (by omega)
    have hml:m≤ns.length:=by omega
    simp only[FE,go_sem,hid,P,hf,h0,h1,w1,hm,hml,hmx,bC,e1,frz3];rw[fZ];refine hK ⟨u,t,s,win ns 0 m⟩ (a+1+1+1) _ _ ⟨hu,hs,by simp [win];omega⟩ (by omega) (by omega) (fun y hy=>?_)
    rcases List.mem_cons.1 hy with rfl|hy
    ·exact Nat.le_refl _
    ·exact hx y hy
 ·simp only[FE,go_sem,hid,P,hf,hmx,frz3]
  rw[UE (by simp)]
  exact hK ⟨u,t,s,ns⟩ (a+1) _ _ ⟨hu,hs,by dsimp only;omega⟩ (by omega) (by omega) hx
attribute [-go_sem] FE
def yB:PV→Rec
 | .agg [.str u,.int _ t,.str s,.sl _ xs]=>⟨u,t,s,xs.map unI⟩
 | _=>⟨[],0,[],[]⟩
theorem LD (r:Rec):yB r.pv=r:=by
 cases r with|mk u t s ns=>
 have:(ns.map eI).map unI=ns:=by
  rw[List.map_map];have:(unI ∘ eI)=id:=by funext n;rfl
  rw[this,List.map_id]
 simp only[Rec.pv,yB,this]
theorem uY {P:Rec→Prop}:∀{xs:List PV},(∀x∈xs,∃r,P r∧x=Rec.pv r)→∃rs:List Rec,(∀r∈rs,P r)∧xs=rs.map Rec.pv
 | [],_=>⟨[],by simp,rfl⟩
 | x::xs,h=>by
  obtain⟨r,h1,h2⟩:=h x (by simp)
  obtain⟨rs,h3,h4⟩:=uY (xs:=xs) (fun y hy=>h y (List.mem_cons_of_mem _ hy))
  refine⟨r::rs,fun z hz=>?_,by rw[h2,h4];rfl⟩
  rcases List.mem_cons.1 hz with rfl|hz
  ·exact h1
  ·exact h3 z hz
theorem zk1 (a b:Rec):gA X UG [.p a.pv,.p b.pv] h K=K (AI (EA a b)) h []:=by
 refine rule ?_;rw[z9h rfl];have o:=fun h K=>z5e (h:=h) (K:=K) [oC a.time b.time,OA a.unit b.unit] (by simp)
 simp only[AL,List.map_cons,List.map_nil]at o;have e:orL [oC a.time b.time,OA a.unit b.unit]=EA a b:=by
  unfold EA orL;split
  ·rfl
  ·unfold orL
   split
   ·rfl
   ·rename_i h;simp only[ne_eq,Decidable.not_not]at h;rw[h];rfl
 rw[e]at o;simp only[ON,Rec.pv,go_sem,z5d,KQ,o]
def sM (a b:Rec):Bool:=decide (a.time=b.time)&&decide (a.unit=b.unit)
theorem zk2 (a b:Rec):gA X VG [.p a.pv,.p b.pv] h K=K (AB (sM a b)) h []:=by
 refine rule ?_;rw[z9i rfl];unfold sM;by_cases h1:a.time=b.time
 ·simp only[AK,Rec.pv,go_sem,h1]
 ·simp only[AK,Rec.pv,go_sem,h1]
set_option maxHeartbeats 4000000 in
theorem zek (hp:LA 4000 a)(l:List Lim)(hl1:1≤l.length)(hl2:l.length≤3)(n:Nat)(hn:n≤19) :
 qC XK [JA l,AI n] L a (fun v a2=>a≤a2∧a2≤a+2000∧∃rs:List Rec,rs.length≤n∧(∀r∈rs,RecOk r)∧v=UA rs):=by
 refine qC.of fun h id hid=>?_
 rw[z9g rfl];simp only[NN,go_sem,hid];refine CA (fun t:List Rec×Int×Int=>⟨[(0,.ref id 0),(1,JA l),(7,.own h.length t.1.length 0 t.1.length),(8,AI t.2.1),(13,AI n),(14,AI t.1.length)],h.set id (AA L t.2.2)++[.row (some 4) (t.1.map Rec.pv) 0],[]⟩)
  (fun t=>t.1.length≤n∧(∀r∈t.1,RecOk r)∧a≤t.2.2∧t.2.2≤a+40*t.1.length) (fun t=>n-t.1.length) ([],0,a) rfl ⟨by simp,by simp,by simp,by simp⟩ ?_
 rintro⟨rs,t,b⟩ ⟨q1,q2,q3,q4⟩
 dsimp only at q1 q2 q3 q4;rcases Nat.lt_or_ge rs.length n with hlt|hge
 ·have P:=jG (sE hp q3 (show b+14≤a+4000 by omega))
  have w1:IntKind.i64.wrap ((rs.length:Int)+1)=((rs.length+1:Nat):Int):=nA _ (by omega) (by omega)
  have p1:=kM (l:=[[117,49],[117,50],[117,51],[117,52]]) (L:=L) (a:=b+1) (by simp) (by simp)
  have p2:=kM (l:=[[115,49],[115,49],[115,50]]) (L:=L) (a:=b+1+1) (by simp) (by simp)
  have pu:(sD [[117,49],[117,50],[117,51],[117,52]] L (b+1)).length≤1000:=by
   simp only[List.mem_cons,List.not_mem_nil,or_false]at p1;rcases p1 with p1|p1|p1|p1 <;> simp [p1]
  have ps:(sD [[115,49],[115,49],[115,50]] L (b+1+1)).length≤1000:=by
   simp only[List.mem_cons,List.not_mem_nil,or_false]at p2;rcases p2 with p2|p2|p2 <;> simp [p2]
  simp only[go_sem,hid,P,hlt];generalize sD [[117,49],[117,50],[117,51],[117,52]] L (b+1)=u at *;generalize sD [[115,49],[115,49],[115,50]] L (b+1+1)=s at *;generalize IntKind.i64.wrap (t+PB [1,1,5,0] L b)=t' at *;have hb3:b+1+1+1+14≤a+4000:=by omega
  have fin:∀(c:Int) (ns:List Int) (G:Obj) (x:Esc),ns.length≤100→b+3≤c→c≤b+3+9→(∀y∈x,h.length+1≤y.1) →
   FE (gA X) X.gl ZL (.ref id 0) (JA l) (.own h.length rs.length 0 rs.length) (AI t') (.ref (h.length+1) 0) (AI n) (AI rs.length)
    (h.set id (AA L c)++[.row (some 4) (rs.map Rec.pv) 0,.box [AS u,AI t',AS s,.own (h.length+3) ns.length 0 ns.length],G,.row none (ns.map eI) 0]) x
    (JB 1 (yC (gA X) X.gl JP (LY (h.length+1) [] (KL
     (fun t:List Rec×Int×Int=>⟨[(0,.ref id 0),(1,JA l),(7,.own h.length t.1.length 0 t.1.length),(8,AI t.2.1),(13,AI n),(14,AI t.1.length)],h.set id (AA L t.2.2)++[.row (some 4) (t.1.map Rec.pv) 0],[]⟩)
     (fun t=>t.1.length≤n∧(∀r∈t.1,RecOk r)∧a≤t.2.2∧t.2.2≤a+40*t.1.length) (fun t=>n-t.1.length)
     (JB 0 (yC (gA X) X.gl aM (mA [.t 6] false h.length (fun v1 h1 x1=>∃a2,(a≤a2∧a2≤a+2000∧∃rs:List Rec,rs.length≤n∧(∀r∈rs,RecOk r)∧v1=UA rs)∧h1=h.set id (AA L a2)∧x1=[])))) (rs,t,b))))):=by
   intro c ns G x h1 h2 h3 h4;refine zjM hid (sE hp (by omega) (by omega)) rs (by omega) u s pu ps t' ns h1 G (JA l) (AI t') (AI n) (AI rs.length) x h4 _ (fun r' a' J x' r1 r2 r3 r4=>?_)
   have f1:id+1≤h.length+1:=by omega
   simp only[go_sem,w1,zlE r4,f1];refine⟨(rs++[r'],t',a'),?_,⟨by simp;omega,fun r hr=>?_,by dsimp only;omega,by simp;omega⟩,by simp;omega⟩
   ·simp only[List.length_append,List.length_cons,List.length_nil,List.map_append,List.map_cons,List.map_nil]
   ·rcases List.mem_append.1 hr with hr|hr
    ·exact q2 r hr
    ·rw[List.mem_singleton]at hr;rw[hr];exact r1
  generalize hc0:b+1+1+1=c0 at *;refine CA (fun o:Option (List Int×Int×Obj×Esc)=>match o with
   | none=>⟨[(0,.ref id 0),(1,JA l),(7,.own h.length rs.length 0 rs.length),(8,AI t'),(9,.ref (h.length+1) 0),(13,AI n),(14,AI rs.length),(29,JA l),(30,AI l.length),(31,AI 0)],h.set id (AA L c0)++[.row (some 4) (rs.map Rec.pv) 0,.box [AS u,AI t',AS s,.sl0 none]],[]⟩
   | some (ns,c,G,x)=>⟨[(0,.ref id 0),(1,JA l),(7,.own h.length rs.length 0 rs.length),(8,AI t'),(9,.ref (h.length+1) 0),(13,AI n),(14,AI rs.length),(29,JA l),(30,AI l.length),(31,AI ns.length)],h.set id (AA L c)++[.row (some 4) (rs.map Rec.pv) 0,.box [AS u,AI t',AS s,.own (h.length+3) ns.length 0 ns.length],G,.row none (ns.map eI) 0],x⟩)
   (fun o=>match o with
    | none=>True
    | some (ns,c,G,x)=>1≤ns.length∧ns.length≤l.length∧c0≤c∧c≤c0+3*ns.length∧∀y∈x,h.length+1≤y.1)
   (fun o=>match o with
    | none=>l.length+1
    | some (ns,c,G,x)=>l.length-ns.length) none rfl trivial ?_
  rintro (_|⟨ns,c,G,x⟩) hP
  ·have P:=jG (sE hp (show a≤c0 by omega) (show c0+14≤a+4000 by omega))
   have hl0:(0:Int)<l.length:=by omega
   have hg:=bB Lim.pv (show 0<l.length by omega)
   have cx:MA (some 4) 0 (l[0].pv)=some l[0].pv:=rfl
   generalize l[0]=y at *;have e2:h.length+1<h.length+2:=by omega
   have e3:max (h.length+2) (h.length+3+1)=h.length+4:=by omega
   have eo:bC (h.length+1) (.own (h.length+3) 1 0 1)=[(h.length+1,h.length+3+1)]:=by unfold bC;rw[if_pos (by simp [AV.top]),VY]
   have e4:id+1≤h.length+4:=by omega
   have e5:h.length+1≤h.length+4:=by omega
   have e6:h.length+1+1≤h.length+4:=by omega
   have hmx:1≤PA:=by unfold PA;omega
   have hnb:Nat.beq 2 3=false:=rfl
   have wk:IntKind.i64.wrap 1=1:=rfl
   have tr:∀(x0:Esc) (e:List (Nat×AV)) (H:aA),SC (h.length+2) x0 ⟨e,H,[(h.length+1,h.length+3+1)]⟩=⟨QD (h.length+4) e,H.take (h.length+4),(h.length+1,h.length+3+1)::x0⟩:=fun x0 e H=>by rw[z59 e2,e3]
   by_cases hf:jB L (c0+1) 5=0
   ·obtain⟨v,hv⟩:∃v,PB [IntKind.i64.wrap (y.lo-1),IntKind.i64.wrap (y.hi+1),IntKind.i64.wrap (y.hi+7)] L (c0+1+1)=v:=⟨_,rfl⟩
    by_cases b1:v<y.lo
    ·simp only[go_sem,hid,P,hl0,hg,cx,Lim.pv,hf,eo,hv,b1,hmx,hnb,tr,e4,e5,e6]
     refine fin (c0+1+1+1) [v] _ _ (by simp) (by omega) (by omega) (by simp)
    ·by_cases b2:y.hi<v
     ·simp only[go_sem,hid,P,hl0,hg,cx,Lim.pv,hf,eo,hv,b1,b2,hmx,hnb,tr,e4,e5,e6]
      refine fin (c0+1+1+1) [v] _ _ (by simp) (by omega) (by omega) (by simp)
     ·simp only[go_sem,hid,P,hl0,hg,cx,Lim.pv,hf,eo,hv,b1,b2,hmx,hnb,tr,e4,e5,e6,wk]
      exact⟨some ([v],c0+1+1+1,_,_),rfl,⟨by simp,by simpa using hl1,by omega,by simp;omega,by simp⟩,by show l.length-[v].length<l.length+1;simp only[List.length_cons,List.length_nil];omega⟩
   ·obtain⟨v,hv⟩:∃v,PB [y.lo,y.hi,IntKind.i64.wrap ((IntKind.i64.wrap (y.lo+y.hi)).tdiv 2),IntKind.i64.wrap ((IntKind.i64.wrap (y.lo+y.hi)).tdiv 2),IntKind.i64.wrap (y.lo+1)] L c0=v:=⟨_,rfl⟩
    by_cases b1:v<y.lo
    ·simp only[go_sem,hid,P,hl0,hg,cx,Lim.pv,hf,eo,hv,b1,hmx,hnb,tr,e4,e5,e6]
     refine fin (c0+1+1) [v] _ _ (by simp) (by omega) (by omega) (by simp)
    ·by_cases b2:y.hi<v
     ·simp only[go_sem,hid,P,hl0,hg,cx,Lim.pv,hf,eo,hv,b1,b2,hmx,hnb,tr,e4,e5,e6]
      refine fin (c0+1+1) [v] _ _ (by simp) (by omega) (by omega) (by simp)
     ·simp only[go_sem,hid,P,hl0,hg,cx,Lim.pv,hf,eo,hv,b1,b2,hmx,hnb,tr,e4,e5,e6,wk]
      exact⟨some ([v],c0+1+1,_,_),rfl,⟨by simp,by simpa using hl1,by omega,by simp;omega,by simp⟩,by show l.length-[v].length<l.length+1;simp only[List.length_cons,List.length_nil];omega⟩
  ·obtain⟨r1,r2,r3,r4,r5⟩:=hP
   rcases Nat.lt_or_ge ns.length l.length with hlt2|hge2
   ·have P:=jG (sE hp (show a≤c by omega) (show c+14≤a+4000 by omega))
    have hg:=bB Lim.pv hlt2
    have cx:MA (some 4) 0 (l[ns.length].pv)=some l[ns.length].pv:=rfl
    generalize l[ns.length]=y at *;have e2:h.length+1<h.length+4:=by omega
    have e3:max (h.length+4) (h.length+3+1)=h.length+4:=by omega
    have eo:bC (h.length+1) (.own (h.length+3) (ns.length+1) 0 (ns.length+1))=[(h.length+1,h.length+3+1)]:=by unfold bC;rw[if_pos (by simp [AV.top]),VY]
    have e4:id+1≤h.length+4:=by omega
    have e5:h.length+1≤h.length+4:=by omega
    have e6:h.length+1+1≤h.length+4:=by omega
    have e7:h.length+3+1≤h.length+4:=by omega
    have e8:h.length+4≤h.length+4:=by omega
    have hmx:ns.length+1≤PA:=by unfold PA;omega
    have hnb:Nat.beq 2 3=false:=rfl
    have wi:IntKind.i64.wrap ((ns.length:Int)+1)=((ns.length+1:Nat):Int):=nA _ (by omega) (by omega)
    have tr:∀(x0:Esc) (e:List (Nat×AV)) (H:aA),SC (h.length+4) x0 ⟨e,H,[(h.length+1,h.length+3+1)]⟩=⟨QD (h.length+4) e,H.take (h.length+4),(h.length+1,h.length+3+1)::x0⟩:=fun x0 e H=>by rw[z59 e2,e3]
    by_cases hf:jB L (c+1) 5=0
    ·obtain⟨v,hv⟩:∃v,PB [IntKind.i64.wrap (y.lo-1),IntKind.i64.wrap (y.hi+1),IntKind.i64.wrap (y.hi+7)] L (c+1+1)=v:=⟨_,rfl⟩
     have ev:ns.map eI++[PV.int .i64 v]=(ns++[v]).map eI:=by simp
     have el:(ns++[v]).length=ns.length+1:=by simp
     have hx2:∀z∈(h.length+1,h.length+3+1)::x,h.length+1≤z.1:=fun z hz=>by
      rcases List.mem_cons.1 hz with rfl|hz
      ·exact Nat.le_refl _
      ·exact r5 z hz
     by_cases b1:v<y.lo
     ·simp only[go_sem,hid,P,hlt2,hg,cx,Lim.pv,hf,eo,hv,b1,hmx,hnb,tr,e4,e5,e6,e7,e8]
      rw[ev,←el];exact fin (c+1+1+1) (ns++[v]) _ _ (by omega) (by omega) (by omega) hx2
     ·by_cases b2:y.hi<v
      ·simp only[go_sem,hid,P,hlt2,hg,cx,Lim.pv,hf,eo,hv,b1,b2,hmx,hnb,tr,e4,e5,e6,e7,e8]
       rw[ev,←el];exact fin (c+1+1+1) (ns++[v]) _ _ (by omega) (by omega) (by omega) hx2
      ·simp only[go_sem,hid,P,hlt2,hg,cx,Lim.pv,hf,eo,hv,b1,b2,hmx,hnb,tr,e4,e5,e6,e7,e8,wi]
       rw[ev];refine⟨some (ns++[v],c+1+1+1,G,(h.length+1,h.length+3+1)::x),?_,⟨by omega,by omega,by omega,by rw[el];omega,hx2⟩,by show l.length-(ns++[v]).length<l.length-ns.length;omega⟩
       simp only[el]
    ·obtain⟨v,hv⟩:∃v,PB [y.lo,y.hi,IntKind.i64.wrap ((IntKind.i64.wrap (y.lo+y.hi)).tdiv 2),IntKind.i64.wrap ((IntKind.i64.wrap (y.lo+y.hi)).tdiv 2),IntKind.i64.wrap (y.lo+1)] L c=v:=⟨_,rfl⟩
     have ev:ns.map eI++[PV.int .i64 v]=(ns++[v]).map eI:=by simp
     have el:(ns++[v]).length=ns.length+1:=by simp
     have hx2:∀z∈(h.length+1,h.length+3+1)::x,h.length+1≤z.1:=fun z hz=>by
      rcases List.mem_cons.1 hz with rfl|hz
      ·exact Nat.le_refl _
      ·exact r5 z hz
     by_cases b1:v<y.lo
     ·simp only[go_sem,hid,P,hlt2,hg,cx,Lim.pv,hf,eo,hv,b1,hmx,hnb,tr,e4,e5,e6,e7,e8]
      rw[ev,←el];exact fin (c+1+1) (ns++[v]) _ _ (by omega) (by omega) (by omega) hx2
     ·by_cases b2:y.hi<v
      ·simp only[go_sem,hid,P,hlt2,hg,cx,Lim.pv,hf,eo,hv,b1,b2,hmx,hnb,tr,e4,e5,e6,e7,e8]
       rw[ev,←el];exact fin (c+1+1) (ns++[v]) _ _ (by omega) (by omega) (by omega) hx2
      ·simp only[go_sem,hid,P,hlt2,hg,cx,Lim.pv,hf,eo,hv,b1,b2,hmx,hnb,tr,e4,e5,e6,e7,e8,wi]
       rw[ev];refine⟨some (ns++[v],c+1+1,G,(h.length+1,h.length+3+1)::x),?_,⟨by omega,by omega,by omega,by rw[el];omega,hx2⟩,by show l.length-(ns++[v]).length<l.length-ns.length;omega⟩
       simp only[el]
   ·have hb2:¬(ns.length<l.length):=by omega
    have e4:id+1≤h.length+4:=by omega
    have e5:h.length+1≤h.length+4:=by omega
    have e6:h.length+1+1≤h.length+4:=by omega
    simp only[go_sem,hb2,e4,e5,e6];exact fin c ns G x (by omega) (by omega) (by omega) r5
 ·have en:rs.length=n:=by omega
  have hb2:¬(rs.length<n):=by omega
  have hh:(h.set id (AA L b)++[Obj.row (some 4) (rs.map Rec.pv) 0])[h.length]?=some (.row (some 4) (rs.map Rec.pv) 0):=by rw[List.getElem?_append_right (by simp)];simp
  have st:=fun K=>zkW (h:=h.set id (AA L b)++[Obj.row (some 4) (rs.map Rec.pv) 0]) (K:=K) h.length (rs.map Rec.pv) PJ (by simp;omega) hh (g:=UG) (caps:=[]) (c:=fun x y=>EA (yB x) (yB y))
   (fun o x hx y hy K=>by
    obtain⟨p,_,rfl⟩:=List.mem_map.1 hx;obtain⟨q,_,rfl⟩:=List.mem_map.1 hy;dsimp only;rw[LD,LD];exact zk1 p q)
  have so:=LO (ltC fun x y=>EA (yB x) (yB y)) (rs.map Rec.pv)
  have hsm:∀x∈vA (ltC fun x y=>EA (yB x) (yB y)) (rs.map Rec.pv),∃r,RecOk r∧x=Rec.pv r:=fun x hx=>by
   obtain⟨r,hr,rfl⟩:=List.mem_map.1 (qD.1 hx);exact⟨r,q2 r hr,rfl⟩
  obtain⟨ss,s1,s2⟩:=uY hsm;have hsl:ss.length=rs.length:=by have:=congrArg List.length s2;simp [MI]at this;omega
  simp only[List.length_map,s2]at st;have hh2:(h.set id (AA L b)++[Obj.row (some 4) (ss.map Rec.pv) 0])[h.length]?=some (.row (some 4) (ss.map Rec.pv) 0):=by rw[List.getElem?_append_right (by simp)];simp
  have cp:=fun K=>sZ (h:=h.set id (AA L b)++[Obj.row (some 4) (ss.map Rec.pv) 0]) (K:=K) h.length (ss.map Rec.pv) PJ (by simp;omega) hh2 (g:=VG) (caps:=[]) (q:=fun x y=>sM (yB x) (yB y))
   (fun o x hx y hy K=>by
    obtain⟨p,_,rfl⟩:=List.mem_map.1 hx;obtain⟨q,_,rfl⟩:=List.mem_map.1 hy;dsimp only;rw[LD,LD];exact zk2 p q)
  have hcm:∀x∈iB (fun x y=>sM (yB x) (yB y)) (ss.map Rec.pv),∃r,RecOk r∧x=Rec.pv r:=fun x hx=>by
   obtain⟨r,hr,rfl⟩:=List.mem_map.1 (fN hx);exact⟨r,s1 r hr,rfl⟩
  obtain⟨cs,c1,c2⟩:=uY hcm;have hcl:cs.length≤ss.length:=by
   have h1:=congrArg List.length c2
   have h2:=z0E (fun x y=>sM (yB x) (yB y)) (ss.map Rec.pv)
   simp at h1 h2;omega
  simp only[List.length_map,c2,hsl]at cp;have e0:∀o,(h.set id (AA L b)++[Obj.row (some 4) (rs.map Rec.pv) 0]).set h.length o=h.set id (AA L b)++[o]:=fun o=>by rw[List.set_append_right _ _ (by simp)];simp
  have e1:∀o,(h.set id (AA L b)++[Obj.row (some 4) (ss.map Rec.pv) 0]).set h.length o=h.set id (AA L b)++[o]:=fun o=>by rw[List.set_append_right _ _ (by simp)];simp
  simp only[e0]at st;simp only[e1]at cp;have rl:(cs.map Rec.pv++List.replicate (rs.length-cs.length) (PV.agg [.str [],.int .i64 0,.str [],.sl none []])).length=rs.length:=by simp;omega
  have hw:win (cs.map Rec.pv++List.replicate (rs.length-cs.length) (PV.agg [.str [],.int .i64 0,.str [],.sl none []])) 0 cs.length=cs.map Rec.pv:=by simp [win]
  have hcr:cs.length≤rs.length:=by omega
  generalize cs.map Rec.pv++List.replicate (rs.length-cs.length) (PV.agg [.str [],.int .i64 0,.str [],.sl none []])=row at *;simp only[go_sem,hb2,↓st,st,↓cp,cp,rl,hw,hcr];exact⟨b,⟨q3,by omega,cs,by omega,c1,rfl⟩,rfl⟩
end Go.Am
end
section
/- Merging two ordered lists: by sorting and leaving out what is alike,and by looking each one up. Plain lists. -/
namespace Go.Am
variable {α:Type}
structure Ordr (c:α→α→Int):Prop where
 neg:∀a b,c b a = - c a b
 trans:∀a b d,c a b≤0→c b d≤0→c a d≤0
theorem Ordr.refl {c:α→α→Int}(o:Ordr c)(a:α):c a a=0:=by have:=o.neg a a;omega
theorem Ordr.lt_le {c:α→α→Int}(o:Ordr c){a b d:α}(h1:c a b<0)(h2:c b d≤0):c a d<0:=by
 by_cases h:c a d<0
 ·exact h
 ·have h3:=o.neg a d
  have h4:=o.trans b d a h2 (by omega)
  have:=o.neg a b;omega
def ltO (c:α→α→Int)(a b:α):Bool:=decide (c a b<0)
theorem Ordr.weak {c:α→α→Int}(o:Ordr c):Weak (ltO c):=by
 refine⟨fun a b h=>?_,fun a b d h1 h2=>?_⟩
 ·simp only[ltO,decide_eq_true_eq,decide_eq_false_iff_not]at h ⊢
  have:=o.neg a b;omega
 ·simp only[ltO,decide_eq_false_iff_not]at h1 h2 ⊢
  have q1:=o.neg a b
  have q2:=o.neg b d
  have q3:=o.trans a b d (by omega) (by omega)
  have q4:=o.neg a d
  omega
def FC (c:α→α→Int)(l:List α):Prop:=l.Pairwise fun x y=>c x y<0
theorem PQ {c:α→α→Int}(o:Ordr c):∀{l m:List α},FC c l→FC c m→(∀x,x∈l↔x∈m)→l=m
 | [],[],_,_,_=>rfl
 | [],y::m,_,_,h=>absurd ((h y).2 (by simp)) (by simp)
 | x::l,[],_,_,h=>absurd ((h x).1 (by simp)) (by simp)
 | x::l,y::m,h1,h2,h=>by
  have a1:=List.pairwise_cons.1 h1
  have a2:=List.pairwise_cons.1 h2
  have e:x=y:=by
   rcases List.mem_cons.1 ((h x).1 (by simp)) with e|e
   ·exact e
   ·rcases List.mem_cons.1 ((h y).2 (by simp)) with e'|e'
    ·exact e'.symm
    ·have b1:=a2.1 x e
     have b2:=a1.1 y e'
     have:=o.neg x y;omega
  subst e;rw[PQ o a1.2 a2.2 fun z=>?_]
  constructor
  ·intro hz
   rcases List.mem_cons.1 ((h z).1 (by simp [hz])) with e|e
   ·subst e;have:=a1.1 z hz;have:=o.refl z;omega
   ·exact e
  ·intro hz
   rcases List.mem_cons.1 ((h z).2 (by simp [hz])) with e|e
   ·subst e;have:=a2.1 z hz;have:=o.refl z;omega
   ·exact e
theorem xM {c:α→α→Int}(o:Ordr c):∀{l:List α},FC c l→∀{x y:α},x∈l→y∈l→c x y=0→x=y
 | [],_,x,y,hx,_,_=>by simp at hx
 | z::l,h,x,y,hx,hy,hc=>by
  have a:=List.pairwise_cons.1 h
  rcases List.mem_cons.1 hx with e|e <;> rcases List.mem_cons.1 hy with e'|e'
  ·rw[e,e']
  ·subst e;have:=a.1 y e';omega
  ·subst e';have:=a.1 x e;have:=o.neg y x;omega
  ·exact xM o a.2 e e' hc
theorem XS (q:α→α→Bool):∀(l:List α) (p:α),(qB q p l).Sublist l
 | [],_=>List.Sublist.slnil
 | x::r,p=>by
  unfold qB;cases q x p with
  | true=>exact(XS q r x).cons x
  | false=>exact(XS q r x).cons_cons x
theorem z0I (q:α→α→Bool):∀l:List α,(iB q l).Sublist l
 | []=>List.Sublist.slnil
 | x::r=>(XS q r x).cons_cons x
theorem WS {q:α→α→Bool}(hq:∀ x y,q x y=true→x=y):∀(l:List α) (p x:α),x∈l→x=p∨x∈qB q p l
 | [],_,x,hx=>by simp at hx
 | y::r,p,x,hx=>by
  unfold qB;cases h:q y p with
  | true=>
   have e:=hq _ _ h
   subst e;rcases List.mem_cons.1 hx with e|e
   ·exact .inl e
   ·exact WS hq r y x e
  | false=>
   rcases List.mem_cons.1 hx with e|e
   ·subst e;exact .inr (by simp)
   ·rcases WS hq r y x e with e|e
    ·subst e;exact .inr (by simp)
    ·exact .inr (by simp [e])
theorem z0H {q:α→α→Bool}(hq:∀ x y,q x y=true→x=y):∀{l:List α} {x:α},x∈l→x∈iB q l
 | y::r,x,hx=>by
  rcases List.mem_cons.1 hx with e|e
  ·subst e;simp [iB]
  ·rcases WS hq r y x e with e|e
   ·subst e;simp [iB]
   ·simp [iB,e]
theorem VS {q:α→α→Bool}(hq:∀ x y,q x y=true↔x=y):∀(l:List α) (p:α) (i:Nat) (h:i+1<(p::qB q p l).length),(p::qB q p l)[i]≠(p::qB q p l)[i+1]
 | [],p,i,h=>by simp [qB]at h
 | x::r,p,i,h=>by
  cases hx:q x p with
  | true=>
   have e:=(hq _ _).1 hx
   subst e;have e2:qB q x (x::r)=qB q x r:=by rw[qB];rw[hx];rfl
   simp only[e2]at h ⊢;exact VS hq r x i h
  | false=>
   have e2:qB q p (x::r)=x::qB q x r:=by rw[qB];rw[hx];rfl
   simp only[e2]at h ⊢;cases i with
   | zero=>
    simp only[List.getElem_cons_zero,List.getElem_cons_succ];intro e;rw[(hq _ _).2 e.symm]at hx;cases hx
   | succ i=>
    simp only[List.getElem_cons_succ];exact VS hq r x i (by simpa using h)
theorem z0G {q:α→α→Bool}(hq:∀ x y,q x y=true↔x=y):∀(l:List α) (i:Nat) (h:i+1<(iB q l).length),(iB q l)[i]≠(iB q l)[i+1]
 | [],i,h=>by simp [iB]at h
 | x::r,i,h=>VS hq r x i h
def OE (c:α→α→Int)(a:List α)(x:α):Bool:=!a.any fun y=>decide (c y x=0)
def kE (c:α→α→Int)(q:α→α→Bool)(a b:List α):Bool:=b.any fun x=>a.any fun y=>decide (c y x=0) && !q y x
def gB (c:α→α→Int)(q:α→α→Bool)(a b:List α):List α:=iB q (vA (ltO c) (a++b))
variable {c:α→α→Int} {q:α→α→Bool} {a b:List α}
theorem z3P (hq:∀ x y,q x y=true→x=y){x:α}:x∈gB c q a b↔x∈a∨x∈b:=by
 unfold gB;constructor
 ·intro h
  have:=qD.1 (fN h);simpa using this
 ·intro h
  exact z0H hq (qD.2 (by simpa using h))
theorem zfW (o:Ordr c):(gB c q a b).Pairwise fun x y=>c x y≤0:=by
 unfold gB;refine(List.Pairwise.sublist (z0I q _) (fH o.weak _)).imp fun {x y} h=>?_
 simp only[ltO,decide_eq_false_iff_not]at h;have:=o.neg x y;omega
theorem QZ (o:Ordr c){l:List α}(hle:l.Pairwise fun x y=>c x y≤0)(hadj:∀ i (h:i+1<l.length),c l[i+1] l[i]≠0):FC c l:=by
 rw[List.pairwise_iff_getElem]at hle;unfold FC;rw[List.pairwise_iff_getElem];intro i j hi hj hij;have h1:c l[i] l[i+1]<0:=by
  have:=hle i (i+1) hi (by omega) (by omega)
  have h2:=hadj i (by omega)
  have:=o.neg l[i] l[i+1];omega
 rcases Nat.lt_or_ge (i+1) j with h|h
 ·exact o.lt_le h1 (hle (i+1) j (by omega) hj h)
 ·have e:j=i+1:=by omega
  subst e;exact h1
theorem zfX (o:Ordr c)(hadj:∀ i (h:i+1<(gB c q a b).length),c (gB c q a b)[i+1] (gB c q a b)[i]≠0):FC c (gB c q a b):=QZ o (zfW o) hadj
theorem QY (o:Ordr c){l:List α}(hl:l.Pairwise fun x y=>c x y≠0):FC c (vA (ltO c) l):=by
 have h1:=fH o.weak l
 have h2:(vA (ltO c) l).Pairwise fun x y=>c x y≠0:=((LO (ltO c) l).pairwise_iff (fun {x y} h=>by have:=o.neg x y;omega)).2 hl
 refine(h1.and h2).imp fun {x y} h=>?_
 have:=h.1;simp only[ltO,decide_eq_false_iff_not]at this;have h3:=o.neg x y
 have:=h.2;omega
theorem zfV (o:Ordr c)(hq:∀ x y,q x y=true↔x=y)(ha:FC c a)(hb:FC c b)(hadj:∀ i (h:i+1<(gB c q a b).length),c (gB c q a b)[i+1] (gB c q a b)[i]≠0) :
 kE c q a b=false∧gB c q a b=vA (ltO c) (a++b.filter (OE c a)):=by
 have hs:=zfX o hadj
 have hm:∀x,x∈gB c q a b↔x∈a∨x∈b:=fun x=>z3P fun x y h=>(hq x y).1 h
 have hab:∀y∈a,∀x∈b,c y x=0→y=x:=fun y hy x hx h=>xM o hs ((hm y).2 (.inl hy)) ((hm x).2 (.inr hx)) h
 constructor
 ·cases h:kE c q a b with
  | false=>rfl
  | true=>
   unfold kE at h;obtain⟨x,hx,h2⟩:=List.any_eq_true.1 h;obtain⟨y,hy,h3⟩:=List.any_eq_true.1 h2;simp only[Bool.and_eq_true,decide_eq_true_eq,Bool.not_eq_true']at h3;have e:=hab y hy x hx h3.1
   rw[(hq _ _).2 e]at h3;exact absurd h3.2 (by simp)
 ·refine PQ o hs (QY o ?_) fun x=>?_
  ·rw[List.pairwise_append]
   refine⟨ha.imp fun h=>by omega,(List.Pairwise.sublist List.filter_sublist hb).imp fun h=>by omega,fun y hy x hx=>?_⟩
   have h2:=(List.mem_filter.1 hx).2
   unfold OE at h2;simp only[Bool.not_eq_true',List.any_eq_false,decide_eq_true_eq]at h2;exact h2 y hy
  ·rw[hm,qD,List.mem_append,List.mem_filter]
   constructor
   ·rintro (h|h)
    ·exact .inl h
    ·cases hn:OE c a x with
     | true=>exact .inr ⟨h,rfl⟩
     | false=>
      unfold OE at hn;simp only[Bool.not_eq_false',List.any_eq_true,decide_eq_true_eq]at hn;obtain⟨y,hy,h2⟩:=hn;have e:=hab y hy x h h2
      subst e;exact .inl hy
   ·rintro (h|h)
    ·exact .inl h
    ·exact .inr h.1
theorem zfT (o:Ordr c)(hq:∀ x y,q x y=true↔x=y)(ha:FC c a)(hb:FC c b){i:Nat}(h:i+1<(gB c q a b).length)(he:c (gB c q a b)[i+1] (gB c q a b)[i]=0):kE c q a b=true:=by
 have hne:(gB c q a b)[i]≠(gB c q a b)[i+1]:=z0G hq _ i h
 have hm:∀x,x∈gB c q a b↔x∈a∨x∈b:=fun x=>z3P fun x y h=>(hq x y).1 h
 have m1:=(hm _).1 (List.getElem_mem (l:=gB c q a b) (n:=i) (by omega))
 have m2:=(hm _).1 (List.getElem_mem (l:=gB c q a b) (n:=i+1) h)
 revert he hne m1 m2
 generalize (gB c q a b)[i]=p;generalize (gB c q a b)[i+1]=r;intro he hne m1 m2;have he2:c p r=0:=by have:=o.neg p r;omega
 have mk:∀y∈a,∀x∈b,c y x=0→y≠x→kE c q a b=true:=fun y hy x hx h1 h2=>by
  unfold kE;refine List.any_eq_true.2 ⟨x,hx,List.any_eq_true.2 ⟨y,hy,?_⟩⟩;cases h3:q y x with
  | true=>exact absurd ((hq _ _).1 h3) h2
  | false=>simp [h1]
 rcases m1 with m1|m1 <;> rcases m2 with m2|m2
 ·exact absurd (xM o ha m1 m2 he2) hne
 ·exact mk p m1 r m2 he2 hne
 ·exact mk r m2 p m1 he hne.symm
 ·exact absurd (xM o hb m1 m2 he2) hne
end Go.Am
end
section
/- Records alike;copies;bins. -/
open Go
set_option linter.unusedSimpArgs false
namespace Go.Am
variable {h:aA} {K:kA}
def tD (a b:Rec):Bool:=decide (a.unit=b.unit)&&(decide (a.time=b.time)&&(decide (a.site=b.site)&&decide (a.res=b.res)))
theorem LQ (a b:Rec):tD a b=true↔a=b:=by
 cases a;cases b
 simp [tD]
theorem zk9 (a b:Rec)(ha:a.res.length≤1000):gA X QG [.p a.pv,.p b.pv] h K=K (AB (tD a b)) h []:=by
 refine rule ?_;rw[z8U rfl];have q:=fun h K=>z4M (h:=h) (K:=K) a.res b.res (by omega)
 unfold tD;by_cases h1:a.unit=b.unit
 ·by_cases h2:a.time=b.time
  ·by_cases h3:a.site=b.site
   ·simp only[HG,Rec.pv,go_sem,eq_true h1,eq_true h2,eq_true h3,↓q,q]
   ·simp only[HG,Rec.pv,go_sem,eq_true h1,eq_true h2,h3]
  ·simp only[HG,Rec.pv,go_sem,eq_true h1,h2]
 ·simp only[HG,Rec.pv,go_sem,h1]
theorem zki (l:List Int)(hl:l.length≤1000000):gA X jL [AL l] h K=K (.own h.length l.length 0 l.length) (h++[.row none (l.map eI) 0]) []:=by
 refine rule ?_;rw[z90 rfl];simp only[ZN];refine⟨_,_,_,⟨rfl,rfl,rfl⟩,?_⟩;cases l with
 | nil=>
  simp only[AL,UA,List.map_nil,List.length_nil,go_sem];exact List.take_of_length_le (by simp)
 | cons x r=>
  have hm:r.length+1≤PA:=by simp only[List.length_cons]at hl;unfold PA;omega
  simp only[AL,UA,List.map_cons,List.length_cons,go_sem,hm];exact List.take_of_length_le (by simp)
theorem zkb {b:Nat}{P:kA}{vs:List AV}{h:aA}{x:Esc}(hx:∀ y∈x,b≤y.1){v:AV}(h1:NA b h (SA vs)=some v)(h2:v.top≤b):JD false b P (some vs) h x=P v (h.take b) []:=by
 have e:max b v.top=b:=by omega
 have c:zB x b=true:=by
  unfold zB;rw[List.all_eq_true];intro y hy;simp [hx y hy]
 have f:x.filter (fun y=>decide (y.1<b))=[]:=by
  rw[List.filter_eq_nil_iff];intro y hy;have:=hx y hy;simp;omega
 simp only[JD,h1,e,z07 hx,c,if_true,f];exact propext ⟨fun h=>h.2,fun h=>⟨h2,h⟩⟩
theorem zku (r:Rec)(hr:r.res.length≤1000):gA X pI [.p r.pv] h K=K (.p r.pv) h []:=by
 refine rule ?_;rw[z8H rfl];have q:=fun h K=>zki (h:=h) (K:=K) r.res (by omega)
 simp only[vN,Rec.pv,go_sem,↓q,q];have w:win (r.res.map eI) 0 r.res.length=r.res.map eI:=UE (by simp)
 rw[zkb (v:=.p (.agg [.str r.unit,eI r.time,.str r.site,.sl none (r.res.map eI)])) ?_ ?_ (by simp only[go_sem])]
 ·simp only[go_sem]
 ·intro y hy
  simp only[bC,List.mem_append]at hy;rcases hy with hy|hy <;> split at hy <;> simp at hy <;> subst hy <;> simp
 ·simp only[go_sem,w]
theorem zkl (l:List Int)(hl:l.length≤1000):gA X OF [AL l] h K=K (AI (orL l)) h []:=by
 refine rule ?_;rw[z8v rfl];simp only[kN,go_sem];refine CA (fun k:Nat=>⟨[(5,AL l),(6,AI l.length),(7,AI k)],h,[]⟩) (fun k=>k≤l.length∧orL (l.drop k)=orL l) (fun k=>l.length-k) 0 rfl ⟨by omega,rfl⟩ ?_
 rintro k ⟨hk,hp⟩
 rcases Nat.lt_or_ge k l.length with hlt|hge
 ·have g2:=bB eI hlt
  have w2:IntKind.i64.wrap ((k:Int)+1)=((k+1:Nat):Int):=nA _ (by omega) (by omega)
  rw[List.drop_eq_getElem_cons hlt,orL]at hp;by_cases hz:l[k]=0
  ·rw[if_neg (by simp [hz])]at hp
   simp only[go_sem,hlt,g2,hz,w2];exact⟨k+1,rfl,⟨by omega,hp⟩,by omega⟩
  ·rw[if_pos hz]at hp
   simp only[go_sem,hlt,g2,hz];rw[hp]
 ·have ek:k=l.length:=by omega
  subst ek;rw[List.drop_length]at hp;simp only[go_sem,Nat.lt_irrefl];rw[←hp];rfl
end Go.Am
end
section
/- Lengths of numbers in bits,and comparisons of plain values. -/
open Go
namespace Go.Am
variable {h:aA} {K:kA}
set_option maxRecDepth 20000
theorem zlz (k:Nat)(hk:k<256):∃b,([0,1,2,2,3,3,3,3,4,4,4,4,4,4,4,4,5,5,5,5,5,5,5,5,5,5,5,5,5,5,5,5,6,6,6,6,6,6,6,6,6,6,6,6,6,6,6,6,6,6,6,6,6,6,6,6,6,6,6,6,6,6,6,6,7,7,7,7,7,7,7,7,7,7,7,7,7,7,7,7,7,7,7,7,7,7,7,7,7,7,7,7,7,7,7,7,7,7,7,7,7,7,7,7,7,7,7,7,7,7,7,7,7,7,7,7,7,7,7,7,7,7,7,7,7,7,7,7,8,8,8,8,8,8,8,8,8,8,8,8,8,8,8,8,8,8,8,8,8,8,8,8,8,8,8,8,8,8,8,8,8,8,8,8,8,8,8,8,8,8,8,8,8,8,8,8,8,8,8,8,8,8,8,8,8,8,8,8,8,8,8,8,8,8,8,8,8,8,8,8,8,8,8,8,8,8,8,8,8,8,8,8,8,8,8,8,8,8,8,8,8,8,8,8,8,8,8,8,8,8,8,8,8,8,8,8,8,8,8,8,8,8,8,8,8,8,8,8,8,8,8,8,8,8,8,8]:List UInt8)[k]?=some b:=⟨_,List.getElem?_eq_getElem (Nat.lt_of_lt_of_eq hk (by kernel_rfl))⟩
theorem zf6 (x:Int)(h0:0≤x)(h1:x<256):∃m:Int,∀(h:aA) (K:kA),gA X TK [AU x] h K=K (AI m) h []:=by
 obtain⟨b,hb⟩:=zlz x.toNat (by omega)
 refine⟨IntKind.i64.wrap (0+IntKind.i64.wrap b.toNat),fun h K=>?_⟩
 have w:IntKind.u8.wrap x=x:=by simp [IntKind.wrap,IntKind.bits,IntKind.signed];omega
 have b1:¬(4294967296≤x):=by omega
 have b2:¬(65536≤x):=by omega
 have b3:¬(256≤x):=by omega
 have hn:=TO (k:=.u8) h0
 have key:∀(h:aA) (K:kA),gA X UK [AU x] h K=K (AI (IntKind.i64.wrap (0+IntKind.i64.wrap b.toNat))) h []:=by
  intro h K;refine rule ?_;rw[z8W rfl];simp only[FN,go_sem,b1,b2,b3,w,hn,hb]
 refine rule ?_;rw[z8V rfl];simp only[EN,go_sem,key]
end Go.Am
end
section
/- Sorting numbers: printed by program. -/
open Go
set_option linter.unusedSimpArgs false
namespace Go.Am
attribute [-go_sem] PV.cells splice
variable {h:aA} {K:kA}
end Go.Am
end
section
/- Bins,both ways;lists joined;records sorted. -/
open Go
set_option linter.unusedSimpArgs false
namespace Go.Am
variable {h:aA} {K:kA}
theorem HV (l:List Lim)(res:List Int):(cC l res = -1∧∀b∈RB l res,b=true)∨∃k:Nat,cC l res=k∧k<(RB l res).length∧(RB l res)[k]?=some false:=by
 unfold cC;split
 ·rename_i hlt
  refine .inr ⟨_,rfl,hlt,?_⟩;have:=List.findIdx_getElem (w:=hlt);rw[List.getElem?_eq_getElem hlt];simpa using this
 ·rename_i hlt
  refine .inl ⟨rfl,fun b hb=>?_⟩
  have hge:(RB l res).length≤(RB l res).findIdx fun b=>!b:=by omega
  have:=List.findIdx_eq_length.1 (Nat.le_antisymm List.findIdx_le_length hge) b hb;simpa using this
theorem SV {l:List Lim}{res:List Int}(hf:uB l res=true):1≤res.length∧res.length≤l.length:=by
 unfold uB inB at hf;simp only[Bool.and_eq_true,decide_eq_true_eq]at hf;omega
theorem zdP {l:List Lim}{res:List Int}(hf:uB l res=true)(h1:res.length-1<l.length)(h2:res.length-1<res.length):(if oE l[res.length-1] res[res.length-1] then(-1:Int) else(res.length:Int)-1)=cC l res:=by
 have hl:=SV hf
 have gg:=FO (l:=l) (res:=res) h1 h2
 have gl:=VV (l:=l) (res:=res) hl.2
 rcases HV l res with⟨e,ha⟩|⟨k,e,hk,hg⟩
 ·rw[e]
  have:=ha _ (List.mem_of_getElem? gg);rw[this];rfl
 ·unfold uB at hf
  rw[e]at hf ⊢;have ek:k=res.length-1:=by
   simp only[Bool.and_eq_true,Bool.not_eq_true',Bool.and_eq_false_iff,decide_eq_false_iff_not]at hf;have:=hf.1.2;rcases this with h|h
   ·exact absurd (by omega) h
   ·simp at h;omega
  subst ek;rw[gg]at hg;simp only[Option.some.injEq]at hg;rw[hg];simp;omega
def DH (l:List Lim)(f:Int):Int:=if 0≤f then(l.getD f.toNat ⟨[],0,0,0⟩).bin else 1
theorem GY (l:List Lim)(r:Rec)(hf:uB l r.res=true)(hn:l.length≤1000):gA X oF [JA l,.p r.pv] h K=K (AI (cC l r.res)) h []:=by
 have hl:=SV hf
 rw[z5g l r hl.1 hl.2 hn,zdP hf]
theorem z5c (l:List Lim)(r:Rec)(hf:uB l r.res=true)(hn:l.length≤1000):gA X oI [JA l,.p r.pv] h K=K (AI (DH l (cC l r.res))) h []:=by
 refine rule ?_;rw[z8E rfl];have q:=fun h K=>GY (h:=h) (K:=K) l r hf hn
 have hl:=SV hf
 simp only[Rec.pv]at q;rcases HV l r.res with⟨e,_⟩|⟨k,e,hk,_⟩
 ·rw[e]at q ⊢
  simp only[tK,Rec.pv,go_sem,↓q,q];rfl
 ·rw[e]at q ⊢
  have hkl:k<l.length:=by rw[VV hl.2]at hk;omega
  have g1:=bB Lim.pv hkl
  have b1:(0:Int)≤(k:Int):=by omega
  simp only[tK,Rec.pv,go_sem,↓q,q,b1,hkl,g1,Lim.pv];unfold DH;rw[if_pos b1,Int.toNat_natCast,List.getD_eq_getElem?_getD,List.getElem?_eq_getElem hkl];rfl
theorem oY {l:List Lim}{r:Rec}(hf:GB l r=0):uB l r.res=true:=by
 unfold GB at hf;cases h:uB l r.res with
 | true=>rfl
 | false=>
  rw[h]at hf;split at hf
  ·omega
  ·split at hf
   ·omega
   ·split at hf
    ·omega
    ·simp at hf
theorem z6q (id:Nat)(l:List PV)(hs:mC (some 4) l)(hl:l.length≤12)(hh:h[id]?=some (.row (some 4) l 0)){g:Nat}{caps:List AV}{c:PV→PV→Int}(hc:MC g caps c l id h) :
 gA X kL [.own id l.length 0 l.length,.fn g caps] h K=K (.tup []) (h.set id (.row (some 4) (vA (ltC c) l) 0)) []:=by
 refine rule ?_;rw[z98];have w0:IntKind.u64.wrap (l.length:Int)=l.length:=z5A _ (by omega) (by omega)
 obtain⟨m,hm⟩:=zf6 (l.length:Int) (by omega) (by omega)
 have is:=fun K=>WV (h:=h) (K:=K) id l.length l [] rfl hs (by omega) (by rw[List.append_nil];exact hh) hc
 simp only[List.append_nil]at is;have key:∀K:kA,gA X XG [.own id l.length 0 l.length,AI 0,AI l.length,AI m,.fn g caps] h K=K (.tup []) (h.set id (.row (some 4) (vA (ltC c) l) 0)) []:=by
  intro K;refine rule ?_;rw[z99];simp only[fO,go_sem];refine CA (fun _:Unit=>⟨[(0,.own id l.length 0 l.length),(1,AI 0),(2,AI l.length),(3,AI m),(4,.fn g caps),(10,AB true),(11,AB true)],h,[]⟩) (fun _=>True) (fun _=>0) () rfl trivial ?_
  intro _ _;have w1:IntKind.i64.wrap ((l.length:Int)-0)=l.length:=by rw[nA _ (by omega) (by omega)];omega
  have b1:((l.length:Int)≤12):=by omega
  simp only[go_sem,w1,b1,is]
 simp only[eO,go_sem,w0,hm,key]
end Go.Am
end
section
/- Lists of records joined,compared,gB. -/
open Go
set_option linter.unusedSimpArgs false
namespace Go.Am
variable {h:aA} {K:kA}
instance:DecidableEq Rec:=fun a b=>decidable_of_iff (tD a b=true) (LQ a b)
theorem zkn (n:Nat)(hn:n≤1048576):gA X zV [.sl0 (some 4),AI n] h K=K (.own h.length 0 0 0) (h++[.row (some 4) [] 0]) []:=by
 refine NO (X:=X) (by kernel_rfl) ?_
 first|rw[show X.ex2=qE GRL PRL from rfl]|skip
 exact zfD (by kernel_rfl) (by omega) (by omega)
def lsl (xs:List PV):PV:=.sl (some 4) xs
theorem z2H {ls:List (List PV)}{k:Nat}(hk:k<ls.length):(ls.take (k+1)).flatten=(ls.take k).flatten++ls[k]:=by
 rw[List.take_succ_eq_append_getElem hk,List.flatten_append];simp
theorem QV:∀ (ls:List (List PV))(k:Nat),(ls.take k).flatten.length≤ls.flatten.length
 | [],k=>by simp
 | x::r,0=>by simp
 | x::r,k+1=>by
  have:=QV r k;simp only[List.take_succ_cons,List.flatten_cons,List.length_append];omega
theorem zkj (ls:List (List PV))(hs:∀ l∈ls,mC (some 4) l)(hl:ls.length≤1000)(hn:ls.flatten.length≤1000000) :
 gA X BI [.p (.sl none (ls.map lsl))] h K=K (.own h.length ls.flatten.length 0 ls.flatten.length) (h++[.row (some 4) ls.flatten 0]) []:=by
 refine rule ?_;rw[z92 rfl];simp only[aO,go_sem];refine CA (fun k:Nat=>⟨[(0,.p (.sl none (ls.map lsl))),(3,AI (ls.take k).flatten.length),(9,.p (.sl none (ls.map lsl))),(10,AI ls.length),(11,AI k)],h,[]⟩) (fun k=>k≤ls.length) (fun k=>ls.length-k) 0 rfl (by omega) ?_
 intro k hk;rcases Nat.lt_or_ge k ls.length with hlt|hge
 ·have g2:=bB lsl hlt
  have f1:=z2H hlt
  have f2:=QV ls (k+1)
  have w2:IntKind.i64.wrap ((k:Int)+1)=((k+1:Nat):Int):=nA _ (by omega) (by omega)
  have w3:IntKind.i64.wrap (((ls.take k).flatten.length:Int)+(ls[k].length:Int))=((ls.take (k+1)).flatten.length:Int):=by
   rw[f1,List.length_append];have:(ls.take k).flatten.length+ls[k].length≤1000000:=by rw[f1,List.length_append]at f2;omega
   rw[nA _ (by omega) (by omega)];omega
  have b1:¬(((ls.take (k+1)).flatten.length:Int)<0):=by omega
  simp only[go_sem,hlt,g2,lsl,w3,b1,w2];exact⟨k+1,rfl,by omega,by omega⟩
 ·have ek:k=ls.length:=by omega
  subst ek;have q:=fun h K=>zkn (h:=h) (K:=K) ls.flatten.length (by omega)
  have tl:ls.take ls.length=ls:=List.take_length
  simp only[go_sem,Nat.lt_irrefl,tl,↓q,q];refine CA (fun k:Nat=>⟨[(6,.own h.length (ls.take k).flatten.length 0 (ls.take k).flatten.length),(25,.p (.sl none (ls.map lsl))),(26,AI ls.length),(27,AI k)],h++[.row (some 4) (ls.take k).flatten 0],[]⟩) (fun k=>k≤ls.length) (fun k=>ls.length-k) 0 rfl (by omega) ?_
  intro k hk;rcases Nat.lt_or_ge k ls.length with hlt|hge
  ·have g2:=bB lsl hlt
   have f1:=z2H hlt
   have f2:=QV ls (k+1)
   have w2:IntKind.i64.wrap ((k:Int)+1)=((k+1:Nat):Int):=nA _ (by omega) (by omega)
   have hm:(ls.take k).flatten.length+ls[k].length≤PA:=by rw[f1,List.length_append]at f2;unfold PA;omega
   have hm0:ls[k].length≤PA:=by omega
   simp only[go_sem,hlt,g2,lsl,w2,hm,hm0];exact⟨k+1,by rw[f1];simp,by omega,by omega⟩
  ·have ek:k=ls.length:=by omega
   subst ek;simp only[go_sem,Nat.lt_irrefl,tl];rw[List.take_of_length_le (by simp)]
end Go.Am
end
section
/- Records gB asv the reference does it. -/
open Go
set_option linter.unusedSimpArgs false
namespace Go.Am
variable {h:aA} {K:kA}
theorem zjL {a b:Rec}:EA a b≤0↔a.time<b.time∨(a.time=b.time∧OA a.unit b.unit≤0):=by
 unfold EA oC;by_cases h1:a.time<b.time
 ·simp [h1]
 ·by_cases h2:b.time<a.time
  ·simp [h1,h2];omega
  ·have:a.time=b.time:=by omega
   simp [this]
theorem TS {a b c:List UInt8}(h1:OA a b≤0)(h2:OA b c≤0):OA a c≤0:=by
 by_cases e1:OA a b=0
 ·rw[mK e1];exact h2
 ·by_cases e2:OA b c=0
  ·rw[←mK e2];exact h1
  ·have:=z0A (a:=a) (b:=b) (c:=c) (by omega) (by omega)
   omega
theorem VI:Ordr EA:=by
 refine⟨fun a b=>yQ a b,fun a b d h1 h2=>?_⟩
 rw[zjL]at *;rcases h1 with h1|⟨h1,h1'⟩ <;> rcases h2 with h2|⟨h2,h2'⟩
 ·exact .inl (by omega)
 ·exact .inl (by omega)
 ·exact .inl (by omega)
 ·exact .inr ⟨by omega,TS h1' h2'⟩
def bR (r:Rec):Prop:=-1000000000000000000≤r.time∧r.time≤1000000000000000000
end Go.Am
end
section
/- Records gB: the reference's walk. -/
open Go
set_option linter.unusedSimpArgs false
namespace Go.Am
variable {h:aA} {K:kA}
def refM (a b:List Rec):List Rec×Int:=if kE EA tD a b then([],13) else(vA (ltO EA) (a++b.filter (OE EA a)),0)
end Go.Am
end
section
/- Records gB: lot's walk. -/
open Go
set_option linter.unusedSimpArgs false
namespace Go.Am
variable {h:aA} {K:kA}
def okAdj (C:List Rec)(k:Nat):Prop:=∀i (h:i+1<C.length),i+1<k→EA C[i+1] C[i]≠0
attribute [-go_sem] GK KF gI GG FK PH
set_option maxHeartbeats 2000000 in
theorem zfU (C:List Rec)(N:Nat)(row:List PV)(id:Nat)(hr:∀ x∈C,x.res.length≤1000)(hC:C.length≤1000)(hN:row.length=N)(hw:win row 0 C.length=C.map Rec.pv)(hid:h[id]?=some (.row (some 4) row 0))(hCN:C.length≤N){x:Esc}(hx:x=[])(K:Ex→St→Prop)
 (hK:∀h2 y,y=[]→h2=h++[.row (some 4) (C.map Rec.pv) 0]→K .ret ⟨[(6,.own h.length C.length 0 C.length),(7,AI 0)],h2,y⟩) :
 KF (gA X) X.gl fJ qP (.own id N 0 C.length) h x K:=by
 subst hx;have b1:¬((5000:Int)<(C.length:Int)):=by omega
 simp only[KF,go_sem,b1];have hidl:=ED hid
 refine CA (fun k:Nat=>⟨[(12,.own h.length k 0 k),(57,.own id N 0 C.length),(58,AI C.length),(59,AI k)],h++[.row (some 4) ((C.take k).map Rec.pv) 0],[]⟩) (fun k=>k≤C.length) (fun k=>C.length-k) 0 (by simp) (by omega) ?_
 intro k hk;rcases Nat.lt_or_ge k C.length with hlt|hge
 ·have w2:IntKind.i64.wrap ((k:Int)+1)=((k+1:Nat):Int):=nA _ (by omega) (by omega)
  have hg:row[k]?=some C[k].pv:=by
   have h1:(win row 0 C.length)[k]?=some C[k].pv:=by rw[hw];exact bB Rec.pv hlt
   rw[win,List.drop_zero,List.getElem?_take_of_lt hlt]at h1;exact h1
  have hid':∀l,(h++l)[id]?=some (.row (some 4) row 0):=fun l=>by rw[vL hidl];exact hid
  have cp:=fun h K=>zku (h:=h) (K:=K) C[k] (hr _ (List.getElem_mem hlt))
  have c1:MA (some 4) 0 C[k].pv=some C[k].pv:=rfl
  have hm:k+1≤PA:=by unfold PA;omega
  have tk:(C.take k).length=k:=by simp;omega
  simp only[Rec.pv]at hg cp c1;simp only[@gI,bA,Nat.reduceEqDiff,if_true,if_false,GG,go_sem,hlt,hN,hid',hg,c1,hCN,↓cp,cp,w2,hm,tk];refine⟨k+1,?_,by omega,by omega⟩
  have e:(C.take (k+1)).map Rec.pv=(C.take k).map Rec.pv++[C[k].pv]:=by rw[List.take_succ_eq_append_getElem hlt,List.map_append];rfl
  have hidl2:id≤h.length:=by omega
  rw[e];simp [Rec.pv,hidl2,-List.map_take]
 ·have ek:k=C.length:=by omega
  subst ek;simp only[@gI,@FK,bA,Nat.reduceEqDiff,if_true,if_false,GG,PH,go_sem,Nat.lt_irrefl];exact hK _ _ rfl (by rw[List.take_length])
theorem rY {l:List Lim}{r:List Rec}{x:Rec}{p:Option Rec}(h:wC l p (x::r)=0):GB l x=0∧(∀q,p=some q→¬EA x q≤0)∧wC l (some x) r=0:=by
 rw[zQ]at h;by_cases h1:GB l x≠0
 ·rw[if_pos h1]at h;exact absurd h h1
 ·rw[if_neg h1]at h
  refine⟨by omega,?_⟩
  cases p with
  | none=>exact⟨by simp,by simpa using h⟩
  | some q=>
   by_cases h2:EA x q≤0
   ·simp [h2]at h
   ·refine⟨fun q' e=>?_,by simpa [h2] using h⟩
    injection e with e
    subst e;exact h2
theorem z4x {l:List Lim}:∀{r:List Rec} {p:Option Rec},wC l p r=0→(∀x,r.head?=some x→∀q,p=some q→EA q x<0)∧FC EA r
 | [],p,h=>⟨by simp,List.Pairwise.nil⟩
 | x::r,p,h=>by
  obtain⟨_,h2,h3⟩:=rY h;obtain⟨g1,g2⟩:=z4x (r:=r) (p:=some x) h3;refine⟨fun y hy q hq=>?_,List.pairwise_cons.2 ⟨fun y hy=>?_,g2⟩⟩
  ·simp only[List.head?_cons,Option.some.injEq]at hy
   subst hy;have:=h2 q hq;have:=yQ x q;omega
  ·cases r with
   | nil=>simp at hy
   | cons z r=>
    have hz:=g1 z rfl x rfl
    rcases List.mem_cons.1 hy with e|e
    ·subst e;exact hz
    ·have:=(List.pairwise_cons.1 g2).1 y e
     exact VI.lt_le hz (by omega)
theorem z4y {l:List Lim}:∀{r:List Rec} {p:Option Rec},wC l p r=0→∀x∈r,bR x
 | [],_,_,x,hx=>by simp at hx
 | y::r,p,h,x,hx=>by
  obtain⟨h1,_,h3⟩:=rY h;rcases List.mem_cons.1 hx with e|e
  ·subst e
   have:=pY h1;unfold bR;omega
  ·exact z4y h3 x e
theorem AQ {l:List Lim}{r:List Rec}(h:QA l r=0):FC EA r∧∀x∈r,bR x:=by
 unfold QA tH at h;split at h
 ·rename_i h1;exact absurd h h1
 ·split at h
  ·omega
  ·exact⟨(z4x h).2,z4y h⟩
end Go.Am
end
section
/- Records gB: lot's walk,whole. -/
open Go
set_option linter.unusedSimpArgs false
namespace Go.Am
variable {h:aA} {K:kA}
attribute [-go_sem] GK KF gI GG FK PH
def ML (l:List Lim)(a b:List Rec):List Rec×Int:=if orL [QA l a,QA l b]≠0 then([],orL [QA l a,QA l b]) else refM a b
end Go.Am
end
section
/- Two sorted lists,gB: plainly. -/
set_option linter.all false
namespace Go.Am
section
variable {α:Type} (lt:α→α→Bool)
def mrg:List α→List α→List α
 | [],B=>B
 | a::A,[]=>a::A
 | a::A,b::B=>bif lt b a then b::mrg (a::A) B else a::mrg A (b::B)
termination_by A B=>A.length+B.length
theorem GD (A:List α):mrg lt A []=A:=by cases A <;> simp [mrg]
theorem XD (B:List α):mrg lt [] B=B:=by simp [mrg]
theorem QC (a b:α)(A B:List α):mrg lt (a::A) (b::B)=bif lt b a then b::mrg lt (a::A) B else a::mrg lt A (b::B):=by
 rw[mrg]
theorem iH:∀ (n:Nat)(A1 A2 B1 B2:List α),A1.length+B1.length=n→(∀a∈A1,∀b∈B2,lt b a=false)→(∀b∈B1,∀a∈A2,lt b a=true)→mrg lt (A1++A2) (B1++B2)=mrg lt A1 B1++mrg lt A2 B2
 | n,[],A2,[],B2,_,_,_=>by simp [XD]
 | n,[],[],b::B1,B2,_,_,_=>by simp [XD]
 | n,[],a::A2,b::B1,B2,hn,h1,h2=>by
  have hb:lt b a=true:=h2 b (by simp) a (by simp)
  simp only[List.length_nil,List.length_cons,Nat.zero_add]at hn;have ih:=iH (n-1) [] (a::A2) B1 B2 (by simp;omega) (by simp) (fun x hx y hy=>h2 x (List.mem_cons_of_mem _ hx) y hy)
  simp only[List.nil_append,XD]at ih ⊢;rw[List.cons_append,QC,hb,cond_true,ih];rfl
 | n,a::A1,A2,[],[],_,_,_=>by simp [GD]
 | n,a::A1,A2,[],b::B2,hn,h1,h2=>by
  have hb:lt b a=false:=h1 a (by simp) b (by simp)
  simp only[List.length_nil,List.length_cons,Nat.add_zero]at hn;have ih:=iH (n-1) A1 A2 [] (b::B2) (by simp;omega) (fun x hx y hy=>h1 x (List.mem_cons_of_mem _ hx) y hy) (by simp)
  simp only[List.nil_append,GD]at ih ⊢;rw[List.cons_append,QC,hb,cond_false,ih];rfl
 | n,a::A1,A2,b::B1,B2,hn,h1,h2=>by
  simp only[List.length_cons]at hn;simp only[List.cons_append];rw[QC,QC];cases hb:lt b a with
  | true=>
   have ih:=iH (n-1) (a::A1) A2 B1 B2 (by simp;omega) h1 (fun x hx y hy=>h2 x (List.mem_cons_of_mem _ hx) y hy)
   rw[cond_true,cond_true,←List.cons_append,ih];rfl
  | false=>
   have ih:=iH (n-1) A1 A2 (b::B1) B2 (by simp;omega) (fun x hx y hy=>h1 x (List.mem_cons_of_mem _ hx) y hy) h2
   rw[cond_false,cond_false,←List.cons_append,ih];rfl
theorem lW:∀ (n:Nat)(A B:List α),A.length+B.length=n→(mrg lt A B).length=n
 | n,[],B,h=>by rw[XD];simpa using h
 | n,a::A,[],h=>by rw[GD];simpa using h
 | n,a::A,b::B,h=>by
  simp only[List.length_cons]at h;rw[QC];cases lt b a with
  | true=>rw[cond_true,List.length_cons,lW (n-1) (a::A) B (by simp;omega)];omega
  | false=>rw[cond_false,List.length_cons,lW (n-1) A (b::B) (by simp;omega)];omega
theorem OL:∀ (n:Nat)(A B:List α),A.length+B.length=n→∀x,x∈mrg lt A B↔x∈A∨x∈B
 | n,[],B,_,x=>by rw[XD];simp
 | n,a::A,[],_,x=>by rw[GD];simp
 | n,a::A,b::B,h,x=>by
  simp only[List.length_cons]at h;rw[QC];cases lt b a with
  | true=>
   rw[cond_true,List.mem_cons,OL (n-1) (a::A) B (by simp;omega) x,List.mem_cons,List.mem_cons]
   exact⟨fun h=>by rcases h with h|(h|h)|h <;> simp [h],fun h=>by rcases h with(h|h)|h|h <;> simp [h]⟩
  | false=>
   rw[cond_false,List.mem_cons,OL (n-1) A (b::B) (by simp;omega) x,List.mem_cons,List.mem_cons]
   exact⟨fun h=>by rcases h with h|h|h|h <;> simp [h],fun h=>by rcases h with(h|h)|h|h <;> simp [h]⟩
theorem JI (x:α)(l:List α)(h:∀ c∈l,lt x c=true):(WA lt x l.reverse).reverse=x::l:=by
 have:=BL lt x [] l.reverse (fun c hc=>h c (List.mem_reverse.1 hc)) (fun y r e=>by cases e)
 rw[List.append_nil]at this;rw[this];simp
theorem CL (x y:α)(l:List α)(hy:lt x y=false):(WA lt x (y::l).reverse).reverse=y::(WA lt x l.reverse).reverse:=by
 rw[List.reverse_cons];have:∀r:List α,WA lt x (r++[y])=WA lt x r++[y]:=by
  intro r;induction r with
  | nil=>simp [WA,hy]
  | cons z r ih2=>
   simp only[List.cons_append,WA];cases lt x z with
   | true=>simp only[cond_true,ih2,List.cons_append]
   | false=>simp only[cond_false,List.cons_append]
 rw[this];simp
variable {lt}
theorem WF (w:Weak lt){x a:α}{A:List α}(h:(a::A).Pairwise fun a b=>lt b a=false)(hx:lt x a=true):∀c∈a::A,lt x c=true:=by
 intro c hc;rcases List.mem_cons.1 hc with rfl|hc
 ·exact hx
 ·have h1:=(List.pairwise_cons.1 h).1 c hc
  cases h2:lt x c with
  | true=>rfl
  | false=>exact absurd hx (by rw[w.ntrans a c x h1 h2];simp)
theorem JO (w:Weak lt)(x:α):∀(n:Nat) (A B:List α),A.length+B.length=n→A.Pairwise (fun a b=>lt b a=false)→B.Pairwise (fun a b=>lt b a=false) →
 (WA lt x (mrg lt A B).reverse).reverse=mrg lt A (WA lt x B.reverse).reverse
 | n,[],B,_,_,_=>by rw[XD,XD]
 | n,a::A,[],h,hA,_=>by
  simp only[List.length_cons,List.length_nil,Nat.add_zero]at h;have e:(WA lt x ([]:List α).reverse).reverse=[x]:=rfl
  rw[GD,e,QC];cases hx:lt x a with
  | true=>rw[cond_true,GD,JI lt x (a::A) (WF w hA hx)]
  | false=>
   rw[cond_false,CL lt x a A hx];have ih:=JO w x (n-1) A [] (by simp;omega) (List.pairwise_cons.1 hA).2 .nil
   rw[GD,e]at ih;rw[ih]
 | n,a::A,b::B,h,hA,hB=>by
  simp only[List.length_cons]at h;have pA:=List.pairwise_cons.1 hA
  have pB:=List.pairwise_cons.1 hB
  rw[QC];cases hb:lt b a with
  | true=>
   rw[cond_true];cases hx:lt x b with
   | true=>
    have hxa:lt x a=true:=by
     cases h2:lt x a with
     | true=>rfl
     | false=>exact absurd hx (by rw[w.ntrans b a x (w.asym b a hb) h2];simp)
    rw[JI lt x (b::B) (WF w hB hx),QC,hxa,cond_true,QC,hb,cond_true];refine JI lt x _ fun c hc=>?_
    rcases List.mem_cons.1 hc with rfl|hc
    ·exact hx
    ·rcases(OL lt _ (a::A) B rfl c).1 hc with hc|hc
     ·exact WF w hA hxa c hc
     ·exact WF w hB hx c (List.mem_cons_of_mem _ hc)
   | false=>
    rw[CL lt x b _ hx,CL lt x b _ hx,QC,hb,cond_true,JO w x (n-1) (a::A) B (by simp;omega) hA pB.2]
  | false=>
   rw[cond_false];cases hx:lt x a with
   | true=>
    have hxb:lt x b=true:=by
     cases h2:lt x b with
     | true=>rfl
     | false=>exact absurd hx (by rw[w.ntrans a b x hb h2];simp)
    rw[JI lt x (b::B) (WF w hB hxb),QC,hx,cond_true,QC,hb,cond_false];refine JI lt x _ fun c hc=>?_
    rcases List.mem_cons.1 hc with rfl|hc
    ·exact hx
    ·rcases(OL lt _ A (b::B) rfl c).1 hc with hc|hc
     ·exact WF w hA hx c (List.mem_cons_of_mem _ hc)
     ·exact WF w hB hxb c hc
   | false=>
    rw[CL lt x a _ hx,JO w x (n-1) A (b::B) (by simp;omega) pA.2 hB]
    have hne:∃c C,(WA lt x (b::B).reverse).reverse=c::C∧lt c a=false:=by
     cases hxb:lt x b with
     | true=>exact⟨x,b::B,JI lt x (b::B) (WF w hB hxb),hx⟩
     | false=>exact⟨b,_,CL lt x b B hxb,hb⟩
    obtain⟨c,C,e,hc⟩:=hne;rw[e,QC,hc,cond_false]
theorem z36 (lt:α→α→Bool)(l:List α)(x:α):vA lt (l++[x])=(WA lt x (vA lt l).reverse).reverse:=by
 unfold vA JC;rw[List.foldl_append,List.reverse_reverse];rfl
theorem zeD (w:Weak lt)(l m:List α):vA lt (l++m)=mrg lt (vA lt l) (vA lt m):=by
 have key:∀n:Nat,∀m:List α,m.length=n→vA lt (l++m)=mrg lt (vA lt l) (vA lt m):=by
  intro n;induction n with
  | zero=>intro m h;rw[List.eq_nil_of_length_eq_zero h,List.append_nil];exact(GD lt _).symm
  | succ n ih=>
   intro m h;obtain⟨m',x,rfl⟩:∃m' x,m=m'++[x]:=⟨m.dropLast,m.getLast (by intro e;rw[e]at h;cases h),(List.dropLast_concat_getLast _).symm⟩
   rw[List.length_append,List.length_singleton]at h;rw[←List.append_assoc,z36,ih m' (by omega),z36]
   exact JO w x _ _ _ rfl (fH w l) (fH w m')
 exact key _ m rfl
end
end Go.Am
end
section
/- Ranges exchanged,blocks rotated,two sorted lists gB in place: plainly. -/
set_option linter.all false
namespace Go.Am
section
variable {α:Type}
def RC (P U Q V S:List α)(k:Nat):List α:=P++(V.take k++U.drop k)++Q++(U.take k++V.drop k)++S
theorem zlo (P U Q V S:List α):RC P U Q V S 0=P++U++Q++V++S:=by simp [RC]
theorem zlt {P U Q V S:List α}(h:U.length=V.length):RC P U Q V S U.length=P++V++Q++U++S:=by
 unfold RC;rw[List.take_of_length_le (by omega),List.drop_eq_nil_of_le (Nat.le_refl _),List.take_of_length_le (Nat.le_refl _),List.drop_eq_nil_of_le (by omega)]
 simp
theorem zls {P U Q V S:List α}(h:U.length=V.length){k:Nat}(hk:k≤U.length):(RC P U Q V S k).length=(P++U++Q++V++S).length:=by
 simp [RC];omega
theorem SY {P U Q V S:List α}(h:U.length=V.length){k:Nat}(hk:k<U.length) :
 RC P U Q V S k=(P++V.take k)++U[k]::(U.drop (k+1)++Q++U.take k++V[k]'(by omega)::(V.drop (k+1)++S)):=by
 unfold RC;rw[List.drop_eq_getElem_cons hk,List.drop_eq_getElem_cons (show k<V.length by omega)]
 simp only[List.append_assoc,List.cons_append]
theorem zlr {P U Q V S:List α}(h:U.length=V.length){k:Nat}(hk:k<U.length) :
 RC P U Q V S k=(P++V.take k++U[k]::(U.drop (k+1)++Q++U.take k))++V[k]'(by omega)::(V.drop (k+1)++S):=by
 rw[SY h hk];simp
theorem zlp {P U Q V S:List α}(h:U.length=V.length){k:Nat}(hk:k<U.length):(RC P U Q V S k)[P.length+k]?=some U[k]:=by
 rw[SY h hk,List.getElem?_append_right (by simp;omega)]
 have:P.length+k-(P++V.take k).length=0:=by simp;omega
 rw[this];rfl
theorem zlq {P U Q V S:List α}(h:U.length=V.length){k:Nat}(hk:k<U.length):(RC P U Q V S k)[P.length+U.length+Q.length+k]?=some (V[k]'(by omega)):=by
 rw[zlr h hk,List.getElem?_append_right (by simp;omega)]
 have:P.length+U.length+Q.length+k-(P++V.take k++U[k]::(U.drop (k+1)++Q++U.take k)).length=0:=by simp;omega
 rw[this];rfl
theorem zlu {P U Q V S:List α}(h:U.length=V.length){k:Nat}(hk:k<U.length) :
 ((RC P U Q V S k).set (P.length+k) (V[k]'(by omega))).set (P.length+U.length+Q.length+k) U[k]=RC P U Q V S (k+1):=by
 have l1:(P++V.take k).length=P.length+k:=by simp;omega
 rw[SY h hk,←l1,List.set_append_right _ _ (Nat.le_refl _),Nat.sub_self,List.set_cons_zero];have e:(P++V.take k)++V[k]'(by omega)::(U.drop (k+1)++Q++U.take k++V[k]'(by omega)::(V.drop (k+1)++S))=(P++V.take k++V[k]'(by omega)::(U.drop (k+1)++Q++U.take k))++V[k]'(by omega)::(V.drop (k+1)++S):=by simp
 rw[e];have l2:(P++V.take k++V[k]'(by omega)::(U.drop (k+1)++Q++U.take k)).length=P.length+U.length+Q.length+k:=by simp;omega
 rw[←l2,List.set_append_right _ _ (Nat.le_refl _),Nat.sub_self,List.set_cons_zero];unfold RC;rw[List.take_succ_eq_append_getElem (show k<V.length by omega),List.take_succ_eq_append_getElem hk]
 simp only[List.append_assoc,List.cons_append,List.nil_append]
theorem cut2 (l:List α)(n:Nat)(h:n≤l.length):∃a b,l=a++b∧a.length=n∧b.length=l.length-n:=⟨l.take n,l.drop n,by simp,by simp;omega,by simp⟩
end
section
variable {α:Type} {lt:α→α→Bool}
theorem zgf (w:Weak lt)(x:α):∀(B:List α) (k:Nat),k≤B.length→(∀b∈B.take k,lt b x=true)→(∀b∈B.drop k,lt b x=false)→mrg lt [x] B=B.take k++x::B.drop k
 | B,k,hk,h1,h2=>by
  have e:B=B.take k++B.drop k:=(List.take_append_drop k B).symm
  have m:=iH lt (0+(B.take k).length) [] [x] (B.take k) (B.drop k) (by simp) (by simp) (fun b hb a ha=>by rw[List.mem_singleton]at ha;rw[ha];exact h1 b hb)
  rw[List.nil_append,←e,XD]at m;rw[m];congr 1
  cases hd:B.drop k with
  | nil=>rw[GD]
  | cons b r=>
   have:=h2 b (by rw[hd];simp)
   rw[QC,this,cond_false,XD]
theorem zgg (x:α):∀(A:List α) (k:Nat),k≤A.length→(∀a∈A.take k,lt x a=false)→(∀a∈A.drop k,lt x a=true)→mrg lt A [x]=A.take k++x::A.drop k
 | A,k,hk,h1,h2=>by
  have e:A=A.take k++A.drop k:=(List.take_append_drop k A).symm
  have m:=iH lt ((A.take k).length+0) (A.take k) (A.drop k) [] [x] (by simp) (fun a ha b hb=>by rw[List.mem_singleton]at hb;rw[hb];exact h1 a ha) (by simp)
  rw[List.nil_append,←e,GD]at m;rw[m];congr 1
  cases hd:A.drop k with
  | nil=>rw[XD]
  | cons a r=>
   have:=h2 a (by rw[hd];simp)
   rw[QC,this,cond_true,GD]
end
end Go.Am
end
section
/- Binary searches over a sorted row,the cut of a merge: plainly. -/
set_option linter.all false
namespace Go.Am
def eK (Q:Nat→Bool)(lo hi:Nat):Prop:=∀c c',lo≤c→c≤c'→c'<hi→Q c=true→Q c'=true
def EC (Q:Nat→Bool)(lo hi i j:Nat):Prop:=lo≤i∧i≤j∧j≤hi∧(∀c,lo≤c→c<i→Q c=false)∧(∀c,j≤c→c<hi→Q c=true)
theorem EC.init {Q:Nat→Bool}{lo hi:Nat}(h:lo≤hi):EC Q lo hi lo hi:=⟨by omega,h,by omega,fun c _ _=>by omega,fun c _ _=>by omega⟩
theorem EC.up {Q:Nat→Bool}{lo hi i j c:Nat}(m:eK Q lo hi)(I:EC Q lo hi i j)(h1:i≤c)(h2:c<j)(hq:Q c=false):EC Q lo hi (c+1) j:=by
 obtain⟨i1,i2,i3,i4,i5⟩:=I;refine⟨by omega,by omega,i3,fun d d1 d2=>?_,i5⟩
 cases hd:Q d with
 | false=>rfl
 | true=>have:=m d c d1 (by omega) (by omega) hd;rw[hq]at this;cases this
theorem EC.dn {Q:Nat→Bool}{lo hi i j c:Nat}(m:eK Q lo hi)(I:EC Q lo hi i j)(h1:i≤c)(h2:c<j)(hq:Q c=true):EC Q lo hi i c:=by
 obtain⟨i1,i2,i3,i4,i5⟩:=I;exact⟨i1,h1,by omega,i4,fun d d1 d2=>m c d (by omega) d1 d2 hq⟩
section
variable {α:Type} {lt:α→α→Bool}
def SB (lt:α→α→Bool):Option α→Option α→Bool
 | some x,some y=>lt x y
 | _,_=>false
abbrev Srt (lt:α→α→Bool)(l:List α):Prop:=l.Pairwise fun a b=>lt b a=false
theorem Weak.irr (w:Weak lt)(x:α):lt x x=false:=by
 cases h:lt x x with
 | false=>rfl
 | true=>have:=w.asym x x h;rw[h]at this;cases this
theorem jC {l X B Y:List α}(hl:l=X++B++Y){c:Nat}(h1:X.length≤c)(h2:c<X.length+B.length):l[c]?=some (B[c-X.length]'(by omega)):=by
 rw[hl,List.append_assoc,List.getElem?_append_right h1,List.getElem?_append_left (by omega),List.getElem?_eq_getElem]
theorem pG (w:Weak lt){l X B Y:List α}(sB:Srt lt B)(hl:l=X++B++Y){c c':Nat}{x y:α}(h1:X.length≤c)(h2:c≤c')(h3:c'<X.length+B.length)(hx:l[c]?=some x)(hy:l[c']?=some y):lt y x=false:=by
 rw[jC hl h1 (by omega)]at hx
 rw[jC hl (by omega) h3]at hy
 cases hx;cases hy
 rcases Nat.lt_or_ge c c' with h|h
 ·exact List.pairwise_iff_getElem.1 sB _ _ _ _ (by omega)
 ·have:c=c':=by omega
  subst this;exact w.irr _
theorem QQ {l X B Y:List α}(hl:l=X++B++Y){k:Nat}{b:α}(hb:b∈B.take k):∃c,X.length≤c∧c<X.length+k∧c<X.length+B.length∧l[c]?=some b:=by
 obtain⟨i,hi,e⟩:=List.mem_take_iff_getElem.1 hb;refine⟨X.length+i,by omega,by omega,by omega,?_⟩
 rw[jC hl (by omega) (by omega),←e]
 congr 2
 omega
theorem pO {l X B Y:List α}(hl:l=X++B++Y){k:Nat}{b:α}(hb:b∈B.drop k):∃c,X.length+k≤c∧c<X.length+B.length∧l[c]?=some b:=by
 obtain⟨i,hi,e⟩:=List.mem_drop_iff_getElem.1 hb;refine⟨X.length+(k+i),by omega,by omega,?_⟩
 rw[jC hl (by omega) (by omega),←e]
 congr 2
 omega
theorem mono1 (w:Weak lt){l X B Y:List α}(sB:Srt lt B)(hl:l=X++B++Y)(x:α):eK (fun c=>!SB lt l[c]? (some x)) X.length (X.length+B.length):=by
 intro c c' h1 h2 h3 h;dsimp only at h ⊢;obtain⟨y,hy⟩:∃y,l[c]?=some y:=⟨_,jC hl h1 (by omega)⟩
 obtain⟨y',hy'⟩:∃y,l[c']?=some y:=⟨_,jC hl (by omega) h3⟩
 rw[hy]at h;rw[hy'];simp only[SB,Bool.not_eq_true']at h ⊢;exact w.ntrans x y y' h (pG w sB hl h1 h2 h3 hy hy')
theorem mono2 (w:Weak lt){l X B Y:List α}(sB:Srt lt B)(hl:l=X++B++Y)(x:α):eK (fun c=>SB lt (some x) l[c]?) X.length (X.length+B.length):=by
 intro c c' h1 h2 h3 h;dsimp only at h ⊢;obtain⟨y,hy⟩:∃y,l[c]?=some y:=⟨_,jC hl h1 (by omega)⟩
 obtain⟨y',hy'⟩:∃y,l[c']?=some y:=⟨_,jC hl (by omega) h3⟩
 rw[hy]at h;rw[hy'];simp only[SB]at h ⊢;cases h':lt x y' with
 | true=>rfl
 | false=>have:=w.ntrans y y' x (pG w sB hl h1 h2 h3 hy hy') h';rw[h]at this;cases this
theorem one_l (w:Weak lt){l X B Y:List α}(hl:l=X++B++Y){x:α}{i:Nat}(I:EC (fun c=>!SB lt l[c]? (some x)) X.length (X.length+B.length) i i):mrg lt [x] B=B.take (i-X.length)++x::B.drop (i-X.length):=by
 obtain⟨i1,_,i3,i4,i5⟩:=I;refine zgf w x B _ (by omega) (fun b hb=>?_) (fun b hb=>?_)
 ·obtain⟨c,c1,c2,c3,c4⟩:=QQ hl hb
  have:=i4 c c1 (by omega)
  dsimp only at this;rw[c4]at this
  simpa [SB] using this
 ·obtain⟨c,c1,c2,c4⟩:=pO hl hb
  have:=i5 c (by omega) c2
  dsimp only at this;rw[c4]at this
  simpa [SB] using this
theorem one_r {l X A Y:List α}(hl:l=X++A++Y){x:α}{i:Nat}(I:EC (fun c=>SB lt (some x) l[c]?) X.length (X.length+A.length) i i):mrg lt A [x]=A.take (i-X.length)++x::A.drop (i-X.length):=by
 obtain⟨i1,_,i3,i4,i5⟩:=I;refine zgg x A _ (by omega) (fun b hb=>?_) (fun b hb=>?_)
 ·obtain⟨c,c1,c2,c3,c4⟩:=QQ hl hb
  have:=i4 c c1 (by omega)
  dsimp only at this;rw[c4]at this
  simpa [SB] using this
 ·obtain⟨c,c1,c2,c4⟩:=pO hl hb
  have:=i5 c (by omega) c2
  dsimp only at this;rw[c4]at this
  simpa [SB] using this
def mvS (x:α)(P B S:List α)(t:Nat):List α:=P++(B.take t++x::B.drop t)++S
theorem z3X (x:α)(P B S:List α)(t:Nat):(mvS x P B S t).length=P.length+B.length+S.length+1:=by
 simp [mvS];omega
theorem z3U (x:α)(P B S:List α){t:Nat}(ht:t<B.length):mvS x P B S t=(P++B.take t)++x::B[t]::(B.drop (t+1)++S):=by
 unfold mvS;rw[List.drop_eq_getElem_cons ht];simp only[List.append_assoc,List.cons_append]
theorem z3V (x:α)(P B S:List α){t:Nat}(ht:t<B.length):mvS x P B S (t+1)=(P++B.take t)++B[t]::x::(B.drop (t+1)++S):=by
 unfold mvS;rw[List.take_succ_eq_append_getElem ht];simp only[List.append_assoc,List.cons_append,List.nil_append]
theorem EO (Q R:List α)(x y:α){k:Nat}(hk:k=Q.length):(Q++x::y::R)[k]?=some x∧(Q++x::y::R)[k+1]?=some y:=by
 subst hk;constructor
 ·rw[List.getElem?_append_right (Nat.le_refl _),Nat.sub_self];rfl
 ·rw[List.getElem?_append_right (by omega),Nat.add_sub_cancel_left];rfl
theorem z5t (Q R:List α)(x y u v:α){k:Nat}(hk:k=Q.length):((Q++x::y::R).set k u).set (k+1) v=Q++u::v::R∧((Q++x::y::R).set (k+1) v).set k u=Q++u::v::R:=by
 subst hk;constructor
 ·rw[List.set_append_right _ _ (Nat.le_refl _),Nat.sub_self,List.set_cons_zero,List.set_append_right _ _ (by omega),Nat.add_sub_cancel_left];rfl
 ·rw[List.set_append_right _ _ (by omega),Nat.add_sub_cancel_left,List.set_append_right _ _ (Nat.le_refl _),Nat.sub_self];rfl
theorem z3W (P B:List α){t:Nat}(ht:t≤B.length):P.length+t=(P++B.take t).length:=by simp;omega
theorem zgi (x:α)(P B S:List α){t:Nat}(ht:t<B.length):(mvS x P B S t)[P.length+t]?=some x∧(mvS x P B S t)[P.length+t+1]?=some B[t]∧((mvS x P B S t).set (P.length+t) B[t]).set (P.length+t+1) x=mvS x P B S (t+1):=by
 rw[z3U x P B S ht,z3V x P B S ht];have k:=z3W P B (Nat.le_of_lt ht)
 exact⟨(EO _ _ _ _ k).1,(EO _ _ _ _ k).2,(z5t _ _ _ _ _ _ k).1⟩
theorem zgh (x:α)(P B S:List α){t:Nat}(ht:t<B.length):(mvS x P B S (t+1))[P.length+t+1]?=some x∧(mvS x P B S (t+1))[P.length+t]?=some B[t]∧((mvS x P B S (t+1)).set (P.length+t+1) B[t]).set (P.length+t) x=mvS x P B S t:=by
 rw[z3U x P B S ht,z3V x P B S ht];have k:=z3W P B (Nat.le_of_lt ht)
 exact⟨(EO _ _ _ _ k).2,(EO _ _ _ _ k).1,(z5t _ _ _ _ _ _ k).2⟩
theorem mono3 (w:Weak lt){l P A B S:List α}(sA:Srt lt A)(sB:Srt lt B)(hl:l=P++A++B++S){s0 r0 q:Nat}(h0:P.length≤s0)(h1:r0≤P.length+A.length)(h2:∀ c,s0≤c→c<r0→P.length+A.length≤q-c∧q-c<P.length+A.length+B.length):eK (fun c=>SB lt l[q-c]? l[c]?) s0 r0:=by
 intro c c' g1 g2 g3 h;dsimp only at h ⊢;have hA:l=P++A++(B++S):=by rw[hl];simp
 have hB:l=(P++A)++B++S:=hl
 have lpa:(P++A).length=P.length+A.length:=List.length_append
 have k:=h2 c g1 (by omega)
 have k':=h2 c' (by omega) g3
 obtain⟨v,hv⟩:∃y,l[c]?=some y:=⟨_,jC hA (by omega) (by omega)⟩
 obtain⟨v',hv'⟩:∃y,l[c']?=some y:=⟨_,jC hA (by omega) (by omega)⟩
 obtain⟨u,hu⟩:∃y,l[q-c]?=some y:=⟨_,jC hB (by omega) (by omega)⟩
 obtain⟨u',hu'⟩:∃y,l[q-c']?=some y:=⟨_,jC hB (by omega) (by omega)⟩
 rw[hv,hu]at h;rw[hv',hu'];simp only[SB]at h ⊢;cases h':lt u' v' with
 | true=>rfl
 | false=>
  have e1:=w.ntrans v v' u' (pG w sA hA (by omega) g2 (by omega) hv hv') h'
  have e2:=w.ntrans v u' u e1 (pG w sB hB (by omega) (by omega) (by omega) hu' hu)
  rw[h]at e2;cases e2
theorem zly (w:Weak lt){l P A B S:List α}(sA:Srt lt A)(sB:Srt lt B)(hl:l=P++A++B++S){mid s0 r0 s:Nat}
 (h0:(mid<P.length+A.length∧s0+B.length=mid∧r0=mid∧P.length≤s0)∨(P.length+A.length≤mid∧s0=P.length∧r0=P.length+A.length∧mid+P.length+A.length≤P.length+A.length+B.length+P.length))
 (I:EC (fun c=>SB lt l[mid+(P.length+A.length)-1-c]? l[c]?) s0 r0 s s):mrg lt A B=mrg lt (A.take (s-P.length)) (B.take (mid-s))++mrg lt (A.drop (s-P.length)) (B.drop (mid-s)):=by
 obtain⟨i1,_,i3,i4,i5⟩:=I;have hA:l=P++A++(B++S):=by rw[hl];simp
 have hB:l=(P++A)++B++S:=hl
 have lpa:(P++A).length=P.length+A.length:=List.length_append
 have m:=iH lt _ (A.take (s-P.length)) (A.drop (s-P.length)) (B.take (mid-s)) (B.drop (mid-s)) rfl ?_ ?_
 ·rw[List.take_append_drop,List.take_append_drop]at m
  exact m
 ·intro x hx y hy
  obtain⟨cx,x1,x2,x3,x4⟩:=QQ hA hx;obtain⟨cy,y1,y2,y4⟩:=pO hB hy;have q:=i4 (s-1) (by omega) (by omega)
  dsimp only at q;obtain⟨v,hv⟩:∃z,l[s-1]?=some z:=⟨_,jC hA (by omega) (by omega)⟩
  obtain⟨u,hu⟩:∃z,l[mid+(P.length+A.length)-1-(s-1)]?=some z:=⟨_,jC hB (by omega) (by omega)⟩
  rw[hu,hv]at q;exact w.ntrans x u y (w.ntrans x v u (pG w sA hA (by omega) (by omega) (by omega) x4 hv) q) (pG w sB hB (by omega) (by omega) (by omega) hu y4)
 ·intro y hy x hx
  obtain⟨cy,y1,y2,y3,y4⟩:=QQ hB hy;obtain⟨cx,x1,x2,x4⟩:=pO hA hx;have q:=i5 s (by omega) (by omega)
  dsimp only at q;obtain⟨v,hv⟩:∃z,l[s]?=some z:=⟨_,jC hA (by omega) (by omega)⟩
  obtain⟨u,hu⟩:∃z,l[mid+(P.length+A.length)-1-s]?=some z:=⟨_,jC hB (by omega) (by omega)⟩
  rw[hu,hv]at q;simp only[SB]at q;cases h:lt y x with
  | true=>rfl
  | false=>
   have e1:=w.ntrans v x y (pG w sA hA (by omega) (by omega) (by omega) hv x4) h
   have e2:=w.ntrans v y u e1 (pG w sB hB (by omega) (by omega) (by omega) y4 hu)
   rw[q]at e2;cases e2
end
end Go.Am
end
section
/- Records sorted: up tov 39 of them (printed by program out of tm/stable20.txt,tm/symmerge.txt). -/
open Go
set_option linter.all false
set_option maxRecDepth 100000
namespace Go.Am
attribute [-go_sem] PV.cells splice
variable {h:aA} {K:kA}
theorem ze9 (id n:Nat)(hn:n≤1000){g:Nat}{caps:List AV} :
 gA X DD [.own id n 0 n,AI n,AI n,.fn g caps] h K=K (.tup []) h []:=by
 refine rule ?_;rw[FS];have w1:IntKind.i64.wrap ((n:Int)+1)=((n+1:Nat):Int):=nA _ (by omega) (by omega)
 have b1:¬((n+1:Nat):Int)<(n:Int):=by omega
 simp only[YH,go_sem,w1];refine CA (fun _:Unit=>⟨[(0,.own id n 0 n),(1,AI n),(2,AI n),(3,.fn g caps),(8,AI ((n+1:Nat):Int))],h,[]⟩) (fun _=>True) (fun _=>0) () rfl trivial ?_
 intro _ _;simp only[go_sem,b1]
theorem zkU (id:Nat)(l:List PV)(hs:mC (some 4) l)(hl:l.length≤20)(hh:h[id]?=some (.row (some 4) l 0)){g:Nat}{caps:List AV}{c:PV→PV→Int}(hc:MC g caps c l id h) :
 gA X IE [.own id l.length 0 l.length,.fn g caps] h K=K (.tup []) (h.set id (.row (some 4) (vA (ltC c) l) 0)) []:=by
 refine rule ?_;rw[ES];have key:∀K:kA,gA X YG [.own id l.length 0 l.length,AI l.length,.fn g caps] h K=K (.tup []) (h.set id (.row (some 4) (vA (ltC c) l) 0)) []:=by
  intro K;refine rule ?_;rw[GS];have is:=fun K=>WV (h:=h) (K:=K) id l.length l [] rfl hs (by omega) (by rw[List.append_nil];exact hh) hc
  have i0:=fun K=>ze9 (h:=h.set id (.row (some 4) (vA (ltC c) l) 0)) (K:=K) (g:=g) (caps:=caps) id l.length (by omega)
  simp only[List.append_nil]at is;have b2:¬((20:Int)<(l.length:Int)):=by omega
  simp only[ZH,go_sem];refine CA (fun t:Bool=>⟨[(0,.own id l.length 0 l.length),(1,AI l.length),(2,.fn g caps),(6,AI 20),(7,AI (if t=true then 20 else 0)),(8,AI (if t=true then 40 else 20))],if t=true then h.set id (.row (some 4) (vA (ltC c) l) 0) else h,[]⟩) (fun t=>t=true→l.length=20) (fun t=>if t=true then 0 else 1) false rfl (fun e=>by cases e) ?_
  intro t ht;cases t with
  | false=>
   by_cases he:l.length=20
   ·have e20:((l.length:Nat):Int)=20:=by omega
    have gen:∀z:Int,z=(l.length:Int)→∀K:kA,gA X DD [.own id l.length 0 l.length,AI 0,AI z,.fn g caps] h K=K (.tup []) (h.set id (.row (some 4) (vA (ltC c) l) 0)) []:=fun z hz K=>by subst hz;exact is K
    have is':=gen 20 (by omega)
    have b1:(20:Int)≤(l.length:Int):=by omega
    simp only[go_sem,if_true,if_false,Bool.false_eq_true,b1,is',show IntKind.i64.wrap ((20:Int)+20)=40 from rfl]
    exact⟨true,rfl,fun _=>he,by decide⟩
   ·have b1:¬((20:Int)≤(l.length:Int)):=by omega
    simp only[go_sem,if_true,if_false,Bool.false_eq_true,b1,is];refine CA (fun _:Unit=>⟨[(0,.own id l.length 0 l.length),(1,AI l.length),(2,.fn g caps),(6,AI 20)],h.set id (.row (some 4) (vA (ltC c) l) 0),[]⟩) (fun _=>True) (fun _=>0) () rfl trivial ?_
    intro _ _;simp only[go_sem,b2]
  | true=>
   have he:=ht rfl
   have e20:((l.length:Nat):Int)=20:=by omega
   have gen:∀z:Int,z=(l.length:Int)→∀K:kA,gA X DD [.own id l.length 0 l.length,AI z,AI l.length,.fn g caps] (h.set id (.row (some 4) (vA (ltC c) l) 0)) K=K (.tup []) (h.set id (.row (some 4) (vA (ltC c) l) 0)) []:=fun z hz K=>by subst hz;exact i0 K
   have i0':=gen 20 (by omega)
   have b1:¬((40:Int)≤(l.length:Int)):=by omega
   simp only[go_sem,if_true,if_false,Bool.false_eq_true,b1,i0'];refine CA (fun _:Unit=>⟨[(0,.own id l.length 0 l.length),(1,AI l.length),(2,.fn g caps),(6,AI 20)],h.set id (.row (some 4) (vA (ltC c) l) 0),[]⟩) (fun _=>True) (fun _=>0) () rfl trivial ?_
   intro _ _;simp only[go_sem,b2]
 simp only[XH,go_sem,key]
theorem RY (id n:Nat){P U Q V S:List PV}(hU:U.length=V.length)(hn:(P++U++Q++V++S).length=n)(hn2:n≤1000000)(hs:mC (some 4) (P++U++Q++V++S))(hh:h[id]?=some (.row (some 4) (P++U++Q++V++S) 0)){v4:AV} :
 gA X ZG [.own id n 0 n,AI P.length,AI ((P.length+U.length+Q.length:Nat):Int),AI U.length,v4] h K=K (.tup []) (h.set id (.row (some 4) (P++V++Q++U++S) 0)) []:=by
 refine rule ?_;rw[z9B];have hid:=ED hh
 have hst:∀o,(h.set id o)[id]?=some o:=fun o=>uD hid
 have hss:∀o o',(h.set id o).set id o'=h.set id o':=fun o o'=>List.set_set ..
 simp only[jO,go_sem];refine CA (fun k:Nat=>⟨[(0,.own id n 0 n),(1,AI P.length),(2,AI ((P.length+U.length+Q.length:Nat):Int)),(3,AI U.length),(10,AI k)],h.set id (.row (some 4) (RC P U Q V S k) 0),[]⟩) (fun k=>k≤U.length) (fun k=>U.length-k) 0 (by rw[zlo,xF hh];rfl) (by omega) ?_
 intro k hk;rcases Nat.lt_or_ge k U.length with hlt|hge
 ·have hk':k<V.length:=by omega
  have ga:=zlp (P:=P) (Q:=Q) (S:=S) hU hlt
  have gb:=zlq (P:=P) (Q:=Q) (S:=S) hU hlt
  have st:=zlu (P:=P) (Q:=Q) (S:=S) hU hlt
  have sl:=zls (P:=P) (Q:=Q) (S:=S) hU (k:=k) (by omega)
  rw[hn]at sl;have lt2:P.length+U.length+Q.length+k<n:=by rw[←hn];simp;omega
  have sx:=hs U[k] (by simp)
  have sy:=hs V[k] (by simp)
  have w1:IntKind.i64.wrap ((P.length:Int)+k)=((P.length+k:Nat):Int):=nA _ (by omega) (by omega)
  have w2:IntKind.i64.wrap (((P.length+U.length+Q.length:Nat):Int)+k)=((P.length+U.length+Q.length+k:Nat):Int):=nA _ (by omega) (by omega)
  have w3:IntKind.i64.wrap ((k:Int)+1)=((k+1:Nat):Int):=nA _ (by omega) (by omega)
  generalize U[k]=u at *;generalize V[k]=v at *;have cx:=eC sx
  have cy:=eC sy
  have lx:=wE sx
  have ly:=wE sy
  have ax:=vE sx
  have ay:=vE sy
  simp only[jA]at lx ly;have t1:=fun i xs h1=>cE sy sx id i 0 xs h1
  have t2:=fun i xs h1=>cE sx sy id i 0 xs h1
  generalize RC P U Q V S k=l at *;have g3:∀z,(l.set (P.length+k) z)[P.length+U.length+Q.length+k]?=some v:=fun z=>by rw[List.getElem?_set_ne (by omega)];exact gb
  have l3:∀z,(l.set (P.length+k) z).length=n:=fun z=>by rw[List.length_set];exact sl
  have a1:P.length+k<n:=by omega
  simp only[go_sem,hlt,w1,w2,w3,hst,hss,sl,a1,lt2,ga,gb,g3,l3,cx,cy,lx,ly,ax,ay,t1,t2,st];exact⟨k+1,rfl,hlt,by omega⟩
 ·have e:k=U.length:=by omega
  subst e;rw[zlt hU];simp only[go_sem,Nat.lt_irrefl]
theorem zkc (id n:Nat){P A B S l F:List PV}(hA:0<A.length)(hB:0<B.length)(hl:l=P++A++B++S)(hF:F=P++B++A++S)(hn:l.length=n)(hn2:n≤1000000)(hs:mC (some 4) l)(hh:h[id]?=some (.row (some 4) l 0)){v4:AV}(t4:v4.top≤h.length) :
 gA X lL [.own id n 0 n,AI P.length,AI ((P.length+A.length:Nat):Int),AI ((P.length+A.length+B.length:Nat):Int),v4] h K=K (.tup []) (h.set id (.row (some 4) F 0)) []:=by
 refine rule ?_;rw[z9A];have hid:=ED hh
 have hst:∀o,(h.set id o)[id]?=some o:=fun o=>uD hid
 have hss:∀o o',(h.set id o).set id o'=h.set id o':=fun o o'=>List.set_set ..
 have ml:P.length+A.length+B.length≤n:=by rw[←hn,hl];simp only[List.length_append];omega
 have w1:IntKind.i64.wrap (((P.length+A.length:Nat):Int)-P.length)=(A.length:Int):=by rw[nA _ (by omega) (by omega)];omega
 have w2:IntKind.i64.wrap (((P.length+A.length+B.length:Nat):Int)-((P.length+A.length:Nat):Int))=(B.length:Int):=by rw[nA _ (by omega) (by omega)];omega
 simp only[iO,go_sem,w1,w2];have mem0:∀x,x∈F→x∈l:=fun x hx=>by rw[hF]at hx;rw[hl];simp at hx ⊢;rcases hx with q|q|q|q <;> simp [q]
 generalize hm:P.length+A.length=m at *;refine CA (fun t:List PV×List PV×List PV×List PV×List PV=>⟨[(0,.own id n 0 n),(2,AI m),(4,v4),(10,AI t.2.2.1.length),(11,AI t.2.2.2.1.length)],h.set id (.row (some 4) t.1 0),[]⟩)
  (fun t=>t.1=t.2.1++t.2.2.1++t.2.2.2.1++t.2.2.2.2∧t.2.1.length+t.2.2.1.length=m∧0<t.2.2.1.length∧0<t.2.2.2.1.length∧t.2.1++t.2.2.2.1++t.2.2.1++t.2.2.2.2=F∧t.1.length=n) (fun t=>t.2.2.1.length+t.2.2.2.1.length) (l,P,A,B,S) (by rw[xF hh]) ⟨hl,hm,hA,hB,hF.symm,hn⟩ ?_
 rintro⟨cur,P',U,V,S'⟩ ⟨q0,q1,q2,q3,q4,q5⟩
 dsimp only at q0 q1 q2 q3 q4 q5 ⊢;have hs':∀x,x∈P'++V++U++S'→x.shp (some 4)=true:=fun x hx=>hs x (mem0 x (by rw[←q4];exact hx))
 have qn:P'.length+U.length+V.length+S'.length=n:=by rw[←q5,q0];simp only[List.length_append]
 by_cases he:U.length=V.length
 ·have he':((U.length:Int)=(V.length:Int))=True:=eq_true (by omega)
  have w3:IntKind.i64.wrap ((m:Int)-U.length)=(P'.length:Int):=by rw[nA _ (by omega) (by omega)];omega
  have SW:=fun K=>RY (h:=h.set id (.row (some 4) cur 0)) (K:=K) id n (P:=P') (U:=U) (Q:=[]) (V:=V) (S:=S') he (by rw[List.append_nil,←q0];exact q5) hn2 (fun x hx=>hs' x (by simp at hx ⊢;rcases hx with q|q|q|q <;> simp [q])) (by rw[hst,List.append_nil,q0]) (v4:=v4)
  simp only[List.append_nil,List.length_nil,Nat.add_zero,q1,hss,q4]at SW;have he3:((U.length:Int)=(V.length:Int)):=by omega
  rw[he]at SW w3;simp only[go_sem,he3,w3,↓SW,SW,t4]
 ·have he':((U.length:Int)=(V.length:Int))=False:=eq_false (by omega)
  by_cases hgt:V.length<U.length
  ·have hgt':((V.length:Int)<(U.length:Int))=True:=eq_true (by omega)
   obtain⟨U1,U2,e1,e2,e3⟩:=cut2 U V.length (by omega)
   have ul:U.length=U1.length+U2.length:=by rw[e1,List.length_append]
   have w3:IntKind.i64.wrap ((m:Int)-(U.length:Int))=(P'.length:Int):=by rw[nA _ (by omega) (by omega)];omega
   have w4:IntKind.i64.wrap ((U.length:Int)-(V.length:Int))=(U2.length:Int):=by rw[nA _ (by omega) (by omega)];omega
   have eq1:P'++U1++U2++V++S'=cur:=by rw[q0,e1];simp only[List.append_assoc]
   have SW:=fun K=>RY (h:=h.set id (.row (some 4) cur 0)) (K:=K) id n (P:=P') (U:=U1) (Q:=U2) (V:=V) (S:=S') e2 (by rw[eq1];exact q5) hn2 (fun x hx=>hs' x (by rw[e1];simp at hx ⊢;rcases hx with q|q|q|q|q <;> simp [q])) (by rw[hst,eq1]) (v4:=v4)
   rw[show P'.length+U1.length+U2.length=m by omega,e2]at SW
   obtain⟨nx,hnx⟩:∃nx,nx=P'++V++U2++U1++S':=⟨_,rfl⟩;simp only[hss,←hnx]at SW;simp only[go_sem,he',hgt',w3,w4,↓SW,SW,t4];refine⟨(nx,P'++V,U2,U1,S'),?_,⟨by dsimp only;rw[hnx];simp only[List.append_assoc],by simp only[List.length_append];omega,by dsimp only;omega,by dsimp only;omega,?_,?_⟩,by dsimp only;omega⟩
   ·dsimp only;rw[e2]
   ·dsimp only;rw[←q4,e1];simp only[List.append_assoc]
   ·dsimp only;rw[hnx];simp only[List.length_append];omega
  ·have hgt':((V.length:Int)<(U.length:Int))=False:=eq_false (by omega)
   obtain⟨V1,V2,e1,e2,e3⟩:=cut2 V (V.length-U.length) (by omega)
   have vl:V.length=V1.length+V2.length:=by rw[e1,List.length_append]
   have uv:U.length=V2.length:=by omega
   have w3:IntKind.i64.wrap ((m:Int)-(U.length:Int))=(P'.length:Int):=by rw[nA _ (by omega) (by omega)];omega
   have w5:IntKind.i64.wrap ((m:Int)+(V.length:Int))=((m+V.length:Nat):Int):=by rw[nA _ (by omega) (by omega)];omega
   have w6:IntKind.i64.wrap (((m+V.length:Nat):Int)-(U.length:Int))=((m+V1.length:Nat):Int):=by rw[nA _ (by omega) (by omega)];omega
   have w4:IntKind.i64.wrap ((V.length:Int)-(U.length:Int))=(V1.length:Int):=by rw[nA _ (by omega) (by omega)];omega
   have eq1:P'++U++V1++V2++S'=cur:=by rw[q0,e1];simp only[List.append_assoc]
   have SW:=fun K=>RY (h:=h.set id (.row (some 4) cur 0)) (K:=K) id n (P:=P') (U:=U) (Q:=V1) (V:=V2) (S:=S') uv (by rw[eq1];exact q5) hn2 (fun x hx=>hs' x (by rw[e1];simp at hx ⊢;rcases hx with q|q|q|q|q <;> simp [q])) (by rw[hst,eq1]) (v4:=v4)
   rw[show P'.length+U.length+V1.length=m+V1.length by omega]at SW
   obtain⟨nx,hnx⟩:∃nx,nx=P'++V2++V1++U++S':=⟨_,rfl⟩;simp only[hss,←hnx]at SW;simp only[go_sem,he',hgt',w3,w5,w6,w4,↓SW,SW,t4];refine⟨(nx,P',V2,V1,U++S'),?_,⟨?_,by dsimp only;omega,by dsimp only;omega,by dsimp only;omega,?_,?_⟩,by dsimp only;omega⟩
   ·dsimp only;rw[uv]
   ·dsimp only;rw[hnx];simp only[List.append_assoc]
   ·dsimp only;rw[←q4,e1];simp only[List.append_assoc]
   ·dsimp only;rw[hnx];simp only[List.length_append];omega
theorem GO (z:Nat)(h:z≤2000000):IntKind.u64.wrap ((z:Nat):Int)=(z:Int)∧LI .u64 (z:Int) 1=((z / 2:Nat):Int)∧IntKind.i64.wrap ((z / 2:Nat):Int)=((z / 2:Nat):Int):=by
 refine⟨z5A _ (by omega) (by omega),?_,nA _ (by omega) (by omega)⟩
 have:LI .u64 (z:Int) 1=(z:Int).fdiv 2:=rfl
 rw[this,Int.fdiv_eq_ediv_of_nonneg _ (by omega)]
 omega
theorem zlv (id n:Nat){P B S:List PV}{x:PV}(hn:(P++x::B++S).length=n)(hn2:n≤1000000)(hid:id<h.length){g:Nat}{caps:List AV}{c:PV→PV→Int}(w:Weak (ltC c))(sB:Srt (ltC c) B)(hs:mC (some 4) (x::B))(hc:MC g caps c (x::B) id h) :
 gA X mE [.own id n 0 n,AI P.length,AI ((P.length+1:Nat):Int),AI ((P.length+1+B.length:Nat):Int),.fn g caps] (h.set id (.row (some 4) (P++x::B++S) 0)) K=K (.tup []) (h.set id (.row (some 4) (P++mrg (ltC c) [x] B++S) 0)) []:=by
 refine rule ?_;rw[IS];have hst:∀o,(h.set id o)[id]?=some o:=fun o=>uD hid
 have hss:∀o o',(h.set id o).set id o'=h.set id o':=fun o o'=>List.set_set ..
 have w1:IntKind.i64.wrap (((P.length+1:Nat):Int)-P.length)=1:=by rw[nA _ (by omega) (by omega)];omega
 obtain⟨l,hl⟩:∃l,l=P++x::B++S:=⟨_,rfl⟩;rw[←hl]at hn ⊢;have hl2:l=(P++[x])++B++S:=by rw[hl];simp
 have lpx:(P++[x]).length=P.length+1:=by simp
 have hnl:n=P.length+B.length+S.length+1:=by rw[←hn,hl];simp;omega
 have gx:l[P.length]?=some x:=by rw[hl,List.append_assoc,List.getElem?_append_right (Nat.le_refl _),Nat.sub_self];rfl
 have M:=mono1 w sB hl2 x
 have mx:x∈x::B:=by simp
 rw[lpx]at M;simp only[aI,go_sem,w1];refine CA (fun t:Nat×Nat=>⟨[(0,.own id n 0 n),(1,AI P.length),(4,.fn g caps),(10,AI t.1),(11,AI t.2)],h.set id (.row (some 4) l 0),[]⟩)
  (fun t=>EC (fun k=>!SB (ltC c) l[k]? (some x)) (P.length+1) (P.length+1+B.length) t.1 t.2) (fun t=>t.2-t.1) (P.length+1,P.length+1+B.length) rfl (EC.init (by omega)) ?_
 rintro⟨i,j⟩ I
 dsimp only at I ⊢;have I':=I
 obtain⟨i1,i2,i3,_,_⟩:=I';rcases Nat.lt_or_ge i j with hlt|hge
 ·have w2:IntKind.i64.wrap ((i:Int)+j)=((i+j:Nat):Int):=nA _ (by omega) (by omega)
  obtain⟨w3,w4,w5⟩:=GO (i+j) (by omega)
  have d1:i≤(i+j) / 2:=by omega
  have d2:(i+j) / 2<j:=by omega
  generalize (i+j) / 2=k at *;have w6:IntKind.i64.wrap ((k:Int)+1)=((k+1:Nat):Int):=nA _ (by omega) (by omega)
  have gk:=jC hl2 (c:=k) (by omega) (by omega)
  obtain⟨y,hy,my⟩:∃y,l[k]?=some y∧y∈x::B:=⟨_,gk,List.mem_cons_of_mem _ (List.getElem_mem _)⟩;have cx:=eC (hs x mx)
  have cy:=eC (hs y my)
  have hcc:=fun o K=>hc o y my x mx K
  have b1:k<n:=by omega
  have b2:P.length<n:=by omega
  by_cases hxy:c y x<0
  ·simp only[go_sem,hlt,w2,w3,w4,w5,w6,hst,hn,hy,gx,b1,b2,cx,cy,hcc,hxy]
   exact⟨(k+1,j),rfl,I.up M d1 d2 (by simp [hy,SB,ltC,hxy]),by dsimp only;omega⟩
  ·simp only[go_sem,hlt,w2,w3,w4,w5,w6,hst,hn,hy,gx,b1,b2,cx,cy,hcc,hxy]
   exact⟨(i,k),rfl,I.dn M d1 d2 (by simp [hy,SB,ltC,hxy]),by dsimp only;omega⟩
 ·have e:j=i:=by omega
  subst e;have one:=one_l w hl2 (x:=x) (i:=j) (by rw[lpx];exact I)
  rw[lpx]at one;rw[one];obtain⟨t,rfl⟩:∃t,j=P.length+1+t:=⟨j-(P.length+1),by omega⟩
  rw[Nat.add_sub_cancel_left];simp only[go_sem,Nat.lt_irrefl];have w7:IntKind.i64.wrap (((P.length+1+t:Nat):Int)-1)=((P.length+t:Nat):Int):=by rw[nA _ (by omega) (by omega)];omega
  refine CA (fun u:Nat=>⟨[(0,.own id n 0 n),(10,AI ((P.length+1+t:Nat):Int)),(13,AI ((P.length+u:Nat):Int))],h.set id (.row (some 4) (mvS x P B S u) 0),[]⟩) (fun u=>u≤t) (fun u=>t-u) 0 (by rw[show mvS x P B S 0=l by rw[hl];simp [mvS]];rfl) (by omega) ?_
  intro u hu;rcases Nat.lt_or_ge u t with hut|hut
  ·have ub:u<B.length:=by omega
   obtain⟨q1,q2,q3⟩:=zgi x P B S ub;have ml:=z3X x P B S u
   have sx:=hs x mx
   have sy:=hs B[u] (by simp)
   generalize B[u]=y at *;generalize mvS x P B S u=r at *;have w8:IntKind.i64.wrap (((P.length+u:Nat):Int)+1)=((P.length+u+1:Nat):Int):=nA _ (by omega) (by omega)
   have cx:=eC sx
   have cy:=eC sy
   have lx:=wE sx
   have ly:=wE sy
   have ax:=vE sx
   have ay:=vE sy
   simp only[jA]at lx ly;have t1:=fun i xs h1=>cE sx sy id i 0 xs h1
   have t2:=fun i xs h1=>cE sy sx id i 0 xs h1
   have rl:r.length=n:=by omega
   have b1:P.length+u<n:=by omega
   have b2:P.length+u+1<n:=by omega
   have b3:((P.length+u:Nat):Int)<((P.length+t:Nat):Int):=by omega
   have g3:∀z,(r.set (P.length+u) z)[P.length+u+1]?=some y:=fun z=>by rw[List.getElem?_set_ne (by omega)];exact q2
   simp only[go_sem,w7,w8,b3,b1,b2,hst,hss,rl,q1,q2,g3,q3,cx,cy,lx,ly,ax,ay,t1,t2,List.length_set];exact⟨u+1,rfl,hut,by omega⟩
  ·have e:u=t:=by omega
   subst e;have b3:¬((P.length+u:Nat):Int)<((P.length+u:Nat):Int):=by omega
   simp only[go_sem,w7,b3];rw[mvS];simp only[List.append_assoc,List.cons_append]
theorem zlw (id n:Nat){P A S:List PV}{x:PV}(hA:2≤A.length)(hn:(P++A++x::S).length=n)(hn2:n≤1000000)(hid:id<h.length){g:Nat}{caps:List AV}{c:PV→PV→Int}(w:Weak (ltC c))(sA:Srt (ltC c) A)(hs:mC (some 4) (x::A))(hc:MC g caps c (x::A) id h) :
 gA X mE [.own id n 0 n,AI P.length,AI ((P.length+A.length:Nat):Int),AI ((P.length+A.length+1:Nat):Int),.fn g caps] (h.set id (.row (some 4) (P++A++x::S) 0)) K=K (.tup []) (h.set id (.row (some 4) (P++mrg (ltC c) A [x]++S) 0)) []:=by
 refine rule ?_;rw[IS];have hst:∀o,(h.set id o)[id]?=some o:=fun o=>uD hid
 have hss:∀o o',(h.set id o).set id o'=h.set id o':=fun o o'=>List.set_set ..
 obtain⟨l,hl⟩:∃l,l=P++A++x::S:=⟨_,rfl⟩;rw[←hl]at hn ⊢;have hnl:n=P.length+A.length+S.length+1:=by rw[←hn,hl];simp;omega
 have w1:IntKind.i64.wrap (((P.length+A.length:Nat):Int)-P.length)=(A.length:Int):=by rw[nA _ (by omega) (by omega)];omega
 have w1':IntKind.i64.wrap (((P.length+A.length+1:Nat):Int)-((P.length+A.length:Nat):Int))=1:=by rw[nA _ (by omega) (by omega)];omega
 have b0:¬(A.length:Int)=1:=by omega
 have gx:l[P.length+A.length]?=some x:=by rw[hl,List.getElem?_append_right (by simp)];simp
 have M:=mono2 w sA hl x
 have mx:x∈x::A:=by simp
 simp only[aI,go_sem,w1,w1',b0];refine CA (fun t:Nat×Nat=>⟨[(0,.own id n 0 n),(2,AI ((P.length+A.length:Nat):Int)),(4,.fn g caps),(14,AI t.1),(15,AI t.2)],h.set id (.row (some 4) l 0),[]⟩)
  (fun t=>EC (fun k=>SB (ltC c) (some x) l[k]?) P.length (P.length+A.length) t.1 t.2) (fun t=>t.2-t.1) (P.length,P.length+A.length) rfl (EC.init (by omega)) ?_
 rintro⟨i,j⟩ I
 dsimp only at I ⊢;have I':=I
 obtain⟨i1,i2,i3,_,_⟩:=I';rcases Nat.lt_or_ge i j with hlt|hge
 ·have w2:IntKind.i64.wrap ((i:Int)+j)=((i+j:Nat):Int):=nA _ (by omega) (by omega)
  obtain⟨w3,w4,w5⟩:=GO (i+j) (by omega)
  have d1:i≤(i+j) / 2:=by omega
  have d2:(i+j) / 2<j:=by omega
  generalize (i+j) / 2=k at *;have w6:IntKind.i64.wrap ((k:Int)+1)=((k+1:Nat):Int):=nA _ (by omega) (by omega)
  have gk:=jC hl (c:=k) (by omega) (by omega)
  obtain⟨y,hy,my⟩:∃y,l[k]?=some y∧y∈x::A:=⟨_,gk,List.mem_cons_of_mem _ (List.getElem_mem _)⟩;have cx:=eC (hs x mx)
  have cy:=eC (hs y my)
  have hcc:=fun o K=>hc o x mx y my K
  have b1:k<n:=by omega
  have b2:P.length+A.length<n:=by omega
  by_cases hxy:c x y<0
  ·simp only[go_sem,hlt,w2,w3,w4,w5,w6,hst,hn,hy,gx,b1,b2,cx,cy,hcc,hxy]
   exact⟨(i,k),rfl,I.dn M d1 d2 (by simp [hy,SB,ltC,hxy]),by dsimp only;omega⟩
  ·simp only[go_sem,hlt,w2,w3,w4,w5,w6,hst,hn,hy,gx,b1,b2,cx,cy,hcc,hxy]
   exact⟨(k+1,j),rfl,I.up M d1 d2 (by simp [hy,SB,ltC,hxy]),by dsimp only;omega⟩
 ·have e:j=i:=by omega
  subst e;have one:=one_r hl (x:=x) (i:=j) I
  rw[one];obtain⟨t,rfl⟩:∃t,j=P.length+t:=⟨j-P.length,by omega⟩
  rw[Nat.add_sub_cancel_left];simp only[go_sem,Nat.lt_irrefl];refine CA (fun u:Nat=>⟨[(0,.own id n 0 n),(14,AI ((P.length+t:Nat):Int)),(17,AI ((P.length+u:Nat):Int))],h.set id (.row (some 4) (mvS x P A S u) 0),[]⟩) (fun u=>t≤u∧u≤A.length) (fun u=>u-t) A.length (by rw[show mvS x P A S A.length=l by rw[hl];simp [mvS]]) (by omega) ?_
  intro u hu;rcases Nat.lt_or_ge t u with hut|hut
  ·obtain⟨v,rfl⟩:∃v,u=v+1:=⟨u-1,by omega⟩
   have ub:v<A.length:=by omega
   obtain⟨q1,q2,q3⟩:=zgh x P A S ub;have ml:=z3X x P A S (v+1)
   have sx:=hs x mx
   have sy:=hs A[v] (by simp)
   generalize A[v]=y at *;generalize mvS x P A S (v+1)=r at *;have w8:IntKind.i64.wrap (((P.length+(v+1):Nat):Int)-1)=((P.length+v:Nat):Int):=by rw[nA _ (by omega) (by omega)];omega
   have cx:=eC sx
   have cy:=eC sy
   have lx:=wE sx
   have ly:=wE sy
   have ax:=vE sx
   have ay:=vE sy
   simp only[jA]at lx ly;have t1:=fun i xs h1=>cE sx sy id i 0 xs h1
   have t2:=fun i xs h1=>cE sy sx id i 0 xs h1
   rw[←Nat.add_assoc]at *;have rl:r.length=n:=by omega
   have b1:P.length+v<n:=by omega
   have b2:P.length+v+1<n:=by omega
   have b3:((P.length+t:Nat):Int)<((P.length+v+1:Nat):Int):=by omega
   have g3:∀z,(r.set (P.length+v+1) z)[P.length+v]?=some y:=fun z=>by rw[List.getElem?_set_ne (by omega)];exact q2
   simp only[go_sem,w8,b3,b1,b2,hst,hss,rl,q1,q2,g3,q3,cx,cy,lx,ly,ax,ay,t1,t2,List.length_set];exact⟨v,rfl,by omega,by omega⟩
  ·have e:u=t:=by omega
   subst e;have b3:¬((P.length+u:Nat):Int)<((P.length+u:Nat):Int):=by omega
   simp only[go_sem,b3];rw[mvS];simp only[List.append_assoc,List.cons_append]
section
set_option maxHeartbeats 4000000
attribute [-go_sem] nV oV
theorem zlx (id n:Nat)(hn2:n≤1000000)(hid:id<h.length){g:Nat}{caps:List AV}{c:PV→PV→Int}(w:Weak (ltC c))(es:List PV)(hes:mC (some 4) es)(hc:MC g caps c es id h)(tp:(AV.fn g caps).top≤h.length) :
 ∀(k:Nat) (P A B S:List PV),A.length+B.length≤k→0<A.length→0<B.length→Srt (ltC c) A→Srt (ltC c) B→(∀x∈P++A++B++S,x∈es)→(P++A++B++S).length=n→∀K:kA,
 gA X mE [.own id n 0 n,AI P.length,AI ((P.length+A.length:Nat):Int),AI ((P.length+A.length+B.length:Nat):Int),.fn g caps] (h.set id (.row (some 4) (P++A++B++S) 0)) K=K (.tup []) (h.set id (.row (some 4) (P++mrg (ltC c) A B++S) 0)) []:=by
 have hst:∀o,(h.set id o)[id]?=some o:=fun o=>uD hid
 have hss:∀o o',(h.set id o).set id o'=h.set id o':=fun o o'=>List.set_set ..
 intro k;induction k with
 | zero=>intro P A B S hk hA;omega
 | succ k ih=>
  intro P A B S hk hA hB sA sB hm hn K;have hcc:∀es',(∀x∈es',x∈es)→MC g caps c es' id h:=fun es' he o x hx y hy K=>hc o x (he x hx) y (he y hy) K
  by_cases hA1:A.length=1
  ·obtain⟨x,rfl⟩:=List.length_eq_one_iff.1 hA1
   have mem:∀y∈x::B,y∈es:=fun y hy=>hm y (by simp at hy ⊢;rcases hy with q|q <;> simp [q])
   have e1:P++[x]++B++S=P++x::B++S:=by simp
   rw[e1]at hn ⊢;exact zlv id n hn hn2 hid w sB (fun y hy=>hes y (mem y hy)) (hcc _ mem)
  by_cases hB1:B.length=1
  ·obtain⟨x,rfl⟩:=List.length_eq_one_iff.1 hB1
   have mem:∀y∈x::A,y∈es:=fun y hy=>hm y (by simp at hy ⊢;rcases hy with q|q <;> simp [q])
   have e1:P++A++[x]++S=P++A++x::S:=by simp
   rw[e1]at hn ⊢;exact zlw id n (by omega) hn hn2 hid w sA (fun y hy=>hes y (mem y hy)) (hcc _ mem)
  refine rule ?_;rw[IS];obtain⟨l,hl⟩:∃l,l=P++A++B++S:=⟨_,rfl⟩;rw[←hl]at hm hn ⊢;have hA':l=P++A++(B++S):=by rw[hl];simp
  have hnl:n=P.length+A.length+B.length+S.length:=by rw[←hn,hl];simp;omega
  have lpa:(P++A).length=P.length+A.length:=List.length_append
  have w1:IntKind.i64.wrap (((P.length+A.length:Nat):Int)-P.length)=(A.length:Int):=by rw[nA _ (by omega) (by omega)];omega
  have w1':IntKind.i64.wrap (((P.length+A.length+B.length:Nat):Int)-((P.length+A.length:Nat):Int))=(B.length:Int):=by rw[nA _ (by omega) (by omega)];omega
  have b0:¬(A.length:Int)=1:=by omega
  have b0':¬(B.length:Int)=1:=by omega
  generalize hmm:P.length+A.length=m at *;have w2:IntKind.i64.wrap ((P.length:Int)+((m+B.length:Nat):Int))=((P.length+(m+B.length):Nat):Int):=by rw[nA _ (by omega) (by omega)];omega
  obtain⟨w3,w4,w5⟩:=GO (P.length+(m+B.length)) (by omega)
  generalize hmid:(P.length+(m+B.length)) / 2=mid at *;have w6:IntKind.i64.wrap ((mid:Int)+(m:Int))=((mid+m:Nat):Int):=nA _ (by omega) (by omega)
  have w7:IntKind.i64.wrap (((mid+m:Nat):Int)-1)=((mid+m-1:Nat):Int):=by rw[nA _ (by omega) (by omega)];omega
  have am:P.length≤mid∧mid≤m+B.length:=by omega
  -- what follows from the search on
  have key:∀(K:kA),K (.tup []) (h.set id (.row (some 4) (P++mrg (ltC c) A B++S) 0)) []→∀(b s0 r0:Nat),b=h.length→((mid<m∧s0+B.length=mid∧r0=mid∧P.length≤s0)∨(m≤mid∧s0=P.length∧r0=m∧mid+m≤m+B.length+P.length)) →
   DA (gA X) X.gl pH (JB 8 (yC (gA X) X.gl dM (mA [] false b K))) [(0,.own id n 0 n),(1,AI P.length),(2,AI m),(3,AI ((m+B.length:Nat):Int)),(4,.fn g caps),(18,AI mid),(19,AI ((mid+m:Nat):Int)),(20,AI s0),(21,AI r0),(22,AI ((mid+m-1:Nat):Int))] (h.set id (.row (some 4) l 0)) []:=by
   intro K hK b s0 r0 hb h0;subst hb;have htk:∀o,(h.set id o).take h.length=h.set id o:=fun o=>List.take_of_length_le (by rw[List.length_set];exact Nat.le_refl _)
   have M:=mono3 w (l:=l) (P:=P) (A:=A) (B:=B) (S:=S) sA sB hl (s0:=s0) (r0:=r0) (q:=mid+m-1) (by omega) (by omega) (fun k k1 k2=>by omega)
   refine CA (fun t:Nat×Nat=>⟨[(0,.own id n 0 n),(1,AI P.length),(2,AI m),(3,AI ((m+B.length:Nat):Int)),(4,.fn g caps),(18,AI mid),(19,AI ((mid+m:Nat):Int)),(20,AI t.1),(21,AI t.2),(22,AI ((mid+m-1:Nat):Int))],h.set id (.row (some 4) l 0),[]⟩)
    (fun t=>EC (fun k=>SB (ltC c) l[mid+m-1-k]? l[k]?) s0 r0 t.1 t.2) (fun t=>t.2-t.1) (s0,r0) rfl (EC.init (by omega)) ?_
   rintro⟨i,j⟩ I
   dsimp only at I ⊢;have I':=I
   obtain⟨i1,i2,i3,_,_⟩:=I';rcases Nat.lt_or_ge i j with hlt|hge
   ·have v2:IntKind.i64.wrap ((i:Int)+j)=((i+j:Nat):Int):=nA _ (by omega) (by omega)
    obtain⟨v3,v4,v5⟩:=GO (i+j) (by omega)
    have d1:i≤(i+j) / 2:=by omega
    have d2:(i+j) / 2<j:=by omega
    generalize (i+j) / 2=k at *;have v6:IntKind.i64.wrap ((k:Int)+1)=((k+1:Nat):Int):=nA _ (by omega) (by omega)
    have v7:IntKind.i64.wrap (((mid+m-1:Nat):Int)-(k:Int))=((mid+m-1-k:Nat):Int):=by rw[nA _ (by omega) (by omega)];omega
    obtain⟨x,hx⟩:∃x,l[k]?=some x:=⟨_,jC hA' (by omega) (by omega)⟩
    obtain⟨y,hy⟩:∃y,l[mid+m-1-k]?=some y:=⟨_,jC hl (by omega) (by omega)⟩
    have mx:=List.mem_of_getElem? hx
    have my:=List.mem_of_getElem? hy
    have cx:=eC (hes x (hm x mx))
    have cy:=eC (hes y (hm y my))
    have hcc:=fun o K=>hc o y (hm y my) x (hm x mx) K
    have b1:k<n:=by omega
    have b2:mid+m-1-k<n:=by omega
    by_cases hxy:c y x<0
    ·simp only[go_sem,hlt,v2,v3,v4,v5,v6,v7,hst,hn,hy,hx,b1,b2,cx,cy,hcc,hxy]
     exact⟨(i,k),rfl,I.dn M d1 d2 (by simp [hx,hy,SB,ltC,hxy]),by dsimp only;omega⟩
    ·simp only[go_sem,hlt,v2,v3,v4,v5,v6,v7,hst,hn,hy,hx,b1,b2,cx,cy,hcc,hxy]
     exact⟨(k+1,j),rfl,I.up M d1 d2 (by simp [hx,hy,SB,ltC,hxy]),by dsimp only;omega⟩
   ·have e:j=i:=by omega
    subst e;have cut:=zly w sA sB hl (mid:=mid) (s0:=s0) (r0:=r0) (s:=j) (by omega) (by rw[hmm];exact I)
    have eA:=(List.take_append_drop (j-P.length) A).symm
    have eB:=(List.take_append_drop (mid-j) B).symm
    have la1:(A.take (j-P.length)).length=j-P.length:=by simp;omega
    have la2:(A.drop (j-P.length)).length=m-j:=by simp;omega
    have lb1:(B.take (mid-j)).length=mid-j:=by simp;omega
    have lb2:(B.drop (mid-j)).length=B.length-(mid-j):=by simp
    have sA1:Srt (ltC c) (A.take (j-P.length)):=sA.sublist (List.take_sublist ..)
    have sA2:Srt (ltC c) (A.drop (j-P.length)):=sA.sublist (List.drop_sublist ..)
    have sB1:Srt (ltC c) (B.take (mid-j)):=sB.sublist (List.take_sublist ..)
    have sB2:Srt (ltC c) (B.drop (mid-j)):=sB.sublist (List.drop_sublist ..)
    rw[cut]at hK;generalize A.take (j-P.length)=A1 at *;generalize A.drop (j-P.length)=A2 at *;generalize B.take (mid-j)=B1 at *;generalize B.drop (mid-j)=B2 at *;have mM:(mrg (ltC c) A1 B1).length=mid-P.length:=by rw[lW (ltC c) _ A1 B1 rfl];omega
    have mem:∀x,(x∈P∨x∈A1∨x∈A2∨x∈B1∨x∈B2∨x∈S)→x∈es:=fun x hx=>hm x (by rw[hl,eA,eB];simp only[List.mem_append];rcases hx with q|q|q|q|q|q <;> simp [q])
    have e24:mid+m-j+(B.length-(mid-j))=m+B.length:=by omega
    -- the right half
    have k10:∀e:En,bA e 0 = .own id n 0 n→bA e 3=AI ((m+B.length:Nat):Int)→bA e 4 = .fn g caps→bA e 18=AI mid→bA e 24=AI ((mid+m-j:Nat):Int) →
     NW (gA X) X.gl bM ⟨e,h.set id (.row (some 4) (P++mrg (ltC c) A1 B1++(A2++B2)++S) 0),[]⟩ (mA [] false h.length K):=by
     intro e a0 a3 a4 a18 a24;rw[nV];have fin:mrg (ltC c) A2 B2=A2++B2→P++(mrg (ltC c) A1 B1++mrg (ltC c) A2 B2)++S=P++mrg (ltC c) A1 B1++(A2++B2)++S:=fun q=>by rw[q];simp only[List.append_assoc]
     by_cases c1:mid<mid+m-j
     ·by_cases c2:mid+m-j<m+B.length
      ·have I2:=fun K=>ih (P++mrg (ltC c) A1 B1) A2 B2 S (by omega) (by omega) (by omega) sA2 sB2 (fun x hx=>by
        simp only[List.mem_append,OL (ltC c) _ A1 B1 rfl]at hx;exact mem x (by rcases hx with(((q|q|q)|q)|q)|q <;> simp [q])) (by simp only[List.length_append];omega) K
       have l0:(P++mrg (ltC c) A1 B1).length=mid:=by rw[List.length_append,mM];omega
       have l1:mid+A2.length=mid+m-j:=by omega
       have l2:mid+m-j+B2.length=m+B.length:=by omega
       rw[l0,l1,l2]at I2;simp only[List.append_assoc]at I2 hK ⊢;simp only[bI,go_sem,a0,a3,a4,a18,a24,c1,c2,I2,htk];exact hK
      ·have:B2=[]:=List.eq_nil_of_length_eq_zero (by omega)
       rw[fin (by rw[this,GD,List.append_nil])]at hK
       simp only[bI,go_sem,a0,a3,a4,a18,a24,c1,c2,htk];simp only[List.append_assoc]at hK ⊢;exact hK
     ·have:A2=[]:=List.eq_nil_of_length_eq_zero (by omega)
      rw[fin (by rw[this,XD,List.nil_append])]at hK
      simp only[bI,go_sem,a0,a3,a4,a18,a24,c1,htk];simp only[List.append_assoc]at hK ⊢;exact hK
    -- the left half
    have k11:∀e:En,bA e 0 = .own id n 0 n→bA e 1=AI P.length→bA e 3=AI ((m+B.length:Nat):Int)→bA e 4 = .fn g caps→bA e 18=AI mid→bA e 20=AI j→bA e 24=AI ((mid+m-j:Nat):Int) →
     NW (gA X) X.gl cM ⟨e,h.set id (.row (some 4) (P++A1++B1++(A2++B2++S)) 0),[]⟩ (mA [] false h.length K):=by
     intro e a0 a1 a3 a4 a18 a20 a24;rw[oV];have fin:mrg (ltC c) A1 B1=A1++B1→P++A1++B1++(A2++B2++S)=P++mrg (ltC c) A1 B1++(A2++B2)++S:=fun q=>by rw[q];simp only[List.append_assoc]
     by_cases c1:P.length<j
     ·by_cases c2:j<mid
      ·have I2:=fun K=>ih P A1 B1 (A2++B2++S) (by omega) (by omega) (by omega) sA1 sB1 (fun x hx=>by
        simp only[List.mem_append]at hx;exact mem x (by rcases hx with((q|q)|q)|(q|q)|q <;> simp [q])) (by simp only[List.length_append];omega) K
       have l1:P.length+A1.length=j:=by omega
       have l2:j+B1.length=mid:=by omega
       rw[l1,l2,show P++mrg (ltC c) A1 B1++(A2++B2++S)=P++mrg (ltC c) A1 B1++(A2++B2)++S by simp only[List.append_assoc]]at I2
       obtain⟨r1,hr1⟩:∃r,r=P++A1++B1++(A2++B2++S):=⟨_,rfl⟩;obtain⟨r2,hr2⟩:∃r,r=P++mrg (ltC c) A1 B1++(A2++B2)++S:=⟨_,rfl⟩;simp only[←hr1,←hr2]at I2 k10;rw[←hr1]
       simp only[dI,go_sem,a0,a1,a3,a4,a18,a20,a24,c1,c2,I2];refine k10 _ ?_ ?_ ?_ ?_ ?_ <;> rfl
      ·have:B1=[]:=List.eq_nil_of_length_eq_zero (by omega)
       rw[fin (by rw[this,GD,List.append_nil])]
       obtain⟨r2,hr2⟩:∃r,r=P++mrg (ltC c) A1 B1++(A2++B2)++S:=⟨_,rfl⟩;simp only[←hr2]at k10;rw[←hr2]
       simp only[dI,go_sem,a0,a1,a3,a4,a18,a20,a24,c1,c2];refine k10 _ ?_ ?_ ?_ ?_ ?_ <;> rfl
     ·have:A1=[]:=List.eq_nil_of_length_eq_zero (by omega)
      rw[fin (by rw[this,XD,List.nil_append])]
      obtain⟨r2,hr2⟩:∃r,r=P++mrg (ltC c) A1 B1++(A2++B2)++S:=⟨_,rfl⟩;simp only[←hr2]at k10;rw[←hr2]
      simp only[dI,go_sem,a0,a1,a3,a4,a18,a20,a24,c1];refine k10 _ ?_ ?_ ?_ ?_ ?_ <;> rfl
    have v9:IntKind.i64.wrap (((mid+m:Nat):Int)-(j:Int))=((mid+m-j:Nat):Int):=by rw[nA _ (by omega) (by omega)];omega
    have el:l=P++A1++A2++B1++(B2++S):=by rw[hl,eA,eB];simp only[List.append_assoc]
    obtain⟨r1,hr1⟩:∃r,r=P++A1++B1++(A2++B2++S):=⟨_,rfl⟩;simp only[←hr1]at k11;have fin:A2=[]∨B1=[]→r1=l:=fun q=>by rw[hr1,el];rcases q with q|q <;> rw[q] <;> simp
    by_cases c1:j<m
    ·by_cases c2:m<mid+m-j
     ·have R:=fun K=>zkc (h:=h.set id (.row (some 4) l 0)) (K:=K) id n (P:=P++A1) (A:=A2) (B:=B1) (S:=B2++S) (l:=l) (F:=r1) (by omega) (by omega) el (by rw[hr1];simp only[List.append_assoc]) hn hn2 (fun x hx=>hes x (hm x hx)) (hst _) (v4:=.fn g caps) (by rw[List.length_set];exact tp)
      have l0:(P++A1).length=j:=by rw[List.length_append];omega
      have l1:j+A2.length=m:=by omega
      have l2:m+B1.length=mid+m-j:=by omega
      rw[l0,l1,l2]at R;simp only[go_sem,Nat.lt_irrefl,v9,c1,c2,R,hss];refine k11 _ ?_ ?_ ?_ ?_ ?_ ?_ ?_ <;> rfl
     ·have q:=fin (.inr (List.eq_nil_of_length_eq_zero (by omega)))
      rw[q]at k11;simp only[go_sem,Nat.lt_irrefl,v9,c1,c2];refine k11 _ ?_ ?_ ?_ ?_ ?_ ?_ ?_ <;> rfl
    ·have q:=fin (.inl (List.eq_nil_of_length_eq_zero (by omega)))
     rw[q]at k11;simp only[go_sem,Nat.lt_irrefl,v9,c1];refine k11 _ ?_ ?_ ?_ ?_ ?_ ?_ ?_ <;> rfl
  simp only[aI,go_sem,w1,w1',b0,b0',w2,w3,w4,w5,w6];by_cases hmm2:mid<m
  ·have w8:IntKind.i64.wrap (((mid+m:Nat):Int)-((m+B.length:Nat):Int))=((mid-B.length:Nat):Int):=by rw[nA _ (by omega) (by omega)];omega
   simp only[go_sem,hmm2,w8,w7];exact key _ ⟨rfl,by simp only[List.append_assoc],rfl⟩ _ (mid-B.length) mid (by simp) (by omega)
  ·simp only[go_sem,hmm2,w7]
   exact key _ ⟨rfl,by simp only[List.append_assoc],rfl⟩ _ P.length m (by simp) (by omega)
end
section
set_option maxHeartbeats 4000000
theorem z3v (id n:Nat)(R0 l tl:List PV)(hn:n=R0.length+l.length+tl.length)(hs:mC (some 4) l)(hl:n≤1000000)(hh:h[id]?=some (.row (some 4) (R0.reverse++(l++tl)) 0)){g:Nat}{caps:List AV}{c:PV→PV→Int}(hc:MC g caps c l id h) :
 gA X DD [.own id n 0 n,AI R0.length,AI ((R0.length+l.length:Nat):Int),.fn g caps] h K=K (.tup []) (h.set id (.row (some 4) (R0.reverse++(vA (ltC c) l++tl)) 0)) []:=by
 refine rule ?_;rw[FS];have hid:=ED hh
 have hst:∀o,(h.set id o)[id]?=some o:=fun o=>uD hid
 have w0:IntKind.i64.wrap ((R0.length:Int)+1)=((R0.length+1:Nat):Int):=nA _ (by omega) (by omega)
 simp only[YH,go_sem,w0];refine CA (fun i:Nat=>⟨[(0,.own id n 0 n),(1,AI R0.length),(2,AI ((R0.length+l.length:Nat):Int)),(3,.fn g caps),(8,AI ((R0.length+i:Nat):Int))],h.set id (.row (some 4) ((JC (ltC c) (l.take i)++R0).reverse++(l.drop i++tl)) 0),[]⟩) (fun i=>1≤i∧(i≤l.length∨i=1)) (fun i=>l.length-i) 1 ?_ (by simp) ?_
 ·have:(JC (ltC c) (l.take 1)++R0).reverse++(l.drop 1++tl)=R0.reverse++(l++tl):=by cases l <;> simp [JC,WA]
  rw[this,xF hh]
 rintro i ⟨hi1,hi2⟩
 rcases Nat.lt_or_ge i l.length with hlt|hge
 ·have p0:R0.length+i<R0.length+l.length:=by omega
  simp only[go_sem,p0];have hxl:l[i]∈l:=List.getElem_mem hlt
  generalize hx:l[i]=x at *;generalize hR:JC (ltC c) (l.take i)=R;have hRl:R.length=i:=by rw[←hR,z31];simp;omega
  have hRm:∀z∈R,z∈l:=fun z hz=>List.mem_of_mem_take ((KO (ltC c) (l.take i)).mem_iff.1 (by rw[hR];exact hz))
  have hdrop:l.drop i=x::l.drop (i+1):=by rw[←hx];exact List.drop_eq_getElem_cons hlt
  have hnext:JC (ltC c) (l.take (i+1))=WA (ltC c) x R:=by rw[z34 _ _ _ hlt,hR,hx]
  refine CA (fun t:List PV×List PV=>⟨[(0,.own id n 0 n),(1,AI R0.length),(2,AI ((R0.length+l.length:Nat):Int)),(3,.fn g caps),(8,AI ((R0.length+i:Nat):Int)),(9,AI ((R0.length+t.1.length:Nat):Int))],h.set id (.row (some 4) ((t.1++R0).reverse++x::t.2) 0),[]⟩)
   (fun t=>∃B,R=B++t.1∧t.2=B.reverse++(l.drop (i+1)++tl)∧∀b∈B,ltC c x b=true) (fun t=>t.1.length) (R,l.drop (i+1)++tl) (by rw[hdrop,hRl];rfl) ⟨[],rfl,rfl,by simp⟩ ?_
  rintro⟨A,C⟩ ⟨B,q1,q2,q3⟩
  dsimp only at q1 q2 q3;have hlen:((A++R0).reverse++x::C).length=n:=by
   have:R.length=B.length+A.length:=by rw[q1];simp
   rw[q2];simp;omega
  have hBA:B.length+A.length<l.length:=by
   have:R.length=B.length+A.length:=by rw[q1];simp
   omega
  have w1:IntKind.i64.wrap (((R0.length+i:Nat):Int)+1)=((R0.length+(i+1):Nat):Int):=by rw[nA _ (by omega) (by omega)];omega
  cases A with
  | nil=>
   have hd:WA (ltC c) x R=B++[x]:=by rw[q1];exact BL (ltC c) x [] B q3 (fun y r h=>by cases h)
   have p1:¬((R0.length:Nat):Int)<((R0.length+([]:List PV).length:Nat):Int):=by simp
   simp only[go_sem,p1,w1,Int.lt_irrefl];refine⟨i+1,?_,by omega,by omega⟩
   simp only[hnext,hd,q2,List.reverse_append,List.reverse_nil,List.nil_append,List.reverse_cons,List.append_assoc,List.cons_append]
  | cons y A=>
   have hyl:y∈l:=hRm y (by rw[q1];simp)
   have g1:=z3y (y::(A++R0)) C x
   have g2:=z3z (A++R0) C x y
   have sw:=z30 (A++R0) C x y
   simp only[List.length_cons]at hBA;rw[List.cons_append]at hlen ⊢;generalize hrow:(y::(A++R0)).reverse++x::C=row at *;have e1:(A++R0).length=R0.length+A.length:=by rw[List.length_append];omega
   simp only[List.length_cons,e1]at g1 g2 sw;have w2:IntKind.i64.wrap (((R0.length+(A.length+1):Nat):Int)-1)=((R0.length+A.length:Nat):Int):=by rw[nA _ (by omega) (by omega)];omega
   have p1:((R0.length:Nat):Int)<((R0.length+(A.length+1):Nat):Int):=by omega
   have b1:R0.length+(A.length+1)<n:=by omega
   have b2:R0.length+A.length<n:=by omega
   have cx:=eC (hs x hxl)
   have cy:=eC (hs y hyl)
   have hcc:=fun o K=>hc o x hxl y hyl K
   simp only[List.length_cons];rw[Nat.add_assoc]at g1 sw;by_cases hxy:c x y<0
   ·have g3:(row.set (R0.length+(A.length+1)) y)[R0.length+A.length]?=some y:=by rw[List.getElem?_set_ne (by omega),g2]
    have lx:=wE (hs x hxl)
    have ly:=wE (hs y hyl)
    have sx:=vE (hs x hxl)
    have sy:=vE (hs y hyl)
    simp only[jA]at lx ly;have t1:=fun i xs h1=>cE (hs x hxl) (hs y hyl) id i 0 xs h1
    have t2:=fun i xs h1=>cE (hs y hyl) (hs x hxl) id i 0 xs h1
    simp only[go_sem,hst,p1,hlen,g1,g2,g3,w2,b1,b2,cx,cy,hcc,hxy,lx,ly,sx,sy,t1,t2,sw];refine⟨(A,y::C),by simp,⟨B++[y],by simp [q1],by simp [q2],fun b hb=>?_⟩,by simp⟩
    rw[List.mem_append,List.mem_singleton]at hb;rcases hb with hb|rfl
    ·exact q3 b hb
    ·simpa [ltC] using hxy
   ·have hd:WA (ltC c) x R=B++x::y::A:=by rw[q1];exact BL (ltC c) x (y::A) B q3 (fun z r h=>by cases h;simpa [ltC] using hxy)
    simp only[go_sem,hst,p1,hlen,g1,g2,w2,b1,b2,cx,cy,hcc,hxy,w1];refine⟨i+1,?_,by omega,by omega⟩
    simp only[hnext,hd,←hrow,q2,List.reverse_append,List.reverse_cons,List.append_assoc,List.cons_append,List.nil_append]
 ·have hge':¬R0.length+i<R0.length+l.length:=by omega
  have e1:l.take i=l:=List.take_of_length_le hge
  have e2:l.drop i=[]:=List.drop_of_length_le hge
  simp only[go_sem,hge',e1,e2];simp [vA]
end
theorem MC.set {g:Nat}{caps:List AV}{c:PV→PV→Int}{xs:List PV}{id:Nat}{h:aA}(hc:MC g caps c xs id h)(o:Obj):MC g caps c xs id (h.set id o):=fun o' x hx y hy K=>by
 rw[List.set_set];exact hc o' x hx y hy K
theorem MC.sub {g:Nat}{caps:List AV}{c:PV→PV→Int}{xs ys:List PV}{id:Nat}{h:aA}(hc:MC g caps c xs id h)(hs:∀ x∈ys,x∈xs):MC g caps c ys id h:=fun o' x hx y hy K=>hc o' x (hs x hx) y (hs y hy) K
theorem zkV (id:Nat)(l:List PV)(hs:mC (some 4) l)(hl:l.length≤39)(hh:h[id]?=some (.row (some 4) l 0)){g:Nat}{caps:List AV}{c:PV→PV→Int}(hc:MC g caps c l id h)(w:Weak (ltC c))(tp:(AV.fn g caps).top≤h.length) :
 gA X IE [.own id l.length 0 l.length,.fn g caps] h K=K (.tup []) (h.set id (.row (some 4) (vA (ltC c) l) 0)) []:=by
 by_cases hle:l.length≤20
 ·exact zkU id l hs hle hh hc
 refine rule ?_;rw[ES];have hid:=ED hh
 have hst:∀o,(h.set id o)[id]?=some o:=fun o=>uD hid
 have hss:∀o o',(h.set id o).set id o'=h.set id o':=fun o o'=>List.set_set ..
 generalize hn:l.length=n at *;obtain⟨l1,l2,el,n1,n2⟩:=cut2 l 20 (by omega)
 have m1:∀x∈l1,x∈l:=fun x hx=>by rw[el];simp [hx]
 have m2:∀x∈l2,x∈l:=fun x hx=>by rw[el];simp [hx]
 have i1:=MI (ltC c) l1
 have i2:=MI (ltC c) l2
 have I1:∀K:kA,gA X DD [.own id n 0 n,AI 0,AI 20,.fn g caps] h K=K (.tup []) (h.set id (.row (some 4) (vA (ltC c) l1++l2) 0)) []:=fun K=>by
  have e:=z3v (h:=h) (K:=K) id n [] l1 l2 (by simp;omega) (fun x hx=>hs x (m1 x hx)) (by omega) (by rw[List.reverse_nil,List.nil_append,←el];exact hh) (hc.sub m1)
  rw[List.reverse_nil,List.nil_append,List.length_nil,n1]at e;exact e
 have I2:∀K:kA,gA X DD [.own id n 0 n,AI 20,AI n,.fn g caps] (h.set id (.row (some 4) (vA (ltC c) l1++l2) 0)) K=K (.tup []) (h.set id (.row (some 4) (vA (ltC c) l1++vA (ltC c) l2) 0)) []:=fun K=>by
  have e:=z3v (h:=h.set id (.row (some 4) (vA (ltC c) l1++l2) 0)) (K:=K) id n (vA (ltC c) l1).reverse l2 [] (by simp;omega) (fun x hx=>hs x (m2 x hx)) (by omega) (by rw[List.reverse_reverse,List.append_nil];exact hst _) ((hc.sub m2).set _)
  rw[List.length_reverse,i1,n1,show 20+l2.length=n by omega,List.reverse_reverse,List.append_nil,List.set_set]at e
  exact e
 have S0:∀K:kA,gA X mE [.own id n 0 n,AI 0,AI 20,AI n,.fn g caps] (h.set id (.row (some 4) (vA (ltC c) l1++vA (ltC c) l2) 0)) K=K (.tup []) (h.set id (.row (some 4) (vA (ltC c) l) 0)) []:=fun K=>by
  have e:=zlx id n (by omega) hid w l hs hc tp n [] (vA (ltC c) l1) (vA (ltC c) l2) [] (by omega) (by omega) (by omega) (fH w _) (fH w _) (fun x hx=>by
   simp only[List.nil_append,List.append_nil,List.mem_append,qD]at hx;exact hx.elim (m1 x) (m2 x)) (by simp;omega) K
  rw[List.nil_append,List.append_nil,List.nil_append,List.append_nil,←zeD w,←el,List.length_nil,i1,i2,n1,show 0+20+l2.length=n by omega]at e
  exact e
 have key:∀K:kA,gA X YG [.own id n 0 n,AI n,.fn g caps] h K=K (.tup []) (h.set id (.row (some 4) (vA (ltC c) l) 0)) []:=by
  intro K;refine rule ?_;rw[GS];simp only[ZH,go_sem];refine CA (fun t:Bool=>⟨[(0,.own id n 0 n),(1,AI n),(2,.fn g caps),(6,AI 20),(7,AI (if t=true then 20 else 0)),(8,AI (if t=true then 40 else 20))],if t=true then h.set id (.row (some 4) (vA (ltC c) l1++l2) 0) else h,[]⟩) (fun _=>True) (fun t=>if t=true then 0 else 1) false rfl trivial ?_
  intro t _;cases t with
  | false=>
   have b1:(20:Int)≤(n:Int):=by omega
   simp only[go_sem,if_true,if_false,Bool.false_eq_true,b1,I1,show IntKind.i64.wrap ((20:Int)+20)=40 from rfl]
   exact⟨true,rfl,by decide⟩
  | true=>
   have b1:¬((40:Int)≤(n:Int)):=by omega
   simp only[go_sem,if_true,if_false,Bool.false_eq_true,b1,I2];refine CA (fun t:Bool=>⟨[(0,.own id n 0 n),(1,AI n),(2,.fn g caps),(6,AI (if t=true then 40 else 20))],if t=true then h.set id (.row (some 4) (vA (ltC c) l) 0) else h.set id (.row (some 4) (vA (ltC c) l1++vA (ltC c) l2) 0),[]⟩) (fun _=>True) (fun t=>if t=true then 0 else 1) false rfl trivial ?_
   intro t _;cases t with
   | false=>
    have b2:(20:Int)<(n:Int):=by omega
    simp only[go_sem,if_true,if_false,Bool.false_eq_true,b2,show IntKind.i64.wrap ((2:Int)*20)=40 from rfl]
    refine CA (fun _:Unit=>⟨[(0,.own id n 0 n),(1,AI n),(2,.fn g caps),(6,AI 20),(7,AI 0),(8,AI 40)],h.set id (.row (some 4) (vA (ltC c) l1++vA (ltC c) l2) 0),[]⟩) (fun _=>True) (fun _=>0) () rfl trivial ?_
    intro _ _;simp only[go_sem,b1,b2,S0,show IntKind.i64.wrap (20:Int)=20 from rfl,show IntKind.i64.wrap (40:Int)=40 from rfl]
    exact⟨true,rfl,by decide⟩
   | true=>
    have b2:¬((40:Int)<(n:Int)):=by omega
    simp only[go_sem,if_true,if_false,Bool.false_eq_true,b2]
 simp only[XH,go_sem,key]
end Go.Am
end
section
/- Retests: which record of a unit counts. Plain lists;both ways yield the same. -/
set_option linter.all false
namespace Go.Am
def kC (l:List Lim)(r:Rec):Bool:=decide (0≤cC l r.res)
def nB (l:List Lim)(rule:Int)(o x:Rec):Rec:=if rule=2∨rule=3∧kC l o=true then x else o
def XA (u:List UInt8)(out:List Rec):Nat:=out.findIdx fun o=>decide (o.unit=u)
def lB (l:List Lim)(rule:Int)(out:List Rec)(x:Rec):List Rec:=
 if h:XA x.unit out<out.length then out.set (XA x.unit out) (nB l rule (out[XA x.unit out]) x) else out++[x]
def MV (l:List Lim)(rule:Int)(r:List Rec):List Rec:=r.foldl (lB l rule) []
def TE (a b:Rec):Int:=OA a.unit b.unit
def VA (l:List Lim)(rule:Int)(r:List Rec):List Rec:=vA (ltO TE) (MV l rule r)
def ltS (a b:List UInt8):Bool:=decide (OA a b<0)
def yF (r:List Rec):List (List UInt8):=iB (fun a b=>decide (a=b)) (vA ltS (r.map Rec.unit))
def ofU (r:List Rec)(u:List UInt8):List Rec:=r.filter fun x=>decide (x.unit=u)
def qM:Rec:=⟨[],0,[],[]⟩
def RD (l:List Lim)(rule:Int)(f:List Rec):Rec:=
 if rule=1 then f.headD qM else if f.findIdx (fun x=>!kC l x)<f.length∧rule=3 then f.getD (f.findIdx fun x=>!kC l x) qM else f.getLastD qM
def jE (l:List Lim)(rule:Int):Option Rec→List Rec→Option Rec
 | o,[]=>o
 | none,x::r=>jE l rule (some x) r
 | some y,x::r=>jE l rule (some (nB l rule y x)) r
theorem z0D (l:List Lim)(rule:Int):∀(f:List Rec) (y:Rec),jE l rule (some y) f=some (f.foldl (nB l rule) y)
 | [],y=>rfl
 | x::r,y=>by unfold jE;rw[z0D l rule r];rfl
theorem eN (l:List Lim)(rule:Int)(x:Rec):∀(f:List Rec) (o:Option Rec),jE l rule o (f++[x])=some (match jE l rule o f with|none=>x|some y=>nB l rule y x)
 | [],none=>rfl
 | [],some y=>rfl
 | z::f,none=>by simp only[List.cons_append,jE];exact eN l rule x f _
 | z::f,some y=>by simp only[List.cons_append,jE];exact eN l rule x f _
theorem z2K (l:List Lim):∀(f:List Rec) (y:Rec),f.foldl (nB l 1) y=y
 | [],y=>rfl
 | x::r,y=>by simp only[List.foldl_cons];rw[z2K l r];simp [nB]
theorem z2L (l:List Lim):∀(f:List Rec) (y:Rec),f.foldl (nB l 2) y=f.getLastD y
 | [],y=>rfl
 | x::r,y=>by
  simp only[List.foldl_cons];rw[z2L l r]
  have:nB l 2 y x=x:=by simp [nB]
  rw[this];cases r <;> simp [List.getLastD]
theorem z2N (l:List Lim):∀(f:List Rec) (y:Rec),kC l y=false→f.foldl (nB l 3) y=y
 | [],y,_=>rfl
 | x::r,y,h=>by
  simp only[List.foldl_cons];have:nB l 3 y x=y:=by simp [nB,h]
  rw[this];exact z2N l r y h
theorem z2M (l:List Lim):∀(f:List Rec) (y:Rec),some (f.foldl (nB l 3) y)=some (RD l 3 (y::f))
 | [],y=>by
  unfold RD;cases hb:kC l y <;> simp [hb,List.findIdx_cons]
 | x::r,y=>by
  cases hb:kC l y with
  | false=>
   rw[z2N l _ y hb];unfold RD;simp [hb,List.findIdx_cons]
  | true=>
   simp only[List.foldl_cons];have:nB l 3 y x=x:=by simp [nB,hb]
   rw[this,z2M l r x];unfold RD;have e:(y::x::r).findIdx (fun x=>!kC l x)=(x::r).findIdx (fun x=>!kC l x)+1:=by
    rw[List.findIdx_cons];simp [hb]
   rw[e];simp only[List.length_cons,Nat.add_lt_add_iff_right,List.getD_cons_succ];have:(y::x::r).getLastD qM=(x::r).getLastD qM:=by simp [List.getLastD]
   rw[this];rfl
theorem z9V (l:List Lim){rule:Int}(hr:1≤rule∧rule≤3):∀{f:List Rec},f≠[]→jE l rule none f=some (RD l rule f)
 | [],h=>absurd rfl h
 | y::f,_=>by
  show jE l rule (some y) f=_
  rw[z0D];rcases(by omega:rule=1∨rule=2∨rule=3) with h|h|h
  ·subst h;rw[z2K];rfl
  ·subst h;rw[z2L]
   unfold RD;simp [List.getLastD];cases f <;> simp
  ·subst h;exact z2M l f y
structure FinI (l:List Lim) (rule:Int) (p out:List Rec):Prop where
 nd:out.Pairwise fun a b=>a.unit≠b.unit
 val:∀o∈out,jE l rule none (ofU p o.unit)=some o
 all:∀x∈p,∃o∈out,o.unit=x.unit
 sub:∀o∈out,∃x∈p,x.unit=o.unit
 le:out.length≤p.length
 mem:∀o∈out,o∈p
theorem tQ {u:List UInt8}{out:List Rec}:XA u out<out.length↔∃o∈out,o.unit=u:=by
 unfold XA;rw[List.findIdx_lt_length];simp
theorem sH {u:List UInt8}{out:List Rec}(h:XA u out<out.length):(out[XA u out]).unit=u:=by
 have:=List.findIdx_getElem (p:=fun o:Rec=>decide (o.unit=u)) (xs:=out) (w:=h)
 exact of_decide_eq_true this
theorem bZ {l:List Lim}{rule:Int}{o x:Rec}(h:o.unit=x.unit):(nB l rule o x).unit=x.unit:=by
 unfold nB;split <;> simp [h]
theorem zlO {l:List Lim}{rule:Int}{o x:Rec}:nB l rule o x=x∨nB l rule o x=o:=by
 unfold nB;split <;> simp
theorem zjG {l:List Lim}{rule:Int}{out:List Rec}{x:Rec}:(lB l rule out x).map Rec.unit=if XA x.unit out<out.length then out.map Rec.unit else out.map Rec.unit++[x.unit]:=by
 unfold lB;split
 ·rename_i h
  rw[List.map_set,bZ (sH h)];apply List.ext_getElem?
  intro i;rw[List.getElem?_set];split
  ·rename_i e
   subst e;simp [h,sH h]
  ·rfl
 ·simp
theorem eP (p:List Rec)(x:Rec)(u:List UInt8):ofU (p++[x]) u=if x.unit=u then ofU p u++[x] else ofU p u:=by
 unfold ofU;rw[List.filter_append];by_cases h:x.unit=u <;> simp [h]
theorem zdU {l:List Lim}{rule:Int}{p out:List Rec}(I:FinI l rule p out)(x:Rec):FinI l rule (p++[x]) (lB l rule out x):=by
 have hu:=zjG (l:=l) (rule:=rule) (out:=out) (x:=x)
 have mU:∀u,(∃o∈lB l rule out x,o.unit=u)↔u=x.unit∨∃o∈out,o.unit=u:=by
  intro u;have h1:(∃o∈lB l rule out x,o.unit=u)↔u∈(lB l rule out x).map Rec.unit:=by simp
  have h2:(∃o∈out,o.unit=u)↔u∈out.map Rec.unit:=by simp
  rw[h1,h2,hu];split
  ·rename_i h
   obtain⟨o,ho,e⟩:=tQ.1 h;constructor
   ·intro h;exact .inr h
   ·rintro (h|h)
    ·rw[h];exact List.mem_map.2 ⟨o,ho,e⟩
    ·exact h
  ·simp [or_comm]
 refine⟨?_,?_,?_,?_,?_,?_⟩
 ·have:(out.map Rec.unit).Pairwise (· ≠ ·):=List.pairwise_map.2 I.nd
  suffices hs:((lB l rule out x).map Rec.unit).Pairwise (· ≠ ·) from List.pairwise_map.1 hs
  rw[hu];split
  ·exact this
  ·rename_i h
   rw[List.pairwise_append];refine⟨this,by simp,fun a ha b hb=>?_⟩
   rw[List.mem_singleton]at hb;subst hb;intro e;obtain⟨o,ho,e2⟩:=List.mem_map.1 ha;exact h (tQ.2 ⟨o,ho,by rw[e2,e]⟩)
 ·intro o ho
  unfold lB at ho;split at ho
  ·rename_i h
   obtain⟨i,hi,e⟩:=List.mem_iff_getElem.1 ho;rw[List.getElem_set]at e;split at e
   ·have eu:o.unit=x.unit:=by rw[←e];exact bZ (sH h)
    rw[eP,if_pos eu.symm,eN];have h9:=I.val _ (List.getElem_mem h)
    have hpg:=sH h
    generalize out[XA x.unit out]=z at *;rw[hpg,←eu]at h9;rw[h9,←e]
   ·have ho2:o∈out:=by rw[←e];exact List.getElem_mem _
    have hne:¬x.unit=o.unit:=by
     intro eu;rename_i hni;have q:=List.pairwise_iff_getElem.1 I.nd
     simp only[List.length_set]at hi;rcases Nat.lt_or_ge i (XA x.unit out) with h3|h3
     ·exact q i _ hi h h3 (by rw[sH h,e,eu])
     ·exact q _ i h hi (by omega) (by rw[sH h,e,eu])
    rw[eP,if_neg hne];exact I.val o ho2
  ·rename_i h
   rcases List.mem_append.1 ho with ho|ho
   ·have hne:¬x.unit=o.unit:=fun eu=>h (tQ.2 ⟨o,ho,eu.symm⟩)
    rw[eP,if_neg hne];exact I.val o ho
   ·rw[List.mem_singleton]at ho
    subst ho;rw[eP,if_pos rfl,eN];have:ofU p o.unit=[]:=by
     unfold ofU;rw[List.filter_eq_nil_iff];intro z hz;simp only[decide_eq_true_eq];intro e;obtain⟨o',ho',e'⟩:=I.all z hz;exact h (tQ.2 ⟨o',ho',by rw[e',e]⟩)
    rw[this];rfl
 ·intro z hz
  rw[mU];rcases List.mem_append.1 hz with hz|hz
  ·exact .inr (I.all z hz)
  ·rw[List.mem_singleton]at hz;subst hz;exact .inl rfl
 ·intro o ho
  rcases(mU o.unit).1 ⟨o,ho,rfl⟩ with h|⟨o',ho',e⟩
  ·exact⟨x,by simp,h.symm⟩
  ·obtain⟨z,hz,e2⟩:=I.sub o' ho'
   exact⟨z,by simp [hz],by rw[e2,e]⟩
 ·have:=I.le
  unfold lB;split <;> simp <;> omega
 ·intro o ho
  unfold lB at ho;split at ho
  ·rename_i h
   rcases List.mem_or_eq_of_mem_set ho with ho|ho
   ·exact List.mem_append_left _ (I.mem o ho)
   ·rcases zlO (l:=l) (rule:=rule) (o:=out[XA x.unit out]) (x:=x) with e|e
    ·rw[ho,e];simp
    ·rw[ho,e];exact List.mem_append_left _ (I.mem _ (List.getElem_mem h))
  ·rcases List.mem_append.1 ho with ho|ho
   ·exact List.mem_append_left _ (I.mem o ho)
   ·exact List.mem_append_right _ ho
theorem z28 (l:List Lim)(rule:Int):FinI l rule [] []:=⟨.nil,by simp,by simp,by simp,by simp,by simp⟩
theorem KV (l:List Lim)(rule:Int):∀(q p out:List Rec),FinI l rule p out→FinI l rule (p++q) (q.foldl (lB l rule) out)
 | [],p,out,I=>by simpa using I
 | x::q,p,out,I=>by
  have:=KV l rule q (p++[x]) (lB l rule out x) (zdU I x);simpa using this
theorem rL (l:List Lim)(rule:Int)(r:List Rec):FinI l rule r (MV l rule r):=by
 have:=KV l rule r [] [] (z28 l rule);simpa [MV] using this
theorem ordS:Ordr OA:=⟨fun a b=>dN a b,fun a b d h1 h2=>TS h1 h2⟩
theorem ordU:Ordr TE:=⟨fun a b=>dN a.unit b.unit,fun a b d h1 h2=>TS h1 h2⟩
theorem zfP:ltS=ltO OA:=rfl
theorem zlM (r:List Rec):FC OA (yF r):=by
 unfold yF;rw[zfP];have hq:∀x y:List UInt8,(fun a b=>decide (a=b)) x y=true↔x=y:=fun x y=>by simp
 refine QZ ordS ?_ fun i h=>?_
 ·refine(List.Pairwise.sublist (z0I _ _) (fH ordS.weak _)).imp fun {x y} h=>?_
  simp only[ltO,decide_eq_false_iff_not]at h;have:=ordS.neg x y;omega
 ·intro hc
  exact z0G hq _ i h (mK hc).symm
theorem aZ {r:List Rec}{u:List UInt8}:u∈yF r↔∃x∈r,x.unit=u:=by
 unfold yF;constructor
 ·intro h
  have:=qD.1 (fN h);simpa using this
 ·intro h
  exact z0H (fun x y h=>by simpa using h) (qD.2 (by simpa using h))
theorem OV (l:List Lim)(rule:Int)(r:List Rec):(VA l rule r).map Rec.unit=yF r:=by
 have I:=rL l rule r
 have hs:FC TE (VA l rule r):=by
  refine QY ordU (I.nd.imp fun {a b} h=>?_)
  intro hc;exact h (mK hc)
 refine PQ ordS (List.pairwise_map.2 hs) (zlM r) fun u=>?_
 rw[aZ,List.mem_map];constructor
 ·rintro⟨o,ho,e⟩
  obtain⟨x,hx,e2⟩:=I.sub o (qD.1 ho);exact⟨x,hx,by rw[e2,e]⟩
 ·rintro⟨x,hx,e⟩
  obtain⟨o,ho,e2⟩:=I.all x hx;exact⟨o,qD.2 ho,by rw[e2,e]⟩
theorem zdV {l:List Lim}{rule:Int}(hr:1≤rule∧rule≤3){r:List Rec}{o:Rec}(ho:o∈VA l rule r):o=RD l rule (ofU r o.unit):=by
 have I:=rL l rule r
 have h1:=I.val o (qD.1 ho)
 have hne:ofU r o.unit≠[]:=by
  intro e;rw[e]at h1;cases h1
 rw[z9V l hr hne]at h1;exact(Option.some.inj h1).symm
theorem z29 (l:List Lim){rule:Int}(hr:1≤rule∧rule≤3)(r:List Rec):VA l rule r=(yF r).map fun u=>RD l rule (ofU r u):=by
 rw[←OV l rule r,List.map_map];have:(VA l rule r).map (fun o=>o)=VA l rule r:=List.map_id _
 conv=>lhs;rw[←this]
 refine List.map_congr_left fun o ho=>?_
 exact zdV hr ho
theorem GI (l:List Lim)(rule:Int)(r:List Rec):(VA l rule r).length≤r.length:=by
 unfold VA;rw[MI];exact(rL l rule r).le
theorem NV {l:List Lim}{rule:Int}{r:List Rec}{o:Rec}(h:o∈VA l rule r):o∈r:=(rL l rule r).mem o (qD.1 h)
theorem z9U {l:List Lim}{rule:Int}{f:List Rec}(h:f≠[]):RD l rule f∈f:=by
 unfold RD;split
 ·cases f with
  | nil=>exact absurd rfl h
  | cons x r=>simp
 ·split
  ·rename_i hh
   rw[List.getD_eq_getElem?_getD,List.getElem?_eq_getElem hh.1];simp
  ·rw[List.getLastD_eq_getLast?,List.getLast?_eq_some_getLast h]
   simp
theorem zgu {r:List Rec}{u:List UInt8}{x:Rec}:x∈ofU r u↔x∈r∧x.unit=u:=by simp [ofU]
theorem zgv {r:List Rec}{u:List UInt8}(h:u∈yF r):ofU r u≠[]:=by
 obtain⟨x,hx,e⟩:=aZ.1 h;intro h2;have:x∈ofU r u:=zgu.2 ⟨hx,e⟩
 rw[h2]at this;exact absurd this (by simp)
end Go.Am
end
section
/- Units counted: bins,tests,recovered units,sites;both ways yield the same. Plain lists. -/
set_option linter.all false
namespace Go.Am
theorem z1b {a b:Nat}(ha:a<10)(hb:b<10)(h:kD a=kD b):a=b:=by
 have:=congrArg UInt8.toNat h;simp only[kD,UInt8.toNat_ofNat']at this;omega
theorem z1a (n:Nat):aC n≠[]:=by
 rcases Nat.lt_or_ge n 10 with h|h
 ·rw[GE h];simp
 ·rw[LF h];simp
theorem PY {α:Type}{a b:List α}{x y:α}(h:a++[x]=b++[y]):a=b∧x=y:=by
 have h1:=congrArg List.getLast? h
 have h2:=congrArg List.dropLast h
 simp at h1 h2;exact⟨h2,h1⟩
theorem z0Y:∀ (n m:Nat),aC n=aC m→n=m:=by
 intro n;induction n using Nat.strongRecOn with
 | _ n ih=>
  intro m h;rcases Nat.lt_or_ge n 10 with h1|h1 <;> rcases Nat.lt_or_ge m 10 with h2|h2
  ·rw[GE h1,GE h2]at h
   exact z1b h1 h2 (List.cons.inj h).1
  ·rw[GE h1,LF h2]at h
   have:=PY (a:=[]) (x:=kD n) (by simpa using h)
   exact absurd this.1.symm (z1a _)
  ·rw[GE h2,LF h1]at h
   have:=PY (b:=[]) (y:=kD m) (by simpa using h)
   exact absurd this.1 (z1a _)
  ·rw[LF h1,LF h2]at h
   obtain⟨e1,e2⟩:=PY h;have:=ih (n / 10) (by omega) _ e1
   have:=z1b (by omega) (by omega) e2
   omega
theorem kV {n:Nat}(h:n<10):kD n≠45:=by
 intro e;have:=congrArg UInt8.toNat e;simp only[kD,UInt8.toNat_ofNat']at this;have h45:(45:UInt8).toNat=45:=rfl
 omega
theorem jV:∀ (n:Nat),∀c∈aC n,∃k,k<10∧c=kD k:=by
 intro n;induction n using Nat.strongRecOn with
 | _ n ih=>
  intro c hc;rcases Nat.lt_or_ge n 10 with h1|h1
  ·rw[GE h1,List.mem_singleton]at hc
   exact⟨n,h1,hc⟩
  ·rw[LF h1,List.mem_append,List.mem_singleton]at hc
   rcases hc with hc|hc
   ·exact ih _ (by omega) c hc
   ·exact⟨n%10,by omega,hc⟩
theorem zeE {a b:Int}(h:itoa a=itoa b):a=b:=by
 unfold itoa at h;have key:∀(n m:Nat),aC n≠45::m.repeat id (aC m):=by
  intro n m e;have:=jV n 45 (by rw[e];simp)
  obtain⟨k,hk,e2⟩:=this;exact kV hk e2.symm
 split at h <;> split at h
 ·have:=z0Y _ _ (List.cons.inj h).2;omega
 ·obtain⟨k,hk,e2⟩:=jV b.natAbs 45 (by rw[←h];simp)
  exact absurd e2.symm (kV hk)
 ·obtain⟨k,hk,e2⟩:=jV a.natAbs 45 (by rw[h];simp)
  exact absurd e2.symm (kV hk)
 ·have:=z0Y _ _ h;omega
def FA (l:List Lim)(x:Rec):Int:=DH l (cC l x.res)
abbrev SS:=List UInt8×List UInt8
def sL (l:List Lim)(rule:Int)(r:List Rec):List SS:=(VA l rule r).map fun x=>(x.unit,itoa (FA l x))
def dB (l:List Lim)(rule:Int)(r:List Rec)(b:Int):Nat:=(VA l rule r).countP fun x=>decide (FA l x=b)
def lC (l:List Lim)(rule:Int)(r:List Rec):Nat→Nat→List SS
 | _,0=>[]
 | b,k+1=>(if 0<dB l rule r b then [(itoa b,itoa (dB l rule r b))] else [])++lC l rule r (b+1) k
theorem z0j (l:List Lim)(rule:Int)(r:List Rec):∀(k b:Nat),lC l rule r b (k+1)=lC l rule r b k++(if 0<dB l rule r ((b+k:Nat):Int) then [(itoa ((b+k:Nat):Int),itoa (dB l rule r ((b+k:Nat):Int)))] else [])
 | 0,b=>by simp [lC]
 | k+1,b=>by
  show _++lC l rule r (b+1) (k+1)=(_++lC l rule r (b+1) k)++_
  rw[z0j l rule r k (b+1),List.append_assoc,show b+1+k=b+(k+1) by omega]
def DS (l:List Lim)(rule:Int)(r:List Rec):List SS:=lC l rule r 1 100
theorem z9T {l:List Lim}{f:List Rec}(hf:f≠[]):kC l (RD l 3 f) = !f.any fun x=>!kC l x:=by
 unfold RD;rw[if_neg (by decide)]
 by_cases h:f.findIdx (fun x=>!kC l x)<f.length
 ·rw[if_pos ⟨h,rfl⟩,List.getD_eq_getElem?_getD,List.getElem?_eq_getElem h]
  have:=List.findIdx_getElem (p:=fun x=>!kC l x) (xs:=f) (w:=h)
  have h2:f.any (fun x=>!kC l x)=true:=List.any_eq_true.2 ⟨_,List.getElem_mem h,this⟩
  rw[h2];simpa using this
 ·rw[if_neg (fun hh=>h hh.1)]
  have h2:f.any (fun x=>!kC l x)=false:=by
   rw[List.any_eq_false];intro x hx hb;exact h (List.findIdx_lt_length_of_exists ⟨x,hx,hb⟩)
  rw[h2];rw[List.getLastD_eq_getLast?,List.getLast?_eq_some_getLast hf];rw[List.any_eq_false]at h2;have:=h2 _ (List.getLast_mem hf);simpa using this
end Go.Am
end
section
/- Failures agree: sums of counts,recovered units. Plain lists. -/
set_option linter.all false
namespace Go.Am
end Go.Am
end
