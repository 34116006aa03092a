/- Texts of the proof, laid together: SpU64, PFlt, PBits, PShort, PDet, PPop, PSeen, PRed, PRed2, SpStr, SpMap, SpStrs, SpLimD, SpLim, SpLotA, SpRecD, SpGenA, SpSome, SpGenL, SpRec, SpSortRec, SpCompact, SpGenR, PMerge, SpMrgA, SpSort, SpMrgB, SpMrgC, SpMrgD, PFin, SpTxt, SpFlt1, SpFlt2, SpFlt3, SpFlt4, SpFlt5, SpArg, SpFlt6, SpSortO, SpGenF. -/
import Derived.Test.YtahgfbhabpiplaaGreatDoorlawVR5
set_option linter.all false
section
/- Numbers of 64 bits sorted,compacted,looked for;lists of lists looked through: printed by program. -/
open Go
set_option linter.unusedSimpArgs false
namespace Go.Am
attribute [-go_sem] PV.cells splice
variable {h:aA} {K:jA}
theorem z5Y {v:AV}{g:Nat}{caps:List AV}{p:PV→Bool}{xs:List PV}(hv:Shows none v xs h)(hp:nG g caps p xs h)(hl:xs.length≤1000000000) :
 eA X nL [v,.fn g caps] h K=K (AI (LC p xs)) h []:=by
 refine tA ?_;rw[z8u];have vl:=hv.len
 simp only[WN,go_sem,vl];refine FA (fun k:Nat=>⟨[(0,v),(1,.fn g caps),(7,AI xs.length),(8,AI k)],h,[]⟩) (fun k=>k≤xs.length∧∀x∈xs.take k,p x=false) (fun k=>xs.length-k) 0 rfl (by simp) ?_
 rintro k ⟨hk,hn⟩
 rcases Nat.lt_or_ge k xs.length with hlt|hge
 ·obtain⟨a,ha,hb⟩:=hv.get k hlt
  have w2:IntKind.i64.wrap ((k:Int)+1)=((k+1:Nat):Int):=qA _ (by omega) (by omega)
  have ht:=hp _ (List.getElem_mem hlt)
  cases hpk:p xs[k]with
  | true=>
   have hf:xs.findIdx p=k:=by
    rw[List.findIdx_eq hlt];refine⟨hpk,fun j hj=>?_⟩
    have:=hn xs[j] (by rw[List.mem_take_iff_getElem];exact⟨j,by omega,rfl⟩)
    simpa using this
   simp only[go_sem,hlt,ha,hb,ht,hpk,w2];simp only[LC,hf,hlt,if_true]
  | false=>
   simp only[go_sem,hlt,ha,hb,ht,hpk,w2];refine⟨k+1,rfl,⟨by omega,fun x hx=>?_⟩,by omega⟩
   rw[List.take_succ_eq_append_getElem hlt,List.mem_append,List.mem_singleton]at hx;rcases hx with hx|hx
   ·exact hn x hx
   ·rw[hx];exact hpk
 ·have e1:k=xs.length:=by omega
  subst e1;simp only[go_sem,Nat.lt_irrefl];rw[List.take_length]at hn;have:¬xs.findIdx p<xs.length:=by
   rw[Nat.not_lt,Nat.le_iff_lt_or_eq];right
   exact(List.findIdx_eq_length.2 (fun x hx=>by simp [hn x hx])).symm
  simp [LC,this]
theorem z5J {g:Nat}{caps:List AV}{p:PV→Bool}{xs:List PV}(hp:nG g caps p xs h)(hs:XB none xs)(hl:xs.length≤1000000000) :
 eA X jL [.p (.sl none xs),.fn g caps] h K=K (AB (xs.any p)) h []:=by
 refine tA ?_;rw[z8n];have vi:=fun K=>z5Y (h:=h) (K:=K) (eR hs) hp hl
 simp only[RN,go_sem,vi,SW]
theorem zeh (id n:Nat)(l tl:List PV)(hn:n=l.length+tl.length)(hs:XB none l)(hl:l.length≤1000)(hh:h[id]?=some (.row none (l++tl) 0)){lt:PV→PV→Bool}(hc:∀ x∈l,∀ y∈l,∀ (h:aA) (K:jA),eA X EF [.p x,.p y] h K=K (AB (lt x y)) h []) :
 eA X sL [.own id n 0 l.length,AI 0,AI l.length] h K=K (.tup []) (h.set id (.row none (XA lt l++tl) 0)) []:=by
 refine tA ?_;rw[z8z];have hid:=YD hh
 have hst:∀o,(h.set id o)[id]?=some o:=fun o=>QD hid
 simp only[bO,go_sem,show IntKind.i64.wrap 1=1 from rfl]
 refine FA (fun i:Nat=>⟨[(0,.own id n 0 l.length),(1,AI 0),(2,AI l.length),(6,AI i)],h.set id (.row none ((bC lt (l.take i)).reverse++(l.drop i++tl)) 0),[]⟩) (fun i=>1≤i∧(i≤l.length∨i=1)) (fun i=>l.length-i) 1 ?_ (by simp) ?_
 ·have:(bC lt (l.take 1)).reverse++(l.drop 1++tl)=l++tl:=by cases l <;> rfl
  rw[this,dD hh];rfl
 rintro i ⟨hi1,hi2⟩
 rcases Nat.lt_or_ge i l.length with hlt|hge
 ·simp only[go_sem,hlt]
  have hxl:l[i]∈l:=List.getElem_mem hlt
  generalize hx:l[i]=x at *;generalize hR:bC lt (l.take i)=R;have hRl:R.length=i:=by rw[←hR,ZW];simp;omega
  have hRm:∀z∈R,z∈l:=fun z hz=>List.mem_of_mem_take ((IL lt (l.take i)).mem_iff.1 (by rw[hR];exact hz))
  have hdrop:l.drop i=x::l.drop (i+1):=by rw[←hx];exact List.drop_eq_getElem_cons hlt
  have hnext:bC lt (l.take (i+1))=nB lt x R:=by rw[aX _ _ _ hlt,hR,hx]
  refine FA (fun t:List PV×List PV=>⟨[(0,.own id n 0 l.length),(1,AI 0),(2,AI l.length),(6,AI i),(7,AI t.1.length)],h.set id (.row none (t.1.reverse++x::t.2) 0),[]⟩)
   (fun t=>∃B,R=B++t.1∧t.2=B.reverse++(l.drop (i+1)++tl)∧∀b∈B,lt x b=true) (fun t=>t.1.length) (R,l.drop (i+1)++tl) (by rw[hdrop,hRl];rfl) ⟨[],rfl,rfl,by simp⟩ ?_
  rintro⟨A,C⟩ ⟨B,q1,q2,q3⟩
  dsimp only at q1 q2 q3;have hlen:(A.reverse++x::C).length=n:=by
   have:R.length=B.length+A.length:=by rw[q1];simp
   rw[q2];simp;omega
  have hBA:B.length+A.length<l.length:=by
   have:R.length=B.length+A.length:=by rw[q1];simp
   omega
  have hln:l.length≤n:=by omega
  have w1:IntKind.i64.wrap ((i:Int)+1)=((i+1:Nat):Int):=qA _ (by omega) (by omega)
  cases A with
  | nil=>
   have hd:nB lt x R=B++[x]:=by rw[q1];exact gI lt x [] B q3 (fun y r h=>by cases h)
   simp only[go_sem,Int.lt_irrefl,w1];refine⟨i+1,?_,by omega,by omega⟩
   simp only[hnext,hd,q2,List.reverse_append,List.reverse_nil,List.nil_append,List.reverse_cons,List.append_assoc,List.cons_append]
  | cons y A=>
   have hyl:y∈l:=hRm y (by rw[q1];simp)
   have g1:=UW (y::A) C x
   have g2:=VW A C x y
   have sw:=WW A C x y
   simp only[List.length_cons]at hBA;generalize hrow:(y::A).reverse++x::C=row at *;simp only[List.length_cons]at g1;have w2:IntKind.i64.wrap (((A.length+1:Nat):Int)-1)=(A.length:Int):=by rw[qA _ (by omega) (by omega)];omega
   have p1:(0:Int)<((A.length+1:Nat):Int):=by omega
   have b1:A.length+1<l.length:=by omega
   have b2:A.length<l.length:=by omega
   have cx:=qC (hs x hxl)
   have cy:=qC (hs y hyl)
   have hcc:=fun h K=>hc x hxl y hyl h K
   cases hxy:lt x y with
   | false=>
    have hd:nB lt x R=B++x::y::A:=by rw[q1];exact gI lt x (y::A) B q3 (fun z r h=>by cases h;exact hxy)
    simp only[go_sem,hst,p1,hlen,g1,g2,w2,b1,b2,hln,cx,cy,hcc,hxy,w1];refine⟨i+1,?_,by omega,by omega⟩
    simp only[hnext,hd,←hrow,q2,List.reverse_append,List.reverse_cons,List.append_assoc,List.cons_append,List.nil_append]
   | true=>
    have g3:(row.set (A.length+1) y)[A.length]?=some y:=by rw[List.getElem?_set_ne (by omega),g2]
    have lx:=nF (hs x hxl)
    have ly:=nF (hs y hyl)
    have sx:=mF (hs x hxl)
    have sy:=mF (hs y hyl)
    simp only[gA]at lx ly;have t1:=fun i xs h1=>oF (hs x hxl) (hs y hyl) id i 0 xs h1
    have t2:=fun i xs h1=>oF (hs y hyl) (hs x hxl) id i 0 xs h1
    simp only[go_sem,hst,p1,hlen,g1,g2,g3,w2,b1,b2,hln,cx,cy,hcc,hxy,lx,ly,sx,sy,t1,t2,sw];refine⟨(A,y::C),rfl,⟨B++[y],by simp [q1],by simp [q2],fun b hb=>?_⟩,by simp⟩
    rw[List.mem_append,List.mem_singleton]at hb;rcases hb with hb|rfl
    ·exact q3 b hb
    ·exact hxy
 ·have hge':¬i<l.length:=by omega
  have e1:l.take i=l:=List.take_of_length_le hge
  have e2:l.drop i=[]:=List.drop_of_length_le hge
  simp only[go_sem,hge',e1,e2];rfl
theorem z6g (id n:Nat)(l tl:List PV)(hn:n=l.length+tl.length)(hs:XB none l)(hl:l.length≤12)(hh:h[id]?=some (.row none (l++tl) 0)){lt:PV→PV→Bool}(hc:∀ x∈l,∀ y∈l,∀ (h:aA) (K:jA),eA X EF [.p x,.p y] h K=K (AB (lt x y)) h []) :
 eA X pL [.own id n 0 l.length] h K=K (.tup []) (h.set id (.row none (XA lt l++tl) 0)) []:=by
 refine tA ?_;rw[z8w];have w0:IntKind.u64.wrap (l.length:Int)=l.length:=LZ _ (by omega) (by omega)
 obtain⟨m,hm⟩:=dX (l.length:Int) (by omega) (by omega)
 have is:=fun h' (hq:h'=h) K=>zeh (h:=h) (K:=K) id n l tl hn hs (by omega) hh hc
 have key:∀K:jA,eA X QG [.own id n 0 l.length,AI 0,AI l.length,AI m] h K=K (.tup []) (h.set id (.row none (XA lt l++tl) 0)) []:=by
  intro K;refine tA ?_;rw[z80];simp only[cO,go_sem];refine FA (fun _:Unit=>⟨[(0,.own id n 0 l.length),(1,AI 0),(2,AI l.length),(3,AI m),(8,AB true),(9,AB true)],h,[]⟩) (fun _=>True) (fun _=>0) () rfl trivial ?_
  intro _ _;have w1:IntKind.i64.wrap ((l.length:Int)-0)=l.length:=by rw[qA _ (by omega) (by omega)];omega
  have b1:((l.length:Int)≤12):=by omega
  simp only[go_sem,w1,b1,is _ rfl]
 simp only[YN,go_sem,w0,hm,key]
theorem z5H (id:Nat)(l:List PV)(hs:XB none l)(hl:l.length≤100000)(hh:h[id]?=some (.row none l 0)){q:PV→PV→Bool}(hq1:∀ x∈l,∀ y∈l,sA .eql (.p x) (.p y)=some (AB (q x y)))(hq2:∀ x∈l,∀ y∈l,sA .neq (.p x) (.p y)=some (AB (!q x y))) :
 eA X fL [.own id l.length 0 l.length] h K=K (.own id l.length 0 (OA q l).length) (h.set id (.row none (OA q l++List.replicate (l.length-(OA q l).length) (PV.int .u64 0)) 0)) []:=by
 refine tA ?_;rw[z8j];have hid:=YD hh
 have hst:∀o,(h.set id o)[id]?=some o:=fun o=>QD hid
 have hb:¬h.length≤id:=by omega
 have hb2:max h.length (id+1)=h.length:=by omega
 have hb3:id+1≤h.length:=hid
 by_cases h2:l.length<2
 ·have h2':(l.length:Int)<2:=by omega
  have e:OA q l=l:=by
   cases l with
   | nil=>rfl
   | cons x r=>
    have:r=[]:=List.length_eq_zero_iff.1 (by simp only[List.length_cons]at h2;omega)
    subst this;rfl
  simp only[AK,go_sem,h2',e,Nat.sub_self,List.replicate_zero,List.append_nil,hb,hb2,hb3];rw[dD hh]
 have h2':¬(l.length:Int)<2:=by omega
 simp only[AK,go_sem,h2'];refine FA (fun k:Nat=>⟨[(0,.own id l.length 0 l.length),(3,AI ((k+1:Nat):Int))],h,[]⟩) (fun k=>k+1≤l.length∧OA q (l.take (k+1))=l.take (k+1)) (fun k=>l.length-(k+1)) 0 rfl ⟨by omega,?_⟩ ?_
 ·cases l with
  | nil=>rfl
  | cons x r=>rfl
 rintro k ⟨hk,hc⟩
 rcases Nat.lt_or_ge (k+1) l.length with hlt|hge
 ·have hk0:k<l.length:=by omega
  have g1:l[k+1]?=some l[k+1]:=List.getElem?_eq_getElem hlt
  have g2:l[k]?=some l[k]:=List.getElem?_eq_getElem hk0
  have c1:=qC (eD hs hlt)
  have c2:=qC (eD hs hk0)
  have w1:IntKind.i64.wrap (((k+1:Nat):Int)-1)=(k:Int):=by rw[qA _ (by omega) (by omega)];omega
  have w2:IntKind.i64.wrap (((k+1:Nat):Int)+1)=((k+1+1:Nat):Int):=qA _ (by omega) (by omega)
  have hqk:=hq1 _ (List.getElem_mem hlt) _ (List.getElem_mem hk0)
  have hcs:=PM q l k hlt
  cases hqx:q l[k+1] l[k]with
  | false=>
   rw[hqx]at hcs;simp only[go_sem,hh,hlt,hk0,g1,g2,c1,c2,w1,w2,hqk,hqx];exact⟨k+1,rfl,⟨by omega,by rw[hcs,hc,cond_false,List.take_succ_eq_append_getElem hlt]⟩,by omega⟩
  | true=>
   rw[hqx,cond_true,List.append_nil,hc]at hcs;have hle:k+1≤l.length:=by omega
   simp only[go_sem,hh,hlt,hk0,hle,g1,g2,c1,c2,w1,hqk,hqx];have e0:k+1+(l.length-(k+1))=l.length:=by omega
   refine FA (fun t:List PV×Nat×Nat=>⟨[(0,.own id l.length 0 l.length),(3,AI ((t.2.1:Nat):Int)),(4,.own id l.length (k+1) (l.length-(k+1))),(5,AI ((t.2.2+1:Nat):Int))],h.set id (.row none t.1 0),[]⟩)
    (fun t=>t.1.length=l.length∧XB none t.1∧t.2.1≤k+1+t.2.2∧k+1+t.2.2<l.length∧t.1.take t.2.1=OA q (l.take (k+1+t.2.2+1))∧t.1.drop (k+1+t.2.2)=l.drop (k+1+t.2.2)) (fun t=>l.length-t.2.2)
    (l,k+1,0) (by rw[dD hh];rfl) ⟨rfl,hs,by simp,by simpa using hlt,by simpa using hcs.symm,rfl⟩ ?_
   rintro⟨row,i,j⟩ ⟨r1,r2,r3,r4,r5,r6⟩
   dsimp only at r1 r2 r3 r4 r5 r6;rcases Nat.lt_or_ge (k+1+j+1) l.length with hlt2|hge2
   ·have a1:row[k+1+j+1]?=some l[k+1+j+1]:=by
     have:=congrArg (·[1]?) r6
     simp only[List.getElem?_drop]at this;rw[this,List.getElem?_eq_getElem hlt2]
    have a2:row[k+1+j]?=some l[k+1+j]:=by
     have:=congrArg (·[0]?) r6
     simp only[List.getElem?_drop,Nat.add_zero]at this;rw[this,List.getElem?_eq_getElem r4]
    have s1:=eD hs hlt2
    have d1:=qC s1
    have d2:=qC (eD hs r4)
    have hil:i<l.length:=by omega
    have hir:i<row.length:=by omega
    have g3:row[i]?=some row[i]:=List.getElem?_eq_getElem hir
    have t1:=fun xs h1=>oF s1 (eD r2 hir) id i 0 xs h1
    have lx:=nF s1
    have sx:=mF s1
    simp only[gA]at lx;have v1:IntKind.i64.wrap (((j+1:Nat):Int)-1)=(j:Int):=by rw[qA _ (by omega) (by omega)];omega
    have v2:IntKind.i64.wrap (((j+1:Nat):Int)+1)=((j+1+1:Nat):Int):=qA _ (by omega) (by omega)
    have v3:IntKind.i64.wrap ((i:Int)+1)=((i+1:Nat):Int):=qA _ (by omega) (by omega)
    have p1:j+1<l.length-(k+1):=by omega
    have p2:j<l.length-(k+1):=by omega
    have p3:k+1+(j+1)=k+1+j+1:=by omega
    have p4:k+1+(l.length-(k+1))≤l.length:=by omega
    have hqj:=hq2 _ (List.getElem_mem hlt2) _ (List.getElem_mem r4)
    have hcs2:=PM q l (k+1+j) hlt2
    cases hqy:q l[k+1+j+1] l[k+1+j]with
    | true=>
     rw[hqy,cond_true,List.append_nil]at hcs2;simp only[go_sem,hst,r1,p1,p2,p3,p4,e0,a1,a2,d1,d2,v1,v2,hqj,hqy];refine⟨(row,i,j+1),rfl,⟨r1,r2,by dsimp only;omega,by dsimp only;omega,?_,?_⟩,by dsimp only;omega⟩
     ·dsimp only;rw[r5,←hcs2];rfl
     ·dsimp only;rw[show k+1+(j+1)=k+1+j+1 from rfl,←List.drop_drop,r6,List.drop_drop]
    | false=>
     rw[hqy,cond_false]at hcs2;simp only[go_sem,hst,r1,p1,p2,p3,p4,e0,a1,a2,g3,d1,d2,v1,v2,v3,hil,hqj,hqy,lx,sx,t1];refine⟨(row.set i l[k+1+j+1],i+1,j+1),rfl,⟨by simpa using r1,fun x hx=>?_,by dsimp only;omega,by dsimp only;omega,?_,?_⟩,by dsimp only;omega⟩
     ·rcases List.mem_or_eq_of_mem_set hx with hx|rfl
      ·exact r2 x hx
      ·exact s1
     ·dsimp only
      rw[show k+1+(j+1)+1=k+1+j+1+1 from rfl,hcs2,←r5,List.take_succ_eq_append_getElem (by simp;omega)]
      simp [List.take_set_of_le]
     ·dsimp only
      rw[List.drop_set_of_lt (by omega),show k+1+(j+1)=k+1+j+1 from rfl,←List.drop_drop,r6,List.drop_drop]
   ·have ej:k+1+j+1=l.length:=by omega
    rw[ej,List.take_length]at r5;have hil:i≤l.length:=by omega
    have hm:(OA q l).length=i:=by rw[←r5];simp;omega
    have p1:¬(j+1<l.length-(k+1)):=by omega
    have sp:splice row i (List.replicate (l.length-i) (PV.int .u64 0))=OA q l++List.replicate (l.length-i) (PV.int .u64 0):=by
     unfold splice;rw[r5,List.length_replicate,List.drop_of_length_le (by omega),List.append_nil]
    have rl:(OA q l++List.replicate (l.length-i) (PV.int .u64 0)).length=l.length:=by simp only[List.length_append,hm,List.length_replicate];omega
    rw[hm];generalize OA q l++List.replicate (l.length-i) (PV.int .u64 0)=row' at *;simp only[go_sem,hst,r1,rl,hil,p1,sp,show i+(l.length-i)=l.length by omega,hb,hb2,hb3]
 ·have ek:k+1=l.length:=by omega
  rw[ek,List.take_length]at hc;have hge':¬k+1<l.length:=by omega
  simp only[go_sem,hge',hc,Nat.sub_self,List.replicate_zero,List.append_nil,hb,hb2,hb3];rw[dD hh]
theorem z5G (id:Nat)(l:List PV)(hs:XB none l)(hl:l.length≤100000)(hh:h[id]?=some (.row none l 0)){q:PV→PV→Bool}(hq1:∀ x∈l,∀ y∈l,sA .eql (.p x) (.p y)=some (AB (q x y)))(hq2:∀ x∈l,∀ y∈l,sA .neq (.p x) (.p y)=some (AB (!q x y))) :
 eA X eL [.own id l.length 0 l.length] h K=K (.own id l.length 0 (OA q l).length) (h.set id (.row none (OA q l++List.replicate (l.length-(OA q l).length) (PV.int .i64 0)) 0)) []:=by
 refine tA ?_;rw[z8i];have hid:=YD hh
 have hst:∀o,(h.set id o)[id]?=some o:=fun o=>QD hid
 have hb:¬h.length≤id:=by omega
 have hb2:max h.length (id+1)=h.length:=by omega
 have hb3:id+1≤h.length:=hid
 by_cases h2:l.length<2
 ·have h2':(l.length:Int)<2:=by omega
  have e:OA q l=l:=by
   cases l with
   | nil=>rfl
   | cons x r=>
    have:r=[]:=List.length_eq_zero_iff.1 (by simp only[List.length_cons]at h2;omega)
    subst this;rfl
  simp only[zK,go_sem,h2',e,Nat.sub_self,List.replicate_zero,List.append_nil,hb,hb2,hb3];rw[dD hh]
 have h2':¬(l.length:Int)<2:=by omega
 simp only[zK,go_sem,h2'];refine FA (fun k:Nat=>⟨[(0,.own id l.length 0 l.length),(3,AI ((k+1:Nat):Int))],h,[]⟩) (fun k=>k+1≤l.length∧OA q (l.take (k+1))=l.take (k+1)) (fun k=>l.length-(k+1)) 0 rfl ⟨by omega,?_⟩ ?_
 ·cases l with
  | nil=>rfl
  | cons x r=>rfl
 rintro k ⟨hk,hc⟩
 rcases Nat.lt_or_ge (k+1) l.length with hlt|hge
 ·have hk0:k<l.length:=by omega
  have g1:l[k+1]?=some l[k+1]:=List.getElem?_eq_getElem hlt
  have g2:l[k]?=some l[k]:=List.getElem?_eq_getElem hk0
  have c1:=qC (eD hs hlt)
  have c2:=qC (eD hs hk0)
  have w1:IntKind.i64.wrap (((k+1:Nat):Int)-1)=(k:Int):=by rw[qA _ (by omega) (by omega)];omega
  have w2:IntKind.i64.wrap (((k+1:Nat):Int)+1)=((k+1+1:Nat):Int):=qA _ (by omega) (by omega)
  have hqk:=hq1 _ (List.getElem_mem hlt) _ (List.getElem_mem hk0)
  have hcs:=PM q l k hlt
  cases hqx:q l[k+1] l[k]with
  | false=>
   rw[hqx]at hcs;simp only[go_sem,hh,hlt,hk0,g1,g2,c1,c2,w1,w2,hqk,hqx];exact⟨k+1,rfl,⟨by omega,by rw[hcs,hc,cond_false,List.take_succ_eq_append_getElem hlt]⟩,by omega⟩
  | true=>
   rw[hqx,cond_true,List.append_nil,hc]at hcs;have hle:k+1≤l.length:=by omega
   simp only[go_sem,hh,hlt,hk0,hle,g1,g2,c1,c2,w1,hqk,hqx];have e0:k+1+(l.length-(k+1))=l.length:=by omega
   refine FA (fun t:List PV×Nat×Nat=>⟨[(0,.own id l.length 0 l.length),(3,AI ((t.2.1:Nat):Int)),(4,.own id l.length (k+1) (l.length-(k+1))),(5,AI ((t.2.2+1:Nat):Int))],h.set id (.row none t.1 0),[]⟩)
    (fun t=>t.1.length=l.length∧XB none t.1∧t.2.1≤k+1+t.2.2∧k+1+t.2.2<l.length∧t.1.take t.2.1=OA q (l.take (k+1+t.2.2+1))∧t.1.drop (k+1+t.2.2)=l.drop (k+1+t.2.2)) (fun t=>l.length-t.2.2)
    (l,k+1,0) (by rw[dD hh];rfl) ⟨rfl,hs,by simp,by simpa using hlt,by simpa using hcs.symm,rfl⟩ ?_
   rintro⟨row,i,j⟩ ⟨r1,r2,r3,r4,r5,r6⟩
   dsimp only at r1 r2 r3 r4 r5 r6;rcases Nat.lt_or_ge (k+1+j+1) l.length with hlt2|hge2
   ·have a1:row[k+1+j+1]?=some l[k+1+j+1]:=by
     have:=congrArg (·[1]?) r6
     simp only[List.getElem?_drop]at this;rw[this,List.getElem?_eq_getElem hlt2]
    have a2:row[k+1+j]?=some l[k+1+j]:=by
     have:=congrArg (·[0]?) r6
     simp only[List.getElem?_drop,Nat.add_zero]at this;rw[this,List.getElem?_eq_getElem r4]
    have s1:=eD hs hlt2
    have d1:=qC s1
    have d2:=qC (eD hs r4)
    have hil:i<l.length:=by omega
    have hir:i<row.length:=by omega
    have g3:row[i]?=some row[i]:=List.getElem?_eq_getElem hir
    have t1:=fun xs h1=>oF s1 (eD r2 hir) id i 0 xs h1
    have lx:=nF s1
    have sx:=mF s1
    simp only[gA]at lx;have v1:IntKind.i64.wrap (((j+1:Nat):Int)-1)=(j:Int):=by rw[qA _ (by omega) (by omega)];omega
    have v2:IntKind.i64.wrap (((j+1:Nat):Int)+1)=((j+1+1:Nat):Int):=qA _ (by omega) (by omega)
    have v3:IntKind.i64.wrap ((i:Int)+1)=((i+1:Nat):Int):=qA _ (by omega) (by omega)
    have p1:j+1<l.length-(k+1):=by omega
    have p2:j<l.length-(k+1):=by omega
    have p3:k+1+(j+1)=k+1+j+1:=by omega
    have p4:k+1+(l.length-(k+1))≤l.length:=by omega
    have hqj:=hq2 _ (List.getElem_mem hlt2) _ (List.getElem_mem r4)
    have hcs2:=PM q l (k+1+j) hlt2
    cases hqy:q l[k+1+j+1] l[k+1+j]with
    | true=>
     rw[hqy,cond_true,List.append_nil]at hcs2;simp only[go_sem,hst,r1,p1,p2,p3,p4,e0,a1,a2,d1,d2,v1,v2,hqj,hqy];refine⟨(row,i,j+1),rfl,⟨r1,r2,by dsimp only;omega,by dsimp only;omega,?_,?_⟩,by dsimp only;omega⟩
     ·dsimp only;rw[r5,←hcs2];rfl
     ·dsimp only;rw[show k+1+(j+1)=k+1+j+1 from rfl,←List.drop_drop,r6,List.drop_drop]
    | false=>
     rw[hqy,cond_false]at hcs2;simp only[go_sem,hst,r1,p1,p2,p3,p4,e0,a1,a2,g3,d1,d2,v1,v2,v3,hil,hqj,hqy,lx,sx,t1];refine⟨(row.set i l[k+1+j+1],i+1,j+1),rfl,⟨by simpa using r1,fun x hx=>?_,by dsimp only;omega,by dsimp only;omega,?_,?_⟩,by dsimp only;omega⟩
     ·rcases List.mem_or_eq_of_mem_set hx with hx|rfl
      ·exact r2 x hx
      ·exact s1
     ·dsimp only
      rw[show k+1+(j+1)+1=k+1+j+1+1 from rfl,hcs2,←r5,List.take_succ_eq_append_getElem (by simp;omega)]
      simp [List.take_set_of_le]
     ·dsimp only
      rw[List.drop_set_of_lt (by omega),show k+1+(j+1)=k+1+j+1 from rfl,←List.drop_drop,r6,List.drop_drop]
   ·have ej:k+1+j+1=l.length:=by omega
    rw[ej,List.take_length]at r5;have hil:i≤l.length:=by omega
    have hm:(OA q l).length=i:=by rw[←r5];simp;omega
    have p1:¬(j+1<l.length-(k+1)):=by omega
    have sp:splice row i (List.replicate (l.length-i) (PV.int .i64 0))=OA q l++List.replicate (l.length-i) (PV.int .i64 0):=by
     unfold splice;rw[r5,List.length_replicate,List.drop_of_length_le (by omega),List.append_nil]
    have rl:(OA q l++List.replicate (l.length-i) (PV.int .i64 0)).length=l.length:=by simp only[List.length_append,hm,List.length_replicate];omega
    rw[hm];generalize OA q l++List.replicate (l.length-i) (PV.int .i64 0)=row' at *;simp only[go_sem,hst,r1,rl,hil,p1,sp,show i+(l.length-i)=l.length by omega,hb,hb2,hb3]
 ·have ek:k+1=l.length:=by omega
  rw[ek,List.take_length]at hc;have hge':¬k+1<l.length:=by omega
  simp only[go_sem,hge',hc,Nat.sub_self,List.replicate_zero,List.append_nil,hb,hb2,hb3];rw[dD hh]
theorem z5X {v:AV}{g:Nat}{caps:List AV}{p:PV→Bool}{xs:List PV}(hv:Shows none v xs h)(hp:nG g caps p xs h)(hl:xs.length≤1000000000) :
 eA X mL [v,.fn g caps] h K=K (AI (LC p xs)) h []:=by
 refine tA ?_;rw[z8s];have vl:=hv.len
 simp only[UN,go_sem,vl];refine FA (fun k:Nat=>⟨[(0,v),(1,.fn g caps),(7,AI xs.length),(8,AI k)],h,[]⟩) (fun k=>k≤xs.length∧∀x∈xs.take k,p x=false) (fun k=>xs.length-k) 0 rfl (by simp) ?_
 rintro k ⟨hk,hn⟩
 rcases Nat.lt_or_ge k xs.length with hlt|hge
 ·obtain⟨a,ha,hb⟩:=hv.get k hlt
  have w2:IntKind.i64.wrap ((k:Int)+1)=((k+1:Nat):Int):=qA _ (by omega) (by omega)
  have ht:=hp _ (List.getElem_mem hlt)
  cases hpk:p xs[k]with
  | true=>
   have hf:xs.findIdx p=k:=by
    rw[List.findIdx_eq hlt];refine⟨hpk,fun j hj=>?_⟩
    have:=hn xs[j] (by rw[List.mem_take_iff_getElem];exact⟨j,by omega,rfl⟩)
    simpa using this
   simp only[go_sem,hlt,ha,hb,ht,hpk,w2];simp only[LC,hf,hlt,if_true]
  | false=>
   simp only[go_sem,hlt,ha,hb,ht,hpk,w2];refine⟨k+1,rfl,⟨by omega,fun x hx=>?_⟩,by omega⟩
   rw[List.take_succ_eq_append_getElem hlt,List.mem_append,List.mem_singleton]at hx;rcases hx with hx|hx
   ·exact hn x hx
   ·rw[hx];exact hpk
 ·have e1:k=xs.length:=by omega
  subst e1;simp only[go_sem,Nat.lt_irrefl];rw[List.take_length]at hn;have:¬xs.findIdx p<xs.length:=by
   rw[Nat.not_lt,Nat.le_iff_lt_or_eq];right
   exact(List.findIdx_eq_length.2 (fun x hx=>by simp [hn x hx])).symm
  simp [LC,this]
theorem z5I {g:Nat}{caps:List AV}{p:PV→Bool}{xs:List PV}(hp:nG g caps p xs h)(hs:XB none xs)(hl:xs.length≤1000000000) :
 eA X gL [.p (.sl none xs),.fn g caps] h K=K (AB (xs.any p)) h []:=by
 refine tA ?_;rw[z8l];have vi:=fun K=>z5X (h:=h) (K:=K) (eR hs) hp hl
 simp only[PN,go_sem,vi,SW]
end Go.Am
end
section
/- Faults of nets: what the words mean,in plain Lean. -/
set_option linter.all false
namespace Go.Am
def XW (c:UInt8):Bool:=[48,49].contains c
def zB (s:List UInt8):Bool:=s.all XW
theorem GK (p:UInt8→Bool):∀l:List UInt8,l.dropWhile p=[]↔l.all p=true
 | []=>by simp
 | c::r=>by
  rw[List.dropWhile_cons,List.all_cons];cases hp:p c with
  | true=>simp only[if_true,Bool.true_and];exact GK p r
  | false=>simp
theorem ziw (s:List UInt8):decide ((s.reverse.dropWhile ([48,49].contains ·)).reverse.dropWhile ([48,49].contains ·)=[])=zB s:=by
 rw[Bool.eq_iff_iff,decide_eq_true_eq,GK,List.all_reverse];have hb:zB s=s.all ([48,49].contains ·):=rfl
 rw[hb];constructor
 ·intro h
  rw[←GK]at h;have key:∀l:List UInt8,(l.dropWhile ([48,49].contains ·)).all ([48,49].contains ·)=true→l.all ([48,49].contains ·)=true:=by
   intro l;induction l with
   | nil=>intro _;rfl
   | cons c r ih=>
    rw[List.dropWhile_cons];split
    ·rename_i hp;intro h;rw[List.all_cons,hp,ih h];rfl
    ·exact id
  have:=key s.reverse ((GK _ _).1 h);rwa [List.all_reverse]at this
 ·intro h
  have key:∀l:List UInt8,l.all ([48,49].contains ·)=true→(l.dropWhile ([48,49].contains ·)).all ([48,49].contains ·)=true:=by
   intro l hl;rw[(GK _ l).2 hl];rfl
  exact key _ (by rwa [List.all_reverse])
def CE (long:Nat):List (List UInt8)→Int
 | []=>0
 | s::r=>if zB s=false then 3 else if 64<s.length then 2 else if s.length≠long then 3 else CE long r
def RC (t:List (List UInt8)):Int:=if t.length=0 then 8 else if 100<t.length then 2 else CE (t.headD []).length t
structure Flt where
 kind:Int
 nets:List Int
 deriving DecidableEq
def wC (n:Int)(x:Int):Bool:=decide (x<0)||decide (n-1<x)
def BE (k:Int):Bool:=decide (3≤k)&&decide (k≤5)
def zE:List Int→Bool
 | a::b::r=>decide (a<b)&&zE (b::r)
 | _=>true
def NB (n:Int)(f:Flt):Int:=
 if n<1∨100<n then 1 else if f.kind<1∨6<f.kind then 4 else if f.nets.length=0 then 8 else if 6<f.nets.length then 2
 else if f.nets.any (wC n)=true then 1 else if BE f.kind≠decide (1<f.nets.length) then 3
 else if zE (if f.kind=5 then f.nets.drop 1 else f.nets)=false then 7
 else if f.kind=5∧(f.nets.drop 1).contains (f.nets.headD 0)=true then 6 else 0
def FD (n:Int):List Flt→Int
 | []=>0
 | f::r=>if NB n f≠0 then NB n f else FD n r
theorem z3T (l:List Int)(k:Nat)(hk:k+1<l.length):zE (l.drop k)=(decide (l[k]<l[k+1])&&zE (l.drop (k+1))):=by
 rw[List.drop_eq_getElem_cons (show k<l.length by omega),List.drop_eq_getElem_cons hk]
 rfl
theorem z3S (l:List Int)(k:Nat)(hk:l.length≤k+1):zE (l.drop k)=true:=by
 have:(l.drop k).length≤1:=by simp;omega
 match l.drop k,this with
 | [],_=>rfl
 | [a],_=>rfl
 | _::_::_,h=>simp at h
end Go.Am
end
section
/- Numbers asv sets of bits;rows of a test asv numbers. -/
set_option linter.all false
namespace Go.Am
theorem iG (n:Nat)(h:n<18446744073709551616):IntKind.u64.wrap (n:Int)=(n:Int):=by
 simp [IntKind.wrap,IntKind.bits,IntKind.signed];omega
theorem bvN (a:Nat):BitVec.ofInt 64 (a:Int)=BitVec.ofNat 64 a:=by simp
theorem WB:(2:Nat)^64=18446744073709551616:=rfl
theorem sO {a b:Nat}(ha:a<18446744073709551616)(hb:b<18446744073709551616):ior .u64 a b=((a ||| b:Nat):Int):=by
 show IntKind.u64.wrap ((BitVec.ofInt 64 (a:Int) ||| BitVec.ofInt 64 (b:Int)).toNat:Int)=_
 rw[bvN,bvN,BitVec.toNat_or,BitVec.toNat_ofNat,BitVec.toNat_ofNat,Nat.mod_eq_of_lt (by rw[WB];exact ha),Nat.mod_eq_of_lt (by rw[WB];exact hb)]
 exact iG _ (by rw[←WB]at *;exact Nat.or_lt_two_pow ha hb)
theorem aE {a b:Nat}(ha:a<18446744073709551616)(hb:b<18446744073709551616):uC .u64 a b=((a &&& b:Nat):Int):=by
 show IntKind.u64.wrap ((BitVec.ofInt 64 (a:Int) &&& BitVec.ofInt 64 (b:Int)).toNat:Int)=_
 rw[bvN,bvN,BitVec.toNat_and,BitVec.toNat_ofNat,BitVec.toNat_ofNat,Nat.mod_eq_of_lt (by rw[WB];exact ha),Nat.mod_eq_of_lt (by rw[WB];exact hb)]
 exact iG _ (by rw[←WB]at *;exact Nat.lt_of_le_of_lt Nat.and_le_left ha)
theorem z2R {a b:Nat}(ha:a<18446744073709551616)(hb:b<18446744073709551616):UG .u64 a b=((a ^^^ b:Nat):Int):=by
 show IntKind.u64.wrap ((BitVec.ofInt 64 (a:Int) ^^^ BitVec.ofInt 64 (b:Int)).toNat:Int)=_
 rw[bvN,bvN,BitVec.toNat_xor,BitVec.toNat_ofNat,BitVec.toNat_ofNat,Nat.mod_eq_of_lt (by rw[WB];exact ha),Nat.mod_eq_of_lt (by rw[WB];exact hb)]
 exact iG _ (by rw[←WB]at *;exact Nat.xor_lt_two_pow ha hb)
theorem YW {a i:Nat}(hi:i≤64)(hl:a*2^i<18446744073709551616):uE .u64 (a:Int) (i:Int)=((a*2^i:Nat):Int):=by
 unfold uE;have:min ((i:Int)).toNat IntKind.u64.bits=i:=by simp only[IntKind.bits,Int.toNat_natCast];omega
 rw[this,←iG _ hl];congr 1
theorem NF {a i:Nat}(hi:i≤64):MC .u64 (a:Int) (i:Int)=((a / 2^i:Nat):Int):=by
 unfold MC;have:min ((i:Int)).toNat IntKind.u64.bits=i:=by simp only[IntKind.bits,Int.toNat_natCast];omega
 rw[this];rw[show((2:Int)^i)=((2^i:Nat):Int) by simp]
 exact(Int.ofNat_fdiv a (2^i)).symm
theorem jT (n i:Nat):(n / 2^i) &&& 1=if n.testBit i then 1 else 0:=by
 rw[Nat.and_one_is_mod];have:=Nat.testBit_eq_decide_div_mod_eq (x:=n) (i:=i);rw[this];split
 ·rename_i h;simpa using h
 ·rename_i h;simp at h;omega
def zA:List UInt8→Nat
 | []=>0
 | c::r=>(c.toNat-48)+2*zA r
theorem nT {c:UInt8}{r:List UInt8}(h:zB (c::r)=true):(c=48∨c=49)∧zB r=true:=by
 unfold zB at *;rw[List.all_cons,Bool.and_eq_true]at h;refine⟨?_,h.2⟩;have:=h.1;unfold XW at this;simpa [List.contains_cons] using this
theorem SQ:∀ (s:List UInt8),zB s=true→zA s<2^s.length
 | [],_=>by simp [zA]
 | c::r,h=>by
  obtain⟨h1,h2⟩:=nT h;have:=SQ r h2;rw[zA,List.length_cons,Nat.pow_succ];rcases h1 with rfl|rfl <;> simp <;> omega
theorem z3W:∀ (s:List UInt8) (i:Nat),zB s=true→(zA s).testBit i=decide (s[i]?=some 49)
 | [],i,_=>by simp [zA]
 | c::r,0,h=>by
  obtain⟨h1,h2⟩:=nT h;rw[zA,Nat.testBit_zero];rcases h1 with rfl|rfl <;> simp <;> omega
 | c::r,i+1,h=>by
  obtain⟨h1,h2⟩:=nT h;have ih:=z3W r i h2
  rw[zA,Nat.testBit_succ,List.getElem?_cons_succ,←ih];congr 1
  rcases h1 with rfl|rfl <;> simp <;> omega
theorem z0E {s:List UInt8}(k:Nat)(h:zB s=true):zB (s.take k)=true:=by
 unfold zB at *;rw[List.all_eq_true]at *;exact fun x hx=>h x (List.mem_of_mem_take hx)
theorem z0D {s:List UInt8}{k:Nat}(hk:k<s.length)(h:zB s=true):s[k]=48∨s[k]=49:=by
 unfold zB at h;have:=List.all_eq_true.1 h _ (List.getElem_mem hk);unfold XW at this;simpa [List.contains_cons] using this
theorem z3X:∀ (s:List UInt8) (c:UInt8),zA (s++[c])=zA s+(c.toNat-48)*2^s.length
 | [],c=>by simp [zA]
 | a::r,c=>by
  rw[List.cons_append,zA,z3X r c,zA,List.length_cons,Nat.pow_succ,Nat.mul_add,Nat.mul_left_comm 2,Nat.mul_comm 2 (2^r.length),Nat.add_assoc]
theorem zgd (a b i:Nat)(h:a<2^i):a ||| b*2^i=a+b*2^i:=by
 have:=Nat.two_pow_add_eq_or_of_lt h b;rw[Nat.or_comm,Nat.mul_comm b,←this,Nat.add_comm]
theorem zgC {s:List UInt8}{k:Nat}(hk:k<s.length)(h:zB s=true):zA (s.take k) ||| (s[k].toNat-48)*2^k=zA (s.take (k+1)):=by
 have h1:=SQ (s.take k) (z0E k h)
 rw[List.length_take,Nat.min_eq_left (by omega)]at h1
 rw[zgd _ _ _ h1,List.take_succ_eq_append_getElem hk,z3X,List.length_take,Nat.min_eq_left (by omega)]
def BC (b:Bool):UInt8:=bif b then 49 else 48
def eB (long n:Nat):List UInt8:=(List.range long).map fun i=>BC (n.testBit i)
def dB (r:List Nat)(n:Int):Nat:=r.getD n.toNat 0
def KC (r:List Nat)(f:Flt)(ones:Nat):Nat:=
 if f.kind=1 then 0 else if f.kind=2∨f.kind=6 then ones
 else if f.kind=3 then f.nets.foldl (fun v n=>v &&& dB r n) (dB r (f.nets.headD 0))
 else if f.kind=4 then f.nets.foldl (fun v n=>v ||| dB r n) (dB r (f.nets.headD 0))
 else dB r (f.nets.headD 0)
def QB (v:Nat):List Int→List Nat→List Nat
 | [],r=>r
 | n::l,r=>QB v l (r.set n.toNat v)
def UB (r:List Nat)(f:Flt)(ones:Nat):List Nat:=QB (KC r f ones) f.nets r
theorem zZ (v:Nat):∀(l:List Int) (r:List Nat),(QB v l r).length=r.length
 | [],r=>rfl
 | n::l,r=>by rw[QB,zZ v l,List.length_set]
theorem yZ (v:Nat):∀(l:List Int) (r:List Nat) (k:Nat),(∀n∈l,0≤n)→(QB v l r)[k]?=if(k:Int)∈l∧k<r.length then some v else r[k]?
 | [],r,k,_=>by simp [QB]
 | n::l,r,k,h=>by
  rw[QB,yZ v l _ k (fun m hm=>h m (by simp [hm])),List.length_set,List.getElem?_set]
  have h0:=h n (by simp)
  by_cases hk:k<r.length
  ·by_cases hm:(k:Int)∈l
   ·simp [hk,hm]
   ·by_cases hn:n.toNat=k
    ·have:(k:Int)=n:=by omega
     simp [hk,hm,hn,this]
    ·have:¬(k:Int)=n:=by omega
     simp [hk,hm,hn,this]
  ·have hn:r[k]?=none:=List.getElem?_eq_none (by omega)
   simp [hk,hn];intro e;omega
theorem z4K (v:Nat)(n:Int):∀(l:List Int) (r:List Nat),QB v (l++[n]) r=(QB v l r).set n.toNat v
 | [],r=>rfl
 | m::l,r=>by rw[List.cons_append,QB,z4K v n l,QB]
theorem yL {f:Nat→Nat→Nat}{B:Nat}(hf:∀ a b,a<B→b<B→f a b<B)(g:Int→Nat)(hg:∀ n,g n<B):∀(l:List Int) (v:Nat),v<B→l.foldl (fun v n=>f v (g n)) v<B
 | [],v,h=>h
 | n::l,v,h=>by rw[List.foldl_cons];exact yL hf g hg l _ (hf _ _ h (hg n))
theorem z3U {r:List Nat}{B:Nat}(hr:∀ x∈r,x<B)(h0:0<B)(n:Int):dB r n<B:=by
 unfold dB;rw[List.getD_eq_getElem?_getD];cases hq:r[n.toNat]? with
 | none=>exact h0
 | some x=>exact hr x (List.mem_of_getElem? hq)
theorem zdD {r:List Nat}{f:Flt}{ones e:Nat}(hr:∀ x∈r,x<2^e)(ho:ones<2^e):KC r f ones<2^e:=by
 have h0:0<2^e:=Nat.two_pow_pos e
 have hq:=z3U hr h0
 unfold KC;split
 ·exact h0
 split
 ·exact ho
 split
 ·exact yL (f:=(· &&& ·)) (fun a b ha hb=>Nat.lt_of_le_of_lt Nat.and_le_left ha) (dB r) hq _ _ (hq _)
 split
 ·exact yL (f:=(· ||| ·)) (fun a b ha hb=>Nat.or_lt_two_pow ha hb) (dB r) hq _ _ (hq _)
 ·exact hq _
theorem z4J {v B:Nat}(hv:v<B):∀(l:List Int) (r:List Nat),(∀x∈r,x<B)→∀x∈QB v l r,x<B
 | [],r,h=>h
 | n::l,r,h=>by
  rw[QB];refine z4J hv l _ (fun x hx=>?_)
  rcases List.mem_or_eq_of_mem_set hx with hx|rfl
  ·exact h x hx
  ·exact hv
theorem RW {r:List Nat}{f:Flt}{ones e:Nat}(hr:∀ x∈r,x<2^e)(ho:ones<2^e):∀x∈UB r f ones,x<2^e:=z4J (zdD hr ho) _ _ hr
theorem BL (r:List Nat)(f:Flt)(ones:Nat):(UB r f ones).length=r.length:=zZ _ _ _
end Go.Am
end
section
/- Shorted nets respond alike: in plain Lean. -/
set_option linter.all false
namespace Go.Am
theorem zik {long n v:Nat}(hv:v<long):(eB long n)[v]?=some (BC (n.testBit v)):=by
 unfold eB;rw[List.getElem?_map,List.getElem?_range hv];rfl
section
variable (r:List Nat) (x y:Int) (ones:Nat)
def pC (f:Flt)(i:Nat):Nat:=if(i:Int)∈f.nets then KC r f ones else r.getD i 0
variable {r x y ones}
end
end Go.Am
end
section
/- What a fault changes,and the first vector that shows it: in plain Lean. -/
set_option linter.all false
namespace Go.Am
def dtK (r2 r:List Nat):Nat→Nat
 | 0=>0
 | k+1=>dtK r2 r k ||| (r2.getD k 0 ^^^ r.getD k 0)
def AG (lg:Nat)(r:List Nat)(f:Flt):Nat:=dtK (UB r f (2^lg-1)) r r.length
theorem z1I (r2 r:List Nat)(v:Nat):∀k,(dtK r2 r k).testBit v=true↔∃i,i<k∧(r2.getD i 0).testBit v≠(r.getD i 0).testBit v
 | 0=>by simp [dtK]
 | k+1=>by
  rw[dtK,Nat.testBit_or,Nat.testBit_xor,Bool.or_eq_true,z1I r2 r v k];constructor
  ·rintro (⟨i,h1,h2⟩|h)
   ·exact⟨i,by omega,h2⟩
   ·exact⟨k,by omega,by simpa using h⟩
  ·rintro⟨i,h1,h2⟩
   by_cases hi:i=k
   ·subst hi;right;simpa using h2
   ·left;exact⟨i,by omega,h2⟩
theorem CW {r2 r:List Nat}{e:Nat}(h2:∀ x∈r2,x<2^e)(h1:∀ x∈r,x<2^e):∀k,dtK r2 r k<2^e
 | 0=>Nat.two_pow_pos e
 | k+1=>by
  have g:∀(l:List Nat),(∀x∈l,x<2^e)→l.getD k 0<2^e:=fun l hl=>by
   rw[List.getD_eq_getElem?_getD];cases hq:l[k]? with
   | none=>exact Nat.two_pow_pos e
   | some x=>exact hl x (List.mem_of_getElem? hq)
  exact Nat.or_lt_two_pow (CW h2 h1 k) (Nat.xor_lt_two_pow (g _ h2) (g _ h1))
theorem zga (lg:Nat):2^lg-1<2^lg:=by have:=Nat.two_pow_pos lg;omega
theorem z9b {lg:Nat}{r:List Nat}{f:Flt}(h:∀ x∈r,x<2^lg):AG lg r f<2^lg:=CW (RW h (zga lg)) h _
end Go.Am
end
section
/- How many bits are set: the library's way of counting them. -/
set_option linter.all false
namespace Go.Am
def oA:Nat→Nat→Nat
 | 0,_=>0
 | k+1,n=>n%2+oA k (n / 2)
def hB:List Nat→Nat
 | []=>0
 | b::r=>b+256*hB r
def fD:Nat→Nat→List Nat
 | 0,_=>[]
 | k+1,n=>n%256::fD k (n / 256)
theorem z2I:∀ (k n:Nat),n<256^k→hB (fD k n)=n
 | 0,n,h=>by simp at h;simp [fD,hB,h]
 | k+1,n,h=>by
  rw[Nat.pow_succ]at h;rw[fD,hB,z2I k _ (by omega)]
  omega
theorem z5a:∀ (k n:Nat),∀ b∈fD k n,b<256
 | 0,n,b,h=>by cases h
 | k+1,n,b,h=>by
  rcases List.mem_cons.1 h with e|e
  ·omega
  ·exact z5a k _ b e
theorem aZ:∀ (k j n:Nat),oA (k+j) n=oA k n+oA j (n / 2^k)
 | 0,j,n=>by simp [oA]
 | k+1,j,n=>by
  rw[Nat.add_right_comm,oA,aZ k j,oA,Nat.pow_succ,Nat.mul_comm (2^k) 2,←Nat.div_div_eq_div_mul,Nat.add_assoc]
theorem z39:∀ (k n m:Nat),oA k (n+2^k*m)=oA k n
 | 0,n,m=>rfl
 | k+1,n,m=>by
  have e1:(n+2^(k+1)*m)%2=n%2:=by rw[Nat.pow_succ,Nat.mul_comm (2^k) 2,Nat.mul_assoc];omega
  have e2:(n+2^(k+1)*m) / 2=n / 2+2^k*m:=by rw[Nat.pow_succ,Nat.mul_comm (2^k) 2,Nat.mul_assoc];omega
  rw[oA,e1,e2,z39 k,oA]
theorem z38:∀ (k n:Nat),oA (8*k) n=((fD k n).map (oA 8)).sum
 | 0,n=>rfl
 | k+1,n=>by
  rw[Nat.mul_add,Nat.add_comm,aZ,z38 k,fD,List.map_cons,List.sum_cons];have h:oA 8 n=oA 8 (n%256):=by
   have:=z39 8 (n%256) (n / 256);rw[show n%256+2^8*(n / 256)=n by omega]at this
   exact this
  rw[h]
theorem UJ {d e:Nat}(y m:Nat)(hd:d<256)(he:e<256):(d+256*y) &&& (e+256*m)=(d &&& e)+256*(y &&& m):=by
 have h8:(256:Nat)=2^8:=rfl
 have h3:d &&& e<2^8:=Nat.lt_of_le_of_lt Nat.and_le_left hd
 rw[h8,Nat.add_comm d,Nat.add_comm e,Nat.add_comm (d &&& e),Nat.two_pow_add_eq_or_of_lt (by omega),Nat.two_pow_add_eq_or_of_lt (by omega),Nat.two_pow_add_eq_or_of_lt h3]
 apply Nat.eq_of_testBit_eq
 intro i;have hz:∀a,a<2^8→8≤i→a.testBit i=false:=fun a ha hi=>Nat.testBit_lt_two_pow (Nat.lt_of_lt_of_le ha (Nat.pow_le_pow_right (by omega) hi))
 simp only[Nat.testBit_and,Nat.testBit_or,Nat.testBit_two_pow_mul];by_cases hi:8≤i
 ·simp [hi,hz d (by omega) hi,hz e (by omega) hi]
 ·simp [hi]
def t1 (b:Nat):Nat:=(b / 2 &&& 85)+(b &&& 85)
def t2 (b:Nat):Nat:=(b / 4 &&& 51)+(b &&& 51)
theorem f1:∀ b:Fin 256,∀ c:Fin 2,(b.val / 2+128*c.val) &&& 85=b.val / 2 &&& 85:=by decide +kernel
theorem f2:∀ b:Fin 256,∀ c:Fin 4,(b.val / 4+64*c.val) &&& 51=b.val / 4 &&& 51:=by decide +kernel
theorem f3:∀ b:Fin 256,t1 b.val<256∧t2 b.val<256∧t2 (t1 b.val)≤68∧t2 (t1 b.val)%16≤4∧t2 (t1 b.val) / 16+t2 (t1 b.val)%16=oA 8 b.val:=by decide +kernel
theorem f4:∀ c:Fin 69,∀ k:Fin 5,c.val%16≤4→(c.val / 16+c.val+16*k.val) &&& 15=c.val / 16+c.val%16:=by decide +kernel
theorem l1:∀ l:List Nat,(∀ b∈l,b<256)→(hB l / 2 &&& hB (l.map fun _=>85))+(hB l &&& hB (l.map fun _=>85))=hB (l.map t1)
 | [],_=>rfl
 | b::r,h=>by
  have hb:=h b (by simp)
  have ih:=l1 r fun x hx=>h x (by simp [hx])
  simp only[hB,List.map_cons];have e:(b+256*hB r) / 2=(b / 2+128*(hB r%2))+256*(hB r / 2):=by omega
  rw[e,UJ _ _ (by omega) (by omega),UJ _ _ hb (by omega),f1 ⟨b,hb⟩ ⟨hB r%2,by omega⟩,←ih]
  unfold t1;dsimp only;omega
theorem l2:∀ l:List Nat,(∀ b∈l,b<256)→(hB l / 4 &&& hB (l.map fun _=>51))+(hB l &&& hB (l.map fun _=>51))=hB (l.map t2)
 | [],_=>rfl
 | b::r,h=>by
  have hb:=h b (by simp)
  have ih:=l2 r fun x hx=>h x (by simp [hx])
  simp only[hB,List.map_cons];have e:(b+256*hB r) / 4=(b / 4+64*(hB r%4))+256*(hB r / 4):=by omega
  rw[e,UJ _ _ (by omega) (by omega),UJ _ _ hb (by omega),f2 ⟨b,hb⟩ ⟨hB r%4,by omega⟩,←ih]
  unfold t2;dsimp only;omega
theorem zdM {l:List Nat}(h:∀ b∈l,b%16≤4):hB l%16≤4:=by
 cases l with
 | nil=>simp [hB]
 | cons b r=>have:=h b (by simp);simp only[hB];omega
theorem l3:∀ l:List Nat,(∀ b∈l,b≤68∧b%16≤4)→(hB l / 16+hB l) &&& hB (l.map fun _=>15)=hB (l.map fun c=>c / 16+c%16)
 | [],_=>rfl
 | b::r,h=>by
  obtain⟨hb,hb2⟩:=h b (by simp)
  have ih:=l3 r fun x hx=>h x (by simp [hx])
  have hm:=zdM (l:=r) fun x hx=>(h x (by simp [hx])).2
  simp only[hB,List.map_cons];have e:(b+256*hB r) / 16+(b+256*hB r)=(b / 16+b+16*(hB r%16))+256*(hB r / 16+hB r):=by omega
  rw[e,UJ _ _ (by omega) (by omega),f4 ⟨b,by omega⟩ ⟨hB r%16,by omega⟩ hb2,ih]
def WA (x:Nat):Nat:=(x / 2 &&& 6148914691236517205)+(x &&& 6148914691236517205)
def qB (x:Nat):Nat:=(x / 4 &&& 3689348814741910323)+(x &&& 3689348814741910323)
def LB (x:Nat):Nat:=(x / 16+x) &&& 1085102592571150095
theorem zgm {x:Nat}(h:x<18446744073709551616):LB (qB (WA x))=hB ((fD 8 x).map (oA 8)):=by
 have h0:=z2I 8 x (by rw[show(256:Nat)^8=18446744073709551616 from rfl];exact h)
 have hb:=z5a 8 x
 have hlen:fD 8 x=[x%256,x / 256%256,x / 256 / 256%256,x / 256 / 256 / 256%256,x / 256 / 256 / 256 / 256%256,x / 256 / 256 / 256 / 256 / 256%256,x / 256 / 256 / 256 / 256 / 256 / 256%256,x / 256 / 256 / 256 / 256 / 256 / 256 / 256%256]:=rfl
 have m1:hB ((fD 8 x).map fun _=>85)=6148914691236517205:=by rw[hlen];simp [hB]
 have m2:hB (((fD 8 x).map t1).map fun _=>51)=3689348814741910323:=by rw[hlen];simp [hB]
 have m3:hB ((((fD 8 x).map t1).map t2).map fun _=>15)=1085102592571150095:=by rw[hlen];simp [hB]
 generalize fD 8 x=l at *;have q1:∀b∈l.map t1,b<256:=fun b hb'=>by
  obtain⟨c,hc,rfl⟩:=List.mem_map.1 hb';exact(f3 ⟨c,hb c hc⟩).1
 have q2:∀b∈(l.map t1).map t2,b≤68∧b%16≤4:=fun b hb'=>by
  rw[List.map_map]at hb';obtain⟨c,hc,rfl⟩:=List.mem_map.1 hb';have:=f3 ⟨c,hb c hc⟩;exact⟨this.2.2.1,this.2.2.2.1⟩
 have s1:WA x=hB (l.map t1):=by rw[←l1 l hb,m1,h0];rfl
 have s2:qB (WA x)=hB ((l.map t1).map t2):=by rw[s1,←l2 _ q1,m2];rfl
 have s3:LB (qB (WA x))=hB (((l.map t1).map t2).map fun c=>c / 16+c%16):=by rw[s2,←l3 _ q2,m3];rfl
 rw[s3,List.map_map,List.map_map];congr 1
 apply List.map_congr_left
 intro c hc;exact(f3 ⟨c,hb c hc⟩).2.2.2.2
theorem cH:∀ (k n:Nat),oA k n≤k
 | 0,n=>Nat.le_refl _
 | k+1,n=>by have:=cH k (n / 2);rw[oA];omega
theorem dv1 (p y:Nat)(h:p<256):(p+256*y) / 256=y:=by omega
theorem dv2 (p y:Nat)(h:p<65536):(p+65536*y) / 65536=y:=by omega
theorem dv4 (p y:Nat)(h:p<4294967296):(p+4294967296*y) / 4294967296=y:=by omega
theorem md7 (s y:Nat)(h:s<128):(s+128*y)%128=s:=by omega
theorem sm1 (p0 p1 p2 p3 p4 p5 p6 p7:Nat):p0+256*(p1+256*(p2+256*(p3+256*(p4+256*(p5+256*(p6+256*(p7+256*0)))))))+(p1+256*(p2+256*(p3+256*(p4+256*(p5+256*(p6+256*(p7+256*0)))))))
 = ((p0+p1)+256*(p1+p2))+65536*((p2+p3)+256*((p3+p4)+256*((p4+p5)+256*((p5+p6)+256*((p6+p7)+256*p7))))):=by omega
theorem sm2 (p0 p1 p2 p3 p4 p5 p6 p7:Nat):((p0+p1)+256*(p1+p2))+65536*((p2+p3)+256*((p3+p4)+256*((p4+p5)+256*((p5+p6)+256*((p6+p7)+256*p7)))))+((p2+p3)+256*((p3+p4)+256*((p4+p5)+256*((p5+p6)+256*((p6+p7)+256*p7)))))
 = ((p0+p1+p2+p3)+256*(p1+p2+p3+p4)+65536*(p2+p3+p4+p5)+16777216*(p3+p4+p5+p6))+4294967296*((p4+p5+p6+p7)+256*((p5+p6+p7)+256*((p6+p7)+256*p7))):=by omega
theorem sm3 (p0 p1 p2 p3 p4 p5 p6 p7:Nat):((p0+p1+p2+p3)+256*(p1+p2+p3+p4)+65536*(p2+p3+p4+p5)+16777216*(p3+p4+p5+p6))+4294967296*((p4+p5+p6+p7)+256*((p5+p6+p7)+256*((p6+p7)+256*p7)))+((p4+p5+p6+p7)+256*((p5+p6+p7)+256*((p6+p7)+256*p7)))
 = (p0+p1+p2+p3+p4+p5+p6+p7)+128*(2*(p1+p2+p3+p4)+512*(p2+p3+p4+p5)+131072*(p3+p4+p5+p6)+33554432*((p4+p5+p6+p7)+256*((p5+p6+p7)+256*((p6+p7)+256*p7)))+2*((p5+p6+p7)+256*((p6+p7)+256*p7))):=by omega
def popL (x:Nat):Nat:=(((LB (qB (WA x))+LB (qB (WA x)) / 256)+(LB (qB (WA x))+LB (qB (WA x)) / 256) / 65536)+((LB (qB (WA x))+LB (qB (WA x)) / 256)+(LB (qB (WA x))+LB (qB (WA x)) / 256) / 65536) / 4294967296)%128
theorem bd2 {a b c:Nat}(h0:a≤8)(h1:b≤8)(h2:c≤8):(a+b)+256*(b+c)<65536:=by omega
theorem bd4 {a b c d:Nat}(h0:a≤32)(h1:b≤32)(h2:c≤32)(h3:d≤32):a+256*b+65536*c+16777216*d<4294967296:=by omega
theorem bd1 {a b c d:Nat}(h0:a≤8)(h1:b≤8)(h2:c≤8)(h3:d≤8):a+b+c+d≤32:=by omega
theorem bd8 {a b c d e f g i:Nat}(h0:a≤8)(h1:b≤8)(h2:c≤8)(h3:d≤8)(h4:e≤8)(h5:f≤8)(h6:g≤8)(h7:i≤8):a+b+c+d+e+f+g+i<128:=by omega
theorem zgn (p0 p1 p2 p3 p4 p5 p6 p7 Y A B:Nat)(h0:p0≤8)(h1:p1≤8)(h2:p2≤8)(h3:p3≤8)(h4:p4≤8)(h5:p5≤8)(h6:p6≤8)(h7:p7≤8)
 (hY:Y=hB [p0,p1,p2,p3,p4,p5,p6,p7]) (hA:A=Y+Y / 256) (hB':B=A+A / 65536):(B+B / 4294967296)%128=p0+p1+p2+p3+p4+p5+p6+p7:=by
 simp only[hB]at hY;have e1:Y / 256=p1+256*(p2+256*(p3+256*(p4+256*(p5+256*(p6+256*(p7+256*0)))))):=by rw[hY];exact dv1 _ _ (Nat.lt_of_le_of_lt h0 (by decide))
 rw[e1,hY,sm1]at hA;have e2:A / 65536=(p2+p3)+256*((p3+p4)+256*((p4+p5)+256*((p5+p6)+256*((p6+p7)+256*p7)))):=by rw[hA];exact dv2 _ _ (bd2 h0 h1 h2)
 rw[e2,hA,sm2]at hB';have e3:B / 4294967296=(p4+p5+p6+p7)+256*((p5+p6+p7)+256*((p6+p7)+256*p7)):=by rw[hB'];exact dv4 _ _ (bd4 (bd1 h0 h1 h2 h3) (bd1 h1 h2 h3 h4) (bd1 h2 h3 h4 h5) (bd1 h3 h4 h5 h6))
 rw[e3,hB',sm3];exact md7 _ _ (bd8 h0 h1 h2 h3 h4 h5 h6 h7)
theorem zgl {x:Nat}(h:x<18446744073709551616):popL x=oA 64 x:=by
 have e:=zgm h
 have s:=z38 8 x
 have g:=cH 8
 unfold popL;rw[show(64:Nat)=8*8 from rfl,s]
 simp only[fD,List.map_cons,List.map_nil,List.sum_cons,List.sum_nil]at e ⊢;rw[zgn _ _ _ _ _ _ _ _ _ _ _ (g _) (g _) (g _) (g _) (g _) (g _) (g _) (g _) e rfl rfl];simp only[Nat.add_zero,Nat.add_assoc]
end Go.Am
end
section
/- What a fault makes of a bit,the reference's way: in plain Lean. -/
set_option linter.all false
namespace Go.Am
theorem UQ {s:List UInt8}{v:Nat}(hb:zB s=true)(hv:v<s.length):s[v]?=some (BC ((zA s).testBit v)):=by
 rw[z3W _ _ hb,List.getElem?_eq_getElem hv];rcases z0D hv hb with e|e <;> rw[e] <;> rfl
theorem z04 (g:Int→Nat)(v:Nat):∀(l:List Int) (a:Nat),(l.foldl (fun a n=>a &&& g n) a).testBit v=(a.testBit v&&l.all fun n=>(g n).testBit v)
 | [],a=>by simp
 | n::l,a=>by rw[List.foldl_cons,z04 g v l,Nat.testBit_and,List.all_cons,Bool.and_assoc]
theorem z3z (g:Int→Nat)(v:Nat):∀(l:List Int) (a:Nat),(l.foldl (fun a n=>a ||| g n) a).testBit v=(a.testBit v||l.any fun n=>(g n).testBit v)
 | [],a=>by simp
 | n::l,a=>by rw[List.foldl_cons,z3z g v l,Nat.testBit_or,List.any_cons,Bool.or_assoc]
theorem z2J {l:List Int}(h:l≠[]):l.headD 0∈l:=by
 cases l with
 | nil=>exact absurd rfl h
 | cons a r=>simp
def oC (r:List Nat)(v:Nat)(l:List Int):Nat:=l.countP fun n=>(dB r n).testBit v
theorem zfZ {r:List Nat}{v:Nat}{l:List Int}{k:Nat}(hk:k<l.length):oC r v (l.take (k+1))=oC r v (l.take k)+if(dB r l[k]).testBit v=true then 1 else 0:=by
 unfold oC;rw[List.take_succ_eq_append_getElem hk,List.countP_append,List.countP_singleton]
def vZ (r:List Nat)(f:Flt)(v:Nat):Bool:=
 if f.kind=2∨f.kind=6 then true else if f.kind=3 then decide (oC r v f.nets=f.nets.length) else if f.kind=4 then decide (0<oC r v f.nets) else if f.kind=5 then(dB r (f.nets.headD 0)).testBit v else false
theorem zh3 {r:List Nat}{f:Flt}{v lg:Nat}(h0:f.nets≠[])(hk:1≤f.kind∧f.kind≤6)(hv:v<lg):(KC r f (2^lg-1)).testBit v=vZ r f v:=by
 unfold KC vZ;have hm:=z2J h0
 by_cases k1:f.kind=1
 ·rw[if_pos k1,if_neg (by omega),if_neg (by omega),if_neg (by omega),if_neg (by omega),Nat.zero_testBit]
 ·rw[if_neg k1]
  by_cases k2:f.kind=2∨f.kind=6
  ·rw[if_pos k2,if_pos k2,Nat.testBit_two_pow_sub_one];simpa using hv
  ·rw[if_neg k2,if_neg k2]
   by_cases k3:f.kind=3
   ·rw[if_pos k3,if_pos k3,z04]
    rw[Bool.eq_iff_iff,Bool.and_eq_true,decide_eq_true_eq,List.all_eq_true];unfold oC;rw[List.countP_eq_length];exact⟨fun h=>h.2,fun h=>⟨h _ hm,h⟩⟩
   ·rw[if_neg k3,if_neg k3]
    by_cases k4:f.kind=4
    ·rw[if_pos k4,if_pos k4,z3z]
     rw[Bool.eq_iff_iff,Bool.or_eq_true,decide_eq_true_eq,List.any_eq_true];unfold oC;rw[List.countP_pos_iff];exact⟨fun h=>by rcases h with h|h;exact⟨_,hm,h⟩;exact h,fun h=>.inr h⟩
    ·rw[if_neg k4,if_neg k4,if_pos (by omega)]
def kA (lg d:Nat):List Nat:=(List.range lg).filter fun v=>d.testBit v
end Go.Am
end
section
/- Vectors that are enough: sets of vectors asv numbers,and asv lists;in plain Lean. -/
set_option linter.all false
namespace Go.Am
def kB (D:List Nat)(s:Nat):Bool:=D.all fun m=>decide (m=0)||decide (m &&& s≠0)
theorem z8X {D E:List Nat}(h:∀ m,m∈D↔m∈E)(s:Nat):kB D s=kB E s:=by
 unfold kB;rw[Bool.eq_iff_iff,List.all_eq_true,List.all_eq_true];exact⟨fun q x hx=>q x ((h x).2 hx),fun q x hx=>q x ((h x).1 hx)⟩
theorem gF {lg d v:Nat}:v∈kA lg d↔v<lg∧d.testBit v=true:=by
 unfold kA;rw[List.mem_filter,List.mem_range]
theorem mT {d lg v:Nat}(hd:d<2^lg)(h:d.testBit v=true):v<lg:=by
 rcases Nat.lt_or_ge v lg with h1|h1
 ·exact h1
 ·rw[Nat.testBit_lt_two_pow (Nat.lt_of_lt_of_le hd (Nat.pow_le_pow_right (by omega) h1))]at h;cases h
theorem z6w {m s lg:Nat}(hm:m<2^lg):m &&& s≠0↔∃v,v∈kA lg m∧v∈kA lg s:=by
 constructor
 ·intro h
  apply Decidable.byContradiction
  intro hn;apply h
  apply Nat.eq_of_testBit_eq
  intro i;rw[Nat.zero_testBit,Nat.testBit_and];cases h1:m.testBit i with
  | false=>rfl
  | true=>
   cases h2:s.testBit i with
   | false=>rfl
   | true=>exact absurd ⟨i,gF.2 ⟨mT hm h1,h1⟩,gF.2 ⟨mT hm h1,h2⟩⟩ hn
 ·rintro⟨v,h1,h2⟩ h
  have:=congrArg (fun x=>Nat.testBit x v) h
  simp only[Nat.testBit_and,(gF.1 h1).2,(gF.1 h2).2,Nat.zero_testBit]at this;cases this
theorem z8A {m lg:Nat}(hm:m<2^lg):kA lg m=[]↔m=0:=by
 constructor
 ·intro h
  apply Nat.eq_of_testBit_eq
  intro i;rw[Nat.zero_testBit];cases h1:m.testBit i with
  | false=>rfl
  | true=>have:=gF.2 ⟨mT hm h1,h1⟩;rw[h]at this;cases this
 ·rintro rfl
  unfold kA;rw[List.filter_eq_nil_iff];simp
def iK (D:List (List Nat))(w:List Nat):Bool:=!(D.any fun c=>decide (0<c.length) && !(c.any fun v=>w.contains v))
theorem z1z {D:List Nat}{lg s:Nat}(hD:∀ m∈D,m<2^lg):iK (D.map (kA lg)) (kA lg s)=kB D s:=by
 unfold iK kB;rw[Bool.eq_iff_iff,Bool.not_eq_true',List.any_eq_false,List.all_eq_true];have key:∀m∈D,(¬(decide (0<(kA lg m).length) && !((kA lg m).any fun v=>(kA lg s).contains v))=true)↔(decide (m=0)||decide (m &&& s≠0))=true:=by
  intro m hm;have hlt:=hD m hm
  have h0:0<(kA lg m).length↔m≠0:=by
   rw[List.length_pos_iff];exact not_congr (z8A hlt)
  have h1:((kA lg m).any fun v=>(kA lg s).contains v)=true↔m &&& s≠0:=by
   rw[z6w hlt,List.any_eq_true];exact⟨fun⟨v,a,b⟩=>⟨v,a,List.contains_iff_mem.1 b⟩,fun⟨v,a,b⟩=>⟨v,a,List.contains_iff_mem.2 b⟩⟩
  by_cases hz:m=0
  ·subst hz
   simp only[ne_eq,not_true,iff_false,Nat.not_lt]at h0;simp [show ¬0<(kA lg 0).length by omega]
  ·rw[Bool.or_eq_true,decide_eq_true_eq,decide_eq_true_eq,←h1]
   simp only[h0.2 hz,decide_true,Bool.true_and,Bool.not_eq_true',hz,false_or];simp
 constructor
 ·intro h m hm
  exact(key m hm).1 (by have:=h (kA lg m) (List.mem_map.2 ⟨m,hm,rfl⟩);exact this)
 ·intro h c hc
  obtain⟨m,hm,rfl⟩:=List.mem_map.1 hc;exact(key m hm).2 (h m hm)
def PB (s v:Nat):Nat:=s &&& (18446744073709551615-2^v)
theorem zfW {s v:Nat}(hv:v<64)(hs:s<18446744073709551616)(i:Nat):(PB s v).testBit i=(s.testBit i&&decide (i≠v)):=by
 unfold PB;rw[Nat.testBit_and];by_cases hi:i<64
 ·congr 1
  have:(18446744073709551615:Nat)=2^64-1:=rfl
  rw[this,show 2^64-1-2^v=2^64-(2^v+1) by omega,Nat.testBit_two_pow_sub_succ (Nat.pow_lt_pow_right (by omega) hv),Nat.testBit_two_pow]
  simp [hi,eq_comm]
 ·have:s.testBit i=false:=Nat.testBit_lt_two_pow (Nat.lt_of_lt_of_le hs (by rw[←WB];exact Nat.pow_le_pow_right (by omega) (by omega)))
  rw[this,Bool.false_and,Bool.false_and]
theorem QO (s v:Nat):PB s v≤s:=Nat.and_le_left
theorem z0X {lg s v:Nat}(hl:lg≤64)(hv:v<64)(hs:s<18446744073709551616):(kA lg s).filter (fun x=>!decide (x=v))=kA lg (PB s v):=by
 unfold kA;rw[List.filter_filter];apply List.filter_congr
 intro x hx;rw[zfW hv hs,Bool.and_comm];simp
def rB (D:List Nat)(lg:Nat):Nat→Nat
 | 0=>2^lg-1
 | k+1=>if kB D (PB (rB D lg k) (lg-1-k)) then PB (rB D lg k) (lg-1-k) else rB D lg k
theorem eZ (D:List Nat)(lg:Nat):∀k,rB D lg k≤2^lg-1
 | 0=>Nat.le_refl _
 | k+1=>by
  have:=eZ D lg k;rw[rB];split
  ·exact Nat.le_trans (QO _ _) this
  ·exact this
theorem z8W {D:List Nat}{lg:Nat}(hD:∀ m∈D,m<2^lg):kB D (2^lg-1)=true:=by
 unfold kB;rw[List.all_eq_true];intro m hm;have:m &&& (2^lg-1)=m:=by rw[Nat.and_two_pow_sub_one_eq_mod,Nat.mod_eq_of_lt (hD m hm)]
 rw[this];by_cases h:m=0 <;> simp [h]
end Go.Am
end
section
/- The smallest choice of vectors,both ways;in plain Lean. -/
set_option linter.all false
namespace Go.Am
theorem fE:∀ (k n:Nat),(kA k n).length=oA k n
 | 0,n=>rfl
 | k+1,n=>by
  unfold kA;rw[List.range_succ_eq_map,List.filter_cons,List.filter_map];have e:((List.range k).filter ((fun v=>n.testBit v) ∘ Nat.succ)).length=oA k (n / 2):=by
   rw[←fE k (n / 2)];unfold kA;congr 1
   apply List.filter_congr
   intro x _;simp [Function.comp,Nat.testBit_succ]
  rw[oA];rcases Nat.mod_two_eq_zero_or_one n with h|h
  ·rw[if_neg (by rw[Nat.testBit_zero];simp [h]),List.length_map,e];omega
  ·rw[if_pos (by rw[Nat.testBit_zero];simp [h]),List.length_cons,List.length_map,e];omega
theorem z36:∀ k,oA k 0=0
 | 0=>rfl
 | k+1=>by rw[oA,z36 k]
theorem MQ {k n:Nat}(hk:k≤64)(hn:n<2^k):oA 64 n=oA k n:=by
 have:=aZ k (64-k) n;rw[Nat.add_sub_cancel' hk,Nat.div_eq_of_lt hn,z36]at this;exact this
def FC:List Int→List Int→Int
 | [],[]=>0
 | [],_::_=>-1
 | _::_,[]=>1
 | a::asv,b::bs=>if a<b then -1 else if b<a then 1 else FC asv bs
def iL (l:List Nat):List Int:=l.map fun(n:Nat)=>(n:Int)
def VC:Nat→Nat→Nat→List Nat
 | _,0,_=>[]
 | o,k+1,a=>(if a%2=1 then [o] else [])++VC (o+1) k (a / 2)
theorem GM:∀ (k o a:Nat),(kA k a).map (· + o)=VC o k a
 | 0,o,a=>rfl
 | k+1,o,a=>by
  rw[VC,←GM k (o+1) (a / 2)];unfold kA;rw[List.range_succ_eq_map,List.filter_cons,List.filter_map];have e:(List.range k).filter ((fun v=>a.testBit v) ∘ Nat.succ)=(List.range k).filter fun v=>(a / 2).testBit v:=by
   apply List.filter_congr
   intro x _;simp [Function.comp,Nat.testBit_succ]
  rw[e];have e2:((List.map Nat.succ ((List.range k).filter fun v=>(a / 2).testBit v)).map (· + o))=((List.range k).filter fun v=>(a / 2).testBit v).map (· + (o+1)):=by
   rw[List.map_map];apply List.map_congr_left
   intro x _;show x+1+o=x+(o+1)
   omega
  rcases Nat.mod_two_eq_zero_or_one a with h|h
  ·rw[if_neg (by rw[Nat.testBit_zero];simp [h]),if_neg (by omega),e2];rfl
  ·rw[if_pos (by rw[Nat.testBit_zero];simp [h]),if_pos h,List.map_cons,e2];simp
theorem z0F:∀ (k o a:Nat),∀ x∈VC o k a,o≤x
 | 0,o,a,x,h=>by cases h
 | k+1,o,a,x,h=>by
  rw[VC]at h;rcases List.mem_append.1 h with h|h
  ·split at h
   ·rw[List.mem_singleton]at h;omega
   ·cases h
  ·have:=z0F k (o+1) (a / 2) x h;omega
theorem z6X (k o a:Nat):(VC o k a).length=oA k a:=by rw[←GM,List.length_map,fE]
theorem z0G:∀ {k o a:Nat},oA k a≠0→∃ x r,VC o k a=x::r∧o≤x:=fun {k o a} h=>by
 cases hb:VC o k a with
 | nil=>have:=z6X k o a;rw[hb]at this;exact absurd this.symm h
 | cons x r=>exact⟨x,r,rfl,z0F k o a x (by rw[hb];simp)⟩
theorem zjR (a b:Nat):(a ^^^ b) / 2=a / 2 ^^^ b / 2:=by
 apply Nat.eq_of_testBit_eq
 intro i;rw[←Nat.testBit_succ,Nat.testBit_xor,Nat.testBit_xor,Nat.testBit_succ,Nat.testBit_succ]
theorem zjS (a b:Nat):(a ^^^ b)%2=(a+b)%2:=by
 have h1:=Nat.xor_mod_two_eq_one (a:=a) (b:=b)
 rcases Nat.mod_two_eq_zero_or_one (a ^^^ b) with hc|hc
 ·have:(a%2=1↔b%2=1):=Decidable.byContradiction fun h=>by have:=h1.2 h;omega
  omega
 ·have:=h1.1 hc
  omega
theorem fX:∀ (k o a b:Nat),a<2^k→b<2^k→a≠b→oA k a=oA k b→(decide (FC (iL (VC o k a)) (iL (VC o k b))<0)=a.testBit (PE k (a ^^^ b)))
 | 0,o,a,b,ha,hb,hne,_=>by simp at ha hb;omega
 | k+1,o,a,b,ha,hb,hne,hp=>by
  rw[Nat.pow_succ]at ha hb;rw[VC,VC];rw[oA,oA]at hp;unfold PE;rw[zjS,zjR];rcases Nat.mod_two_eq_zero_or_one a with h1|h1 <;> rcases Nat.mod_two_eq_zero_or_one b with h2|h2
  ·rw[if_neg (by omega),if_neg (by omega),if_neg (by omega),Nat.add_comm 1,Nat.testBit_succ]
   exact fX k (o+1) (a / 2) (b / 2) (by omega) (by omega) (by omega) (by omega)
  ·rw[if_neg (by omega),if_pos h2,if_pos (by omega),Nat.testBit_zero]
   obtain⟨x,r,e,hx⟩:=z0G (o:=o+1) (show oA k (a / 2)≠0 by omega)
   rw[List.nil_append,e];show decide ((if(x:Int)<(o:Int) then(-1:Int) else if(o:Int)<(x:Int) then 1 else _)<0)=_
   rw[if_neg (by omega),if_pos (by omega)]
   simp [h1]
  ·rw[if_pos h1,if_neg (by omega),if_pos (by omega),Nat.testBit_zero]
   obtain⟨x,r,e,hx⟩:=z0G (o:=o+1) (show oA k (b / 2)≠0 by omega)
   rw[List.nil_append,e];show decide ((if(o:Int)<(x:Int) then(-1:Int) else _)<0)=_
   rw[if_pos (by omega)]
   simp [h1]
  ·rw[if_pos h1,if_pos h2,if_neg (by omega),Nat.add_comm 1,Nat.testBit_succ,←fX k (o+1) (a / 2) (b / 2) (by omega) (by omega) (by omega) (by omega)]
   show decide ((if(o:Int)<(o:Int) then(-1:Int) else if(o:Int)<(o:Int) then 1 else FC (iL (VC (o+1) k (a / 2))) (iL (VC (o+1) k (b / 2))))<0)=_
   rw[if_neg (by omega),if_neg (by omega)]
theorem zfz {k a b:Nat}(ha:a<2^k)(hb:b<2^k)(hne:a≠b)(hp:oA k a=oA k b):decide (FC (iL (kA k a)) (iL (kA k b))<0)=a.testBit (PE k (a ^^^ b)):=by
 have h:=fX k 0 a b ha hb hne hp
 rw[←GM,←GM]at h;simpa using h
def lowB (d:Nat):Nat:=d &&& (18446744073709551616-d)
theorem z6v (a b:Nat):(2*a) &&& (2*b)=2*(a &&& b):=by
 apply Nat.eq_of_testBit_eq
 intro i;cases i with
 | zero=>simp [Nat.testBit_zero,Nat.testBit_and]
 | succ i=>rw[Nat.testBit_and,Nat.testBit_succ,Nat.testBit_succ,Nat.testBit_succ,Nat.mul_div_cancel_left _ (by omega),Nat.mul_div_cancel_left _ (by omega),Nat.mul_div_cancel_left _ (by omega),Nat.testBit_and]
theorem z6x (a b:Nat):(2*a+1) &&& (2*b+1)=2*(a &&& b)+1:=by
 apply Nat.eq_of_testBit_eq
 intro i;cases i with
 | zero=>simp [Nat.testBit_zero,Nat.testBit_and]
 | succ i=>rw[Nat.testBit_and,Nat.testBit_succ,Nat.testBit_succ,Nat.testBit_succ,show(2*a+1) / 2=a by omega,show(2*b+1) / 2=b by omega,show(2*(a &&& b)+1) / 2=a &&& b by omega,Nat.testBit_and]
theorem z6u (N q:Nat)(hq:q<2^N):q &&& (2^N-(q+1))=0:=by
 apply Nat.eq_of_testBit_eq
 intro i;rw[Nat.testBit_and,Nat.testBit_two_pow_sub_succ hq,Nat.zero_testBit];cases q.testBit i <;> simp
theorem z3f:∀ (k N d:Nat),k≤N→d≠0→d<2^k→d &&& (2^N-d)=2^PE k d
 | 0,N,d,_,h0,hd=>by simp at hd;omega
 | k+1,0,d,hN,_,_=>by omega
 | k+1,N+1,d,hN,h0,hd=>by
  rw[Nat.pow_succ]at hd;have hp:2^k≤2^N:=Nat.pow_le_pow_right (by omega) (by omega)
  unfold PE;rcases Nat.mod_two_eq_zero_or_one d with h1|h1
  ·rw[if_neg (by omega)]
   obtain⟨q,rfl⟩:∃q,d=2*q:=⟨d / 2,by omega⟩
   have ih:=z3f k N q (by omega) (by omega) (by omega)
   rw[show 2^(N+1)-2*q=2*(2^N-q) by rw[Nat.pow_succ];omega,z6v,ih,show 2*q / 2=q by omega,Nat.add_comm 1,Nat.pow_succ]
   omega
  ·rw[if_pos h1]
   obtain⟨q,rfl⟩:∃q,d=2*q+1:=⟨d / 2,by omega⟩
   rw[show 2^(N+1)-(2*q+1)=2*(2^N-(q+1))+1 by rw[Nat.pow_succ];omega,z6x,z6u N q (by omega)]
theorem zf7 {k d:Nat}(hk:k≤64)(h0:d≠0)(hd:d<2^k):lowB d=2^PE k d:=z3f k 64 d hk h0 hd
theorem z50 {a b:Nat}(h:a≠b):a ^^^ b≠0:=fun e=>h (by
 apply Nat.eq_of_testBit_eq
 intro i;have:=congrArg (fun x=>Nat.testBit x i) e
 simp only[Nat.testBit_xor,Nat.zero_testBit]at this;revert this
 cases a.testBit i <;> cases b.testBit i <;> simp)
theorem z6y (a i:Nat):a &&& 2^i=0↔a.testBit i=false:=by
 constructor
 ·intro h
  have:=congrArg (fun x=>Nat.testBit x i) h
  simpa [Nat.testBit_and,Nat.testBit_two_pow] using this
 ·intro h
  apply Nat.eq_of_testBit_eq
  intro j;rw[Nat.testBit_and,Nat.testBit_two_pow,Nat.zero_testBit];by_cases hj:i=j
  ·subst hj;simp [h]
  ·simp [hj]
def kE (a b:Nat):Bool:=decide (oA 64 b<oA 64 a)||(decide (oA 64 a=oA 64 b)&&decide (a &&& lowB (a ^^^ b)=0))
def HE (v w:List Nat):Bool:=decide (v.length<w.length)||(decide (v.length=w.length)&&decide (FC (iL v) (iL w)<0))
theorem zh9 {k a b:Nat}(hk:k≤14)(ha:a<2^k)(hb:b<2^k)(hne:a≠b):HE (kA k a) (kA k b) = !kE a b:=by
 unfold HE kE;rw[fE,fE,MQ (by omega) ha,MQ (by omega) hb]
 rcases Nat.lt_trichotomy (oA k a) (oA k b) with h|h|h
 ·simp [h,show ¬oA k b<oA k a by omega,show ¬oA k a=oA k b by omega]
 ·have hp:2^k≤2^14:=Nat.pow_le_pow_right (by omega) hk
  have hd:a ^^^ b<2^k:=Nat.xor_lt_two_pow ha hb
  have h0:=z50 hne
  rw[zf7 (by omega) h0 hd,zfz ha hb hne h]
  have:=z6y a (PE k (a ^^^ b));cases ht:a.testBit (PE k (a ^^^ b)) <;> simp [h,this,ht]
 ·simp [h,show ¬oA k a<oA k b by omega,show ¬oA k a=oA k b by omega]
def lB (D:List Nat)(lg:Nat):Nat→Nat
 | 0=>2^lg-1
 | s+1=>if kE s (lB D lg s) then lB D lg s else if kB D s then s else lB D lg s
def yC (D:List Nat)(lg:Nat):Nat→Option Nat
 | 0=>none
 | s+1=>match yC D lg s with
  | none=>if kB D s then some s else none
  | some b=>if kB D s&&HE (kA lg s) (kA lg b) then some s else some b
theorem EZ (D:List Nat)(lg s:Nat):yC D lg (s+1)=match yC D lg s with
 | none=>if kB D s then some s else none
 | some b=>if kB D s&&HE (kA lg s) (kA lg b) then some s else some b:=rfl
theorem DZ (D:List Nat)(lg:Nat):∀s b,yC D lg s=some b→b<s
 | 0,b,h=>by cases h
 | s+1,b,h=>by
  unfold yC at h;split at h
  ·split at h
   ·injection h with h;omega
   ·cases h
  ·rename_i c hc
   have:=DZ D lg s c hc;split at h <;> (injection h with h;omega)
theorem NQ:∀ k,oA k (2^k-1)=k
 | 0=>rfl
 | k+1=>by
  have:=Nat.two_pow_pos k;rw[oA,Nat.pow_succ,show(2^k*2-1) / 2=2^k-1 by omega,NQ k]
  omega
theorem bZ:∀ k a,a<2^k→oA k a=k→a=2^k-1
 | 0,a,ha,_=>by simp at ha;omega
 | k+1,a,ha,h=>by
  rw[Nat.pow_succ]at ha;rw[oA]at h;have:=cH k (a / 2);have e:=bZ k (a / 2) (by omega) (by omega)
  rw[Nat.pow_succ];omega
theorem z4S {D:List Nat}{lg:Nat}(hl:lg≤14):∀s,s≤2^lg-1→lB D lg s=(yC D lg s).getD (2^lg-1)
 | 0,_=>rfl
 | s+1,hs=>by
  have h2:=Nat.two_pow_pos lg
  have ih:=z4S (D:=D) hl s (by omega)
  rw[lB,ih,EZ];have hw:(yC D lg s).getD (2^lg-1)≠s∧(yC D lg s).getD (2^lg-1)<2^lg:=by
   cases hq:yC D lg s with
   | none=>exact⟨by simp;omega,by simp;omega⟩
   | some b=>have:=DZ D lg s b hq;exact⟨by simp;omega,by simp;omega⟩
  have sb:=zh9 (k:=lg) (a:=s) hl (by omega) hw.2 (fun e=>hw.1 e.symm)
  cases hq:yC D lg s with
  | none=>
   rw[hq]at sb;simp only[Option.getD_none]at sb ⊢;have hb:HE (kA lg s) (kA lg (2^lg-1))=true:=by
    unfold HE;rw[fE,fE,NQ];have h1:=cH lg s
    have h3:oA lg s≠lg:=fun e=>by have:=bZ lg s (by omega) e;omega
    simp [show oA lg s<lg by omega]
   rw[hb]at sb;have:kE s (2^lg-1)=false:=by simpa using sb.symm
   rw[this];cases kB D s <;> rfl
  | some b=>
   rw[hq]at sb;simp only[Option.getD_some]at sb ⊢;rw[sb];cases kE s b <;> cases kB D s <;> rfl
theorem zhE {D:List Nat}{lg:Nat}(hl:lg≤14)(hD:∀ m∈D,m<2^lg):yC D lg (2^lg)=some (lB D lg (2^lg-1)):=by
 have h2:=Nat.two_pow_pos lg
 obtain⟨n,hn⟩:∃n,2^lg=n+1:=⟨2^lg-1,by omega⟩
 have e:=z4S (D:=D) hl (2^lg-1) (Nat.le_refl _)
 have hc:=z8W hD
 rw[hn]at e hc ⊢;rw[Nat.add_sub_cancel]at e hc ⊢;rw[e,EZ];cases hq:yC D lg n with
 | none=>simp [hc]
 | some b=>
  have hb:=DZ D lg n b hq
  have:HE (kA lg n) (kA lg b)=false:=by
   unfold HE;have en:n=2^lg-1:=by omega
   rw[fE,fE,en,NQ];have h1:=cH lg b
   have h3:oA lg b≠lg:=fun e=>by have:=bZ lg b (by omega) e;omega
   simp [show ¬lg<oA lg b by omega,show ¬lg=oA lg b by omega]
  simp [this]
theorem z4Q (D:List Nat)(lg:Nat):∀s,s≤2^lg→lB D lg s<2^lg
 | 0,_=>by have:=Nat.two_pow_pos lg;rw[lB];omega
 | s+1,h=>by
  have:=z4Q D lg s (by omega)
  rw[lB];split
  ·exact this
  ·split
   ·omega
   ·exact this
end Go.Am
end
section
/- Strings: keys,the library's functions without text. -/
open Go
set_option linter.unusedSimpArgs false
namespace Go.Am
variable {h:aA} {K:jA}
abbrev AS (s:List UInt8):AV:=.p (.str s)
theorem X_ext:X.ext=IK BG z1V:=rfl
theorem zhn (s:List UInt8)(c:UInt8):eA X BG [AS s,.p (.int .u8 c.toNat)] h K=K (AI (bE s c)) h []:=by
 have:=zdi (X:=X) (f:=BG) (asv:=[AS s,.p (.int .u8 c.toNat)]) (vs:=[.str s,.int .u8 c.toNat]) (h:=h) (h1:=h) (r:=.int .i64 (bE s c)) (K:=K) (by kernel_rfl) rfl rfl rfl ?_
 ·exact this
 ·rw[X_ext]
  unfold IK;rw[show Nat.beq BG BG=true from by kernel_rfl]
  simp
theorem z4t (s:List UInt8)(c:UInt8):eA X tL [AS s,.p (.int .u8 c.toNat)] h K=K (AI (bE s c)) h []:=by
 have key:∀(h:aA) (K:jA),eA X PK [AS s,.p (.int .u8 c.toNat)] h K=K (AI (bE s c)) h []:=by
  intro h K;refine tA ?_;rw[z74 rfl];simp only[jN,go_sem,zhn]
 refine tA ?_;rw[z81 rfl];simp only[dO,go_sem,key]
theorem zdX (s:List UInt8)(c:UInt8):decide (bE s c<0) = !s.contains c:=by
 unfold bE;rw[Bool.eq_iff_iff];by_cases hf:s.findIdx (· == c)<s.length
 ·rw[if_pos hf]
  have:=List.findIdx_getElem (w:=hf);simp only[beq_iff_eq]at this;have hm:c∈s:=by rw[←this];exact List.getElem_mem hf
  simp [hm]
 ·rw[if_neg hf]
  have hm:¬c∈s:=fun hm=>hf (List.findIdx_lt_length_of_exists ⟨c,hm,by simp⟩)
  simp [hm]
theorem zhr (s t:List UInt8)(hl:s.length≤1000000000):eA X aL [AS s,AS t] h K=K (AB (s.all fun c=>t.contains c)) h []:=by
 refine tA ?_;rw[z8d rfl];simp only[KN,go_sem];refine FA (fun k:Nat=>⟨[(0,AS s),(1,AS t),(7,AI s.length),(8,AI k)],h,[]⟩) (fun k=>k≤s.length∧(s.take k).all (fun c=>t.contains c)=true) (fun k=>s.length-k) 0 rfl ⟨by omega,rfl⟩ ?_
 rintro k ⟨hk,hp⟩
 rcases Nat.lt_or_ge k s.length with hlt|hge
 ·have hg:s[k]?=some s[k]:=List.getElem?_eq_getElem hlt
  have w2:IntKind.i64.wrap ((k:Int)+1)=((k+1:Nat):Int):=qA _ (by omega) (by omega)
  have hi:=zdX t s[k]
  by_cases hc:bE t s[k]<0
  ·have:s.all (fun c=>t.contains c)=false:=by
    rw[List.all_eq_false];refine⟨_,List.getElem_mem hlt,?_⟩;rw[decide_eq_true hc]at hi;cases hq:t.contains s[k]with
    | true=>rw[hq]at hi;cases hi
    | false=>simp
   simp only[go_sem,hlt,hg,z4t,hc,this]
  ·rw[decide_eq_false hc]at hi
   have hq:t.contains s[k]=true:=by cases hq:t.contains s[k]with|true=>rfl|false=>rw[hq]at hi;cases hi
   simp only[go_sem,hlt,hg,z4t,hc,w2];exact⟨k+1,rfl,⟨by omega,by rw[List.take_succ_eq_append_getElem hlt,List.all_append,hp];simp only[List.all_cons,List.all_nil,hq];rfl⟩,by omega⟩
 ·have ek:k=s.length:=by omega
  subst ek;rw[List.take_length]at hp;simp only[go_sem,Nat.lt_irrefl,hp]
end Go.Am
end
section
/- Maps,asv lists of keys with values. -/
open Go
set_option linter.all false
namespace Go.Am
end Go.Am
end
section
/- Lists of strings sorted,left out: printed by program. -/
open Go
set_option linter.unusedSimpArgs false
namespace Go.Am
attribute [-go_sem] PV.cells splice
variable {h:aA} {K:jA}
end Go.Am
end
section
/- Limits: what they are,what is wrong with them. -/
open Go
namespace Go.Am
variable {h:aA} {K:jA}
structure Lim where
 key:List UInt8
 lo:Int
 hi:Int
 bin:Int
def Lim.pv (x:Lim):PV:=.agg [.str x.key,eI x.lo,eI x.hi,eI x.bin]
end Go.Am
end
section
/- What is wrong with limits,both ways: printed by program. -/
open Go
set_option linter.unusedSimpArgs false
namespace Go.Am
variable {h:aA} {K:jA}
end Go.Am
end
section
/- Package lot on measured values,and what the reference says of them. -/
open Go
namespace Go.Am
variable {h:aA} {K:jA}
structure Meas (l:List Int):Prop where
 len:l.length≤5000
 bd:∀n∈l,-100000≤n∧n≤100000
theorem Meas.sum {l:List Int}(hm:Meas l)(k:Nat) : -500000000≤(l.take k).sum∧(l.take k).sum≤500000000:=by
 have:=zig hm.bd hm.len (by omega) k
 omega
end Go.Am
end
section
/- Records: what they are,what is wrong with them. -/
open Go
set_option linter.unusedSimpArgs false
namespace Go.Am
variable {h:aA} {K:jA}
theorem zg6 {b:Nat}{P:jA}{vs:List AV}{h:aA}:QC true b P (some vs) h []=P (UA vs) (h.take (max b (UA vs).top)) []:=by
 simp [QC,TB,vB]
attribute [go_sem] zg6
structure Rec where
 unit:List UInt8
 time:Int
 site:List UInt8
 res:List Int
def Rec.pv (r:Rec):PV:=.agg [.str r.unit,eI r.time,.str r.site,.sl none (r.res.map eI)]
end Go.Am
end
section
/- What is drawn: numbers,measured values. -/
open Go
namespace Go.Am
variable {L:List Int} {a:Int}
theorem g_Odd (hp:RA 14 a)(u v:Int)(huv:u≤v)(hu : -1000000000000≤u)(hv:v≤1000000000000):∃k a2:Int,a≤a2∧a2≤a+2 ∧ -1099511627776≤k∧k≤1099511627776 ∧
 Gen NH [AI u,AI v] L a a2 (AI k):=by
 have w1:IntKind.i64.wrap (u-1)=u-1:=qA _ (by omega) (by omega)
 have w2:IntKind.i64.wrap (v+1)=v+1:=qA _ (by omega) (by omega)
 by_cases hf:iB L a 12=0
 ·have hm:=KQ (L:=L) (a:=a+1) (l:=[u-1,v+1,u,v,-1099511627776,1099511627776]) (by simp) (by simp)
  simp only[List.mem_cons,List.not_mem_nil,or_false]at hm;refine⟨eE [u-1,v+1,u,v,-1099511627776,1099511627776] L (a+1),a+1+1,by omega,by omega,by omega,by omega,Gen.of fun h id hid=>?_⟩
  rw[z0P rfl];simp only[sK,go_sem,hid,zJ hp,hf,w1,w2]
 ·have hm:=XF L (a+1) huv (by omega)
  refine⟨bD u v L (a+1),a+1+1,by omega,by omega,by omega,by omega,Gen.of fun h id hid=>?_⟩
  rw[z0P rfl];simp only[sK,go_sem,hid,zJ hp,hf,w1,w2,huv,show -1152921504606846976≤u by omega,show v≤1152921504606846976 by omega]
end Go.Am
end
section
/- Strings that are drawn. -/
open Go
set_option linter.unusedSimpArgs false
namespace Go.Am
variable {L:List Int} {a:Int} {h l:aA} {id:Nat} {K:jA}
def isS:PV→Bool
 | .str _=>true
 | _=>false
def unS:PV→List UInt8
 | .str s=>s
 | _=>[]
def LD (l:List (List UInt8))(L:List Int)(a:Int):List UInt8:=l.getD (iB L a l.length).toNat []
theorem YY {l:List (List UInt8)}{L:List Int}{a:Int}(hl:0<l.length)(hl2:l.length<4611686018427387904):LD l L a∈l:=by
 obtain⟨b1,b2⟩:=WG L a l.length (by omega) (by omega)
 unfold LD;have:(iB L a l.length).toNat<l.length:=by omega
 simp only[List.getD,List.getElem?_eq_getElem this,Option.getD_some];exact List.getElem_mem _
theorem zi2 {xs:List PV}(h:xs.all isS=true):xs=(xs.map unS).map PV.str:=by
 induction xs with
 | nil=>rfl
 | cons x r ih=>
  simp only[List.all_cons,Bool.and_eq_true]at h;simp only[List.map_cons];rw[←ih h.2];cases x <;> first|rfl|cases h.1
theorem zdL (hp:RA 0 a)(xs:List PV)(hx:xs.all isS=true)(hl:0<xs.length)(hl2:xs.length<4611686018427387904) :
 Gen HF [.p (.sl none xs)] L a (a+1) (AS (LD (xs.map unS) L a)):=by
 refine Gen.of fun h id hid=>?_
 rw[z7M rfl];obtain⟨b1,b2⟩:=WG L a xs.length (by omega) (by omega)
 have e4:=KD (k:=.i64) b1
 have e5:xs[(iB L a xs.length).toNat]?=some (.str (LD (xs.map unS) L a)):=by
  have hm:=zi2 hx
  generalize hq:xs.map unS=q at *;subst hm;simp only[List.length_map]at *;rw[PA PV.str (show(iB L a q.length).toNat<q.length by omega)]
  simp [LD,List.getD,show(iB L a q.length).toNat<q.length by omega]
 simp only[wN,go_sem,EJ hid hp,e4,e5]
theorem z40 (hid:id<h.length)(hp:RA 0 a){xs:List PV}(hx:xs.all isS=true)(hl:0<xs.length)(hl2:xs.length<4611686018427387904) :
 eA X HF [.ref id 0,.p (.sl none xs)] (h.set id (xA L a)++l) K=K (AS (LD (xs.map unS) L a)) (h.set id (xA L (a+1))++l) []:=(zdL hp xs hx hl hl2).app hid
attribute [go_sem ↓] z40
attribute [go_sem] z40 isS unS
end Go.Am
end
section
/- What is drawn: strings,limits. -/
open Go
set_option linter.unusedSimpArgs false
namespace Go.Am
variable {L:List Int} {a:Int} {h l:aA} {id:Nat} {K:jA}
end Go.Am
end
section
/- Records: what is wrong with them,both ways. -/
open Go
set_option linter.unusedSimpArgs false
namespace Go.Am
variable {h:aA} {K:jA}
end Go.Am
end
section
/- Sorting records: printed by program. -/
open Go
set_option linter.unusedSimpArgs false
namespace Go.Am
attribute [-go_sem] PV.cells splice
variable {h:aA} {K:jA}
end Go.Am
end
section
/- Leaving out what is alike: printed by program. -/
open Go
set_option linter.unusedSimpArgs false
namespace Go.Am
attribute [-go_sem] PV.cells splice
variable {h:aA} {K:jA}
end Go.Am
end
section
/- What is drawn: records. -/
open Go
set_option linter.unusedSimpArgs false
namespace Go.Am
variable {L:List Int} {a:Int} {h l:aA} {id:Nat} {K:jA}
theorem z1k {b:Nat}{x:Esc}(hx:∀ y∈x,b≤y.1):∀k,TB k x b=b:=by
 have hb:XJ x b=b:=by
  unfold XJ;induction x with
  | nil=>rfl
  | cons y r ih=>
   simp only[List.foldl_cons];rw[if_neg (by have:=hx y (by simp);omega)]
   exact ih (fun z hz=>hx z (by simp [hz]))
 intro k;induction k with
 | zero=>rfl
 | succ k ih=>unfold TB;rw[hb,ih]
theorem ziz {b:Nat}{x0 x:Esc}{e:List (Nat × AV)}{h:aA}(hx:∀ y∈x,b≤y.1):lE b x0 ⟨e,h,x⟩=⟨NE b e,h.take b,x0⟩:=by
 unfold lE;simp only[z1k hx];have hc:vB x b=true:=by
  unfold vB;rw[List.all_eq_true];intro y hy;simp [hx y hy]
 have hf:x.filter (fun y=>decide (y.1<b))=[]:=by
  rw[List.filter_eq_nil_iff];intro y hy;have:=hx y hy;simp;omega
 rw[if_pos hc,hf,List.nil_append]
end Go.Am
end
section
/- Merging two ordered lists: by sorting and leaving out what is alike,and by looking each one up. Plain lists. -/
namespace Go.Am
variable {α:Type}
structure Ordr (c:α→α→Int):Prop where
 neg:∀a b,c b a = - c a b
 trans:∀a b d,c a b≤0→c b d≤0→c a d≤0
theorem Ordr.refl {c:α→α→Int}(o:Ordr c)(a:α):c a a=0:=by have:=o.neg a a;omega
theorem Ordr.lt_le {c:α→α→Int}(o:Ordr c){a b d:α}(h1:c a b<0)(h2:c b d≤0):c a d<0:=by
 by_cases h:c a d<0
 ·exact h
 ·have h3:=o.neg a d
  have h4:=o.trans b d a h2 (by omega)
  have:=o.neg a b;omega
def ltO (c:α→α→Int)(a b:α):Bool:=decide (c a b<0)
theorem Ordr.weak {c:α→α→Int}(o:Ordr c):Weak (ltO c):=by
 refine⟨fun a b h=>?_,fun a b d h1 h2=>?_⟩
 ·simp only[ltO,decide_eq_true_eq,decide_eq_false_iff_not]at h ⊢
  have:=o.neg a b;omega
 ·simp only[ltO,decide_eq_false_iff_not]at h1 h2 ⊢
  have q1:=o.neg a b
  have q2:=o.neg b d
  have q3:=o.trans a b d (by omega) (by omega)
  have q4:=o.neg a d
  omega
def mH (c:α→α→Int)(l:List α):Prop:=l.Pairwise fun x y=>c x y<0
theorem z4X {c:α→α→Int}(o:Ordr c):∀{l m:List α},mH c l→mH c m→(∀x,x∈l↔x∈m)→l=m
 | [],[],_,_,_=>rfl
 | [],y::m,_,_,h=>absurd ((h y).2 (by simp)) (by simp)
 | x::l,[],_,_,h=>absurd ((h x).1 (by simp)) (by simp)
 | x::l,y::m,h1,h2,h=>by
  have a1:=List.pairwise_cons.1 h1
  have a2:=List.pairwise_cons.1 h2
  have e:x=y:=by
   rcases List.mem_cons.1 ((h x).1 (by simp)) with e|e
   ·exact e
   ·rcases List.mem_cons.1 ((h y).2 (by simp)) with e'|e'
    ·exact e'.symm
    ·have b1:=a2.1 x e
     have b2:=a1.1 y e'
     have:=o.neg x y;omega
  subst e;rw[z4X o a1.2 a2.2 fun z=>?_]
  constructor
  ·intro hz
   rcases List.mem_cons.1 ((h z).1 (by simp [hz])) with e|e
   ·subst e;have:=a1.1 z hz;have:=o.refl z;omega
   ·exact e
  ·intro hz
   rcases List.mem_cons.1 ((h z).2 (by simp [hz])) with e|e
   ·subst e;have:=a2.1 z hz;have:=o.refl z;omega
   ·exact e
theorem DT (q:α→α→Bool):∀(l:List α) (p:α),(oB q p l).Sublist l
 | [],_=>List.Sublist.slnil
 | x::r,p=>by
  unfold oB;cases q x p with
  | true=>exact(DT q r x).cons x
  | false=>exact(DT q r x).cons_cons x
theorem z8O (q:α→α→Bool):∀l:List α,(OA q l).Sublist l
 | []=>List.Sublist.slnil
 | x::r=>(DT q r x).cons_cons x
theorem CT {q:α→α→Bool}(hq:∀ x y,q x y=true→x=y):∀(l:List α) (p x:α),x∈l→x=p∨x∈oB q p l
 | [],_,x,hx=>by simp at hx
 | y::r,p,x,hx=>by
  unfold oB;cases h:q y p with
  | true=>
   have e:=hq _ _ h
   subst e;rcases List.mem_cons.1 hx with e|e
   ·exact .inl e
   ·exact CT hq r y x e
  | false=>
   rcases List.mem_cons.1 hx with e|e
   ·subst e;exact .inr (by simp)
   ·rcases CT hq r y x e with e|e
    ·subst e;exact .inr (by simp)
    ·exact .inr (by simp [e])
theorem z1t {q:α→α→Bool}(hq:∀ x y,q x y=true→x=y):∀{l:List α} {x:α},x∈l→x∈OA q l
 | y::r,x,hx=>by
  rcases List.mem_cons.1 hx with e|e
  ·subst e;simp [OA]
  ·rcases CT hq r y x e with e|e
   ·subst e;simp [OA]
   ·simp [OA,e]
theorem BT {q:α→α→Bool}(hq:∀ x y,q x y=true↔x=y):∀(l:List α) (p:α) (i:Nat) (h:i+1<(p::oB q p l).length),(p::oB q p l)[i]≠(p::oB q p l)[i+1]
 | [],p,i,h=>by simp [oB]at h
 | x::r,p,i,h=>by
  cases hx:q x p with
  | true=>
   have e:=(hq _ _).1 hx
   subst e;have e2:oB q x (x::r)=oB q x r:=by rw[oB];rw[hx];rfl
   simp only[e2]at h ⊢;exact BT hq r x i h
  | false=>
   have e2:oB q p (x::r)=x::oB q x r:=by rw[oB];rw[hx];rfl
   simp only[e2]at h ⊢;cases i with
   | zero=>
    simp only[List.getElem_cons_zero,List.getElem_cons_succ];intro e;rw[(hq _ _).2 e.symm]at hx;cases hx
   | succ i=>
    simp only[List.getElem_cons_succ];exact BT hq r x i (by simpa using h)
theorem z8N {q:α→α→Bool}(hq:∀ x y,q x y=true↔x=y):∀(l:List α) (i:Nat) (h:i+1<(OA q l).length),(OA q l)[i]≠(OA q l)[i+1]
 | [],i,h=>by simp [OA]at h
 | x::r,i,h=>BT hq r x i h
variable {c:α→α→Int} {q:α→α→Bool} {a b:List α}
theorem z6o (o:Ordr c){l:List α}(hle:l.Pairwise fun x y=>c x y≤0)(hadj:∀ i (h:i+1<l.length),c l[i+1] l[i]≠0):mH c l:=by
 rw[List.pairwise_iff_getElem]at hle;unfold mH;rw[List.pairwise_iff_getElem];intro i j hi hj hij;have h1:c l[i] l[i+1]<0:=by
  have:=hle i (i+1) hi (by omega) (by omega)
  have h2:=hadj i (by omega)
  have:=o.neg l[i] l[i+1];omega
 rcases Nat.lt_or_ge (i+1) j with h|h
 ·exact o.lt_le h1 (hle (i+1) j (by omega) hj h)
 ·have e:j=i+1:=by omega
  subst e;exact h1
end Go.Am
end
section
/- Records alike;copies;bins. -/
open Go
set_option linter.unusedSimpArgs false
namespace Go.Am
variable {h:aA} {K:jA}
def uZ (a b:Rec):Bool:=decide (a.unit=b.unit)&&(decide (a.time=b.time)&&(decide (a.site=b.site)&&decide (a.res=b.res)))
theorem zhx (a b:Rec):uZ a b=true↔a=b:=by
 cases a;cases b
 simp [uZ]
theorem z3R {b:Nat}{P:jA}{vs:List AV}{h:aA}{x:Esc}(hx:∀ y∈x,b≤y.1){v:AV}(h1:MA b h (UA vs)=some v)(h2:v.top≤b):QC false b P (some vs) h x=P v (h.take b) []:=by
 have e:max b v.top=b:=by omega
 have c:vB x b=true:=by
  unfold vB;rw[List.all_eq_true];intro y hy;simp [hx y hy]
 have f:x.filter (fun y=>decide (y.1<b))=[]:=by
  rw[List.filter_eq_nil_iff];intro y hy;have:=hx y hy;simp;omega
 simp only[QC,h1,e,z1k hx,c,if_true,f];exact propext ⟨fun h=>h.2,fun h=>⟨h2,h⟩⟩
end Go.Am
end
section
/- Sorting numbers: printed by program. -/
open Go
set_option linter.unusedSimpArgs false
namespace Go.Am
attribute [-go_sem] PV.cells splice
variable {h:aA} {K:jA}
theorem zeg (id n:Nat)(l tl:List PV)(hn:n=l.length+tl.length)(hs:XB none l)(hl:l.length≤1000)(hh:h[id]?=some (.row none (l++tl) 0)){lt:PV→PV→Bool}(hc:∀ x∈l,∀ y∈l,∀ (h:aA) (K:jA),eA X WD [.p x,.p y] h K=K (AB (lt x y)) h []) :
 eA X aI [.own id n 0 l.length,AI 0,AI l.length] h K=K (.tup []) (h.set id (.row none (XA lt l++tl) 0)) []:=by
 refine tA ?_;rw[z0R];have hid:=YD hh
 have hst:∀o,(h.set id o)[id]?=some o:=fun o=>QD hid
 simp only[EK,go_sem,show IntKind.i64.wrap 1=1 from rfl]
 refine FA (fun i:Nat=>⟨[(0,.own id n 0 l.length),(1,AI 0),(2,AI l.length),(6,AI i)],h.set id (.row none ((bC lt (l.take i)).reverse++(l.drop i++tl)) 0),[]⟩) (fun i=>1≤i∧(i≤l.length∨i=1)) (fun i=>l.length-i) 1 ?_ (by simp) ?_
 ·have:(bC lt (l.take 1)).reverse++(l.drop 1++tl)=l++tl:=by cases l <;> rfl
  rw[this,dD hh];rfl
 rintro i ⟨hi1,hi2⟩
 rcases Nat.lt_or_ge i l.length with hlt|hge
 ·simp only[go_sem,hlt]
  have hxl:l[i]∈l:=List.getElem_mem hlt
  generalize hx:l[i]=x at *;generalize hR:bC lt (l.take i)=R;have hRl:R.length=i:=by rw[←hR,ZW];simp;omega
  have hRm:∀z∈R,z∈l:=fun z hz=>List.mem_of_mem_take ((IL lt (l.take i)).mem_iff.1 (by rw[hR];exact hz))
  have hdrop:l.drop i=x::l.drop (i+1):=by rw[←hx];exact List.drop_eq_getElem_cons hlt
  have hnext:bC lt (l.take (i+1))=nB lt x R:=by rw[aX _ _ _ hlt,hR,hx]
  refine FA (fun t:List PV×List PV=>⟨[(0,.own id n 0 l.length),(1,AI 0),(2,AI l.length),(6,AI i),(7,AI t.1.length)],h.set id (.row none (t.1.reverse++x::t.2) 0),[]⟩)
   (fun t=>∃B,R=B++t.1∧t.2=B.reverse++(l.drop (i+1)++tl)∧∀b∈B,lt x b=true) (fun t=>t.1.length) (R,l.drop (i+1)++tl) (by rw[hdrop,hRl];rfl) ⟨[],rfl,rfl,by simp⟩ ?_
  rintro⟨A,C⟩ ⟨B,q1,q2,q3⟩
  dsimp only at q1 q2 q3;have hlen:(A.reverse++x::C).length=n:=by
   have:R.length=B.length+A.length:=by rw[q1];simp
   rw[q2];simp;omega
  have hBA:B.length+A.length<l.length:=by
   have:R.length=B.length+A.length:=by rw[q1];simp
   omega
  have hln:l.length≤n:=by omega
  have w1:IntKind.i64.wrap ((i:Int)+1)=((i+1:Nat):Int):=qA _ (by omega) (by omega)
  cases A with
  | nil=>
   have hd:nB lt x R=B++[x]:=by rw[q1];exact gI lt x [] B q3 (fun y r h=>by cases h)
   simp only[go_sem,Int.lt_irrefl,w1];refine⟨i+1,?_,by omega,by omega⟩
   simp only[hnext,hd,q2,List.reverse_append,List.reverse_nil,List.nil_append,List.reverse_cons,List.append_assoc,List.cons_append]
  | cons y A=>
   have hyl:y∈l:=hRm y (by rw[q1];simp)
   have g1:=UW (y::A) C x
   have g2:=VW A C x y
   have sw:=WW A C x y
   simp only[List.length_cons]at hBA;generalize hrow:(y::A).reverse++x::C=row at *;simp only[List.length_cons]at g1;have w2:IntKind.i64.wrap (((A.length+1:Nat):Int)-1)=(A.length:Int):=by rw[qA _ (by omega) (by omega)];omega
   have p1:(0:Int)<((A.length+1:Nat):Int):=by omega
   have b1:A.length+1<l.length:=by omega
   have b2:A.length<l.length:=by omega
   have cx:=qC (hs x hxl)
   have cy:=qC (hs y hyl)
   have hcc:=fun h K=>hc x hxl y hyl h K
   cases hxy:lt x y with
   | false=>
    have hd:nB lt x R=B++x::y::A:=by rw[q1];exact gI lt x (y::A) B q3 (fun z r h=>by cases h;exact hxy)
    simp only[go_sem,hst,p1,hlen,g1,g2,w2,b1,b2,hln,cx,cy,hcc,hxy,w1];refine⟨i+1,?_,by omega,by omega⟩
    simp only[hnext,hd,←hrow,q2,List.reverse_append,List.reverse_cons,List.append_assoc,List.cons_append,List.nil_append]
   | true=>
    have g3:(row.set (A.length+1) y)[A.length]?=some y:=by rw[List.getElem?_set_ne (by omega),g2]
    have lx:=nF (hs x hxl)
    have ly:=nF (hs y hyl)
    have sx:=mF (hs x hxl)
    have sy:=mF (hs y hyl)
    simp only[gA]at lx ly;have t1:=fun i xs h1=>oF (hs x hxl) (hs y hyl) id i 0 xs h1
    have t2:=fun i xs h1=>oF (hs y hyl) (hs x hxl) id i 0 xs h1
    simp only[go_sem,hst,p1,hlen,g1,g2,g3,w2,b1,b2,hln,cx,cy,hcc,hxy,lx,ly,sx,sy,t1,t2,sw];refine⟨(A,y::C),rfl,⟨B++[y],by simp [q1],by simp [q2],fun b hb=>?_⟩,by simp⟩
    rw[List.mem_append,List.mem_singleton]at hb;rcases hb with hb|rfl
    ·exact q3 b hb
    ·exact hxy
 ·have hge':¬i<l.length:=by omega
  have e1:l.take i=l:=List.take_of_length_le hge
  have e2:l.drop i=[]:=List.drop_of_length_le hge
  simp only[go_sem,hge',e1,e2];rfl
theorem z6f (id n:Nat)(l tl:List PV)(hn:n=l.length+tl.length)(hs:XB none l)(hl:l.length≤12)(hh:h[id]?=some (.row none (l++tl) 0)){lt:PV→PV→Bool}(hc:∀ x∈l,∀ y∈l,∀ (h:aA) (K:jA),eA X WD [.p x,.p y] h K=K (AB (lt x y)) h []) :
 eA X ED [.own id n 0 l.length] h K=K (.tup []) (h.set id (.row none (XA lt l++tl) 0)) []:=by
 refine tA ?_;rw[z0Q];have w0:IntKind.u64.wrap (l.length:Int)=l.length:=LZ _ (by omega) (by omega)
 obtain⟨m,hm⟩:=dX (l.length:Int) (by omega) (by omega)
 have is:=fun h' (hq:h'=h) K=>zeg (h:=h) (K:=K) id n l tl hn hs (by omega) hh hc
 have key:∀K:jA,eA X KF [.own id n 0 l.length,AI 0,AI l.length,AI m] h K=K (.tup []) (h.set id (.row none (XA lt l++tl) 0)) []:=by
  intro K;refine tA ?_;rw[z0S];simp only[FK,go_sem];refine FA (fun _:Unit=>⟨[(0,.own id n 0 l.length),(1,AI 0),(2,AI l.length),(3,AI m),(8,AB true),(9,AB true)],h,[]⟩) (fun _=>True) (fun _=>0) () rfl trivial ?_
  intro _ _;have w1:IntKind.i64.wrap ((l.length:Int)-0)=l.length:=by rw[qA _ (by omega) (by omega)];omega
  have b1:((l.length:Int)≤12):=by omega
  simp only[go_sem,w1,b1,is _ rfl]
 simp only[DK,go_sem,w0,hm,key]
end Go.Am
end
section
/- Bins,both ways;lists joined;records sorted. -/
open Go
set_option linter.unusedSimpArgs false
namespace Go.Am
variable {h:aA} {K:jA}
end Go.Am
end
section
/- Lists of records joined,compared,merged. -/
open Go
set_option linter.unusedSimpArgs false
namespace Go.Am
variable {h:aA} {K:jA}
instance:DecidableEq Rec:=fun a b=>decidable_of_iff (uZ a b=true) (zhx a b)
end Go.Am
end
section
/- Records merged asv the reference does it. -/
open Go
set_option linter.unusedSimpArgs false
namespace Go.Am
variable {h:aA} {K:jA}
end Go.Am
end
section
/- Retests: which record of a unit counts. Plain lists;both ways yield the same. -/
set_option linter.all false
namespace Go.Am
end Go.Am
end
section
/- Lists of strings. -/
open Go
set_option linter.all false
namespace Go.Am
variable {h:aA} {K:jA}
abbrev EA (us:List (List UInt8)):AV:=.p (.sl none (us.map PV.str))
end Go.Am
end
section
/- Tests and faults: what is wrong with them,both ways. -/
open Go
set_option linter.all false
namespace Go.Am
variable {h:aA} {K:jA}
theorem zhe (s cs:List UInt8)(hs:s.length≤1000000)(hc:cs.length≤1000)(ha:cs.all (fun b=>decide (b.toNat<128))=true):eA X oO [AS s,AS cs] h K=K (AS (tM s cs)) h []:=by
 refine gX (X:=X) (by kernel_rfl) ?_
 first|rw[show X.ex2=bF GRL PRL from rfl]|skip
 show bF GRL PRL oO [AS s,AS cs] h=some (AS (tM s cs),h,[])
 exact z2Y (vs:=[.str s,.str cs]) (by kernel_rfl) (s:=trimS) (by kernel_rfl) rfl (by simp only[trimS];rw[if_pos ⟨hs,hc,ha⟩])
theorem zgF (s:List UInt8)(hs:s.length≤1000000):eA X JK [AS s] h K=K (AB (zB s)) h []:=by
 refine tA ?_;rw[z7d rfl];have e:=fun h K=>zhe (h:=h) (K:=K) s [48,49] hs (by simp) (by decide)
 have b:decide (tM s [48,49]=[])=zB s:=ziw s
 simp only[TM,go_sem,e,b]
theorem zgG (s:List UInt8)(hs:s.length≤1000000):eA X VK [AS s] h K=K (AB (zB s)) h []:=by
 refine tA ?_;rw[z7N rfl];have e:=fun h K=>zhr (h:=h) (K:=K) s [48,49] (by omega)
 have b:(s.all fun c=>[48,49].contains c)=zB s:=rfl
 simp only[xN,go_sem,e,b]
theorem z4o (t:List (List UInt8))(hb:∀ s∈t,s.length≤1000000)(hn:t.length≤1000000):eA X GH [EA t] h K=K (AI (RC t)) h []:=by
 refine tA ?_;rw[z7k rfl];unfold RC;by_cases h0:t.length=0
 ·simp only[zH,go_sem,h0]
 have h0':¬((t.length:Int)=0):=by omega
 by_cases h1:100<t.length
 ·have h1':(100:Int)<(t.length:Int):=by omega
  simp only[zH,go_sem,h0',h0,h1,h1']
 have h1':¬(100:Int)<(t.length:Int):=by omega
 simp only[zH,go_sem,h0',h0,h1,h1'];obtain⟨lg,hlg⟩:∃n,(t.headD []).length=n:=⟨_,rfl⟩;rw[hlg];refine FA (fun k:Nat=>⟨[(0,EA t),(13,EA t),(14,AI t.length),(15,AI k)],h,[]⟩) (fun k=>k≤t.length∧CE lg (t.drop k)=CE lg t) (fun k=>t.length-k) 0 rfl ⟨by omega,by simp⟩ ?_
 rintro k ⟨hk,hp⟩
 rcases Nat.lt_or_ge k t.length with hlt|hge
 ·have hg:=PA PV.str hlt
  have hg0:=PA PV.str (show 0<t.length by omega)
  have cz:mB none 0 (PV.str t[k])=some (PV.str t[k]):=rfl
  have hz:t[0].length=lg:=by
   rw[←hlg];cases t with
   | nil=>exact absurd rfl h0
   | cons a r=>rfl
  have w2:IntKind.i64.wrap ((k:Int)+1)=((k+1:Nat):Int):=qA _ (by omega) (by omega)
  have eb:=fun h K=>zgF (h:=h) (K:=K) t[k] (hb _ (List.getElem_mem hlt))
  rw[List.drop_eq_getElem_cons hlt,CE]at hp;cases hbb:zB t[k]with
  | false=>
   rw[hbb]at hp;simp only[if_true]at hp;rw[←hp];simp only[go_sem,hlt,hg,eb,hbb]
  | true=>
   rw[hbb]at hp;simp only[Bool.true_eq_false,if_false]at hp;by_cases h2:64<t[k].length
   ·have h2':(64:Int)<(t[k].length:Int):=by omega
    rw[if_pos h2]at hp;rw[←hp];simp only[go_sem,hlt,hg,eb,hbb,h2']
   ·have h2':¬(64:Int)<(t[k].length:Int):=by omega
    rw[if_neg h2]at hp;by_cases h3:t[k].length=lg
    ·have h3':((t[k].length:Int)=(lg:Int)):=by omega
     rw[if_neg (by omega)]at hp
     have h2'':¬(64:Int)<(lg:Int):=by omega
     simp only[go_sem,hlt,hg,hg0,hz,eb,hbb,h2',h2'',h3',w2];exact⟨k+1,rfl,⟨by omega,hp⟩,by omega⟩
    ·have h3':¬((t[k].length:Int)=(lg:Int)):=by omega
     rw[if_pos h3]at hp;rw[←hp];simp only[go_sem,hlt,hg,hg0,hz,eb,hbb,h2',h3']
 ·have e1:k=t.length:=by omega
  subst e1;rw[List.drop_length]at hp;rw[←hp];simp only[go_sem,Nat.lt_irrefl];rfl
theorem zhd (t:List (List UInt8))(hb:∀ s∈t,s.length≤1000000)(hn:t.length≤1000000):eA X ZK [EA t] h K=K (AI (RC t)) h []:=by
 refine tA ?_;rw[z7W rfl];unfold RC;by_cases h0:t.length=0
 ·simp only[EH,go_sem,h0]
 have h0':¬((t.length:Int)=0):=by omega
 by_cases h1:100<t.length
 ·have h1':(100:Int)<(t.length:Int):=by omega
  simp only[EH,go_sem,h0',h0,h1,h1']
 have h1':¬(100:Int)<(t.length:Int):=by omega
 simp only[EH,go_sem,h0',h0,h1,h1'];obtain⟨lg,hlg⟩:∃n,(t.headD []).length=n:=⟨_,rfl⟩;rw[hlg];refine FA (fun k:Nat=>⟨[(0,EA t),(13,EA t),(14,AI t.length),(15,AI k)],h,[]⟩) (fun k=>k≤t.length∧CE lg (t.drop k)=CE lg t) (fun k=>t.length-k) 0 rfl ⟨by omega,by simp⟩ ?_
 rintro k ⟨hk,hp⟩
 rcases Nat.lt_or_ge k t.length with hlt|hge
 ·have hg:=PA PV.str hlt
  have hg0:=PA PV.str (show 0<t.length by omega)
  have cz:mB none 0 (PV.str t[k])=some (PV.str t[k]):=rfl
  have hz:t[0].length=lg:=by
   rw[←hlg];cases t with
   | nil=>exact absurd rfl h0
   | cons a r=>rfl
  have w2:IntKind.i64.wrap ((k:Int)+1)=((k+1:Nat):Int):=qA _ (by omega) (by omega)
  have eb:=fun h K=>zgG (h:=h) (K:=K) t[k] (hb _ (List.getElem_mem hlt))
  rw[List.drop_eq_getElem_cons hlt,CE]at hp;cases hbb:zB t[k]with
  | false=>
   rw[hbb]at hp;simp only[if_true]at hp;rw[←hp];simp only[go_sem,hlt,hg,eb,hbb]
  | true=>
   rw[hbb]at hp;simp only[Bool.true_eq_false,if_false]at hp;by_cases h2:64<t[k].length
   ·have h2':(64:Int)<(t[k].length:Int):=by omega
    rw[if_pos h2]at hp;rw[←hp];simp only[go_sem,hlt,hg,eb,hbb,h2']
   ·have h2':¬(64:Int)<(t[k].length:Int):=by omega
    rw[if_neg h2]at hp;by_cases h3:t[k].length=lg
    ·have h3':((t[k].length:Int)=(lg:Int)):=by omega
     rw[if_neg (by omega)]at hp
     have h2'':¬(64:Int)<(lg:Int):=by omega
     simp only[go_sem,hlt,hg,hg0,hz,eb,hbb,h2',h2'',h3',w2];exact⟨k+1,rfl,⟨by omega,hp⟩,by omega⟩
    ·have h3':¬((t[k].length:Int)=(lg:Int)):=by omega
     rw[if_pos h3]at hp;rw[←hp];simp only[go_sem,hlt,hg,hg0,hz,eb,hbb,h2',h3']
 ·have e1:k=t.length:=by omega
  subst e1;rw[List.drop_length]at hp;rw[←hp];simp only[go_sem,Nat.lt_irrefl];rfl
end Go.Am
end
section
/- Faults: what is wrong with them,both ways. -/
open Go
set_option linter.all false
namespace Go.Am
variable {h:aA} {K:jA}
def Flt.pv (f:Flt):PV:=.agg [eI f.kind,.sl none (f.nets.map eI)]
abbrev MB (l:List Flt):AV:=.p (.sl (some 2) (l.map Flt.pv))
theorem z5Z {v:AV}(l:List Int)(hv:Shows none v (l.map eI) h)(x:Int)(hl:l.length≤1000000):eA X oL [v,AI x] h K=K (AI (if l.findIdx (fun y=>decide (y=x))<l.length then(l.findIdx (fun y=>decide (y=x)):Int) else -1)) h []:=by
 refine tA ?_;rw[z8v];have vl:=hv.len
 rw[List.length_map]at vl;simp only[XN,go_sem,vl];refine FA (fun k:Nat=>⟨[(0,v),(1,AI x),(7,AI l.length),(8,AI k)],h,[]⟩) (fun k=>k≤l.length∧∀y∈l.take k,decide (y=x)=false) (fun k=>l.length-k) 0 rfl (by simp) ?_
 rintro k ⟨hk,hn⟩
 rcases Nat.lt_or_ge k l.length with hlt|hge
 ·obtain⟨a,ha,hb⟩:=hv.get k (by simpa using hlt)
  rw[List.getElem_map]at hb;have w2:IntKind.i64.wrap ((k:Int)+1)=((k+1:Nat):Int):=qA _ (by omega) (by omega)
  by_cases hpk:x=l[k]
  ·have hf:l.findIdx (fun y=>decide (y=x))=k:=by
    rw[List.findIdx_eq hlt];refine⟨by simp [hpk],fun j hj=>?_⟩
    have:=hn l[j] (by rw[List.mem_take_iff_getElem];exact⟨j,by omega,rfl⟩)
    simpa using this
   simp only[go_sem,hlt,ha,hb,hpk.symm,w2];simp only[hf,hlt,if_true]
  ·simp only[go_sem,hlt,ha,hb,hpk,w2]
   refine⟨k+1,rfl,⟨by omega,fun y hy=>?_⟩,by omega⟩
   rw[List.take_succ_eq_append_getElem hlt,List.mem_append,List.mem_singleton]at hy;rcases hy with hy|hy
   ·exact hn y hy
   ·rw[hy];simp;exact fun e=>hpk e.symm
 ·have e1:k=l.length:=by omega
  subst e1;simp only[go_sem,Nat.lt_irrefl];rw[List.take_length]at hn;have:¬l.findIdx (fun y=>decide (y=x))<l.length:=by
   rw[Nat.not_lt,Nat.le_iff_lt_or_eq];right
   exact(List.findIdx_eq_length.2 (fun y hy=>by simp [hn y hy])).symm
  rw[if_neg this]
theorem z5K {v:AV}(l:List Int)(hv:∀ h':aA,h'=h→Shows none v (l.map eI) h')(x:Int)(hl:l.length≤1000000):eA X XD [v,AI x] h K=K (AB (l.contains x)) h []:=by
 refine tA ?_;rw[z8o];have e:=fun K=>z5Z (h:=h) (K:=K) l (hv h rfl) x hl
 have hd:decide (0≤(if l.findIdx (fun y=>decide (y=x))<l.length then(l.findIdx (fun y=>decide (y=x)):Int) else -1))=l.contains x:=by
  rw[Bool.eq_iff_iff,decide_eq_true_eq,List.contains_iff_mem];constructor
  ·intro hq
   split at hq
   ·rename_i hlt
    have:=List.findIdx_getElem (w:=hlt);simp only[decide_eq_true_eq]at this;exact this ▸ List.getElem_mem hlt
   ·omega
  ·intro hm
   rw[if_pos (List.findIdx_lt_length_of_exists ⟨x,hm,by simp⟩)];omega
 simp only[SN,go_sem,e,hd]
theorem bR (l:List Int)(x:Int)(hl:l.length≤1000000):eA X XD [AL l,AI x] h K=K (AB (l.contains x)) h []:=z5K l (fun h' _=>eR iH) x hl
def cD (f:Flt)(r:List Int):Int:=if zE r=false then 7 else if f.kind=5∧r.contains (f.nets.headD 0)=true then 6 else 0
theorem EL {l:List Int}(hl:0<l.length):(l.map eI)[0]?=some (eI (l.headD 0)):=by
 cases l with
 | nil=>simp at hl
 | cons a r=>rfl
theorem zgA (f:Flt)(r:List Int)(hr:r.length≤1000000)(h0:0<f.nets.length){id:Nat}(hh:h[id]?=some (.box [AI f.kind,AL f.nets])){K:Ex→St→Prop}(hK:K .ret ⟨[(4,AI (cD f r))],h,[]⟩) :
 yH (eA X) X.gl rI SO (.ref id 0) (AL r) h [] K:=by
 simp only[yH,go_sem];refine FA (fun k:Nat=>⟨[(3,.ref id 0),(7,AL r),(8,AI ((k+1:Nat):Int))],h,[]⟩) (fun k=>(k+1≤r.length∨k=0)∧zE (r.drop k)=zE r) (fun k=>r.length-k) 0 rfl ⟨.inr rfl,by simp⟩ ?_
 rintro k ⟨hk,hp⟩
 rcases Nat.lt_or_ge (k+1) r.length with hlt|hge
 ·have g1:=PA eI (show k<r.length by omega)
  have g2:=PA eI hlt
  have w1:IntKind.i64.wrap (((k+1:Nat):Int)-1)=(k:Int):=by rw[qA _ (by omega) (by omega)];omega
  have w2:IntKind.i64.wrap (((k+1:Nat):Int)+1)=((k+1+1:Nat):Int):=qA _ (by omega) (by omega)
  rw[z3T r k hlt]at hp;by_cases hq:r[k+1]≤r[k]
  ·have:¬r[k]<r[k+1]:=by omega
   simp only[this,decide_false,Bool.false_and]at hp;simp only[go_sem,hlt,g1,g2,w1,hq];have e:cD f r=7:=by unfold cD;rw[←hp];rfl
   rw[e]at hK;exact hK
  ·have:r[k]<r[k+1]:=by omega
   simp only[this,decide_true,Bool.true_and]at hp;simp only[go_sem,hlt,g1,g2,w1,w2,hq];exact⟨k+1,rfl,⟨.inl (by omega),hp⟩,by omega⟩
 ·have hge':¬(((k+1:Nat):Int)<(r.length:Int)):=by omega
  rw[z3S r k hge]at hp;have c:=fun h K=>bR (h:=h) (K:=K) r (f.nets.headD 0) hr
  have g0:=EL h0
  unfold cD at hK;rw[←hp]at hK;simp only[Bool.true_eq_false,if_false]at hK;by_cases h5:f.kind=5
  ·cases hc:r.contains (f.nets.headD 0) with
   | true=>
    rw[hc]at hK;simp only[h5,and_self,if_true]at hK;rw[h5]at hh;simp only[go_sem,hge',hh,c,g0,hc];exact hK
   | false=>
    rw[hc]at hK;simp only[Bool.false_eq_true,and_false,if_false]at hK;rw[h5]at hh;simp only[go_sem,hge',hh,c,g0,hc];exact hK
  ·simp only[h5,false_and,if_false]at hK
   simp only[go_sem,hge',hh,h5];exact hK
theorem zgB (f:Flt)(r:List Int)(hr:r.length≤1000000)(h0:0<f.nets.length){id:Nat}(hh:h[id]?=some (.box [AI f.kind,AL f.nets])){K:Ex→St→Prop}(hK:K .ret ⟨[(4,AI (cD f r))],h,[]⟩) :
 DH (eA X) X.gl PI LP (.ref id 0) (AL r) h [] K:=by
 simp only[DH,go_sem];refine FA (fun k:Nat=>⟨[(3,.ref id 0),(5,AL r),(6,AI ((k+1:Nat):Int))],h,[]⟩) (fun k=>(k+1≤r.length∨k=0)∧zE (r.drop k)=zE r) (fun k=>r.length-k) 0 rfl ⟨.inr rfl,by simp⟩ ?_
 rintro k ⟨hk,hp⟩
 rcases Nat.lt_or_ge (k+1) r.length with hlt|hge
 ·have g1:=PA eI (show k<r.length by omega)
  have g2:=PA eI hlt
  have w1:IntKind.i64.wrap (((k+1:Nat):Int)-1)=(k:Int):=by rw[qA _ (by omega) (by omega)];omega
  have w2:IntKind.i64.wrap (((k+1:Nat):Int)+1)=((k+1+1:Nat):Int):=qA _ (by omega) (by omega)
  rw[z3T r k hlt]at hp;by_cases hq:r[k+1]≤r[k]
  ·have:¬r[k]<r[k+1]:=by omega
   simp only[this,decide_false,Bool.false_and]at hp;simp only[go_sem,hlt,g1,g2,w1,hq];have e:cD f r=7:=by unfold cD;rw[←hp];rfl
   rw[e]at hK;exact hK
  ·have:r[k]<r[k+1]:=by omega
   simp only[this,decide_true,Bool.true_and]at hp;simp only[go_sem,hlt,g1,g2,w1,w2,hq];exact⟨k+1,rfl,⟨.inl (by omega),hp⟩,by omega⟩
 ·have hge':¬(((k+1:Nat):Int)<(r.length:Int)):=by omega
  rw[z3S r k hge]at hp;have c:=fun h K=>bR (h:=h) (K:=K) r (f.nets.headD 0) hr
  have g0:=EL h0
  unfold cD at hK;rw[←hp]at hK;simp only[Bool.true_eq_false,if_false]at hK;by_cases h5:f.kind=5
  ·cases hc:r.contains (f.nets.headD 0) with
   | true=>
    rw[hc]at hK;simp only[h5,and_self,if_true]at hK;rw[h5]at hh;simp only[go_sem,hge',hh,c,g0,hc];exact hK
   | false=>
    rw[hc]at hK;simp only[Bool.false_eq_true,and_false,if_false]at hK;rw[h5]at hh;simp only[go_sem,hge',hh,c,g0,hc];exact hK
  ·simp only[h5,false_and,if_false]at hK
   simp only[go_sem,hge',hh,h5];exact hK
theorem FJ (k:Int):eA X KH [AI k] h K=K (AB (BE k)) h []:=by
 refine tA ?_;rw[z7u rfl];have e:(!(decide (k<3)||decide (5<k)))=BE k:=by unfold BE;rw[Bool.eq_iff_iff];simp
 simp only[cN,go_sem,dG,e]
theorem GJ (k:Int):eA X WH [AI k] h K=K (AB (BE k)) h []:=by
 refine tA ?_;rw[z8f rfl];simp only[LN,go_sem,eG];rfl
theorem z6z {p:Int→Bool}{l:List Int}{k:Nat}(hk:k<l.length)(hp:(l.drop k).any p=l.any p):(p l[k]||(l.drop (k+1)).any p)=l.any p:=by
 rw[List.drop_eq_getElem_cons hk,List.any_cons]at hp;exact hp
attribute [-go_sem] yH DH
theorem zgH (n:Int)(f:Flt)(hn : -1000000000000000≤n)(hl:f.nets.length≤1000000):eA X LK [AI n,.p f.pv] h K=K (AI (NB n f)) h []:=by
 refine tA ?_;rw[z7j rfl];unfold NB;by_cases h1:n<1∨100<n
 ·have e:(decide (n<1)||decide (100<n))=true:=by rw[Bool.or_eq_true,decide_eq_true_eq,decide_eq_true_eq];exact h1
  simp only[zF,Flt.pv,go_sem,dG,e,h1]
 have e1:(decide (n<1)||decide (100<n))=false:=by rw[Bool.or_eq_false_iff,decide_eq_false_iff_not,decide_eq_false_iff_not];omega
 by_cases h2:f.kind<1∨6<f.kind
 ·have e:(decide (f.kind<1)||decide (6<f.kind))=true:=by rw[Bool.or_eq_true,decide_eq_true_eq,decide_eq_true_eq];exact h2
  simp only[zF,Flt.pv,go_sem,dG,e1,e,h1,h2]
 have e2:(decide (f.kind<1)||decide (6<f.kind))=false:=by rw[Bool.or_eq_false_iff,decide_eq_false_iff_not,decide_eq_false_iff_not];omega
 by_cases h3:f.nets.length=0
 ·simp only[zF,Flt.pv,go_sem,dG,e1,e2,h1,h2,h3]
 have h3':¬((f.nets.length:Int)=0):=by omega
 by_cases h4:6<f.nets.length
 ·have h4':(6:Int)<f.nets.length:=by omega
  simp only[zF,Flt.pv,go_sem,dG,e1,e2,h1,h2,h3,h3',h4,h4']
 have h4':¬(6:Int)<f.nets.length:=by omega
 simp only[zF,Flt.pv,go_sem,dG,e1,e2,h1,h2,h3,h3',h4,h4'];refine FA (fun k:Nat=>⟨[(0,AI n),(3,.ref h.length 0),(27,AL f.nets),(28,AI f.nets.length),(29,AI k)],h++[.box [AI f.kind,AL f.nets]],[]⟩) (fun k=>k≤f.nets.length∧(f.nets.drop k).any (wC n)=f.nets.any (wC n)) (fun k=>f.nets.length-k) 0 rfl ⟨by omega,by simp⟩ ?_
 rintro k ⟨hk,hp⟩
 have w1:IntKind.i64.wrap (n-1)=n-1:=qA _ (by omega) (by omega)
 rcases Nat.lt_or_ge k f.nets.length with hlt|hge
 ·have hg:=PA eI hlt
  have w2:IntKind.i64.wrap ((k:Int)+1)=((k+1:Nat):Int):=qA _ (by omega) (by omega)
  have hp2:=z6z hlt hp
  cases ho:wC n f.nets[k]with
  | true=>
   rw[ho,Bool.true_or]at hp2;unfold wC at ho;simp only[go_sem,hlt,hg,w1,dG,ho,←hp2]
  | false=>
   rw[ho,Bool.false_or]at hp2;unfold wC at ho;simp only[go_sem,hlt,hg,w1,dG,ho,w2];exact⟨k+1,rfl,⟨by omega,hp2⟩,by omega⟩
 ·have e1:k=f.nets.length:=by omega
  subst e1;rw[List.drop_length]at hp;rw[←hp];simp only[List.any_nil,Bool.false_eq_true,if_false];have hi:(1<(f.nets.length:Int))=(1<f.nets.length):=by simp only[eq_iff_iff];omega
  have h0:0<f.nets.length:=by omega
  have hh:(h++[Obj.box [AI f.kind,AL f.nets]])[h.length]?=some (.box [AI f.kind,AL f.nets]):=oG _ _
  have R:=fun r hr (K:Ex→St→Prop)=>zgA (h:=h++[Obj.box [AI f.kind,AL f.nets]]) f r hr h0 hh (K:=K)
  obtain⟨kd,ns⟩:=f;dsimp only at *;have hw:win (ns.map eI) 1 (ns.length-1)=(ns.drop 1).map eI:=by rw[z5p];congr 1;unfold win;exact List.take_of_length_le (by simp)
  have hle:1≤ns.length:=h0
  by_cases h6:kd=5
  ·subst h6
   have s5:BE 5=true:=rfl
   by_cases hm:1<ns.length
   ·have q:=R (ns.drop 1) (by simp;omega)
    simp only[go_sem,Nat.lt_irrefl,FJ,s5,hi,hm,hw,hle];refine q _ ?_;simp only[go_sem,cD]
   ·simp only[go_sem,Nat.lt_irrefl,FJ,s5,hi,hm]
  ·have q:=R ns hl
   cases hs:BE kd with
   | true=>
    by_cases hm:1<ns.length
    ·simp only[go_sem,Nat.lt_irrefl,FJ,hs,hi,hm,h6]
     refine q _ ?_;simp only[go_sem,cD,h6]
    ·simp only[go_sem,Nat.lt_irrefl,FJ,hs,hi,hm]
   | false=>
    by_cases hm:1<ns.length
    ·simp only[go_sem,Nat.lt_irrefl,FJ,hs,hi,hm]
    ·simp only[go_sem,Nat.lt_irrefl,FJ,hs,hi,hm,h6]
     refine q _ ?_;simp only[go_sem,cD,h6]
theorem s_FF1 (n x:Int)(hn : -1000000000000000≤n)(hn2:n≤100)(id:Nat)(hh:h[id]?=some (.box [AI n])):eA X MG [AI x,.ref id 0] h K=K (AB (wC n x)) h []:=by
 refine tA ?_;rw[z7P rfl];have w1:IntKind.i64.wrap (n-1)=n-1:=qA _ (by omega) (by omega)
 have e:(!(decide (0≤x)&&decide (x≤n-1)))=wC n x:=by
  unfold wC;rw[Bool.eq_iff_iff];simp
 simp only[yN,go_sem,hh,w1,eG,e]
theorem zgP (n:Int)(f:Flt)(hn : -1000000000000000≤n)(hl:f.nets.length≤1000000):eA X WK [AI n,.p f.pv] h K=K (AI (NB n f)) h []:=by
 refine tA ?_;rw[z7O rfl];unfold NB;by_cases h1:n<1∨100<n
 ·have e:(decide (1≤n)&&decide (n≤100))=false:=by rw[Bool.and_eq_false_iff,decide_eq_false_iff_not,decide_eq_false_iff_not];omega
  simp only[RE,Flt.pv,go_sem,eG,e,h1]
 have e1:(decide (1≤n)&&decide (n≤100))=true:=by rw[Bool.and_eq_true,decide_eq_true_eq,decide_eq_true_eq];omega
 by_cases h2:f.kind<1∨6<f.kind
 ·have e:(decide (1≤f.kind)&&decide (f.kind≤6))=false:=by rw[Bool.and_eq_false_iff,decide_eq_false_iff_not,decide_eq_false_iff_not];omega
  simp only[RE,Flt.pv,go_sem,eG,e1,e,h1,h2]
 have e2:(decide (1≤f.kind)&&decide (f.kind≤6))=true:=by rw[Bool.and_eq_true,decide_eq_true_eq,decide_eq_true_eq];omega
 by_cases h3:f.nets.length=0
 ·simp only[RE,Flt.pv,go_sem,eG,e1,e2,h1,h2,h3]
 have h3':¬((f.nets.length:Int)=0):=by omega
 by_cases h4:6<f.nets.length
 ·have h4':(6:Int)<f.nets.length:=by omega
  simp only[RE,Flt.pv,go_sem,eG,e1,e2,h1,h2,h3,h3',h4,h4']
 have h4':¬(6:Int)<f.nets.length:=by omega
 have T:nG MG [.ref h.length 0] (fun x=>wC n (unI x)) (f.nets.map eI) (h++[.box [AI n],.box [AI f.kind,AL f.nets]]):=by
  intro x hx K;obtain⟨m,_,rfl⟩:=List.mem_map.1 hx;exact s_FF1 n m hn (by omega) h.length (by rw[oG];rfl)
 have C:=fun K=>z0d (K:=K) T iH (by simp;omega)
 have ea:(f.nets.map eI).any (fun x=>wC n (unI x))=f.nets.any (wC n):=by rw[List.any_map];rfl
 rw[ea]at C;cases ha:f.nets.any (wC n) with
 | true=>
  rw[ha]at C;simp only[RE,Flt.pv,go_sem,eG,e1,e2,h1,h2,h3,h3',h4,h4',C]
 | false=>
 rw[ha]at C;simp only[RE,Flt.pv,go_sem,eG,e1,e2,h1,h2,h3,h3',h4,h4',C];have hi:(1<(f.nets.length:Int))=(1<f.nets.length):=by simp only[eq_iff_iff];omega
 have h0:0<f.nets.length:=by omega
 have hh:(h++[.box [AI n],Obj.box [AI f.kind,AL f.nets]])[h.length+1]?=some (.box [AI f.kind,AL f.nets]):=by rw[tF];rfl
 have R:=fun r hr (K:Ex→St→Prop)=>zgB (h:=h++[.box [AI n],Obj.box [AI f.kind,AL f.nets]]) f r hr h0 hh (K:=K)
 obtain⟨kd,ns⟩:=f;dsimp only at *;have hw:win (ns.map eI) 1 (ns.length-1)=(ns.drop 1).map eI:=by rw[z5p];congr 1;unfold win;exact List.take_of_length_le (by simp)
 have hle:1≤ns.length:=h0
 by_cases h6:kd=5
 ·subst h6
  have s5:BE 5=true:=rfl
  by_cases hm:1<ns.length
  ·have q:=R (ns.drop 1) (by simp;omega)
   simp only[go_sem,GJ,s5,hi,hm,hw,hle];refine q _ ?_;simp only[go_sem,cD]
  ·simp only[go_sem,GJ,s5,hi,hm]
 ·have q:=R ns hl
  cases hs:BE kd with
  | true=>
   by_cases hm:1<ns.length
   ·simp only[go_sem,GJ,hs,hi,hm,h6]
    refine q _ ?_;simp only[go_sem,cD,h6]
   ·simp only[go_sem,GJ,hs,hi,hm]
  | false=>
   by_cases hm:1<ns.length
   ·simp only[go_sem,GJ,hs,hi,hm]
   ·simp only[go_sem,GJ,hs,hi,hm,h6]
    refine q _ ?_;simp only[go_sem,cD,h6]
end Go.Am
end
section
/- Lists of faults: what is wrong with them,both ways. -/
open Go
set_option linter.all false
namespace Go.Am
variable {h:aA} {K:jA}
theorem dI {f:Flt}:mB (some 2) 0 f.pv=some f.pv:=rfl
def yB (t:List (List UInt8))(l:List Flt):Int:=if RC t≠0 then RC t else FD t.length l
theorem z45 (t:List (List UInt8))(l:List Flt)(hb:∀ s∈t,s.length≤1000000)(ht:t.length≤1000000)(hf:∀ f∈l,f.nets.length≤1000000)(hn:l.length≤1000000):eA X JH [EA t,MB l] h K=K (AI (yB t l)) h []:=by
 refine tA ?_;rw[z7t rfl];have c:=fun h K=>z4o (h:=h) (K:=K) t hb ht
 unfold yB;by_cases h1:RC t=0
 case neg=>simp only[nK,go_sem,c,h1]
 simp only[nK,go_sem,c,h1];refine FA (fun k:Nat=>⟨[(0,EA t),(14,MB l),(15,AI l.length),(16,AI k)],h,[]⟩) (fun k=>k≤l.length∧FD (t.length:Int) (l.drop k)=FD (t.length:Int) l) (fun k=>l.length-k) 0 rfl ⟨by omega,by simp⟩ ?_
 rintro k ⟨hk,hp⟩
 rcases Nat.lt_or_ge k l.length with hlt|hge
 ·have hg:=PA Flt.pv hlt
  have w2:IntKind.i64.wrap ((k:Int)+1)=((k+1:Nat):Int):=qA _ (by omega) (by omega)
  have e:=fun h K=>zgH (h:=h) (K:=K) (t.length:Int) l[k] (by omega) (hf _ (List.getElem_mem hlt))
  have cx:=dI (f:=l[k])
  rw[List.drop_eq_getElem_cons hlt,FD]at hp;simp only[Flt.pv]at hg cx e;by_cases h2:NB (t.length:Int) l[k]=0
  ·rw[if_neg (by simp [h2])]at hp
   simp only[go_sem,hlt,hg,cx,e,h2,w2];exact⟨k+1,rfl,⟨by omega,hp⟩,by omega⟩
  ·rw[if_pos h2]at hp
   simp only[go_sem,hlt,hg,cx,e,h2];rw[←hp]
 ·have ek:k=l.length:=by omega
  subst ek;rw[List.drop_length]at hp;simp only[go_sem,Nat.lt_irrefl];rw[←hp];rfl
theorem zgQ (n:Int)(l:List Flt)(h0 : -1000000000000000≤n)(hf:∀ f∈l,f.nets.length≤1000000)(hn:l.length≤20000):eA X XK [AI n,MB l] h K=K (AI (FD n l)) h []:=by
 refine tA ?_;rw[z7Q rfl];have h1:¬(20000:Int)<l.length:=by omega
 simp only[zN,go_sem,h1];refine FA (fun k:Nat=>⟨[(0,AI n),(11,MB l),(12,AI l.length),(13,AI k)],h,[]⟩) (fun k=>k≤l.length∧FD n (l.drop k)=FD n l) (fun k=>l.length-k) 0 rfl ⟨by omega,by simp⟩ ?_
 rintro k ⟨hk,hp⟩
 rcases Nat.lt_or_ge k l.length with hlt|hge
 ·have hg:=PA Flt.pv hlt
  have w2:IntKind.i64.wrap ((k:Int)+1)=((k+1:Nat):Int):=qA _ (by omega) (by omega)
  have e:=fun h K=>zgP (h:=h) (K:=K) n l[k] (by omega) (hf _ (List.getElem_mem hlt))
  have cx:=dI (f:=l[k])
  rw[List.drop_eq_getElem_cons hlt,FD]at hp;simp only[Flt.pv]at hg cx e;by_cases h2:NB n l[k]=0
  ·rw[if_neg (by simp [h2])]at hp
   simp only[go_sem,hlt,hg,cx,e,h2,w2];exact⟨k+1,rfl,⟨by omega,hp⟩,by omega⟩
  ·rw[if_pos h2]at hp
   simp only[go_sem,hlt,hg,cx,e,h2];rw[←hp]
 ·have ek:k=l.length:=by omega
  subst ek;rw[List.drop_length]at hp;simp only[go_sem,Nat.lt_irrefl];rw[←hp];rfl
theorem zhq (t:List (List UInt8))(l:List Flt)(hb:∀ s∈t,s.length≤1000000)(ht:t.length≤1000000)(hf:∀ f∈l,f.nets.length≤1000000)(hn:l.length≤20000):eA X KG [EA t,MB l] h K=K (AI (yB t l)) h []:=by
 refine tA ?_;rw[z7C rfl];have c:=fun h K=>zhd (h:=h) (K:=K) t hb ht
 have e:=fun h K=>zgQ (h:=h) (K:=K) t.length l (by omega) hf hn
 unfold yB;by_cases h1:RC t=0
 ·simp only[qK,go_sem,c,h1,e]
 ·simp only[qK,go_sem,c,h1]
end Go.Am
end
section
/- Rows of a test asv numbers. -/
open Go
set_option linter.all false
namespace Go.Am
variable {h:aA} {K:jA}
abbrev eU (n:Nat):PV:=.int .u64 (n:Int)
theorem z4Y {lg:Nat}:∀{t:List (List UInt8)},CE lg t=0→∀s∈t,zB s=true∧s.length=lg∧s.length≤64
 | [],_,s,hs=>by cases hs
 | a::r,h,s,hs=>by
  unfold CE at h;split at h
  ·cases h
  split at h
  ·cases h
  split at h
  ·cases h
  rename_i h1 h2 h3;rcases List.mem_cons.1 hs with rfl|hs
  ·exact⟨by simpa using h1,by simpa using h3,by omega⟩
  ·exact z4Y h s hs
structure TestOk (t:List (List UInt8)) (lg:Nat):Prop where
 n0:0<t.length
 n1:t.length≤100
 l:lg≤64
 b:∀s∈t,zB s=true
 e:∀s∈t,s.length=lg
theorem qM {t:List (List UInt8)}(h:RC t=0):TestOk t (t.headD []).length:=by
 unfold RC at h;split at h
 ·cases h
 split at h
 ·cases h
 have k:=z4Y h
 have hm:t.headD []∈t:=by
  cases t with
  | nil=>rename_i h0 _;exact absurd rfl h0
  | cons a r=>exact List.mem_cons_self ..
 exact⟨by omega,by omega,(k _ hm).2.2,fun s hs=>(k s hs).1,fun s hs=>(k s hs).2.1⟩
theorem z48 (t:List (List UInt8))(hb:∀ s∈t,zB s=true)(hl:∀ s∈t,s.length≤64)(hn:t.length≤1000000):eA X LH [EA t] h K=K (.own h.length t.length 0 t.length) (h++[.row none ((t.map zA).map eU) 0]) []:=by
 refine tA ?_;rw[z7y rfl];simp only[fN,go_sem];refine FA (fun k:Nat=>⟨[(3,.own h.length k 0 k),(8,EA t),(9,AI t.length),(10,AI k)],h++[.row none (((t.take k).map zA).map eU) 0],[]⟩) (fun k=>k≤t.length) (fun k=>t.length-k) 0 rfl (by omega) ?_
 intro k hk;rcases Nat.lt_or_ge k t.length with hlt|hge
 ·have hg:=PA PV.str hlt
  have w2:IntKind.i64.wrap ((k:Int)+1)=((k+1:Nat):Int):=qA _ (by omega) (by omega)
  have b1:=hb _ (List.getElem_mem hlt)
  have l1:=hl _ (List.getElem_mem hlt)
  have cx:mB none 0 (PV.str t[k])=some (PV.str t[k]):=rfl
  simp only[go_sem,hlt,hg,cx];generalize hs:t[k]=s at *;refine FA (fun i:Nat=>⟨[(3,.own h.length k 0 k),(5,AS s),(6,.p (eU (zA (s.take i)))),(8,EA t),(9,AI t.length),(10,AI k),(15,AI s.length),(16,AI i)],h++[.row none (((t.take k).map zA).map eU) 0],[]⟩) (fun i=>i≤s.length) (fun i=>s.length-i) 0 rfl (by omega) ?_
  intro i hi;rcases Nat.lt_or_ge i s.length with hlt2|hge2
  ·have g2:s[i]?=some s[i]:=List.getElem?_eq_getElem hlt2
   have w3:IntKind.i64.wrap ((i:Int)+1)=((i+1:Nat):Int):=qA _ (by omega) (by omega)
   have bt:=z0D hlt2 b1
   have e1:IntKind.u8.wrap ((s[i].toNat:Int)-48)=((s[i].toNat-48:Nat):Int):=by
    rcases bt with e|e <;> rw[e] <;> rfl
   have hsm:s[i].toNat-48≤1:=by rcases bt with e|e <;> rw[e] <;> decide
   have e2:IntKind.u64.wrap ((s[i].toNat-48:Nat):Int)=((s[i].toNat-48:Nat):Int):=iG _ (by omega)
   have hp:(2:Nat)^i≤2^63:=Nat.pow_le_pow_right (by omega) (by omega)
   have hp2:(2:Nat)^63=9223372036854775808:=rfl
   have hm:(s[i].toNat-48)*2^i≤1*2^i:=Nat.mul_le_mul_right _ hsm
   have e3:=YW (a:=s[i].toNat-48) (i:=i) (by omega) (by omega)
   have hr:=SQ (s.take i) (z0E i b1)
   rw[List.length_take,Nat.min_eq_left (by omega)]at hr
   have e4:=sO (a:=zA (s.take i)) (b:=(s[i].toNat-48)*2^i) (by omega) (by omega)
   rw[zgC hlt2 b1]at e4;have hneg:¬((i:Int)<0):=by omega
   simp only[go_sem,hlt2,g2,e1,e2,e3,e4,w3,hneg];exact⟨i+1,rfl,by omega,by omega⟩
  ·have ei:i=s.length:=by omega
   subst ei;have hmx:k+1≤DA:=by unfold DA;omega
   have hlen:(((t.take k).map zA).map eU).length=k:=by simp;omega
   simp only[go_sem,Nat.lt_irrefl,List.take_length,w2,hmx,hlen];refine⟨k+1,?_,by omega,by omega⟩
   rw[List.take_succ_eq_append_getElem hlt,hs];simp
 ·have ek:k=t.length:=by omega
  subst ek;simp only[go_sem,Nat.lt_irrefl,List.take_length];exact List.take_of_length_le (by simp)
theorem cR (n:Nat)(hn:n≤64):eA X VE [AI n] h K=K (.p (eU (2^n-1))) h []:=by
 refine tA ?_;rw[z71 rfl];have hneg:¬((n:Int)<0):=by omega
 have hpos:=Nat.two_pow_pos n
 have e:IntKind.u64.wrap (uE .u64 1 (n:Int)-1)=((2^n-1:Nat):Int):=by
  by_cases h64:n=64
  ·subst h64;rfl
  ·have hp:(2:Nat)^n≤2^63:=Nat.pow_le_pow_right (by omega) (by omega)
   have hp2:(2:Nat)^63=9223372036854775808:=rfl
   have:=YW (a:=1) (i:=n) hn (by omega)
   rw[Nat.one_mul]at this;rw[show((1:Nat):Int)=1 from rfl]at this
   rw[this,show((2^n:Nat):Int)-1=((2^n-1:Nat):Int) by omega]
   exact iG _ (by omega)
 simp only[iN,go_sem,hneg,e]
end Go.Am
end
section
/- Faults on rows: what the program makes of them. -/
open Go
set_option linter.all false
namespace Go.Am
variable {h:aA} {K:jA}
theorem AZ {h t:aA}{id:Nat}(hid:id<h.length)(o:Obj):(h.set id o++t)[id]?=some o:=by
 rw[List.getElem?_append_left (by simpa using hid)];exact QD hid
theorem z4N {h t:aA}{id:Nat}(hid:id<h.length)(o o':Obj):(h.set id o++t).set id o'=h.set id o'++t:=by
 rw[List.set_append_left _ _ (by simpa using hid),List.set_set]
theorem BZ {h t:aA}{id:Nat}(o:Obj):(h.set id o++t).take h.length=h.set id o:=by
 have:h.length=(h.set id o).length:=by simp
 rw[this,List.take_left]
theorem z4M {h:aA}{id:Nat}(o b:Obj):(h.set id o++[b])[h.length]?=some b:=by
 have:h.length=(h.set id o).length:=by simp
 rw[this,oG];rfl
theorem z2o {f:Nat→Int→Nat}{v:Nat}{l:List Int}{k:Nat}(hk:k<l.length):(l.take (k+1)).foldl f v=f ((l.take k).foldl f v) l[k]:=by
 rw[List.take_succ_eq_append_getElem hk,List.foldl_append];rfl
theorem jZ {r:List Nat}{n:Int}(h0:0≤n)(h1:n<r.length):(r.map eU)[n.toNat]?=some (eU (dB r n)):=by
 rw[PA eU (show n.toNat<r.length by omega)]
 unfold dB;simp [List.getD_eq_getElem?_getD,List.getElem?_eq_getElem (show n.toNat<r.length by omega)]
def FE (ns:List Int)(n:Nat):Prop:=ns≠[]∧ns.length≤1000∧∀x∈ns,0≤x∧x<n
theorem ziB (f:Flt)(r:List Nat)(v:Nat)(hf:FE f.nets r.length){id:Nat}(hid:id<h.length)(hr:r.length≤1000000){K:Ex→St→Prop}
 (hK:∀e,K .normal ⟨e,h.set id (.row none ((QB v f.nets r).map eU) 0)++[.box [AI f.kind,AL f.nets]],[]⟩) :
 AF (eA X) X.gl UF (.own id r.length 0 r.length) (.ref h.length 0) (.p (eU v)) (h.set id (.row none (r.map eU) 0)++[.box [AI f.kind,AL f.nets]]) [] K:=by
 have sg:=fun o=>AZ (t:=[.box [AI f.kind,AL f.nets]]) hid o
 have ss:=fun o o'=>z4N (t:=[.box [AI f.kind,AL f.nets]]) hid o o'
 have sb:=fun o=>z4M (h:=h) (id:=id) o (.box [AI f.kind,AL f.nets])
 simp only[AF,go_sem,sb];refine FA (fun k:Nat=>⟨[(0,.own id r.length 0 r.length),(6,.p (eU v)),(61,AL f.nets),(62,AI f.nets.length),(63,AI k)],h.set id (.row none ((QB v (f.nets.take k) r).map eU) 0)++[.box [AI f.kind,AL f.nets]],[]⟩) (fun k=>k≤f.nets.length) (fun k=>f.nets.length-k) 0 rfl (by omega) ?_
 intro k hk;rcases Nat.lt_or_ge k f.nets.length with hlt|hge
 ·have hg:=PA eI hlt
  have hn:=hf.2.2 _ (List.getElem_mem hlt)
  have w2:IntKind.i64.wrap ((k:Int)+1)=((k+1:Nat):Int):=qA _ (by have:=hf.2.1;omega) (by have:=hf.2.1;omega)
  have e4:=KD (k:=.i64) hn.1
  have hl:=zZ v (f.nets.take k) r
  have hs:QB v (f.nets.take (k+1)) r=(QB v (f.nets.take k) r).set f.nets[k].toNat v:=by rw[List.take_succ_eq_append_getElem hlt,z4K]
  have hlt3:f.nets[k].toNat<r.length:=by omega
  have gq:((QB v (f.nets.take k) r).map eU)[f.nets[k].toNat]?=some (eU ((QB v (f.nets.take k) r).getD f.nets[k].toNat 0)):=by
   rw[PA eU (by rw[hl];exact hlt3)]
   simp [List.getD_eq_getElem?_getD,List.getElem?_eq_getElem (show f.nets[k].toNat<(QB v (f.nets.take k) r).length by rw[hl];exact hlt3)]
  generalize QB v (f.nets.take k) r=R at *;generalize f.nets[k]=m at *;simp only[go_sem,hlt,hg,e4,sg,ss,hl,hlt3,w2,gq];refine⟨k+1,?_,by omega,by omega⟩
  rw[hs,List.map_set]
 ·have ek:k=f.nets.length:=by omega
  subst ek;simp only[go_sem,Nat.lt_irrefl,List.take_length];exact hK _
attribute [-go_sem] AF
theorem ziC (f:Flt)(r:List Nat)(hf:FE f.nets r.length){id:Nat}(hid:id<h.length)(hr:r.length≤1000000)(hb:∀ x∈r,x<18446744073709551616)(ones:Nat) :
 eA X IG [.own id r.length 0 r.length,.p f.pv,.p (eU ones)] (h.set id (.row none (r.map eU) 0)) K=K (.tup []) (h.set id (.row none ((UB r f ones).map eU) 0)) []:=by
 refine tA ?_;rw[z73];have sg:=fun(t:aA) o=>AZ (t:=t) hid o
 have sb:=fun o c=>z4M (h:=h) (id:=id) o c
 have st:=fun(t:aA) o=>BZ (h:=h) (id:=id) (t:=t) o
 have h0:0<f.nets.length:=by have:=hf.1;exact List.length_pos_iff.2 this
 have hhd:f.nets.headD 0∈f.nets:=by
  cases hq:f.nets with
  | nil=>rw[hq]at h0;cases h0
  | cons a l=>simp
 have hn:=hf.2.2 _ hhd
 have g0:=EL h0
 have e4:=KD (k:=.i64) hn.1
 have hlt3:(f.nets.headD 0).toNat<r.length:=by omega
 have gq:=jZ (r:=r) hn.1 hn.2
 have W:=fun v K hK=>ziB (h:=h) f r v hf hid hr (K:=K) hK
 have fin:∀v,(AF (eA X) X.gl UF (.own id r.length 0 r.length) (.ref h.length 0) (.p (eU v)) (h.set id (.row none (r.map eU) 0)++[.box [AI f.kind,AL f.nets]]) [] (nA [] false h.length fun v1 h1 x1=>v1=AV.tup []∧h1=h.set id (.row none ((UB r f ones).map eU) 0)∧x1=[]))∨v≠KC r f ones:=by
  intro v;by_cases hv:v=KC r f ones
  ·left
   refine W v _ (fun e=>?_)
   subst hv;simp only[go_sem,st];rfl
  ·right;exact hv
 have fin2:∀v,v=KC r f ones→AF (eA X) X.gl UF (.own id r.length 0 r.length) (.ref h.length 0) (.p (eU v)) (h.set id (.row none (r.map eU) 0)++[.box [AI f.kind,AL f.nets]]) [] (nA [] false h.length fun v1 h1 x1=>v1=AV.tup []∧h1=h.set id (.row none ((UB r f ones).map eU) 0)∧x1=[]):=fun v hv=>(fin v).resolve_right (fun h=>h hv)
 clear fin W;have hbq:∀n,dB r n<18446744073709551616:=z3U hb (by omega)
 by_cases k1:f.kind=1
 ·simp only[QE,Flt.pv,go_sem,sg,sb,g0,e4,hlt3,gq,k1,List.length_set]
  simp only[k1]at fin2;exact fin2 0 (by simp [KC,k1])
 by_cases k2:f.kind=2
 ·simp only[QE,Flt.pv,go_sem,sg,sb,g0,e4,hlt3,gq,k2,List.length_set]
  simp only[k2]at fin2;exact fin2 ones (by simp [KC,k2])
 by_cases k6:f.kind=6
 ·simp only[QE,Flt.pv,go_sem,sg,sb,g0,e4,hlt3,gq,k6,List.length_set]
  simp only[k6]at fin2;exact fin2 ones (by simp [KC,k6])
 by_cases k3:f.kind=3
 ·simp only[QE,Flt.pv,go_sem,sg,sb,g0,e4,hlt3,gq,k3,List.length_set]
  refine FA (fun k:Nat=>⟨[(0,.own id r.length 0 r.length),(4,.ref h.length 0),(6,.p (eU ((f.nets.take k).foldl (fun v n=>v &&& dB r n) (dB r (f.nets.headD 0))))),(31,AL f.nets),(32,AI f.nets.length),(33,AI k)],h.set id (.row none (r.map eU) 0)++[.box [AI 3,AL f.nets]],[]⟩) (fun k=>k≤f.nets.length) (fun k=>f.nets.length-k) 0 rfl (by omega) ?_
  intro k hk;rcases Nat.lt_or_ge k f.nets.length with hlt|hge
  ·have hg:=PA eI hlt
   have hnk:=hf.2.2 _ (List.getElem_mem hlt)
   have w2:IntKind.i64.wrap ((k:Int)+1)=((k+1:Nat):Int):=qA _ (by have:=hf.2.1;omega) (by have:=hf.2.1;omega)
   have e5:=KD (k:=.i64) hnk.1
   have gk:=jZ (r:=r) hnk.1 hnk.2
   have hlt4:(f.nets[k]).toNat<r.length:=by omega
   have hfo:=z2o (f:=fun v n=>v &&& dB r n) (v:=dB r (f.nets.headD 0)) hlt
   have hbd:(f.nets.take k).foldl (fun v n=>v &&& dB r n) (dB r (f.nets.headD 0))<18446744073709551616:=yL (f:=(· &&& ·)) (fun a b ha hb=>by rw[←WB]at *;exact Nat.lt_of_le_of_lt Nat.and_le_left ha) (dB r) hbq _ _ (hbq _)
   generalize (f.nets.take k).foldl (fun v n=>v &&& dB r n) (dB r (f.nets.headD 0))=v at *
   have e6:=aE hbd (hbq f.nets[k])
   generalize f.nets[k]=m at *;simp only[go_sem,hlt,hg,sg,e5,gk,hlt4,e6,w2];exact⟨k+1,by rw[hfo],by omega,by omega⟩
  ·have ek:k=f.nets.length:=by omega
   subst ek;simp only[go_sem,Nat.lt_irrefl,List.take_length];simp only[k3]at fin2;exact fin2 _ (by simp [KC,k3])
 by_cases k4:f.kind=4
 ·simp only[QE,Flt.pv,go_sem,sg,sb,g0,e4,hlt3,gq,k4,List.length_set]
  refine FA (fun k:Nat=>⟨[(0,.own id r.length 0 r.length),(4,.ref h.length 0),(6,.p (eU ((f.nets.take k).foldl (fun v n=>v ||| dB r n) (dB r (f.nets.headD 0))))),(47,AL f.nets),(48,AI f.nets.length),(49,AI k)],h.set id (.row none (r.map eU) 0)++[.box [AI 4,AL f.nets]],[]⟩) (fun k=>k≤f.nets.length) (fun k=>f.nets.length-k) 0 rfl (by omega) ?_
  intro k hk;rcases Nat.lt_or_ge k f.nets.length with hlt|hge
  ·have hg:=PA eI hlt
   have hnk:=hf.2.2 _ (List.getElem_mem hlt)
   have w2:IntKind.i64.wrap ((k:Int)+1)=((k+1:Nat):Int):=qA _ (by have:=hf.2.1;omega) (by have:=hf.2.1;omega)
   have e5:=KD (k:=.i64) hnk.1
   have gk:=jZ (r:=r) hnk.1 hnk.2
   have hlt4:(f.nets[k]).toNat<r.length:=by omega
   have hfo:=z2o (f:=fun v n=>v ||| dB r n) (v:=dB r (f.nets.headD 0)) hlt
   have hbd:(f.nets.take k).foldl (fun v n=>v ||| dB r n) (dB r (f.nets.headD 0))<18446744073709551616:=yL (f:=(· ||| ·)) (fun a b ha hb=>by rw[←WB]at *;exact Nat.or_lt_two_pow ha hb) (dB r) hbq _ _ (hbq _)
   generalize (f.nets.take k).foldl (fun v n=>v ||| dB r n) (dB r (f.nets.headD 0))=v at *
   have e6:=sO hbd (hbq f.nets[k])
   generalize f.nets[k]=m at *;simp only[go_sem,hlt,hg,sg,e5,gk,hlt4,e6,w2];exact⟨k+1,by rw[hfo],by omega,by omega⟩
  ·have ek:k=f.nets.length:=by omega
   subst ek;simp only[go_sem,Nat.lt_irrefl,List.take_length];simp only[k4]at fin2;exact fin2 _ (by simp [KC,k4])
 ·simp only[QE,Flt.pv,go_sem,sg,sb,g0,e4,hlt3,gq,k1,k2,k3,k4,k6,List.length_set]
  exact fin2 _ (by simp [KC,k1,k2,k3,k4,k6])
end Go.Am
end
section
/- Rows that are handed tov a function: it sees their values. -/
open Go
namespace Go.Am
theorem pG {X:Ctx}{f:Nat}{F:AFun}{a:List AV}{vs:List PV}{h h1:aA}{P:jA}(hf:X.fn f=some F)(hr:F.byref=false)(hp:mA h a=some (vs.map .p,h1))(hq:mA h1 (vs.map .p)=some (vs.map .p,h1))(hl:vs.length=F.nparams)(hlen:h1.length=h.length):eA X f a h P=eA X f (vs.map .p) h1 P:=by
 cases hO:nC F.results with
 | false=>
  cases hd:F.isDet with
  | false=>rw[BA hf hr hp (by simpa using hl) hd hO,BA hf hr hq (by simpa using hl) hd hO,hlen]
  | true=>rw[HM hf hr hp (by simpa using hl) hd hO,HM hf hr hq (by simpa using hl) hd hO,hlen]
 | true=>
  cases hd:F.isDet with
  | false=>rw[z0T hf hr hp (by simpa using hl) hd hO,z0T hf hr hq (by simpa using hl) hd hO,hlen]
  | true=>rw[z0U hf hr hp (by simpa using hl) hd hO,z0U hf hr hq (by simpa using hl) hd hO,hlen]
theorem sE {h:aA}{id k:Nat}:(frz h id k).length=h.length:=by
 unfold frz;split <;> simp
end Go.Am
end
section
/- Responses,asv the program computes them. -/
open Go
set_option linter.all false
namespace Go.Am
variable {h:aA} {K:jA}
theorem z49 (f:Flt)(r:List Nat)(hf:FE f.nets r.length){id:Nat}(hh:h[id]?=some (.row none (r.map eU) 0))(hr:r.length≤1000000)(hb:∀ x∈r,x<18446744073709551616)(ones:Nat) :
 eA X IG [.own id r.length 0 r.length,.p f.pv,.p (eU ones)] h K=K (.tup []) (h.set id (.row none ((UB r f ones).map eU) 0)) []:=by
 have:=ziC (h:=h) (K:=K) f r hf (YD hh) hr hb ones;rw[dD hh]at this;exact this
theorem rM:∀ s:List UInt8,pF (JA s)=some s
 | []=>rfl
 | c::r=>by
  show pF (.int .u8 c.toNat::JA r)=_
  unfold pF;have:((c.toNat:Int))<256:=by have:=c.toNat_lt;omega
  rw[if_pos ⟨by omega,this⟩,rM r]
  simp
theorem bit48 (b:Bool):((BC b).toNat:Int)=48+((if b=true then 1 else 0:Nat):Int):=by cases b <;> rfl
theorem z4Z (k long n:Nat):eB (k+1) n=eB k n++[BC (n.testBit k)]:=by
 unfold eB;rw[List.range_succ,List.map_append];rfl
theorem zhu (r:List Nat)(long:Nat)(hl:long≤64)(hn:r.length≤1000000)(hb:∀ x∈r,x<18446744073709551616) :
 eA X HG [.p (.sl none (r.map eU)),AI long] h K=K (EA (r.map (eB long))) h []:=by
 refine tA ?_;rw[z7z rfl];simp only[gN,go_sem];refine FA (fun k:Nat=>⟨[(1,AI long),(5,.own h.length k 0 k),(10,.p (.sl none (r.map eU))),(11,AI r.length),(12,AI k)],h++[.row none (((r.take k).map (eB long)).map PV.str) 0],[]⟩) (fun k=>k≤r.length) (fun k=>r.length-k) 0 rfl (by omega) ?_
 intro k hk;rcases Nat.lt_or_ge k r.length with hlt|hge
 ·have hg:=PA eU hlt
  have hx:=hb _ (List.getElem_mem hlt)
  have w2:IntKind.i64.wrap ((k:Int)+1)=((k+1:Nat):Int):=qA _ (by omega) (by omega)
  have hsn:(r.take (k+1)).map (eB long)=(r.take k).map (eB long)++[eB long r[k]]:=by rw[List.take_succ_eq_append_getElem hlt,List.map_append];rfl
  have hlen:(((r.take k).map (eB long)).map PV.str).length=k:=by simp;omega
  generalize ((r.take k).map (eB long))=T at *;generalize r[k]=n at *;have hmx:long≤DA:=by unfold DA;omega
  have hmk:k+1≤DA:=by unfold DA;omega
  have hsz:PV.shp none (.int .u8 0)=true:=rfl
  simp only[go_sem,hlt,hg,hmx,hsz];refine FA (fun i:Nat=>⟨[(1,AI long),(5,.own h.length k 0 k),(7,.p (eU n)),(8,.own (h.length+1) long 0 long),(10,.p (.sl none (r.map eU))),(11,AI r.length),(12,AI k),(19,AI long),(20,AI i)],h++[.row none (T.map PV.str) 0,.row none (JA (eB i n)++List.replicate (long-i) (.int .u8 0)) 0],[]⟩) (fun i=>i≤long) (fun i=>long-i) 0 rfl (by omega) ?_
  intro i hi;rcases Nat.lt_or_ge i long with hlt2|hge2
  ·have w3:IntKind.i64.wrap ((i:Int)+1)=((i+1:Nat):Int):=qA _ (by omega) (by omega)
   have e1:=NF (a:=n) (i:=i) (by omega)
   have hd:n / 2^i<18446744073709551616:=Nat.lt_of_le_of_lt (Nat.div_le_self _ _) hx
   have e2:=aE (a:=n / 2^i) (b:=1) hd (by omega)
   rw[jT]at e2;have e3:IntKind.u64.wrap (48+((if n.testBit i=true then 1 else 0:Nat):Int))=((BC (n.testBit i)).toNat:Int):=by
    rw[←bit48];cases n.testBit i <;> rfl
   have e4:IntKind.u8.wrap ((BC (n.testBit i)).toNat:Int)=((BC (n.testBit i)).toNat:Int):=by cases n.testBit i <;> rfl
   have hneg:¬((i:Int)<0):=by omega
   have hbl:(JA (eB i n)).length=i:=by simp [JA,eB]
   have hlr:(JA (eB i n)++List.replicate (long-i) (PV.int .u8 0)).length=long:=by rw[List.length_append,hbl,List.length_replicate];omega
   have hgr:(JA (eB i n)++List.replicate (long-i) (PV.int .u8 0))[i]?=some (.int .u8 0):=by
    rw[List.getElem?_append_right (by omega),hbl,Nat.sub_self,List.getElem?_replicate]
    simp;omega
   have hst:(JA (eB i n)++List.replicate (long-i) (PV.int .u8 0)).set i (.int .u8 (BC (n.testBit i)).toNat)=JA (eB (i+1) n)++List.replicate (long-(i+1)) (PV.int .u8 0):=by
    rw[List.set_append_right _ _ (by omega),hbl,Nat.sub_self]
    obtain⟨m,hm⟩:∃m,long-i=m+1:=⟨long-i-1,by omega⟩
    rw[hm,List.replicate_succ,List.set_cons_zero,show long-(i+1)=m by omega,z4Z i long n]
    simp [JA]
   rw[show((1:Nat):Int)=1 from rfl]at e2
   simp only[go_sem,hlt2,e1,hneg,e2,e3,e4,hlr,hgr,w3,hst];exact⟨i+1,rfl,by omega,by omega⟩
  ·have ei:i=long:=by omega
   subst ei;have hbl:(JA (eB i n)).length=i:=by simp [JA,eB]
   have hwf:win (JA (eB i n)) 0 i=JA (eB i n):=EB (by omega)
   have tb:=rM (eB i n)
   simp only[go_sem,Nat.lt_irrefl,Nat.sub_self,List.replicate_zero,List.append_nil,rd,hbl,hwf,tb,UC,rds,hmk,hlen,w2];refine⟨k+1,?_,by omega,by omega⟩
   rw[hsn];simp
 ·have ek:k=r.length:=by omega
  subst ek;simp only[go_sem,Nat.lt_irrefl,List.take_length];rw[EB (by simp)]
theorem zhv (r:List Nat)(long:Nat)(hl:long≤64)(hn:r.length≤1000000)(hb:∀ x∈r,x<18446744073709551616){id:Nat}(hh:h[id]?=some (.row none (r.map eU) 0)) :
 eA X HG [.own id r.length 0 r.length,AI long] h K=K (EA (r.map (eB long))) (frz h id r.length) []:=by
 have e:=pG (X:=X) (f:=HG) (F:=yM) (a:=[.own id r.length 0 r.length,AI long]) (vs:=[.sl none (r.map eU),.int .i64 long]) (h:=h) (h1:=frz h id r.length) (P:=K) z5u rfl
  (by
   have:win (r.map eU) 0 r.length=r.map eU:=EB (by simp)
   simp [mA,pur,rd,hh,this]) rfl rfl sE
 rw[e];exact zhu r long hl hn hb
theorem z2k {n:Int}{f:Flt}(h:NB n f=0):f.nets≠[]∧f.nets.length≤6∧(∀x∈f.nets,0≤x∧x<n)∧1≤f.kind∧f.kind≤6∧BE f.kind=decide (1<f.nets.length):=by
 unfold NB at h;split at h
 ·cases h
 split at h
 ·cases h
 split at h
 ·cases h
 split at h
 ·cases h
 split at h
 ·cases h
 split at h
 ·cases h
 rename_i h1 h2 h3 h4 h5 h6;refine⟨fun e=>h3 (by rw[e];rfl),by omega,fun x hx=>?_,by omega,by omega,Decidable.not_not.1 h6⟩
 have:wC n x=false:=by
  cases hq:wC n x with
  | false=>rfl
  | true=>exact absurd (List.any_eq_true.2 ⟨x,hx,hq⟩) h5
 unfold wC at this;rw[Bool.or_eq_false_iff,decide_eq_false_iff_not,decide_eq_false_iff_not]at this;omega
theorem bI {n:Nat}{f:Flt}(h:NB n f=0):FE f.nets n:=by
 obtain⟨h1,h2,h3,_⟩:=z2k h;exact⟨h1,by omega,h3⟩
theorem OW {n:Int}:∀{l:List Flt},FD n l=0→∀f∈l,NB n f=0
 | [],_,f,hf=>by cases hf
 | g::r,h,f,hf=>by
  unfold FD at h;split at h
  ·rename_i h1;exact absurd h h1
  ·rename_i h1
   rcases List.mem_cons.1 hf with rfl|hf
   ·exact Decidable.not_not.1 h1
   ·exact OW h f hf
def GD (lg:Nat)(r:List Nat)(l:List Flt):List Nat:=l.foldl (fun r f=>UB r f (2^lg-1)) r
theorem z2m (lg:Nat):∀(l:List Flt) (r:List Nat),(GD lg r l).length=r.length
 | [],r=>rfl
 | f::l,r=>by
  unfold GD;rw[List.foldl_cons];exact(z2m lg l _).trans (BL _ _ _)
theorem z3u (lg:Nat):2^lg-1<2^lg:=by have:=Nat.two_pow_pos lg;omega
theorem PW {lg:Nat}:∀(l:List Flt) (r:List Nat),(∀x∈r,x<2^lg)→∀x∈GD lg r l,x<2^lg
 | [],r,h=>h
 | f::l,r,h=>by
  unfold GD;rw[List.foldl_cons];exact PW l _ (RW h (z3u lg))
theorem zd9 {lg:Nat}{r:List Nat}{l:List Flt}{k:Nat}(hk:k<l.length):GD lg r (l.take (k+1))=UB (GD lg r (l.take k)) l[k] (2^lg-1):=by
 unfold GD;rw[List.take_succ_eq_append_getElem hk,List.foldl_append];rfl
def xG (t:List (List UInt8))(l:List Flt):List (List UInt8):=(GD (t.headD []).length (t.map zA) l).map (eB (t.headD []).length)
def uH (t:List (List UInt8))(l:List Flt):AV:=if yB t l≠0 then .tup [.p (.sl none []),AI (yB t l)] else .tup [EA (xG t l),AI 0]
theorem le64 {lg:Nat}(h:lg≤64):2^lg≤18446744073709551616:=by rw[←WB];exact Nat.pow_le_pow_right (by omega) h
theorem kZ {t:List (List UInt8)}{lg:Nat}(T:TestOk t lg):∀x∈t.map zA,x<2^lg:=by
 intro x hx;obtain⟨s,hs,rfl⟩:=List.mem_map.1 hx;have:=SQ s (T.b s hs);rwa [T.e s hs]at this
theorem zgM (t:List (List UInt8))(l:List Flt)(hb:∀ s∈t,s.length≤1000000)(ht:t.length≤1000000)(hf:∀ f∈l,f.nets.length≤1000000)(hn:l.length≤1000000) :
 eA X MK [EA t,MB l] h K=K (uH t l) h []:=by
 refine tA ?_;rw[z7l rfl];have c:=fun h K=>z45 (h:=h) (K:=K) t l hb ht hf hn
 unfold uH;by_cases h1:yB t l=0
 case neg=>simp only[kK,go_sem,c,h1]
 have hT:RC t=0:=by unfold yB at h1;split at h1 <;> simp_all
 have hF:FD t.length l=0:=by unfold yB at h1;rw[if_neg (by simp [hT])]at h1;exact h1
 have T:=qM hT
 have F:=OW hF
 unfold xG;generalize hlg:(t.headD []).length=lg at *;have R:=fun h K=>z48 (h:=h) (K:=K) t T.b (fun s hs=>by rw[T.e s hs];exact T.l) (by have:=T.n1;omega)
 have r0:=kZ T
 have hz:(t.map PV.str)[0]?=some (.str (t.headD [])):=by
  cases t with
  | nil=>exact absurd T.n0 (by simp)
  | cons a r=>rfl
 have wh:=fun h K=>cR (h:=h) (K:=K) lg T.l
 have l64:=le64 T.l
 simp only[kK,go_sem,c,h1,R];have hfl:∀k,((GD lg (t.map zA) (l.take k)).length=t.length):=fun k=>by rw[z2m,List.length_map]
 refine FA (fun k:Nat=>⟨[(0,EA t),(7,.own h.length t.length 0 t.length),(18,MB l),(19,AI l.length),(20,AI k)],h++[.row none ((GD lg (t.map zA) (l.take k)).map eU) 0],[]⟩) (fun k=>k≤l.length) (fun k=>l.length-k) 0 rfl (by omega) ?_
 intro k hk;rcases Nat.lt_or_ge k l.length with hlt|hge
 ·have hg:=PA Flt.pv hlt
  have w2:IntKind.i64.wrap ((k:Int)+1)=((k+1:Nat):Int):=qA _ (by omega) (by omega)
  have cx:=dI (f:=l[k])
  have rl:=hfl k
  have rb:=PW (l.take k) _ r0
  have hs:=zd9 (lg:=lg) (r:=t.map zA) hlt
  have hni:=bI (F _ (List.getElem_mem hlt))
  generalize GD lg (t.map zA) (l.take k)=r at *;have W:=fun(g:aA) (K:jA)=>z49 (h:=h ++ .row none (r.map eU) 0::g) (K:=K) l[k] r (by rw[rl];exact hni) (id:=h.length) (by rw[oG];rfl) (by have:=T.n1;omega) (fun x hx=>Nat.lt_of_lt_of_le (rb x hx) l64) (2^lg-1)
  rw[rl]at W;generalize l[k]=f at *;simp only[Flt.pv]at hg cx W;simp only[go_sem,hlt,hg,cx,hz,hlg,wh,w2,W];exact⟨k+1,by rw[hs],by omega,by omega⟩
 ·have ek:k=l.length:=by omega
  subst ek;simp only[go_sem,Nat.lt_irrefl,List.take_length];have rl:=hfl l.length
  have rb:=PW l _ r0
  rw[List.take_length]at rl;generalize GD lg (t.map zA) l=r at *;have q:=fun K=>zhv (h:=h++[.row none (r.map eU) 0]) (K:=K) r lg T.l (by have:=T.n1;omega) (fun x hx=>Nat.lt_of_lt_of_le (rb x hx) l64) (id:=h.length) (by rw[oG];rfl)
  rw[rl]at q;simp only[go_sem,hz,hlg,q]
theorem zgY (t:List (List UInt8))(f:Flt)(hb:∀ s∈t,s.length≤1000000)(ht:t.length≤1000000)(hf:f.nets.length≤1000000) :
 eA X NK [EA t,.p f.pv] h K=K (uH t [f]) h []:=by
 refine tA ?_;rw[z7o rfl];have e:=fun h K=>zgM (h:=h) (K:=K) t [f] hb ht (fun g hg=>by rw[List.mem_singleton.1 hg];exact hf) (by simp)
 simp only[MB,List.map_cons,List.map_nil,Flt.pv]at e;have ev:∃a b,uH t [f] = .tup [.p a,.p b]:=by unfold uH;split <;> exact⟨_,_,rfl⟩
 obtain⟨a,b,ev⟩:=ev;rw[ev]at e ⊢;simp only[YM,Flt.pv,go_sem,e]
end Go.Am
end
section
/- Sorting the middle of a row: printed by program. -/
open Go
set_option linter.unusedSimpArgs false
namespace Go.Am
attribute [-go_sem] PV.cells splice
variable {h:aA} {K:jA}
theorem zef (id n o:Nat)(pre l tl:List PV)(ho:pre.length=o)(hn:n=o+(l.length+tl.length))(hs:XB none l)(hl:l.length≤1000)(hh:h[id]?=some (.row none (pre++(l++tl)) 0)){lt:PV→PV→Bool}(hc:∀ x∈l,∀ y∈l,∀ (h:aA) (K:jA),eA X WD [.p x,.p y] h K=K (AB (lt x y)) h []) :
 eA X aI [.own id n o l.length,AI 0,AI l.length] h K=K (.tup []) (h.set id (.row none (pre++(XA lt l++tl)) 0)) []:=by
 refine tA ?_;rw[z0R];have hid:=YD hh
 have hst:∀o,(h.set id o)[id]?=some o:=fun o=>QD hid
 have pg:∀(r:List PV) k,(pre++r)[o+k]?=r[k]?:=fun r k=>by rw[←ho,tF]
 have ps:∀(r:List PV) k v,(pre++r).set (o+k) v=pre++r.set k v:=fun r k v=>by rw[←ho,VJ]
 simp only[EK,go_sem,show IntKind.i64.wrap 1=1 from rfl]
 refine FA (fun i:Nat=>⟨[(0,.own id n o l.length),(1,AI 0),(2,AI l.length),(6,AI i)],h.set id (.row none (pre++((bC lt (l.take i)).reverse++(l.drop i++tl))) 0),[]⟩) (fun i=>1≤i∧(i≤l.length∨i=1)) (fun i=>l.length-i) 1 ?_ (by simp) ?_
 ·have:(bC lt (l.take 1)).reverse++(l.drop 1++tl)=l++tl:=by cases l <;> rfl
  rw[this,dD hh];rfl
 rintro i ⟨hi1,hi2⟩
 rcases Nat.lt_or_ge i l.length with hlt|hge
 ·simp only[go_sem,hlt]
  have hxl:l[i]∈l:=List.getElem_mem hlt
  generalize hx:l[i]=x at *;generalize hR:bC lt (l.take i)=R;have hRl:R.length=i:=by rw[←hR,ZW];simp;omega
  have hRm:∀z∈R,z∈l:=fun z hz=>List.mem_of_mem_take ((IL lt (l.take i)).mem_iff.1 (by rw[hR];exact hz))
  have hdrop:l.drop i=x::l.drop (i+1):=by rw[←hx];exact List.drop_eq_getElem_cons hlt
  have hnext:bC lt (l.take (i+1))=nB lt x R:=by rw[aX _ _ _ hlt,hR,hx]
  refine FA (fun t:List PV×List PV=>⟨[(0,.own id n o l.length),(1,AI 0),(2,AI l.length),(6,AI i),(7,AI t.1.length)],h.set id (.row none (pre++(t.1.reverse++x::t.2)) 0),[]⟩)
   (fun t=>∃B,R=B++t.1∧t.2=B.reverse++(l.drop (i+1)++tl)∧∀b∈B,lt x b=true) (fun t=>t.1.length) (R,l.drop (i+1)++tl) (by rw[hdrop,hRl];rfl) ⟨[],rfl,rfl,by simp⟩ ?_
  rintro⟨A,C⟩ ⟨B,q1,q2,q3⟩
  dsimp only at q1 q2 q3;have hlen:(pre++(A.reverse++x::C)).length=n:=by
   have:R.length=B.length+A.length:=by rw[q1];simp
   rw[q2];simp;omega
  have hBA:B.length+A.length<l.length:=by
   have:R.length=B.length+A.length:=by rw[q1];simp
   omega
  have hln:o+l.length≤n:=by omega
  have w1:IntKind.i64.wrap ((i:Int)+1)=((i+1:Nat):Int):=qA _ (by omega) (by omega)
  cases A with
  | nil=>
   have hd:nB lt x R=B++[x]:=by rw[q1];exact gI lt x [] B q3 (fun y r h=>by cases h)
   simp only[go_sem,Int.lt_irrefl,w1];refine⟨i+1,?_,by omega,by omega⟩
   simp only[hnext,hd,q2,List.reverse_append,List.reverse_nil,List.nil_append,List.reverse_cons,List.append_assoc,List.cons_append]
  | cons y A=>
   have hyl:y∈l:=hRm y (by rw[q1];simp)
   have g1:=UW (y::A) C x
   have g2:=VW A C x y
   have sw:=WW A C x y
   simp only[List.length_cons]at hBA;generalize hrow:(y::A).reverse++x::C=row at *;have hsl:∀k v,(pre++row.set k v).length=n:=fun k v=>by rw[←hlen];simp
   simp only[List.length_cons]at g1;have w2:IntKind.i64.wrap (((A.length+1:Nat):Int)-1)=(A.length:Int):=by rw[qA _ (by omega) (by omega)];omega
   have p1:(0:Int)<((A.length+1:Nat):Int):=by omega
   have b1:A.length+1<l.length:=by omega
   have b2:A.length<l.length:=by omega
   have cx:=qC (hs x hxl)
   have cy:=qC (hs y hyl)
   have hcc:=fun h K=>hc x hxl y hyl h K
   cases hxy:lt x y with
   | false=>
    have hd:nB lt x R=B++x::y::A:=by rw[q1];exact gI lt x (y::A) B q3 (fun z r h=>by cases h;exact hxy)
    simp only[go_sem,hst,p1,hlen,pg,ps,g1,g2,w2,b1,b2,hln,cx,cy,hcc,hxy,w1];refine⟨i+1,?_,by omega,by omega⟩
    simp only[hnext,hd,←hrow,q2,List.reverse_append,List.reverse_cons,List.append_assoc,List.cons_append,List.nil_append]
   | true=>
    have g3:(row.set (A.length+1) y)[A.length]?=some y:=by rw[List.getElem?_set_ne (by omega),g2]
    have lx:=nF (hs x hxl)
    have ly:=nF (hs y hyl)
    have sx:=mF (hs x hxl)
    have sy:=mF (hs y hyl)
    simp only[gA]at lx ly;have t1:=fun i xs h1=>oF (hs x hxl) (hs y hyl) id i 0 xs h1
    have t2:=fun i xs h1=>oF (hs y hyl) (hs x hxl) id i 0 xs h1
    simp only[go_sem,hst,p1,hlen,hsl,pg,ps,g1,g2,g3,w2,b1,b2,hln,cx,cy,hcc,hxy,lx,ly,sx,sy,t1,t2,sw];refine⟨(A,y::C),rfl,⟨B++[y],by simp [q1],by simp [q2],fun b hb=>?_⟩,by simp⟩
    rw[List.mem_append,List.mem_singleton]at hb;rcases hb with hb|rfl
    ·exact q3 b hb
    ·exact hxy
 ·have hge':¬i<l.length:=by omega
  have e1:l.take i=l:=List.take_of_length_le hge
  have e2:l.drop i=[]:=List.drop_of_length_le hge
  simp only[go_sem,hge',e1,e2];rfl
theorem z6e (id n o:Nat)(pre l tl:List PV)(ho:pre.length=o)(hn:n=o+(l.length+tl.length))(hs:XB none l)(hl:l.length≤12)(hh:h[id]?=some (.row none (pre++(l++tl)) 0)){lt:PV→PV→Bool}(hc:∀ x∈l,∀ y∈l,∀ (h:aA) (K:jA),eA X WD [.p x,.p y] h K=K (AB (lt x y)) h []) :
 eA X ED [.own id n o l.length] h K=K (.tup []) (h.set id (.row none (pre++(XA lt l++tl)) 0)) []:=by
 refine tA ?_;rw[z0Q];have w0:IntKind.u64.wrap (l.length:Int)=l.length:=LZ _ (by omega) (by omega)
 obtain⟨m,hm⟩:=dX (l.length:Int) (by omega) (by omega)
 have is:=fun h' (hq:h'=h) K=>zef (h:=h) (K:=K) id n o pre l tl ho hn hs (by omega) hh hc
 have key:∀K:jA,eA X KF [.own id n o l.length,AI 0,AI l.length,AI m] h K=K (.tup []) (h.set id (.row none (pre++(XA lt l++tl)) 0)) []:=by
  intro K;refine tA ?_;rw[z0S];simp only[FK,go_sem];refine FA (fun _:Unit=>⟨[(0,.own id n o l.length),(1,AI 0),(2,AI l.length),(3,AI m),(8,AB true),(9,AB true)],h,[]⟩) (fun _=>True) (fun _=>0) () rfl trivial ?_
  intro _ _;have w1:IntKind.i64.wrap ((l.length:Int)-0)=l.length:=by rw[qA _ (by omega) (by omega)];omega
  have b1:((l.length:Int)≤12):=by omega
  simp only[go_sem,w1,b1,is _ rfl]
 simp only[DK,go_sem,w0,hm,key]
end Go.Am
end
section
/- What is drawn: orders,tests. -/
open Go
set_option linter.all false
namespace Go.Am
variable {L:List Int} {a:Int} {h l:aA} {id:Nat} {K:jA}
def lH (f:Nat)(args:List AV)(L:List Int)(a:Int)(sh:Sh)(Q:List PV→Int→Prop):Prop:=∀(h:aA) (id:Nat),h[id]?=some (xA L a)→∃xs a2,Q xs a2∧∀K:jA,eA X f (.ref id 0::args) h K=K (.own h.length xs.length 0 xs.length) (h.set id (xA L a2)++[.row sh xs 0]) []
theorem lH.of {f:Nat}{args:List AV}{L:List Int}{a:Int}{sh:Sh}{Q:List PV→Int→Prop}(H:∀ (h:aA) (id:Nat),id<h.length→eA X f (.ref id 0::args) (h.set id (xA L a)) fun v1 h1 x1=>∃ xs a2,Q xs a2∧v1 = .own h.length xs.length 0 xs.length∧h1=h.set id (xA L a2)++[.row sh xs 0]∧x1=[]):lH f args L a sh Q:=by
 intro h id hh;have hid:=YD hh
 have k:=H h id hid
 rw[dD hh]at k;obtain⟨v,h',x,⟨xs,a2,q,e0,e1,e2⟩,r⟩:=eA.one z0w k;subst e0;subst e1;subst e2
 exact⟨xs,a2,q,r⟩
theorem swap_perm (l:List Int)(i k:Nat)(hi:i<l.length)(hk:k<l.length):((l.set i l[k]).set k l[i]).Perm l:=by
 have h:=Array.swap_perm (xs:=l.toArray) (i:=i) (j:=k) (by simpa using hi) (by simpa using hk)
 rw[Array.perm_iff_toList_perm]at h;simpa [Array.swap_def] using h
def upI (n:Nat):List Int:=(List.range n).map fun(k:Nat)=>(k:Int)
theorem zi7 (n:Nat):upI (n+1)=upI n++[(n:Int)]:=by unfold upI;rw[List.range_succ,List.map_append];rfl
theorem MZ (n:Nat):(upI n).length=n:=by simp [upI]
theorem zi6 {n:Nat}{x:Int}:x∈upI n↔0≤x∧x<n:=by
 unfold upI;simp only[List.mem_map,List.mem_range];constructor
 ·rintro⟨k,hk,rfl⟩;omega
 ·intro ⟨h1,h2⟩;exact⟨x.toNat,by omega,by omega⟩
theorem zdK (n:Nat)(hn:n≤1000)(hp:RA 2000 a):lH OH [AI n] L a none (fun xs a2=>a≤a2∧a2≤a+n∧∃l:List Int,l.Perm (upI n)∧xs=l.map eI):=by
 refine lH.of fun h id hid=>?_
 rw[z7J rfl];have hid':id≤h.length:=by omega
 simp only[tN,go_sem,hid];refine FA (fun k:Nat=>⟨[(0,.ref id 0),(1,AI n),(5,.own h.length k 0 k),(9,AI n),(10,AI k)],h.set id (xA L a)++[.row none ((upI k).map eI) 0],[]⟩) (fun k=>k≤n) (fun k=>n-k) 0 rfl (by omega) ?_
 intro k hk;have hkl:((upI k).map eI).length=k:=by rw[List.length_map,MZ]
 rcases Nat.lt_or_ge k n with hlt|hge
 ·have w2:IntKind.i64.wrap ((k:Int)+1)=((k+1:Nat):Int):=qA _ (by omega) (by omega)
  have hmx:k+1≤DA:=by unfold DA;omega
  simp only[go_sem,hid,hid',hlt,hkl,hmx,w2];refine⟨k+1,?_,by omega,by omega⟩
  rw[zi7,List.map_append];rfl
 ·have ek:k=n:=by omega
  subst ek;have w3:IntKind.i64.wrap ((k:Int)-1)=(k:Int)-1:=qA _ (by omega) (by omega)
  simp only[go_sem,hid,hid',Nat.lt_irrefl,w3];refine FA (fun t:List Int×Int×Int=>⟨[(0,.ref id 0),(5,.own h.length k 0 k),(7,AI t.2.1)],h.set id (xA L t.2.2)++[.row none (t.1.map eI) 0],[]⟩)
   (fun t=>t.1.Perm (upI k) ∧ -1≤t.2.1∧t.2.1<k∧a≤t.2.2∧t.2.2+t.2.1+1≤a+k) (fun t=>t.2.1.toNat) (upI k,(k:Int)-1,a) rfl ⟨List.Perm.refl _,by simp;omega,by simp;omega,by simp,by simp;omega⟩ ?_
  rintro⟨l,i,b⟩ ⟨q1,q2,q3,q4,q5⟩
  dsimp only at q1 q2 q3 q4 q5 ⊢;have hll:l.length=k:=by rw[q1.length_eq,MZ]
  have hlm:(l.map eI).length=k:=by rw[List.length_map,hll]
  by_cases hi:0<i
  ·have pb:=PC (n:=0) hp q4 (by omega)
   obtain⟨n1,n2⟩:=WG L b (i+1) (by omega) (by omega)
   have w4:IntKind.i64.wrap (i+1)=i+1:=qA _ (by omega) (by omega)
   have w5:IntKind.i64.wrap (i-1)=i-1:=qA _ (by omega) (by omega)
   have e1:=KD (k:=.i64) n1
   have e2:=KD (k:=.i64) (show 0≤i by omega)
   obtain⟨c,hc⟩:∃c,iB L b (i+1)=c:=⟨_,rfl⟩;rw[hc]at n1 n2 e1;have b1:c.toNat<k:=by omega
   have b2:i.toNat<k:=by omega
   have g1:=PA eI (l:=l) (k:=c.toNat) (by omega)
   have g2:=PA eI (l:=l) (k:=i.toNat) (by omega)
   have hsw:=swap_perm l i.toNat c.toNat (by omega) (by omega)
   have g3:((l.set i.toNat l[c.toNat]).map eI)[c.toNat]?=some (eI ((l.set i.toNat l[c.toNat])[c.toNat]'(by simp;omega))):=PA eI (by simp;omega)
   have m1:(l.map eI).set i.toNat (eI l[c.toNat])=(l.set i.toNat l[c.toNat]).map eI:=by rw[List.map_set]
   have m2:((l.set i.toNat l[c.toNat]).map eI).set c.toNat (eI l[i.toNat])=((l.set i.toNat l[c.toNat]).set c.toNat l[i.toNat]).map eI:=List.map_set.symm
   have hl2:((l.set i.toNat l[c.toNat]).map eI).length=k:=by simp [hll]
   simp only[go_sem,hid,hid',hi,w4,pb,hc,e1,e2,hlm,b1,b2,g1,g2,m1,g3,m2,hl2,w5];exact⟨((l.set i.toNat l[c.toNat]).set c.toNat l[i.toNat],i-1,b+1),rfl,⟨hsw.trans q1,by dsimp only;omega,by dsimp only;omega,by dsimp only;omega,by dsimp only;omega⟩,by dsimp only;omega⟩
  ·simp only[go_sem,hi]
   refine⟨l.map eI,b,⟨q4,by omega,l,q1,rfl⟩,by rw[hlm],?_⟩
   exact List.take_of_length_le (by simp)
def z6d (t:List (List UInt8)):Prop:=t.length≤5∧∀s∈t,s.length≤1000
theorem z4z (s:List UInt8)(c:Int)(h0:0≤c)(hc:s.length*c.toNat≤1000000)(h1:c≤1000000):eA X uL [AS s,AI c] h K=K (AS (rD s c.toNat)) h []:=by
 refine gX (X:=X) (by kernel_rfl) ?_
 first|rw[show X.ex2=bF GRL PRL from rfl]|skip
 show bF GRL PRL uL [AS s,AI c] h=some (AS (rD s c.toNat),h,[])
 exact z2Y (vs:=[.str s,.int .i64 c]) (by kernel_rfl) (s:=mM) (by kernel_rfl) rfl (by simp only[mM];rw[if_pos ⟨h0,hc,h1⟩])
theorem hZ (s:List UInt8):∀c,(rD s c).length=c*s.length
 | 0=>by simp [rD]
 | c+1=>by rw[rD,List.length_append,hZ s c,Nat.add_mul,Nat.one_mul,Nat.add_comm]
theorem zdI (hp:RA 200 a):tD TK [] L a (fun v a2=>a≤a2∧a2≤a+60∧∃t:List (List UInt8),z6d t∧v=EA t):=by
 refine tD.of fun h id hid=>?_
 rw[z7F rfl];have hid':id≤h.length:=by omega
 have p0:=PC (n:=0) hp (Int.le_refl a) (by omega)
 have p1:=PC (n:=0) hp (show a≤a+1 by omega) (by omega)
 have pl:=KQ (l:=[0,1,2,3,4,5]) (L:=L) (a:=a) (by simp) (by simp)
 obtain⟨lg,hlg⟩:∃n,eE [0,1,2,3,4,5] L a=n:=⟨_,rfl⟩;rw[hlg]at pl;have hlg0:0≤lg∧lg≤5:=by simp only[List.mem_cons,List.not_mem_nil,or_false]at pl;omega
 obtain⟨long,rfl⟩:=Int.eq_ofNat_of_zero_le hlg0.1;obtain⟨n1,n2⟩:=XF (u:=1) (v:=5) L (a+1) (by omega) (by omega)
 obtain⟨n,hn⟩:=Int.eq_ofNat_of_zero_le (show 0≤bD 1 5 L (a+1) by omega)
 rw[hn]at n1 n2;simp only[qN,go_sem,hid,p0,p1,hlg,hn];refine FA (fun t:List (List UInt8)×Int=>⟨[(0,.ref id 0),(3,.own h.length t.1.length 0 t.1.length),(4,AI long),(11,AI n),(12,AI t.1.length)],h.set id (xA L t.2)++[.row none (t.1.map PV.str) 0],[]⟩)
  (fun t=>t.1.length≤n∧(∀s∈t.1,s.length≤5)∧a≤t.2∧t.2≤a+2+5*t.1.length) (fun t=>n-t.1.length) ([],a+1+1) rfl ⟨by simp,by simp,by simp;omega,by simp;omega⟩ ?_
 rintro⟨t,b⟩ ⟨q1,q2,q3,q4⟩
 dsimp only at q1 q2 q3 q4 ⊢;rcases Nat.lt_or_ge t.length n with hlt|hge
 ·have w2:IntKind.i64.wrap ((t.length:Int)+1)=((t.length+1:Nat):Int):=qA _ (by omega) (by omega)
  simp only[go_sem,hid,hlt];refine FA (fun u:List UInt8×Int=>⟨[(0,.ref id 0),(3,.own h.length t.length 0 t.length),(4,AI long),(5,AS u.1),(11,AI n),(12,AI t.length),(14,AI long),(15,AI u.1.length)],h.set id (xA L u.2)++[.row none (t.map PV.str) 0],[]⟩)
   (fun u=>u.1.length≤long∧b≤u.2∧u.2≤b+u.1.length) (fun u=>long-u.1.length) ([],b) rfl ⟨by simp,by simp,by simp⟩ ?_
  rintro⟨s,c⟩ ⟨r1,r2,r3⟩
  dsimp only at r1 r2 r3 ⊢;rcases Nat.lt_or_ge s.length long with hlt2|hge2
  ·have pc:=PC (n:=0) hp (show a≤c by omega) (by omega)
   have w3:IntKind.i64.wrap ((s.length:Int)+1)=((s.length+1:Nat):Int):=qA _ (by omega) (by omega)
   have ps:=YY (l:=[[48],[49]]) (L:=L) (a:=c) (by simp) (by simp)
   have hs1:(LD [[48],[49]] L c).length=1:=by
    simp only[List.mem_cons,List.not_mem_nil,or_false]at ps;rcases ps with e|e <;> rw[e] <;> rfl
   obtain⟨z,hz⟩:∃z,LD [[48],[49]] L c=z:=⟨_,rfl⟩;rw[hz]at hs1;have hmx:s.length+1≤fF:=by unfold fF;omega
   simp only[go_sem,hid,hlt2,pc,hz,hs1,hmx,w3];exact⟨(s++z,c+1),by simp [hs1],⟨by simp [hs1];omega,by dsimp only;omega,by simp [hs1];omega⟩,by simp [hs1];omega⟩
  ·have hge2':¬s.length<long:=by omega
   have hmx:t.length+1≤DA:=by unfold DA;omega
   simp only[go_sem,hid,hid',hge2',hmx,w2];refine⟨(t++[s],c),by simp,⟨by simp;omega,fun z hz=>?_,by dsimp only;omega,by simp;omega⟩,by simp;omega⟩
   rcases List.mem_append.1 hz with hz|hz
   ·exact q2 z hz
   ·rw[List.mem_singleton.1 hz];omega
 ·have hge':¬t.length<n:=by omega
  have pb:=zJ (PC hp q3 (show b+14≤a+200 by omega))
  have hq2:∀s∈t,s.length≤1000:=fun s hs=>by have:=q2 s hs;omega
  by_cases f1:iB L b 20=0
  ·obtain⟨m1,m2⟩:=WG L (b+1) t.length (by omega) (by omega)
   obtain⟨m,hm⟩:=Int.eq_ofNat_of_zero_le m1;rw[hm]at m2;have hml:m<t.length:=by omega
   have gm:=PA PV.str hml
   have ps:=YY (l:=[[48],[120]]) (L:=L) (a:=b+1+1) (by simp) (by simp)
   have hs1:(LD [[48],[120]] L (b+1+1)).length=1:=by
    simp only[List.mem_cons,List.not_mem_nil,or_false]at ps;rcases ps with e|e <;> rw[e] <;> rfl
   obtain⟨z,hz⟩:∃z,LD [[48],[120]] L (b+1+1)=z:=⟨_,rfl⟩;rw[hz]at hs1;have htm:=q2 _ (List.getElem_mem hml)
   have hmx:t[m].length+1≤fF:=by unfold fF;omega
   simp only[go_sem,hid,hid',hge',pb,f1,hm,hml,gm,hz,hs1,hmx];refine⟨b+1+1+1,⟨by omega,by omega,t.set m (t[m]++z),⟨by simp;omega,fun x hx=>?_⟩,?_⟩,rfl⟩
   ·rcases List.mem_or_eq_of_mem_set hx with hx|rfl
    ·exact hq2 x hx
    ·simp [hs1];omega
   ·have em:(t.map PV.str).set m (PV.str (t[m]++z))=(t.set m (t[m]++z)).map PV.str:=List.map_set.symm
    rw[em,EB (by simp)]
  ·by_cases f2:iB L (b+1) 40=0
   ·simp only[go_sem,hid,hid',hge',pb,f1,f2]
    exact⟨b+1+1,⟨by omega,by omega,[],⟨by simp,by simp⟩,rfl⟩,rfl⟩
   ·by_cases f3:iB L (b+1+1) 40=0
    ·simp only[go_sem,hid,hid',hge',pb,f1,f2,f3]
     refine FA (fun u:List (List UInt8)×Nat×Int=>⟨[(0,.ref id 0),(3,.own h.length t.length 0 t.length),(50,AI t.length),(51,AI u.2.1)],h.set id (xA L u.2.2)++[.row none (u.1.map PV.str) 0],[]⟩)
      (fun u=>u.1.length=t.length∧(∀s∈u.1,s.length≤1000)∧u.2.1≤t.length∧b+3≤u.2.2∧u.2.2≤b+3+3*u.2.1) (fun u=>t.length-u.2.1) (t,0,b+1+1+1) rfl ⟨rfl,hq2,by simp,by simp;omega,by simp;omega⟩ ?_
     rintro⟨u,j,c⟩ ⟨u1,u2,u3,u4,u5⟩
     dsimp only at u1 u2 u3 u4 u5 ⊢;rcases Nat.lt_or_ge j t.length with hlt|hge
     ·have pc:=zJ (PC hp (show a≤c by omega) (show c+14≤a+200 by omega))
      have w2:IntKind.i64.wrap ((j:Int)+1)=((j+1:Nat):Int):=qA _ (by omega) (by omega)
      have ps:=YY (l:=[[48],[49],[48,49]]) (L:=L) (a:=c) (by simp) (by simp)
      have hs1:(LD [[48],[49],[48,49]] L c).length≤2:=by
       simp only[List.mem_cons,List.not_mem_nil,or_false]at ps;rcases ps with e|e|e <;> rw[e] <;> decide
      obtain⟨z,hz⟩:∃z,LD [[48],[49],[48,49]] L c=z:=⟨_,rfl⟩;rw[hz]at hs1;obtain⟨v1,v2⟩:=XF (u:=0) (v:=1) L (c+1) (by omega) (by omega)
      obtain⟨x1,x2⟩:=XF (u:=0) (v:=32) L (c+1+1) (by omega) (by omega)
      obtain⟨d,hd⟩:∃z,bD 0 1 L (c+1)=z:=⟨_,rfl⟩;obtain⟨e,he⟩:∃z,bD 0 32 L (c+1+1)=z:=⟨_,rfl⟩;rw[hd]at v1 v2;rw[he]at x1 x2;have w5:IntKind.i64.wrap (32+d)=32+d:=qA _ (by omega) (by omega)
      have hm1:z.length*(32+d).toNat≤2*33:=Nat.mul_le_mul hs1 (by omega)
      have R1:=fun h K=>z4z (h:=h) (K:=K) z (32+d) (by omega) (by omega) (by omega)
      have R2:=fun h K=>z4z (h:=h) (K:=K) [49] e (by omega) (by simp;omega) (by omega)
      have l1:(rD z (32+d).toNat).length≤66:=by rw[hZ,Nat.mul_comm];exact hm1
      have l2:(rD [49] e.toNat).length≤32:=by rw[hZ];simp;omega
      generalize rD z (32+d).toNat=A at *;generalize rD [49] e.toNat=B at *;have hmx:A.length+B.length≤fF:=by unfold fF;omega
      have gu:=PA PV.str (l:=u) (k:=j) (by omega)
      have hul:(u.map PV.str).length=t.length:=by rw[List.length_map,u1]
      simp only[go_sem,hid,hid',hlt,pc,hz,hd,he,w5,R1,R2,hmx,hul,gu,w2];refine⟨(u.set j (A++B),j+1,c+1+1+1),?_,⟨by simp [u1],fun x hx=>?_,by dsimp only;omega,by dsimp only;omega,by dsimp only;omega⟩,by dsimp only;omega⟩
      ·rw[List.map_set]
      ·rcases List.mem_or_eq_of_mem_set hx with hx|rfl
       ·exact u2 x hx
       ·simp;omega
     ·have hge2:¬j<t.length:=by omega
      simp only[go_sem,hid,hid',hge2,u1];refine⟨c,⟨by omega,by omega,u,⟨by omega,u2⟩,?_⟩,rfl⟩
      rw[EB (by simp [u1])]
    ·simp only[go_sem,hid,hid',hge',pb,f1,f2,f3]
     refine⟨b+1+1+1,⟨by omega,by omega,t,⟨by omega,hq2⟩,?_⟩,rfl⟩
     rw[EB (by simp)]
theorem MF {t:List (List UInt8)}(h:0<t.length):(t.map PV.str)[0]?=some (.str (t.headD [])):=by
 cases t with
 | nil=>cases h
 | cons a r=>rfl
end Go.Am
end
