/- Texts of the proof, laid together: SpQFlo12, SpLawBF, Bridge, AmL2. -/
import Derived.ProofKit
import Derived.Shelf.Strconv.Itoa3
import Derived.Lib.LaidTab
import Derived.Test.YtpmepdkfbangiaaGreatDoorlawBF9
set_option linter.all false
section
/- The reference: who runs,how many boards are in each state. -/
open Go
set_option linter.all false
set_option maxRecDepth 100000
namespace Go.Am
variable {h:aA} {K:lA}
attribute [-go_sem] nB QA oB TB IC JC splice
attribute [local go_sem] kQ EF zC YH ZH aI aH bH bI dI fI gI ZN kI nV lQ cH oV kV lV
variable {steps:List Nm} {tries:Int} {l:List Ent} {at_:Int}
def unPr:PV→Nm × Nm
 | .agg [.str a,.str b]=>(a,b)
 | _=>([],[])
theorem zoT (a b:Nm × Nm):cA X LJ [.p (CB a),.p (CB b)] h K=K (AI (EA a.1 b.1)) h []:=by
 refine uA ?_;rw[zeE rfl];obtain⟨a1,a2⟩:=a;obtain⟨b1,b2⟩:=b;have q2:=fun h K=>SP (h:=h) (K:=K) a1 b1
 simp only[XX,go_sem,CB,↓q2,q2];first|done|trace_state
def QE (bs:List (Nm × Sta))(k:Nat):List (Nm×Nm):=(((JB bs).take k).filter fun y=>decide ((gB bs y).state=2)).map fun y=>((gB bs y).site,y)
theorem zog {bs:List (Nm × Sta)}{k:Nat}(hk:k<(JB bs).length):QE bs (k+1)=QE bs k++if(gB bs (JB bs)[k]).state=2 then [((gB bs (JB bs)[k]).site,(JB bs)[k])] else []:=by
 unfold QE;rw[List.take_succ_eq_append_getElem hk,List.filter_append,List.map_append,List.filter_cons,List.filter_nil];by_cases c:(gB bs (JB bs)[k]).state=2
 ·simp [c]
 ·simp [c]
theorem z8Z (bs:List (Nm × Sta))(k:Nat):(QE bs k).length≤bs.length:=by
 unfold QE;rw[List.length_map];have h1:=List.length_filter_le (fun y=>decide ((gB bs y).state=2)) ((JB bs).take k)
 rw[List.length_take,DZ]at h1;omega
set_option maxHeartbeats 4000000 in
theorem zo7 (I:QIn steps tries l at_):cA X BL [EB steps tries,eB l,AI at_] h K=K (tD (xK (tC steps tries (upL l at_)).w.bs)) h []:=by
 refine uA ?_;rw[zeD rfl];have RE:=fun h K=>QP (h:=h) (K:=K) steps tries I.st I.h0 l I.ll I.w I.s at_
 have hnd:=I.nd
 have hbl:=I.bl
 simp only[pJ]at RE;generalize tC steps tries (upL l at_)=q at *;obtain⟨⟨bs,runs⟩,ref,why⟩:=q;dsimp only at RE hnd hbl ⊢;obtain⟨g,hg⟩:∃g,h++[Obj.box [TA steps,AI tries]]=g:=⟨_,rfl⟩;have gl:g.length=h.length+1:=by rw[←hg];simp
 have RE2:=fun(K:lA)=>(congrArg (fun z=>cA X UC [EB steps tries,eB l,AI at_] z K) hg).trans (RE g K)
 have NM:=fun(fb o2 o3 o4:Obj) (a b c:Nat) K=>z93 (h:=g) (K:=K) fb o2 o3 o4 bs hnd hbl steps tries a b c [.row (some 2) [] 0]
 simp only[z3f (l:=[_]),List.length_cons,List.length_nil,Nat.zero_add,Nat.reduceAdd,List.cons_append,List.nil_append]at NM;simp only[vR,go_sem,↓RE2,RE2,List.length_nil,List.length_cons,Nat.zero_add,Nat.add_zero,Nat.reduceAdd,List.nil_append,List.getElem?_cons_zero,List.set_cons_zero,↓NM,NM];have nl:=DZ bs
 refine UA (fun k:Nat=>⟨[(7,.ref (g.length+5) 0),(8,.own (g.length+6) (QE bs k).length 0 (QE bs k).length),(17,.own (g.length+7) bs.length 0 bs.length),(18,AI bs.length),(19,AI k)],
  QL g (flB steps tries) (vA PV.str aB bs) (.row (some 6) (runs.map RanQ.pv) 0) (.row none (ref.map ZD) 0) (.row none (why.map eI) 0) (qbx g steps tries runs.length ref.length why.length) [] [.row (some 2) ((QE bs k).map CB) 0,.row none ((JB bs).map PV.str) 0],[]⟩) (fun k=>k≤bs.length) (fun k=>bs.length-k) 0 rfl (by omega) ?_
 intro k hk;rcases Nat.lt_or_ge k bs.length with hlt|hge
 ·have hc:(k:Int)<(bs.length:Int):=by omega
  have hkn:k<(JB bs).length:=by omega
  have gn:=GB PV.str hkn
  have cw:∀v:List UInt8,VA none 0 (PV.str v)=some (PV.str v):=fun _=>rfl
  have wk:IntKind.i64.wrap ((k:Int)+1)=((k+1:Nat):Int):=CA _ (by omega) (by omega)
  have sc:=zog hkn
  have rl:=z8Z bs k
  have lk:=fun(o0 o2 o3 o4 o5:Obj) (r:aA)=>ZS (H:=QL g o0 (vA PV.str aB bs) o2 o3 o4 o5 [] r) zC (JB bs)[k]
  have m1:(QE bs k).length+1≤cB:=by unfold cB;omega
  have ml:((QE bs k).map CB).length=(QE bs k).length:=List.length_map ..
  have f6:g.length+6+1≤g.length+8:=by omega
  have f7:g.length+7+1≤g.length+8:=by omega
  have f5:g.length+5+1≤g.length+8:=by omega
  generalize (JB bs)[k]=nm at *;generalize gB bs nm=s at *;obtain⟨s1,s2,s3,s4,s5⟩:=s;unfold Sta.pv at lk;dsimp only at lk sc;by_cases c1:s1=2
  ·rw[if_pos c1]at sc
   simp only[go_sem,hc,hlt,gn,cw,lk,splice,eq_true c1,m1,ml,nl,wk,f5,f6,f7,List.nil_append,List.cons_append,List.length_cons,List.length_nil,Nat.zero_add,Nat.add_zero,Nat.reduceAdd,List.getElem?_cons_zero,List.getElem?_cons_succ,List.set_cons_zero,List.set_cons_succ,List.take_succ_cons,List.take_zero];refine⟨k+1,?_,by omega,by omega⟩
   rw[sc];simp [CB]
  ·rw[if_neg c1,List.append_nil]at sc
   simp only[go_sem,hc,hlt,gn,cw,lk,splice,c1,m1,ml,nl,wk,f5,f6,f7,List.nil_append,List.cons_append,List.length_cons,List.length_nil,Nat.zero_add,Nat.add_zero,Nat.reduceAdd,List.getElem?_cons_zero,List.getElem?_cons_succ,List.set_cons_zero,List.set_cons_succ,List.take_succ_cons,List.take_zero];refine⟨k+1,?_,by omega,by omega⟩
   rw[sc]
 ·have ek:k=bs.length:=by omega
  subst ek;have c0:¬(bs.length:Int)<(bs.length:Int):=by omega
  have er:QE bs bs.length=mF bs:=by unfold QE mF;rw[List.take_of_length_le (by omega)]
  have rl:=z8Z bs bs.length
  rw[er]at rl ⊢;have SO:=fun(o0 o1 o2 o3 o4 o5:Obj) (r:aA) K=>zdf (h:=QL g o0 o1 o2 o3 o4 o5 [] (.row (some 2) ((mF bs).map CB) 0::r)) (K:=K) (g.length+6) ((mF bs).map CB) (fun x hx=>by obtain⟨n,_,rfl⟩:=List.mem_map.1 hx;rfl) (by rw[List.length_map];omega) ZN (g:=LJ) (caps:=[]) (c:=fun x y=>EA (unPr x).1 (unPr y).1) (fun o x hx y hy K=>by
   obtain⟨a,_,rfl⟩:=List.mem_map.1 hx;obtain⟨b,_,rfl⟩:=List.mem_map.1 hy;exact zoT a b)
  have im:kB (ltC fun x y=>EA (unPr x).1 (unPr y).1) ((mF bs).map CB)=(xK bs).map CB:=PS CB (fun a b=>rfl) _
  rw[im]at SO;simp only[List.length_map,lQ,List.set_cons_zero]at SO;have sl:(xK bs).length=(mF bs).length:=pM _ _
  simp only[go_sem,c0,Nat.lt_irrefl,↓SO,SO];have w1:win ((xK bs).map CB) 0 (mF bs).length=(xK bs).map CB:=pF (by rw[List.length_map,sl])
  have i1:h.length≤g.length+6:=by omega
  have qb:∀(o0 o1 o2 o3 o4 o5:Obj) (r:aA),(QL g o0 o1 o2 o3 o4 o5 [] r).take h.length=h:=fun o0 o1 o2 o3 o4 o5 r=>by rw[←hg];exact GK
  simp [w1,i1,qb,AV.top,AV.tops,sl]
def tG (bs:List (Nm × Sta))(seen:List Nat)(s:Int):Nat:=(seen.filter fun i=>decide (((bs[i]?).map fun e=>e.2.state)=some s)).length
theorem zge {bs:List (Nm × Sta)}{seen:List Nat}{i:Nat}{s:Int}(hi:i<bs.length):tG bs (seen++[i]) s=tG bs seen s+if bs[i].2.state=s then 1 else 0:=by
 unfold tG;rw[List.filter_append,List.length_append,List.filter_cons,List.filter_nil,List.getElem?_eq_getElem hi];by_cases c:bs[i].2.state=s
 ·simp [c]
 ·simp [c]
theorem zgd (bs:List (Nm × Sta))(seen:List Nat)(s:Int):tG bs seen s≤seen.length:=List.length_filter_le _ _
theorem zgc {bs:List (Nm × Sta)}{seen:List Nat}(hd:seen.Nodup)(hb:∀ i∈seen,i<bs.length)(ha:∀ i,i<bs.length→i∈seen)(s:Int):tG bs seen s=yJ bs s:=by
 have hp:=GU hd hb ha
 unfold tG yJ;rw[(hp.filter _).length_eq];have:∀(pre bs:List (Nm×Sta)),((List.range' pre.length bs.length).filter fun i=>decide ((((pre++bs)[i]?).map fun e=>e.2.state)=some s)).length=(bs.filter fun e=>decide (e.2.state=s)).length:=by
  intro pre bs;induction bs generalizing pre with
  | nil=>rfl
  | cons e r ih=>
   have h2:=ih (pre++[e])
   rw[List.append_assoc,List.length_append]at h2;have h1:(pre++e::r)[pre.length]?=some e:=by simp
   rw[List.length_cons,List.range'_succ,List.filter_cons,List.filter_cons,h1];simp only[Option.map_some,Option.some.injEq];split
   ·rw[List.length_cons,List.length_cons];exact congrArg (· + 1) h2
   ·exact h2
 have:=this [] bs;rw[List.range_eq_range'];exact this
theorem zoX:cA X LL [] h K=K (TA ([]::kE)) h []:=by
 refine uA ?_;rw[zeV rfl];simp only[eY,go_sem];first|done|rfl
set_option maxHeartbeats 4000000 in
theorem zor (I:QIn steps tries l at_):cA X uL [EB steps tries,eB l,AI at_] h K=K (tD (RD (tC steps tries (upL l at_)).w.bs)) h []:=by
 refine uA ?_;rw[ze4 rfl];have RE:=fun h K=>QP (h:=h) (K:=K) steps tries I.st I.h0 l I.ll I.w I.s at_
 have hbl:=I.bl
 simp only[pJ]at RE;generalize tC steps tries (upL l at_)=q at *;obtain⟨⟨bs,runs⟩,ref,why⟩:=q;dsimp only at RE hbl ⊢;obtain⟨g,hg⟩:∃g,h++[Obj.box [TA steps,AI tries]]=g:=⟨_,rfl⟩;have gl:g.length=h.length+1:=by rw[←hg];simp
 have RE2:=fun(K:lA)=>(congrArg (fun z=>cA X UC [EB steps tries,eB l,AI at_] z K) hg).trans (RE g K)
 simp only[rR];refine⟨_,_,_,⟨rfl,rfl,rfl⟩,?_⟩;simp only[go_sem,↓RE2,RE2,List.length_nil,List.length_cons,Nat.zero_add,Nat.add_zero,Nat.reduceAdd,List.nil_append,List.getElem?_cons_zero,List.set_cons_zero];have cl:(RD bs).length=5:=rfl
 refine UA (fun k:Nat=>⟨[(7,.ref (g.length+5) 0),(8,.own (g.length+6) k 0 k),(9,AI ((k+1:Nat):Int))],
  QL g (flB steps tries) (vA PV.str aB bs) (.row (some 6) (runs.map RanQ.pv) 0) (.row none (ref.map ZD) 0) (.row none (why.map eI) 0) (qbx g steps tries runs.length ref.length why.length) [] [.row (some 2) (((RD bs).take k).map CB) 0],[]⟩) (fun k=>k≤5) (fun k=>5-k) 0 rfl (by omega) ?_
 intro k hk;rcases Nat.lt_or_ge k 5 with hlt|hge
 ·have hc:((k+1:Nat):Int)≤5:=by omega
  have mr:=fP (h:=QL g (flB steps tries) (vA PV.str aB bs) (.row (some 6) (runs.map RanQ.pv) 0) (.row none (ref.map ZD) 0) (.row none (why.map eI) 0) (qbx g steps tries runs.length ref.length why.length) [] [.row (some 2) (((RD bs).take k).map CB) 0]) (id:=g.length+1) (key:=PV.str) (val:=aB) (l:=bs) zC
  rw[kQ,EF]at mr;simp only[List.length_cons,List.length_nil,Nat.zero_add,Nat.reduceAdd,List.cons_append,List.nil_append]at mr;have e9:((RD bs).take k).map CB++[.agg [.str (kE.getD k []),.str (itoa (yJ bs ((k+1:Nat):Int)))]]=((RD bs).take (k+1)).map CB:=by
   match k,hlt with
   | 0,_=>rfl
   | 1,_=>rfl
   | 2,_=>rfl
   | 3,_=>rfl
   | 4,_=>rfl
  have nm:(kE.map PV.str)[k]?=some (.str (kE.getD k [])):=by
   match k,hlt with
   | 0,_=>rfl
   | 1,_=>rfl
   | 2,_=>rfl
   | 3,_=>rfl
   | 4,_=>rfl
  have tl:(((RD bs).take k).map CB).length=k:=by rw[List.length_map,List.length_take,cl];omega
  have nl6:(([]::kE).map PV.str).length=6:=rfl
  have nl7:([]::kE).length=6:=rfl
  have hk6:k+1<6:=by omega
  have m1:k+1≤cB:=by unfold cB;omega
  have SN:=fun h K=>zoX (h:=h) (K:=K)
  have cw:∀v:List UInt8,VA none 0 (PV.str v)=some (PV.str v):=fun _=>rfl
  have w2:IntKind.i64.wrap (((k+1:Nat):Int)+1)=((k+1+1:Nat):Int):=CA _ (by omega) (by omega)
  simp only[go_sem,hc,mr];refine UA (fun t:List Nat×Bool=>⟨match t.2 with
   | true=>[(7,.ref (g.length+5) 0),(8,.own (g.length+6) k 0 k),(9,AI ((k+1:Nat):Int)),(10,AI (tG bs t.1 ((k+1:Nat):Int))),(25,.it (g.length+7))]
   | false=>[(7,.ref (g.length+5) 0),(8,.own (g.length+6) k 0 k),(9,AI ((k+1:Nat):Int)),(10,AI (tG bs t.1 ((k+1:Nat):Int))),(25,.it (g.length+7)),(33,AB false)],
   QL g (flB steps tries) (vA PV.str aB bs) (.row (some 6) (runs.map RanQ.pv) 0) (.row none (ref.map ZD) 0) (.row none (why.map eI) 0) (qbx g steps tries runs.length ref.length why.length) [] [.row (some 2) (((RD bs).take k).map CB) 0,.iter (some (g.length+1)) bs.length t.1 bs.length],[]⟩)
   (fun t=>t.1.Nodup∧∀i∈t.1,i<bs.length) (fun t=>bs.length-t.1.length) ([],true) rfl ⟨List.nodup_nil,by simp⟩ ?_
  rintro⟨seen,on⟩ ⟨hd,hb⟩
  dsimp only at hd hb;have hsl:seen.length≤bs.length:=by
   have h2:=hd.length_le_of_subset (l₂:=List.range bs.length) (fun x hx=>by rw[List.mem_range];exact hb x hx)
   simpa using h2
  have csl:=zgd bs seen ((k+1:Nat):Int)
  have f5:g.length+5+1≤g.length+8:=by omega
  have f6:g.length+6+1≤g.length+8:=by omega
  have f7:g.length+7+1≤g.length+8:=by omega
  have f57:g.length+5+1≤g.length+7:=by omega
  have f67:g.length+6+1≤g.length+7:=by omega
  cases on;all_goals
   simp only[go_sem];refine kP (key:=PV.str) (val:=aB) (l:=bs) (m:=g.length+1) (seen:=seen) (by rw[kI];rfl) zC ?_ ?_
   ·intro hall
    have hcn:=zgc hd hb hall ((k+1:Nat):Int)
    have IT:=fun h K=>z9r (h:=h) (K:=K) (yJ bs ((k+1:Nat):Int)) (by omega) (by omega)
    rw[hcn];simp only[go_sem,cH,List.set_cons_zero,List.set_cons_succ,↓SN,SN,nm,nl6,nl7,hk6,cw,splice,↓IT,IT,tl,m1,e9,w2,f5,f6,f7,f57,f67,List.nil_append,List.cons_append,List.length_cons,List.length_nil,Nat.zero_add,Nat.add_zero,Nat.reduceAdd,List.getElem?_cons_zero,List.getElem?_cons_succ,List.take_succ_cons,List.take_zero];first
    | exact⟨k+1,rfl,by omega,by omega⟩
    | trace_state
   ·intro i hi hni
    have hnn:(seen++[i]).Nodup:=by rw[List.nodup_append];exact⟨hd,by simp,fun a ha b hb=>by rw[List.mem_singleton]at hb;subst hb;intro e;subst e;exact hni ha⟩
    have hbb:∀x∈seen++[i],x<bs.length:=fun x hx=>by
     rcases List.mem_append.1 hx with hx|hx
     ·exact hb x hx
     ·rw[List.mem_singleton]at hx;rw[hx];exact hi
    have hlen:seen.length<bs.length:=by
     have h2:=hnn.length_le_of_subset (l₂:=List.range bs.length) (fun x hx=>by rw[List.mem_range];exact hbb x hx)
     simp at h2;omega
    have me:=ZO (h:=QL g (flB steps tries) (vA PV.str aB bs) (.row (some 6) (runs.map RanQ.pv) 0) (.row none (ref.map ZD) 0) (.row none (why.map eI) 0) (qbx g steps tries runs.length ref.length why.length) [] [.row (some 2) (((RD bs).take k).map CB) 0,.iter (some (g.length+1)) bs.length (seen++[i]) bs.length]) (j:=g.length+7) (m:=g.length+1) (key:=PV.str) (val:=aB) (l:=bs) (seen:=seen) (i:=i) (by rw[kI];rfl) zC (by omega)
    have hsn:=zge (seen:=seen) (s:=((k+1:Nat):Int)) hi
    have wc:IntKind.i64.wrap ((tG bs seen ((k+1:Nat):Int):Int)+1)=((tG bs seen ((k+1:Nat):Int)+1:Nat):Int):=CA _ (by omega) (by omega)
    rw[cH];simp only[List.set_cons_zero,List.set_cons_succ];generalize bs[i]=e at *;obtain⟨ek,e1,e2,e3,e4,e5⟩:=e;have sv:aB ⟨e1,e2,e3,e4,e5⟩ = .p (.agg [eI e1,eI e2,.str e3,.str e4,eI e5]):=rfl
    dsimp only at me hsn;rw[sv]at me;by_cases c1:e1=((k+1:Nat):Int)
    ·rw[if_pos c1]at hsn
     simp only[go_sem,me,splice,eq_true c1,wc,f5,f6,f7,List.nil_append,List.cons_append,List.length_cons,List.length_nil,Nat.zero_add,Nat.add_zero,Nat.reduceAdd,List.getElem?_cons_zero,List.getElem?_cons_succ,List.set_cons_zero,List.set_cons_succ,List.take_succ_cons,List.take_zero];first
     | exact⟨(seen++[i],true),by dsimp only;rw[hsn],⟨hnn,hbb⟩,by dsimp only;rw[List.length_append];simp;omega⟩
     | trace_state
    ·rw[if_neg c1,Nat.add_zero]at hsn
     simp only[go_sem,me,splice,c1,wc,f5,f6,f7,List.nil_append,List.cons_append,List.length_cons,List.length_nil,Nat.zero_add,Nat.add_zero,Nat.reduceAdd,List.getElem?_cons_zero,List.getElem?_cons_succ,List.set_cons_zero,List.set_cons_succ,List.take_succ_cons,List.take_zero];first
     | exact⟨(seen++[i],false),by dsimp only;rw[hsn];rfl,⟨hnn,hbb⟩,by dsimp only;rw[List.length_append];simp;omega⟩
     | trace_state
 ·have ek:k=5:=by omega
  subst ek;have c0:¬((5+1:Nat):Int)≤5:=by omega
  have et:(RD bs).take 5=RD bs:=List.take_of_length_le (by rw[cl];exact Nat.le_refl _)
  rw[et];simp only[go_sem,c0];have w1:win ((RD bs).map CB) 0 5=(RD bs).map CB:=pF (by rw[List.length_map,cl])
  have i1:h.length≤g.length+6:=by omega
  have qb:∀(o0 o1 o2 o3 o4 o5:Obj) (r:aA),(QL g o0 o1 o2 o3 o4 o5 [] r).take h.length=h:=fun o0 o1 o2 o3 o4 o5 r=>by rw[←hg];exact GK
  simp [w1,i1,qb,AV.top,AV.tops,cl]
end Go.Am
end
section
/- BoardsFollowed returns true. -/
open Go
set_option linter.all false
set_option maxRecDepth 100000
namespace Go.Am
variable {L:List Int} {a:Int} {h:aA} {K:lA}
attribute [-go_sem] nB splice
def fL:List Int:=[5,10,20,40,100,500,0,-1,345686400000]
theorem zlk (hp:XA 0 a):Gen sL [] L a (a+1) (AI (rD fL L a)):=by
 refine Gen.of fun h id hid=>?_
 rw[zex rfl];have q:=fun K:lA=>z0B (K:=K) (L:=L) (h:=h) (id:=id) (a:=a) hid hp (xs:=fL.map eI) (by decide) (by decide) (by decide)
 have e:(fL.map eI).map unI=fL:=rfl
 simp only[e]at q;simp only[fL,List.map_cons,List.map_nil]at q;simp only[MX,go_sem,hid,hp,↓q,q];first|done|rfl|trace_state
theorem zkX (a b c:Int):DD [DD [a,b],c]=orL [a,b,c]:=by
 unfold DD orL;by_cases h1:a=0
 ·subst h1
  by_cases h2:b=0
  ·subst h2;simp [DD,orL]
  ·simp [DD,orL,h2]
 ·simp [DD,orL,h1]
theorem zkW (a b:Int):DD [a,b]=if a=0 then b else a:=by
 unfold DD;by_cases h1:a=0
 ·subst h1
  by_cases h2:b=0 <;> simp [DD,h2]
 ·simp [h1]
attribute [-go_sem] TY lS mS
theorem dX {H:aA}{K:Ex→St→Prop}{i j:Nat}{r w:List Int}{e f z:Int}{s:Sta}{k:List Nm}{n c:List (Nm × Nm)}(hi:H[i]?=some s.bx)(hj:H[j]?=some s.bx)(lr:r.length≤1000000)(lw:w.length≤1000000)(lk:k.length≤1000000)(ln:n.length≤1000000)(lc:c.length≤1000000)
 (fin:K .ret ⟨[(2,AB true)],H,[]⟩) :
 NW (cA X) X.gl pT ⟨[(9,AL r),(10,AL w),(11,AI e),(12,.ref i 0),(13,AI f),(14,TA k),(15,AI z),(16,tD n),(17,AI e),(18,tD c),(19,AI e),(20,AI e),(21,AI f),(22,AI z),(23,AL r),(24,AL w),(25,tD n),(26,tD c),(27,.ref j 0),(29,TA k)],H,[]⟩ K:=by
 rw[TY];obtain⟨s1,s2,s3,s4,s5⟩:=s;unfold Sta.bx at hi hj;dsimp only at hi hj;have E1:=fun h K=>zoy (h:=h) (K:=K) r r (by omega)
 have E2:=fun h K=>zow (h:=h) (K:=K) w lw
 have E3:=fun h K=>zox (h:=h) (K:=K) k lk
 have E4:=fun h K=>z9n (h:=h) (K:=K) n ln
 have E5:=fun h K=>z9n (h:=h) (K:=K) c lc
 have eq5:nB [0,0,2,2,0] false (.p (.agg [eI s1,eI s2,.str s3,.str s4,eI s5])) (.p (.agg [eI s1,eI s2,.str s3,.str s4,eI s5]))=some (AB true):=by simp [nB,eqs,PV.kind,PV.eq1,pbool,eI]
 have d1:decide (r=r)=true:=by simp
 rw[d1]at E1;simp only[GX,go_sem,hi,hj,↓E1,E1,↓E2,E2,↓E3,E3,↓E4,E4,↓E5,E5,eq5,zoZ];first|exact fin|trace_state
theorem bf_in {steps:List Nm}{tries:Int}{x:List Ent}{at_:Int}(h0:steps≠[])(hst:steps.length≤1000)(xv:∀ y∈x,EntV y)(xl:x.length≤1000)(xf:oD x=0) :
 Both (lB steps tries (upL x at_)) (tC steps tries (upL x at_))∧asA (lB steps tries (upL x at_)).bs=(tC steps tries (upL x at_)).w.bs∧QIn steps tries x at_∧((lB steps tries (upL x at_)).bs.map fun e=>e.1.board).Nodup∧((lB steps tries (upL x at_)).sm.map fun e=>e.1.1).Nodup:=by
 have hfl:=(zk8 x).1 xf
 have sub:(upL x at_).Sublist x:=List.take_sublist _ _
 have B:=qE steps tries h0 (U:=upL x at_) fun y hy=>hfl.2.1 y (sub.subset hy)
 have eb:asA (lB steps tries (upL x at_)).bs=(tC steps tries (upL x at_)).w.bs:=B.inv.bs
 have I:=(bK tries h0 (l:=upL x at_) (fun y hy=>by have:=(xv y (sub.subset hy)).s;omega)).1
 have N:=(z7g steps tries LD (l:=upL x at_) fun y hy _=>(xv y (sub.subset hy)).w).nm
 have bl:(lB steps tries (upL x at_)).bs.length≤6:=by
  have:=I.nb.length_le_of_subset (l₂:=LD) (fun k hk=>by obtain⟨e,he,rfl⟩:=List.mem_map.1 hk;exact N e he)
  rw[List.length_map]at this;exact this
 refine⟨B,eb,⟨hst,h0,xl,fun y hy=>z6i (hfl.2.1 y hy),hfl.2.2.1.imp zlr,fun y hy=>(xv y hy).t,?_,?_⟩,I.nb,I.ns⟩
 ·rw[←eb,uZ];exact I.nb
 ·rw[←eb];unfold asA;rw[List.length_map];omega
theorem z3A {steps:List Nm}{tries:Int}{x:List Ent}{at_:Int}(h0:steps≠[])(xv:∀ y∈x,EntV y):(lB steps tries (upL x at_)).bs.length≤6:=by
 have sub:(upL x at_).Sublist x:=List.take_sublist _ _
 have I:=(bK tries h0 (l:=upL x at_) (fun y hy=>by have:=(xv y (sub.subset hy)).s;omega)).1
 have N:=(z7g steps tries LD (l:=upL x at_) fun y hy _=>(xv y (sub.subset hy)).w).nm
 have:=I.nb.length_le_of_subset (l₂:=LD) (fun k hk=>by obtain⟨e,he,rfl⟩:=List.mem_map.1 hk;exact N e he)
 rw[List.length_map]at this;exact this
set_option maxHeartbeats 16000000 in
theorem law_BF (L:List Int){K:lA}:cA X uS [AL L] [] K=K (AB true) [] []:=by
 refine uA ?_;rw[zeo rfl];have pp:XA 100000 0:=by unfold XA;omega
 obtain⟨_,a1,⟨d1,d2,steps,tries,n1,n4,nk,rfl⟩,V1⟩:=(zli (L:=L) (a:=0) (UB pp (by omega) (by omega))).hd (l:=[])
 have pr:XA 0 a1:=UB pp (by omega) (by omega)
 have rb:0≤KC 0 20 L a1∧KC 0 20 L a1≤20:=JP L a1 (by omega) (by omega)
 obtain⟨m,hm⟩:∃m:Nat,KC 0 20 L a1=m:=⟨(KC 0 20 L a1).toNat,by omega⟩
 obtain⟨_,a2,⟨e1,e2,x,xl,xv,rfl⟩,V2⟩:=(zlj (L:=L) (a:=a1+1) (UB pp (by omega) (by omega)) m (by omega)).hd (l:=[])
 have p2:XA 0 a2:=UB pp (by omega) (by omega)
 have p3:XA 0 (a2+1):=UB pp (by omega) (by omega)
 have p4:XA 0 (a2+1+1):=UB pp (by omega) (by omega)
 have V3:=fun(l:aA) K=>(zlk (L:=L) (a:=a2) p2).hd (l:=l) (K:=K)
 generalize rD fL L a2=at_ at V3;have pm1:=sK (L:=L) (a:=a2+1) (l:=[[98,49],[98,50],[98,57],[65]]) (by simp) (by simp)
 generalize hB:NB [[98,49],[98,50],[98,57],[65]] L (a2+1)=board at *;generalize hS:NB [[115,99,97,110],[102,108,97,115,104],[122,122]] L (a2+1+1)=step at *;have bl:board.length≤1000000:=by
  simp only[List.mem_cons,List.not_mem_nil,or_false]at pm1;rcases pm1 with e|e|e|e <;> rw[e] <;> simp
 have h0s:steps≠[]:=fun e=>by rw[e]at n1;simp at n1
 have Ox:StOk steps x:=⟨by omega,fun s hs=>by have:=nk s hs;omega,fun y hy=>(xv y hy).ok,by omega⟩
 have RF:=fun h K=>zo4 (h:=h) (K:=K) steps tries x Ox at_
 have OF:=fun h K=>s_Of (h:=h) (K:=K) steps tries x Ox board bl at_
 have WA:=fun h K=>zoB (h:=h) (K:=K) steps tries x Ox step at_ (by have:=z3A (tries:=tries) (at_:=at_) h0s xv;omega)
 have RU:=fun h K=>zo6 (h:=h) (K:=K) steps tries x Ox at_
 have CO:=fun h K=>zoq (h:=h) (K:=K) steps tries x Ox at_
 have FF:=fun h K=>zoM (h:=h) (K:=K) steps tries x Ox
 have MF:=fun h K=>zo3 (h:=h) (K:=K) at_
 have NF:=fun h K=>zoR (h:=h) (K:=K) board (by omega)
 have SF:=fun h K=>zpb (h:=h) (K:=K) steps tries (by omega) step
 have E1:=fun h K=>EU (h:=h) (K:=K) [DD [gF steps tries,oD x],TI at_] (by simp)
 rw[zkX]at E1;have eE:orL [gF steps tries,oD x,TI at_]=OB steps tries x at_:=rfl
 rw[eE]at E1;have E2:=fun h K=>EU (h:=h) (K:=K) [OB steps tries x at_,if mB board=true then 0 else 5] (by simp)
 have E3:=fun h K=>EU (h:=h) (K:=K) [OB steps tries x at_,if steps.contains step=true then 0 else 8] (by simp)
 rw[zkW]at E2 E3;simp only[AL,List.map_cons,List.map_nil]at E1 E2 E3;by_cases hE:OB steps tries x at_=0
 case neg=>
  have r1:ZI steps tries x at_=([],[],OB steps tries x at_):=by unfold ZI;rw[if_pos hE]
  have r2:ofP steps tries x board at_=(fE,OB steps tries x at_):=by unfold ofP;rw[if_pos hE]
  have r3:BK steps tries x step at_=([],OB steps tries x at_):=by
   have:iG steps tries x step at_=OB steps tries x at_:=by unfold iG;rw[if_neg hE]
   unfold BK;rw[this,if_pos hE]
  have r4:vK steps tries x at_=([],OB steps tries x at_):=by unfold vK;rw[if_pos hE]
  have r5:AJ steps tries x at_=([],OB steps tries x at_):=by unfold AJ;rw[if_pos hE]
  rw[r1]at RF;rw[r2]at OF;rw[r3]at WA;rw[r4]at RU;rw[r5]at CO;rw[if_neg hE]at E2 E3;generalize OB steps tries x at_=E at *;dsimp only[fE,Sta.pv]at RF OF WA RU CO;simp (maxSteps:=2000000) only[lO,go_sem,V1,V2,V3,pr,p2,p3,p4,hm,hB,hS,splice,↓RF,RF,↓OF,OF,↓WA,WA,↓RU,RU,↓CO,CO,↓FF,FF,↓MF,MF,↓NF,NF,↓SF,SF,↓E1,E1,↓E2,E2,↓E3,E3,hE];rw[mS];simp only[BJ,go_sem,splice,hE];rw[lS];simp only[TK,go_sem,hE];refine dX (r:=[]) (w:=[]) (k:=[]) (n:=[]) (c:=[]) (s:=fE) rfl rfl (by simp) (by simp) (by simp) (by simp) (by simp) ?_
  simp only[go_sem]
 obtain⟨B,eb,QI,nb,ns⟩:=bf_in (tries:=tries) (at_:=at_) h0s (by omega) xv (by omega) (by
  unfold OB at hE;by_cases z:oD x=0
  ·exact z
  ·exfalso
   unfold orL at hE;by_cases z1:gF steps tries=0
   ·simp [z1,z,orL]at hE
   ·simp [z1]at hE)
 have r1:ZI steps tries x at_=((lB steps tries (upL x at_)).ref,(lB steps tries (upL x at_)).why,0):=by unfold ZI;rw[if_neg (by simp [hE])]
 have r4:vK steps tries x at_=(SE (lB steps tries (upL x at_)),0):=by unfold vK;rw[if_neg (by simp [hE])]
 have r5:AJ steps tries x at_=(yD (lB steps tries (upL x at_)).bs,0):=by unfold AJ;rw[if_neg (by simp [hE])]
 have wq:=zq8 nb step
 have rq:=zol B.inv ns (by rw[←eb,uZ];exact nb)
 have cq:=zgh (lB steps tries (upL x at_)).bs
 have QR:=fun h K=>zo5 (h:=h) (K:=K) QI
 have QU:=fun h K=>zo7 (h:=h) (K:=K) QI
 have QC:=fun h K=>zor (h:=h) (K:=K) QI
 have QW:=fun h K=>zoC (h:=h) (K:=K) steps tries x at_ QI step
 have QS:=fun h K=>zoA (h:=h) (K:=K) QI board
 rw[←B.ref,←B.why]at QR;rw[rq]at QU;rw[←eb]at QC QW QS;rw[cq]at QC;rw[wq]at QW;rw[r1]at RF;rw[r4]at RU;rw[r5]at CO;rw[hE]at E1 E2 E3;rw[if_pos rfl]at E2 E3;have lens1:(lB steps tries (upL x at_)).ref.length≤1000000∧(lB steps tries (upL x at_)).why.length≤1000000:=by
  have I:=(bK tries h0s (l:=upL x at_) (fun y hy=>((EE Ox at_).e y hy).s)).1
  have h2:=(EE Ox at_).l
  have h3:=I.fr
  have h4:=I.fw
  omega
 have lens2:(SE (lB steps tries (upL x at_))).length≤1000000:=by
  have h1:=(bK tries h0s (l:=upL x at_) (fun y hy=>((EE Ox at_).e y hy).s)).2.ln
  have h2:=(EE Ox at_).l
  unfold SE;rw[List.length_map,z9I,List.length_map];omega
 have lens3:∀step,(jE (lB steps tries (upL x at_)).bs step).length≤1000000:=fun step=>by
  have b6:=z3A (tries:=tries) (at_:=at_) h0s xv
  have:(jE (lB steps tries (upL x at_)).bs step).length=(JG (lB steps tries (upL x at_)).bs step).length:=pM _ _
  have h2:(JG (lB steps tries (upL x at_)).bs step).length≤(lB steps tries (upL x at_)).bs.length:=by unfold JG;rw[List.length_map];exact List.length_filter_le ..
  omega
 have rw3:BK steps tries x step at_=if steps.contains step=true then(jE (lB steps tries (upL x at_)).bs step,0) else([],8):=by
  have:iG steps tries x step at_=if steps.contains step=true then 0 else 8:=by unfold iG;rw[if_pos hE]
  unfold BK;rw[this];cases steps.contains step <;> simp
 have ro:ofP steps tries x board at_=if mB board=false then(fE,5) else(gB (asA (lB steps tries (upL x at_)).bs) board,if(nA (asA (lB steps tries (upL x at_)).bs) board).isSome=true then 0 else 8):=by
  unfold ofP gB;rw[if_neg (by simp [hE])]
  cases mB board
  ·rfl
  ·cases nA (asA (lB steps tries (upL x at_)).bs) board <;> rfl
 rw[rw3]at WA;rw[ro]at OF;clear rw3 ro wq rq cq eb QI B r1 r4 r5 nb ns;generalize lB steps tries (upL x at_)=F at *;have lc:(yD F.bs).length≤1000000:=by show(5:Nat)≤1000000;decide
 have hst:nA (asA F.bs) board=none→gB (asA F.bs) board=fE:=fun e=>by unfold gB;rw[e];rfl
 generalize hso:nA (asA F.bs) board=so at *;generalize gB (asA F.bs) board=s at *;have hs0:so.isSome=false→s=fE:=fun hn=>by
  cases so with
  | none=>exact hst rfl
  | some v=>cases hn
 obtain⟨o,f,nf,eo,enf,hO⟩:∃(o:Sta) (f nf:Int),(if mB board=false then(fE,(5:Int)) else(s,if so.isSome=true then 0 else 8))=(o,f)∧(if mB board=true then(0:Int) else 5)=nf∧((nf=5∧o=fE∧f=5)∨(nf=0∧o=s∧so.isSome=true∧f=0)∨(nf=0∧o=s∧so.isSome=false∧f=8)):=by
  cases hk:mB board with
  | false=>exact⟨fE,5,5,rfl,rfl,.inl ⟨rfl,rfl,rfl⟩⟩
  | true=>
   cases hso2:so.isSome with
   | true=>exact⟨s,0,0,rfl,rfl,.inr (.inl ⟨rfl,rfl,rfl,rfl⟩)⟩
   | false=>exact⟨s,8,0,rfl,rfl,.inr (.inr ⟨rfl,rfl,rfl,rfl⟩)⟩
 obtain⟨k,z,sf,ek,esf,hW⟩:∃(k:List Nm) (z sf:Int),(if steps.contains step=true then(jE F.bs step,(0:Int)) else([],8))=(k,z)∧(if steps.contains step=true then(0:Int) else 8)=sf∧((sf=0∧z=0∧k=jE F.bs step)∨(sf=8∧z=8∧k=[])):=by
  cases hk:steps.contains step with
  | false=>exact⟨[],8,8,rfl,rfl,.inr ⟨rfl,rfl,rfl⟩⟩
  | true=>exact⟨_,0,0,rfl,rfl,.inl ⟨rfl,rfl,rfl⟩⟩
 rw[eo]at OF;rw[enf]at NF E2;rw[ek]at WA;rw[esf]at SF E3;have lk:k.length≤1000000:=by
  rcases hW with⟨_,_,e⟩|⟨_,_,e⟩
  ·rw[e];exact lens3 step
  ·rw[e];simp
 clear eo enf ek esf;obtain⟨o1,o2,o3,o4,o5⟩:=o;obtain⟨s1,s2,s3,s4,s5⟩:=s;dsimp only[Sta.pv]at OF QS RF RU CO WA;simp (config:={ maxSteps:=2000000 }) only[lO,go_sem,V1,V2,V3,pr,p2,p3,p4,hm,hB,hS,splice,↓RF,RF,↓OF,OF,↓WA,WA,↓RU,RU,↓CO,CO,↓FF,FF,↓MF,MF,↓NF,NF,↓SF,SF,↓E1,E1,↓E2,E2,↓E3,E3,↓QR,QR,↓QU,QU,↓QC,QC];have fin2:∀(w:Sta) (hw:w=⟨o1,o2,o3,o4,o5⟩) (K:Ex→St→Prop),K .ret ⟨[(2,AB true)],[IA L (a2+1+1+1),.box [TA steps,AI tries],(⟨o1,o2,o3,o4,o5⟩:Sta).bx,w.bx],[]⟩→NW (cA X) X.gl qT ⟨[(4,.ref 1 0),(5,eB x),(6,AI at_),(8,AS step),(9,AL F.ref),(10,AL F.why),(11,AI 0),(12,.ref 2 0),(13,AI f),(14,TA k),(15,AI z),(16,tD (SE F)),(17,AI 0),(18,tD (yD F.bs)),(19,AI 0),(20,AI 0),(21,AI f),(22,AI sf),(23,AL F.ref),(24,AL F.why),(25,tD (SE F)),(26,tD (yD F.bs)),(27,.ref 3 0)],[IA L (a2+1+1+1),.box [TA steps,AI tries],(⟨o1,o2,o3,o4,o5⟩:Sta).bx,w.bx],[]⟩ K:=by
  intro w hw K fin;subst hw;rw[lS];simp only[Sta.bx]at fin ⊢;rcases hW with⟨rfl,rfl,rfl⟩|⟨rfl,rfl,rfl⟩
  ·simp only[TK,go_sem,↓QW,QW]
   exact dX (s:=⟨o1,o2,o3,o4,o5⟩) rfl rfl lens1.1 lens1.2 lk lens2 lc fin
  ·simp only[TK,go_sem]
   exact dX (k:=[]) (s:=⟨o1,o2,o3,o4,o5⟩) rfl rfl lens1.1 lens1.2 lk lens2 lc fin
 rw[mS];simp only[Sta.bx]at fin2;rcases hO with⟨rfl,e,rfl⟩|⟨rfl,e,es,rfl⟩|⟨rfl,e,es,rfl⟩
 ·have f2:=fin2 ⟨0,0,[],[],0⟩ e.symm
  simp only[BJ,go_sem,splice];refine f2 _ ?_;simp only[go_sem]
 ·have f2:=fin2 ⟨s1,s2,s3,s4,s5⟩ e.symm
  rw[es]at QS;simp only[BJ,go_sem,splice,↓QS,QS];refine f2 _ ?_;simp only[go_sem]
 ·have e2:=hs0 es
  rw[e2]at e;have f2:=fin2 ⟨0,0,[],[],0⟩ e.symm
  rw[es]at QS;simp only[BJ,go_sem,splice,↓QS,QS];refine f2 _ ?_;simp only[go_sem]
end Go.Am
end
section
/- From a law that is true here tov the model's calls at what came in. -/
open Go
namespace Go.Am
variable {P:Program}
theorem law_nil {X:Ctx}(HX:Fits P X){f:Nat}{F:AFun}(hF:X.fn f=some F)(H:∀ L:List Int,cA X f [qU L] [] fun v _ _=>v = .p (.bool true))(W:World)(hG:GD X.gl (imm [] [] W)) :
 Calls P f #[.slice none 0 0] W fun e W'=>e = .returned (.bool true)∧RowKit.Below W.heap.size W W':=by
 refine(z3O HX hF (H []) (W:=W) (vs:=[.slice none 0 0]) hG rfl (fun j y v hy hv=>?_)).mono fun e W' he=>?_
 ·cases j with
  | zero=>cases hy;cases hv;exact zfN W
  | succ j=>cases hy
 ·cases e with
  | returned r=>
   obtain⟨⟨v,h,x,μ,hk,hr⟩,hb⟩:=he;subst hk;exact⟨by rw[hr.p_bool],hb⟩
  | panicked _=>exact he.elim
  | outgrown=>exact he.elim
theorem law_ints {X:Ctx}(HX:Fits P X){f:Nat}{F:AFun}(hF:X.fn f=some F)(H:∀ L:List Int,cA X f [qU L] [] fun v _ _=>v = .p (.bool true)){W:World}(hG:GD X.gl (imm [] [] W)){a:Addr}{len cap:Nat}{zs:List Int}
 (hl:len≤cap) (hz:len≤zs.length) (hc:∀i,i<zs.length→W.cell? (a.add i)=some (.int .i64 (zs.getD i 0))) :
 Calls P f #[.slice (some a) len cap] W fun e W'=>e = .returned (.bool true)∧RowKit.Below W.heap.size W W':=by
 refine(z3O HX hF (H (zs.take len)) (W:=W) (vs:=[.slice (some a) len cap]) hG rfl (fun j y v hy hv=>?_)).mono fun e W' he=>?_
 ·cases j with
  | zero=>
   cases hy;cases hv
   rcases Nat.eq_zero_or_pos len with h0|h0
   ·subst h0
    exact .p _ _ (.nils _ _ _)
   ·exact zfM (by simpa [Addr.add] using World.cell?_spot (hc 0 (by omega))) hl hz hc
  | succ j=>cases hy
 ·cases e with
  | returned r=>
   obtain⟨⟨v,h,x,μ,hk,hr⟩,hb⟩:=he;subst hk;exact⟨by rw[hr.p_bool],hb⟩
  | panicked _=>exact he.elim
  | outgrown=>exact he.elim
end Go.Am
namespace Go.ChangeShapes
open Go.RowKit Go.WideShapes
section
variable {H:Type} {enc:TypeId × Value→H} {P:Program}
end
end Go.ChangeShapes
end
section
/- The abstract machine,part L2: the kit's contracts asv rows. -/
set_option linter.unusedSimpArgs false
set_option linter.unusedVariables false
namespace Go.Am
variable {P:Program} {gl:Nat→Option PV}
open Go.Shelf
theorem z8e:∀ n:Nat,Go.Lib.decDigits n=vO n:=by
 intro n;induction n using Nat.strongRecOn with
 | _ n ih=>
  rw[Go.Lib.decDigits,vO];split
  ·rfl
  ·rw[ih _ (by omega)];rfl
theorem zmU (n:Int):Go.Lib.itoa n=itoa n:=by
 unfold Go.Lib.itoa itoa;split
 ·rw[z8e]
 ·rw[z8e];congr 1;omega
theorem zqi {M:Mem}{w:World}{g:Nat}{name:String}{k:IntKind}{zs:List Int}(hn:P.globalNamed name=some g)(hg:gl g=some (.agg (zs.map (PV.int k))))(hc:∀ b o v,M.c b o=some v→w.cell? ⟨b,o,none⟩=some v)(hb:∀ b o,M.b b=some o→w.heap[b]?=some o)(hG:GD gl M) :
 Go.Lib.TabIs P w name k zs:=by
 obtain⟨hv,cs,t,x,h2,h3⟩:=hG g _ hg;have h4:=hb _ _ h2
 unfold Go.Lib.TabIs World.var?;rw[hn];simp only[Option.bind_some,h4,Option.some.injEq];simp only[PV.cells,List.length_map]at h3;apply Array.ext
 ·simpa using h3
 ·intro i hi1 hi2
  have hi:i<zs.length:=by omega
  cases hv with
  | vp _ _ _ f hm hr=>
   have hy:(PV.agg (zs.map (PV.int k))).cells[i]?=some (.int k zs[i]):=by simp [PV.cells,hi]
   have q1:=hc _ _ _ (hm i _ hy)
   have q2:=hr i _ hy
   have q3:f i = .int k zs[i]:=by
    generalize f i=u at q2;cases q2;rfl
   rw[q3]at q1;have q4:cs[i]?=some (.int k zs[i]):=by simpa [World.cell?,h4] using q1
   rw[Array.getElem?_eq_getElem hi1]at q4;simpa using q4
theorem ginv_tab {W:World}{g:Nat}{name:String}{k:IntKind}{zs:List Int}{v:PV}(hn:P.globalNamed name=some g)(ht:Go.Lib.TabIs P W name k zs)(hv:v = .agg (zs.map (PV.int k))):GD (LO [(g,v)]) (imm [] [] W):=by
 intro n v' hv';unfold LO at hv';cases hq:Nat.beq n g with
 | false=>rw[hq]at hv';cases hv'
 | true=>
  rw[hq]at hv';have e:=Nat.eq_of_beq_eq_true hq
  subst e;simp only[cond_true,Option.some.injEq]at hv';subst hv';subst hv;unfold Go.Lib.TabIs World.var? at ht;rw[hn]at ht;simp only[Option.bind_some]at ht;cases hb:W.heap[n]? with
  | none=>rw[hb]at ht;cases ht
  | some o=>
   rw[hb]at ht;cases o with
   | cells cs t x=>
    simp only[Option.some.injEq]at ht;refine⟨.vp _ n 0 (fun j=>(zs.map fun z=>Value.int k z).getD j undef) (fun j y hy=>?_) (fun j y hy=>?_),cs,t,x,z7J hb,by rw[ht];simp [PV.cells]⟩
    ·have hj:j<zs.length:=by have:=GA hy;simpa [PV.cells] using this
     refine z7K ?_;simp [World.cell?,hb,ht,hj,List.getD_eq_getElem?_getD]
    ·have hj:j<zs.length:=by have:=GA hy;simpa [PV.cells] using this
     have e1:y = .int k zs[j]:=by simpa [PV.cells,hj] using hy.symm
     have e2:(zs.map fun z=>Value.int k z).getD j undef = .int k zs[j]:=by simp [List.getD_eq_getElem?_getD,hj]
     rw[e1,e2];exact .int k _
   | _=>cases ht
theorem zlp (w:World)(k:Nat)(os:Array Go.Obj):WExt w (Go.Sort.grow (w.drewN k) os):=by
 refine⟨?_,fun b hb=>?_,rfl⟩
 ·show w.heap.size≤(w.heap++os).size
  simp
 ·show(w.heap++os)[b]?=_
  rw[Array.getElem?_append_left hb]
theorem itoaRow {ρ:Ren}(L:Go.Proofs.LaysM.n171 P ρ)(g:Nat)(hn:P.globalNamed "internal/strconv.uint64pow10" = some g)(hg:gl g=some rU)(he:∀ us w,(callFunc (ρ.f 171) us).run P w = .ok (.enter (ρ.f 171) us) w):PureRow P gl (ρ.f 171) qM where
 enter:=he
 run M w vs r us hc hb hG hl hr hs:=by
  unfold qM at hs;split at hs
  ·rename_i n
   match us,hl with
   | [u],_=>
    have q:=hr 0 _ u rfl rfl
    cases q;cases hbd:(decide (-9223372036854775808≤n)&&decide (n≤9223372036854775807)) with
    | false=>rw[hbd]at hs;cases hs
    | true=>
     rw[hbd]at hs;simp only[cond_true,Option.some.injEq]at hs;subst hs;simp only[Bool.and_eq_true,decide_eq_true_eq]at hbd;have hpw:rU = .agg (Go.Lib.pow10Tab.map (PV.int .u64)):=by unfold rU Go.Lib.pow10Tab;rw[List.map_map];rfl
     rw[hpw]at hg;refine(Go.Proofs.Any.strconv_Itoa L n hbd.1 hbd.2 w (zqi hn hg hc hb hG)).mono fun e w' h=>?_
     obtain⟨rfl,k,os,rfl⟩:=h;exact⟨_,rfl,zlp w k os,by rw[zmU];exact .p _ _ (.str _)⟩
  ·cases hs
end Go.Am
end
