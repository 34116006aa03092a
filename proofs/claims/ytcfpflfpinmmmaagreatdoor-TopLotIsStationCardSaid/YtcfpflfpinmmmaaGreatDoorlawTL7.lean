/- Texts of the proof, laid together: SpEnt2, SpEnt4, SpSortE, SpEnt5, SpIdx, SpLen, SpStrs, SpGenA, SpSome, SpGenL, SpSortRec, SpCompact, SpGenR, PMerge, SpMrgA, SpSort, SpMrgB, SpMrgC, SpMrgD, PFin, SpTxt, AmL4, AmL5, SpSplit, SpLines, SpNum, SpNums, SpQNum, SpFlt1, SpFlt2, SpWords, SpJoin, SpBld, PBits, SpFlt3, SpFlt4, SpFlt5, SpArg, SpFlt6, SpFltT, SpSortO, SpGenF, SpChg, SpEnt6, SpEach, SpFltR, SpFltR2, SpFltR3, SpGenA2, SpDelF, SpGenF2, SpInts, SpFltE, SpEnt7, SpEnt8, SpEnt9, PRecT, SpRecT, SpRecT2, SpRecT3, SpRecT4, SpRecT5, SpEnt10, SpEnt11, SpEnt12, SpEnt13, SpFlo2, SpFlo3, SpFlo4, SpFlo5, SpFlo6, SpFlo7, SpFlo8, SpFlo9. -/
import Derived.Shelf.Strings.Repeat
import Derived.Shelf.Strings.SlTrimAscii
import Derived.Shelf.Spec.TrailingZeros
import Derived.Shelf.Strings.Count
import Derived.Shelf.Strings.OnBuilder
import Derived.Test.YtcfpflfpinmmmaaGreatDoorlawTL6
set_option linter.all false
section
/- What is wrong with an entry: the program. Printed by gen_ent.py. -/
open Go
set_option linter.all false
set_option maxRecDepth 100000
namespace Go.Am
variable {h:aA} {K:jA}
set_option maxHeartbeats 4000000 in
theorem ziI (x:Ent)(hx:EntOk x):bA X EJ [.p x.pv] h K=K (AI (IB x)) h []:=by
 refine rule ?_;rw[z9s rfl];have k1:=fun h K=>fH (h:=h) (K:=K) x.site (by have:=hx.s;omega)
 have k2:=fun h K=>fH (h:=h) (K:=K) x.board (by have:=hx.b;omega)
 have k3:=fun h K=>fH (h:=h) (K:=K) x.step (by have:=hx.p;omega)
 have k4:=fun h K=>fH (h:=h) (K:=K) x.of (by have:=hx.o;omega)
 obtain⟨site,no,time,kind,board,step,of,other⟩:=x;dsimp only at k1 k2 k3 k4;unfold IB DM nN noB;dsimp only;cases h1:PA site with
 | false=>
  simp only[Ent.pv,go_sem,Ent.mk.injEq,or_false,false_or,true_or,or_true,true_and,and_true,and_self,false_and,and_false,not_true_eq_false,not_false_eq_true,Bool.not_true,Bool.not_false,BF,↓k1,k1,xC,jE,h1]
 | true=>
  cases h2:inB 1 no 1000000 with
  | false=>
   simp only[Ent.pv,go_sem,Ent.mk.injEq,or_false,false_or,true_or,or_true,true_and,and_true,and_self,false_and,and_false,not_true_eq_false,not_false_eq_true,Bool.not_true,Bool.not_false,BF,↓k1,k1,xC,jE,h1,h2]
  | true=>
   cases h3:FD time with
   | false=>
    simp only[Ent.pv,go_sem,Ent.mk.injEq,or_false,false_or,true_or,or_true,true_and,and_true,and_self,false_and,and_false,not_true_eq_false,not_false_eq_true,Bool.not_true,Bool.not_false,BF,↓k1,k1,xC,jE,h1,h2,h3]
   | true=>
    cases h4:inB 1 kind 7 with
    | false=>
     simp only[Ent.pv,go_sem,Ent.mk.injEq,or_false,false_or,true_or,or_true,true_and,and_true,and_self,false_and,and_false,not_true_eq_false,not_false_eq_true,Bool.not_true,Bool.not_false,BF,↓k1,k1,xC,jE,h1,h2,h3,h4]
    | true=>
     by_cases h7:kind=7
     ·have h72:¬kind=2:=by omega
      simp only[Ent.pv,go_sem,Ent.mk.injEq,or_false,false_or,true_or,or_true,true_and,and_true,and_self,false_and,and_false,not_true_eq_false,not_false_eq_true,Bool.not_true,Bool.not_false,BF,↓k1,k1,xC,jE,h1,h2,h3,h4,eq_true h7,h72];cases h5:PA of with
      | false=>
       simp only[Ent.pv,go_sem,Ent.mk.injEq,or_false,false_or,true_or,or_true,true_and,and_true,and_self,false_and,and_false,not_true_eq_false,not_false_eq_true,Bool.not_true,Bool.not_false,↓k4,k4,h5,eq_true h7,h72]
      | true=>
       cases h6:inB 1 other 1000000 with
       | false=>
        simp only[Ent.pv,go_sem,Ent.mk.injEq,or_false,false_or,true_or,or_true,true_and,and_true,and_self,false_and,and_false,not_true_eq_false,not_false_eq_true,Bool.not_true,Bool.not_false,↓k4,k4,xC,h5,h6,eq_true h7,h72]
       | true=>
        by_cases e1:board=[]
        ·by_cases e2:step=[]
         ·simp only[Ent.pv,go_sem,Ent.mk.injEq,or_false,false_or,true_or,or_true,true_and,and_true,and_self,false_and,and_false,not_true_eq_false,not_false_eq_true,Bool.not_true,Bool.not_false,↓k4,k4,xC,h5,h6,eq_true e1,eq_true e2,eq_true h7,h72]
         ·simp only[Ent.pv,go_sem,Ent.mk.injEq,or_false,false_or,true_or,or_true,true_and,and_true,and_self,false_and,and_false,not_true_eq_false,not_false_eq_true,Bool.not_true,Bool.not_false,↓k4,k4,xC,h5,h6,eq_true e1,e2,eq_true h7,h72]
        ·simp only[Ent.pv,go_sem,Ent.mk.injEq,or_false,false_or,true_or,or_true,true_and,and_true,and_self,false_and,and_false,not_true_eq_false,not_false_eq_true,Bool.not_true,Bool.not_false,↓k4,k4,xC,h5,h6,e1,eq_true h7,h72]
     ·by_cases h2k:kind=2
      ·simp only[Ent.pv,go_sem,Ent.mk.injEq,or_false,false_or,true_or,or_true,true_and,and_true,and_self,false_and,and_false,not_true_eq_false,not_false_eq_true,Bool.not_true,Bool.not_false,BF,↓k1,k1,xC,jE,h1,h2,h3,h4,h7,eq_true h2k]
       cases h5:PA board with
       | false=>
        simp only[Ent.pv,go_sem,Ent.mk.injEq,or_false,false_or,true_or,or_true,true_and,and_true,and_self,false_and,and_false,not_true_eq_false,not_false_eq_true,Bool.not_true,Bool.not_false,↓k2,k2,h5,h7,eq_true h2k]
       | true=>
        simp only[Ent.pv,go_sem,Ent.mk.injEq,or_false,false_or,true_or,or_true,true_and,and_true,and_self,false_and,and_false,not_true_eq_false,not_false_eq_true,Bool.not_true,Bool.not_false,↓k2,k2,h5,h7,eq_true h2k];cases h6:PA step with
        | false=>
         simp only[Ent.pv,go_sem,Ent.mk.injEq,or_false,false_or,true_or,or_true,true_and,and_true,and_self,false_and,and_false,not_true_eq_false,not_false_eq_true,Bool.not_true,Bool.not_false,↓k3,k3,h6,h7,eq_true h2k]
        | true=>
         by_cases e1:of=[]
         ·by_cases e2:other=0
          ·simp only[Ent.pv,go_sem,Ent.mk.injEq,or_false,false_or,true_or,or_true,true_and,and_true,and_self,false_and,and_false,not_true_eq_false,not_false_eq_true,Bool.not_true,Bool.not_false,↓k3,k3,h6,eq_true e1,eq_true e2,h7,eq_true h2k]
          ·simp only[Ent.pv,go_sem,Ent.mk.injEq,or_false,false_or,true_or,or_true,true_and,and_true,and_self,false_and,and_false,not_true_eq_false,not_false_eq_true,Bool.not_true,Bool.not_false,↓k3,k3,h6,eq_true e1,e2,h7,eq_true h2k]
         ·simp only[Ent.pv,go_sem,Ent.mk.injEq,or_false,false_or,true_or,or_true,true_and,and_true,and_self,false_and,and_false,not_true_eq_false,not_false_eq_true,Bool.not_true,Bool.not_false,↓k3,k3,h6,e1,h7,eq_true h2k]
      ·simp only[Ent.pv,go_sem,Ent.mk.injEq,or_false,false_or,true_or,or_true,true_and,and_true,and_self,false_and,and_false,not_true_eq_false,not_false_eq_true,Bool.not_true,Bool.not_false,BF,↓k1,k1,xC,jE,h1,h2,h3,h4,h7,h2k]
       cases h5:PA board with
       | false=>
        simp only[Ent.pv,go_sem,Ent.mk.injEq,or_false,false_or,true_or,or_true,true_and,and_true,and_self,false_and,and_false,not_true_eq_false,not_false_eq_true,Bool.not_true,Bool.not_false,↓k2,k2,h5,h7,h2k]
       | true=>
        by_cases e0:step=[]
        ·by_cases e1:of=[]
         ·by_cases e2:other=0
          ·simp only[Ent.pv,go_sem,Ent.mk.injEq,or_false,false_or,true_or,or_true,true_and,and_true,and_self,false_and,and_false,not_true_eq_false,not_false_eq_true,Bool.not_true,Bool.not_false,↓k2,k2,h5,eq_true e0,eq_true e1,eq_true e2,h7,h2k]
          ·simp only[Ent.pv,go_sem,Ent.mk.injEq,or_false,false_or,true_or,or_true,true_and,and_true,and_self,false_and,and_false,not_true_eq_false,not_false_eq_true,Bool.not_true,Bool.not_false,↓k2,k2,h5,eq_true e0,eq_true e1,e2,h7,h2k]
         ·simp only[Ent.pv,go_sem,Ent.mk.injEq,or_false,false_or,true_or,or_true,true_and,and_true,and_self,false_and,and_false,not_true_eq_false,not_false_eq_true,Bool.not_true,Bool.not_false,↓k2,k2,h5,eq_true e0,e1,h7,h2k]
        ·simp only[Ent.pv,go_sem,Ent.mk.injEq,or_false,false_or,true_or,or_true,true_and,and_true,and_self,false_and,and_false,not_true_eq_false,not_false_eq_true,Bool.not_true,Bool.not_false,↓k2,k2,h5,e0,h7,h2k]
end Go.Am
end
section
/- Lists of entries: what is wrong with them,the program. -/
open Go
set_option linter.all false
set_option maxRecDepth 100000
namespace Go.Am
variable {h:aA} {K:jA}
def qD (s:List UInt8 × Int):PV:=.agg [.str s.1,.int .i64 s.2]
def rB (b:Bool):AV:=.p (.bool b)
theorem YP:zI qD:=fun a b=>by
 obtain⟨a1,a2⟩:=a;obtain⟨b1,b2⟩:=b;have e:decide ((a1,a2)=(b1,b2))=(decide (a1=b1)&&(decide (a2=b2)&&true)):=by rw[Bool.eq_iff_iff];simp
 rw[e];rfl
theorem ZP {s:List UInt8 × Int}:aC (some 2,[2,0]) (.p (qD s))=some (qD s):=by simp [qD,aC,PV.key,PV.shp,PV.sc,PV.cells,PV.kind]
def JE (l:List Ent):List ((List UInt8×Int)×Bool):=l.map fun x=>((x.site,x.no),true)
theorem XW (x:Ent):∀l:List Ent,EA (x.site,x.no) (JE l)=if l.any (fun o=>WD o x) then some true else none
 | []=>rfl
 | y::l=>by
  have ih:=XW x l
  unfold JE at ih ⊢;rw[List.map_cons];unfold EA;rw[ih,List.any_cons];have e:((x.site,x.no)=(y.site,y.no))↔WD y x=true:=by
   unfold WD;simp only[Prod.mk.injEq,Bool.and_eq_true,decide_eq_true_eq];exact⟨fun h=>⟨h.1.symm,h.2.symm⟩,fun h=>⟨h.1.symm,h.2.symm⟩⟩
  by_cases hc:WD y x=true
  ·rw[if_pos (e.2 hc),hc];rfl
  ·have hf:WD y x=false:=by simpa using hc
   rw[if_neg (fun z=>hc (e.1 z)),hf,Bool.false_or]
theorem zkz (l:List Ent)(x:Ent)(h:l.any (fun o=>WD o x)=false):dC (x.site,x.no) true (JE l)=JE (l++[x]):=by
 have:MB (x.site,x.no) (JE l)=none:=by
  have e:=z6e (k:=(x.site,x.no)) (l:=JE l)
  rw[XW,h]at e;simpa using e
 rw[mN this];unfold JE;simp
attribute [-go_sem] QA UA
theorem zjj (l:List Ent)(hn:l.length≤1000000):bA X JJ [mC l] h K=K (AB (pF [] l)) h []:=by
 refine rule ?_;first|rw[z1k rfl]|rw[z1k]
 simp only[BP,go_sem];refine SA (fun k:Nat=>⟨[(3,.mp h.length),(8,mC l),(9,AI l.length),(10,AI k)],h++[FA qD rB (JE (l.take k))],[]⟩) (fun k=>k≤l.length∧pF (l.take k) (l.drop k)=pF [] l) (fun k=>l.length-k) 0 rfl ⟨by omega,rfl⟩ ?_
 rintro k ⟨hkl,hp⟩
 rcases Nat.lt_or_ge k l.length with hlt|hge
 ·have hg:=dB Ent.pv hlt
  have w2:IntKind.i64.wrap ((k:Int)+1)=((k+1:Nat):Int):=yA _ (by omega) (by omega)
  have cx:=yL (x:=l[k])
  rw[List.drop_eq_getElem_cons hlt,pF,←List.take_succ_eq_append_getElem hlt]at hp;have ek:l.take (k+1)=l.take k++[l[k]]:=List.take_succ_eq_append_getElem hlt
  generalize hx:l[k]=x at *;generalize l.take k=S at *;have lk:=fun(hp:aA) (e:hp[h.length]?=some (FA qD rB (JE S)))=>tG (kk:=(some 2,[2,0])) (k:=(x.site,x.no)) YP e ZP (ok:=false) (z:=rB false)
  have up:=fun(hp:aA) (e:hp[h.length]?=some (FA qD rB (JE S)))=>OJ (kk:=(some 2,[2,0])) (k:=(x.site,x.no)) YP e ZP (v:=true) rfl
  have l1:=fun t=>lk (h++FA qD rB (JE S)::t) (by simp)
  have u1:=fun t=>up (h++FA qD rB (JE S)::t) (by simp)
  rw[XW]at l1;simp only[rB,qD,cond_false,mB,AV.top]at l1 u1;cases hc:S.any (fun o=>WD o x) with
  | true=>
   rw[hc,if_pos rfl]at hp;rw[hc]at l1;simp only[if_true,Option.map_some,Option.getD_some,rB]at l1;simp only[go_sem,hlt,hg,cx,Ent.pv,splice,l1];rw[←hp]
  | false=>
   rw[hc,if_neg (by simp)]at hp
   rw[hc]at l1;have us:=zkz S x hc
   simp only[Bool.false_eq_true,if_false,Option.map_none,Option.getD_none]at l1;have nl0:¬h.length<0:=by omega
   simp only[nl0,if_false]at u1;rw[us]at u1;simp only[go_sem,hlt,hg,cx,Ent.pv,splice,l1,u1,w2];refine⟨k+1,?_,⟨by omega,?_⟩,by omega⟩
   ·rw[ek]
   ·rw[ek];rw[←ek];exact hp
 ·have ek:k=l.length:=by omega
  subst ek;rw[List.drop_length]at hp;simp only[go_sem,Nat.lt_irrefl];rw[←hp];rfl
theorem zd6 {p:Option Ent}{x:Ent}{r:List Ent}:ZC p (x::r)=if IB x≠0 then IB x else if(match p with|some q=>decide (AD x q≤0)|none=>false)=true then 7 else ZC (some x) r:=rfl
theorem zi1 (r:List Ent)(hr:∀ x∈r,EntOk x)(hn:r.length≤1000000):bA X yJ [mC r] h K=K (AI (eF r)) h []:=by
 refine rule ?_;rw[z9m rfl];have tw:=fun h K=>zjj (h:=h) (K:=K) r hn
 unfold eF;by_cases h1:(2000:Int)<r.length
 ·simp only[uL,go_sem,h1]
 simp only[uL,go_sem,h1];refine SA (fun k:Nat=>⟨[(0,mC r),(9,mC r),(10,AI r.length),(11,AI k)],h,[]⟩) (fun k=>k≤r.length∧ZC (r.take k).getLast? (r.drop k)=ZC none r) (fun k=>r.length-k) 0 rfl ⟨by omega,rfl⟩ ?_
 rintro k ⟨hkl,hp⟩
 rcases Nat.lt_or_ge k r.length with hlt|hge
 ·have hg:=dB Ent.pv hlt
  have w2:IntKind.i64.wrap ((k:Int)+1)=((k+1:Nat):Int):=yA _ (by omega) (by omega)
  have hx:=hr _ (List.getElem_mem hlt)
  have hlast:(r.take (k+1)).getLast?=some r[k]:=by rw[List.take_succ_eq_append_getElem hlt];exact List.getLast?_concat
  rw[List.drop_eq_getElem_cons hlt,zd6]at hp;have cx:=yL (x:=r[k])
  have rf:=fun h K=>ziI (h:=h) (K:=K) r[k] hx
  simp only[Ent.pv]at rf;by_cases h2:IB r[k]=0
  ·rw[if_neg (by simp [h2])]at hp
   cases k with
   | zero=>
    simp only[List.take_zero,List.getLast?_nil,reduceCtorEq,if_false]at hp;have hlt0:(0:Int)<r.length:=by omega
    simp only[go_sem,hlt0,hg,cx,Ent.pv,rf,h2,Int.lt_irrefl,splice,show IntKind.i64.wrap 1=1 from rfl]
    exact⟨0+1,rfl,⟨by omega,by rw[hlast];exact hp⟩,by omega⟩
   | succ j=>
    have hj:j<r.length:=by omega
    have hgj:=dB Ent.pv hj
    have cj:=yL (x:=r[j])
    have hlj:(r.take (j+1)).getLast?=some r[j]:=by rw[List.take_succ_eq_append_getElem hj];exact List.getLast?_concat
    have w3:IntKind.i64.wrap (((j+1:Nat):Int)-1)=(j:Int):=by rw[yA _ (by omega) (by omega)];omega
    have p1:(0:Int)<((j+1:Nat):Int):=by omega
    have bt:=fun h K=>ziE (h:=h) (K:=K) r[j+1] r[j]
    simp only[Ent.pv]at bt;rw[hlj]at hp;by_cases h3:AD r[j+1] r[j]≤0
    ·simp only[h3,decide_true,if_true]at hp
     simp only[go_sem,hlt,hj,hg,hgj,cx,cj,Ent.pv,rf,h2,p1,w3,bt,h3,splice];rw[←hp];rfl
    ·simp only[h3,decide_false,reduceCtorEq,if_false]at hp
     simp only[go_sem,hlt,hj,hg,hgj,cx,cj,Ent.pv,rf,h2,p1,w3,bt,h3,w2,splice];exact⟨j+1+1,rfl,⟨by omega,by rw[hlast];exact hp⟩,by omega⟩
  ·rw[if_pos h2]at hp
   simp only[go_sem,hlt,hg,cx,Ent.pv,rf,h2,splice];rw[←hp,if_pos h2]
 ·have ek:k=r.length:=by omega
  subst ek;rw[List.drop_length]at hp;have hz:ZC none r=0:=by rw[←hp];cases (r.take r.length).getLast? <;> rfl
  rw[if_neg (by simp [hz])]
  cases ht:pF [] r with
  | true=>
   rw[ht]at tw;simp only[go_sem,Nat.lt_irrefl,tw];first|done|rfl
  | false=>
   rw[ht]at tw;simp only[go_sem,Nat.lt_irrefl,tw];first|done|rfl
end Go.Am
end
section
/- Lists of entries: sorted,looked through: printed by program. -/
open Go
set_option linter.unusedSimpArgs false
namespace Go.Am
attribute [-go_sem] PV.cells splice
variable {h:aA} {K:jA}
end Go.Am
end
section
/- Lists of entries: what is wrong with them,the reference. -/
open Go
set_option linter.all false
set_option maxRecDepth 100000
namespace Go.Am
variable {h:aA} {K:jA}
attribute [-go_sem] tB
end Go.Am
end
section
/- Where a byte stands in a text. -/
open Go
set_option linter.all false
namespace Go.Am
variable {h:aA} {K:jA}
end Go.Am
end
section
/- Lengths of numbers in bits,and comparisons of plain values. -/
open Go
namespace Go.Am
variable {h:aA} {K:jA}
set_option maxRecDepth 20000
theorem zjU (k:Nat)(hk:k<256):∃b,([0,1,2,2,3,3,3,3,4,4,4,4,4,4,4,4,5,5,5,5,5,5,5,5,5,5,5,5,5,5,5,5,6,6,6,6,6,6,6,6,6,6,6,6,6,6,6,6,6,6,6,6,6,6,6,6,6,6,6,6,6,6,6,6,7,7,7,7,7,7,7,7,7,7,7,7,7,7,7,7,7,7,7,7,7,7,7,7,7,7,7,7,7,7,7,7,7,7,7,7,7,7,7,7,7,7,7,7,7,7,7,7,7,7,7,7,7,7,7,7,7,7,7,7,7,7,7,7,8,8,8,8,8,8,8,8,8,8,8,8,8,8,8,8,8,8,8,8,8,8,8,8,8,8,8,8,8,8,8,8,8,8,8,8,8,8,8,8,8,8,8,8,8,8,8,8,8,8,8,8,8,8,8,8,8,8,8,8,8,8,8,8,8,8,8,8,8,8,8,8,8,8,8,8,8,8,8,8,8,8,8,8,8,8,8,8,8,8,8,8,8,8,8,8,8,8,8,8,8,8,8,8,8,8,8,8,8,8,8,8,8,8,8,8,8,8,8,8,8,8,8,8,8,8,8,8]:List UInt8)[k]?=some b:=⟨_,List.getElem?_eq_getElem (Nat.lt_of_lt_of_eq hk (by kernel_rfl))⟩
theorem zfF (x:Int)(h0:0≤x)(h1:x<256):∃m:Int,∀(h:aA) (K:jA),bA X QL [AU x] h K=K (AI m) h []:=by
 obtain⟨b,hb⟩:=zjU x.toNat (by omega)
 refine⟨IntKind.i64.wrap (0+IntKind.i64.wrap b.toNat),fun h K=>?_⟩
 have w:IntKind.u8.wrap x=x:=by simp [IntKind.wrap,IntKind.bits,IntKind.signed];omega
 have b1:¬(4294967296≤x):=by omega
 have b2:¬(65536≤x):=by omega
 have b3:¬(256≤x):=by omega
 have hn:=iQ (k:=.u8) h0
 have key:∀(h:aA) (K:jA),bA X RL [AU x] h K=K (AI (IntKind.i64.wrap (0+IntKind.i64.wrap b.toNat))) h []:=by
  intro h K;refine rule ?_;rw[z89 rfl];simp only[NO,go_sem,b1,b2,b3,w,hn,hb]
 refine rule ?_;rw[z88 rfl];simp only[MO,go_sem,key]
end Go.Am
end
section
/- Lists of strings sorted,left out: printed by program. -/
open Go
set_option linter.unusedSimpArgs false
namespace Go.Am
attribute [-go_sem] PV.cells splice
variable {h:aA} {K:jA}
end Go.Am
end
section
/- What is drawn: numbers,measured values. -/
open Go
namespace Go.Am
variable {L:List Int} {a:Int}
theorem z3C (hp:NA 14 a)(u v:Int)(huv:u≤v)(hu : -1000000000000≤u)(hv:v≤1000000000000):∃k a2:Int,a≤a2∧a2≤a+2 ∧ -1099511627776≤k∧k≤1099511627776 ∧
 Gen NH [AI u,AI v] L a a2 (AI k):=by
 have w1:IntKind.i64.wrap (u-1)=u-1:=yA _ (by omega) (by omega)
 have w2:IntKind.i64.wrap (v+1)=v+1:=yA _ (by omega) (by omega)
 by_cases hf:oB L a 12=0
 ·have hm:=tZ (L:=L) (a:=a+1) (l:=[u-1,v+1,u,v,-1099511627776,1099511627776]) (by simp) (by simp)
  simp only[List.mem_cons,List.not_mem_nil,or_false]at hm;refine⟨SB [u-1,v+1,u,v,-1099511627776,1099511627776] L (a+1),a+1+1,by omega,by omega,by omega,by omega,Gen.of fun h id hid=>?_⟩
  rw[z1j rfl];simp only[qL,go_sem,hid,pI hp,hf,w1,w2]
 ·have hm:=MR L (a+1) huv (by omega)
  refine⟨lF u v L (a+1),a+1+1,by omega,by omega,by omega,by omega,Gen.of fun h id hid=>?_⟩
  rw[z1j rfl];simp only[qL,go_sem,hid,pI hp,hf,w1,w2,huv,show -1152921504606846976≤u by omega,show v≤1152921504606846976 by omega]
end Go.Am
end
section
/- Strings that are drawn. -/
open Go
set_option linter.unusedSimpArgs false
namespace Go.Am
variable {L:List Int} {a:Int} {h l:aA} {id:Nat} {K:jA}
def isS:PV→Bool
 | .str _=>true
 | _=>false
def unS:PV→List UInt8
 | .str s=>s
 | _=>[]
def VD (l:List (List UInt8))(L:List Int)(a:Int):List UInt8:=l.getD (oB L a l.length).toNat []
theorem VM {l:List (List UInt8)}{L:List Int}{a:Int}(hl:0<l.length)(hl2:l.length<4611686018427387904):VD l L a∈l:=by
 obtain⟨b1,b2⟩:=iI L a l.length (by omega) (by omega)
 unfold VD;have:(oB L a l.length).toNat<l.length:=by omega
 simp only[List.getD,List.getElem?_eq_getElem this,Option.getD_some];exact List.getElem_mem _
theorem zkq {xs:List PV}(h:xs.all isS=true):xs=(xs.map unS).map PV.str:=by
 induction xs with
 | nil=>rfl
 | cons x r ih=>
  simp only[List.all_cons,Bool.and_eq_true]at h;simp only[List.map_cons];rw[←ih h.2];cases x <;> first|rfl|cases h.1
theorem zev (hp:NA 0 a)(xs:List PV)(hx:xs.all isS=true)(hl:0<xs.length)(hl2:xs.length<4611686018427387904) :
 Gen RD [.p (.sl none xs)] L a (a+1) (AS (VD (xs.map unS) L a)):=by
 refine Gen.of fun h id hid=>?_
 rw[z8L rfl];obtain⟨b1,b2⟩:=iI L a xs.length (by omega) (by omega)
 have e4:=iQ (k:=.i64) b1
 have e5:xs[(oB L a xs.length).toNat]?=some (.str (VD (xs.map unS) L a)):=by
  have hm:=zkq hx
  generalize hq:xs.map unS=q at *;subst hm;simp only[List.length_map]at *;rw[dB PV.str (show(oB L a q.length).toNat<q.length by omega)]
  simp [VD,List.getD,show(oB L a q.length).toNat<q.length by omega]
 simp only[XO,go_sem,OK hid hp,e4,e5]
theorem z5r (hid:id<h.length)(hp:NA 0 a){xs:List PV}(hx:xs.all isS=true)(hl:0<xs.length)(hl2:xs.length<4611686018427387904) :
 bA X RD [.ref id 0,.p (.sl none xs)] (h.set id (xA L a)++l) K=K (AS (VD (xs.map unS) L a)) (h.set id (xA L (a+1))++l) []:=(zev hp xs hx hl hl2).app hid
attribute [go_sem ↓] z5r
attribute [go_sem] z5r isS unS
end Go.Am
end
section
/- What is drawn: strings,limits. -/
open Go
set_option linter.unusedSimpArgs false
namespace Go.Am
variable {L:List Int} {a:Int} {h l:aA} {id:Nat} {K:jA}
structure LimBd (x:Lim):Prop where
 k:x.key.length≤1000
 lo : -200000≤x.lo∧x.lo≤200000
 hi : -200000≤x.hi∧x.hi≤200000
theorem zer (hp:NA 60 a):iD SL [] L a (fun v a2=>a≤a2∧a2≤a+12∧∃l:List Lim,1≤l.length∧l.length≤3∧(∀x∈l,LimBd x)∧v=LA l):=by
 refine iD.of fun h id hid=>?_
 rw[z8C rfl];have P:=pI (iE hp (Int.le_refl a) (by omega))
 obtain⟨n1,n2⟩:=MR (u:=1) (v:=3) L (a+1) (by omega) (by omega)
 obtain⟨n,hn⟩:=Int.eq_ofNat_of_zero_le (show 0≤lF 1 3 L (a+1) by omega)
 have hn3:n≤3:=by omega
 have l1:LimBd ⟨[118,111,108,116],0,10,5⟩:=⟨by simp,by simp,by simp⟩
 have l2:LimBd ⟨[97,109,112],-5,5,SB [5,6,2] L a⟩:=⟨by simp,by simp,by simp⟩
 have l3:LimBd ⟨[104,122],3,8,9⟩:=⟨by simp,by simp,by simp⟩
 have hb:h.length≤h.length:=Nat.le_refl _
 by_cases hf:oB L (a+1+1) 15=0
 ·obtain⟨m1,m2⟩:=iI L (a+1+1+1) n (by omega) (by omega)
  obtain⟨m,hm⟩:=Int.eq_ofNat_of_zero_le m1;have hmn:m<n:=by omega
  have hm3:m<3:=by omega
  obtain⟨kv,a3,c1,c2,_,_,O⟩:=z3C (L:=L) (a:=a+1+1+1+1+1+1+1) (iE hp (by omega) (by omega)) 2 100 (by omega) (by omega) (by omega)
  have O':=fun l K=>O.app (h:=h) (id:=id) (l:=l) (K:=K) hid
  have p1:=VM (l:=[[118,111,108,116],[],[122]]) (L:=L) (a:=a+1+1+1+1) (by simp) (by simp)
  have p2:=tZ (l:=[0,-100000,-100001,20]) (L:=L) (a:=a+1+1+1+1+1) (by simp) (by simp)
  have p3:=tZ (l:=[10,100000,100001]) (L:=L) (a:=a+1+1+1+1+1+1) (by simp) (by simp)
  simp only[List.mem_cons,List.not_mem_nil,or_false]at p1 p2 p3;have l4:LimBd ⟨VD [[118,111,108,116],[],[122]] L (a+1+1+1+1),SB [0,-100000,-100001,20] L (a+1+1+1+1+1),SB [10,100000,100001] L (a+1+1+1+1+1+1),kv⟩:=
   ⟨by rcases p1 with p1|p1|p1 <;> simp [p1],by dsimp only;omega,by dsimp only;omega⟩
  have hw:∃y,[PV.agg [.str [118,111,108,116],eI 0,eI 10,eI 5],.agg [.str [97,109,112],eI (-5),eI 5,eI (SB [5,6,2] L a)],.agg [.str [104,122],eI 3,eI 8,eI 9]][m]?=some (.agg y)∧y.length=4:=by
   rcases m with _|_|_|m
   ·exact⟨_,rfl,rfl⟩
   ·exact⟨_,rfl,rfl⟩
   ·exact⟨_,rfl,rfl⟩
   ·omega
  obtain⟨y,hy,hyl⟩:=hw;simp only[oL,go_sem,hid,P,hn,hn3,hf,hm,hmn,hm3,↓O',O',hy,hyl];have ed:List.drop 4 y=[]:=List.drop_of_length_le (by omega)
  refine⟨a3,⟨by omega,by omega,win ([⟨[118,111,108,116],0,10,5⟩,⟨[97,109,112],-5,5,SB [5,6,2] L a⟩,⟨[104,122],3,8,9⟩].set m ⟨VD [[118,111,108,116],[],[122]] L (a+1+1+1+1),SB [0,-100000,-100001,20] L (a+1+1+1+1+1),SB [10,100000,100001] L (a+1+1+1+1+1+1),kv⟩) 0 n,by simp [win];omega,by simp [win];omega,fun x hx=>?_,?_⟩,rfl⟩
  ·have hx2:=List.mem_of_mem_drop (List.mem_of_mem_take hx)
   rcases List.mem_or_eq_of_mem_set hx2 with hx3|rfl
   ·simp only[List.mem_cons,List.not_mem_nil,or_false]at hx3
    rcases hx3 with rfl|rfl|rfl
    ·exact l1
    ·exact l2
    ·exact l3
   ·exact l4
  ·rw[ed]
   show _=AV.p (.sl (some 4) ((win _ 0 n).map Lim.pv))
   rw[←z0f,List.map_set];rfl
 ·simp only[oL,go_sem,hid,P,hn,hn3,hf]
  refine⟨a+1+1+1,⟨by omega,by omega,win [⟨[118,111,108,116],0,10,5⟩,⟨[97,109,112],-5,5,SB [5,6,2] L a⟩,⟨[104,122],3,8,9⟩] 0 n,by simp [win];omega,by simp [win];omega,fun x hx=>?_,?_⟩,rfl⟩
  ·have hx3:=List.mem_of_mem_drop (List.mem_of_mem_take hx)
   simp only[List.mem_cons,List.not_mem_nil,or_false]at hx3;rcases hx3 with rfl|rfl|rfl
   ·exact l1
   ·exact l2
   ·exact l3
  ·show _=AV.p (.sl (some 4) ((win _ 0 n).map Lim.pv))
   rw[←z0f];rfl
end Go.Am
end
section
/- Sorting records: printed by program. -/
open Go
set_option linter.unusedSimpArgs false
namespace Go.Am
attribute [-go_sem] PV.cells splice
variable {h:aA} {K:jA}
theorem z3I (id n:Nat)(l tl:List PV)(hn:n=l.length+tl.length)(hs:kE (some 4) l)(hl:l.length≤1000)(hh:h[id]?=some (.row (some 4) (l++tl) 0)){g:Nat}{caps:List AV}{c:PV→PV→Int}(hc:Cmps g caps c l id h) :
 bA X SH [.own id n 0 l.length,AI 0,AI l.length,.fn g caps] h K=K (.tup []) (h.set id (.row (some 4) (ZB (ltC c) l++tl) 0)) []:=by
 refine rule ?_;rw[z9j];have hid:=rG hh
 have hst:∀o,(h.set id o)[id]?=some o:=fun o=>vI hid
 simp only[rP,go_sem,show IntKind.i64.wrap 1=1 from rfl]
 refine SA (fun i:Nat=>⟨[(0,.own id n 0 l.length),(1,AI 0),(2,AI l.length),(3,.fn g caps),(8,AI i)],h.set id (.row (some 4) ((iF (ltC c) (l.take i)).reverse++(l.drop i++tl)) 0),[]⟩) (fun i=>1≤i∧(i≤l.length∨i=1)) (fun i=>l.length-i) 1 ?_ (by simp) ?_
 ·have:(iF (ltC c) (l.take 1)).reverse++(l.drop 1++tl)=l++tl:=by cases l <;> rfl
  rw[this,SK hh];rfl
 rintro i ⟨hi1,hi2⟩
 rcases Nat.lt_or_ge i l.length with hlt|hge
 ·simp only[go_sem,hlt]
  have hxl:l[i]∈l:=List.getElem_mem hlt
  generalize hx:l[i]=x at *;generalize hR:iF (ltC c) (l.take i)=R;have hRl:R.length=i:=by rw[←hR,zeU];simp;omega
  have hRm:∀z∈R,z∈l:=fun z hz=>List.mem_of_mem_take ((cX (ltC c) (l.take i)).mem_iff.1 (by rw[hR];exact hz))
  have hdrop:l.drop i=x::l.drop (i+1):=by rw[←hx];exact List.drop_eq_getElem_cons hlt
  have hnext:iF (ltC c) (l.take (i+1))=YB (ltC c) x R:=by rw[zeV _ _ _ hlt,hR,hx]
  refine SA (fun t:List PV×List PV=>⟨[(0,.own id n 0 l.length),(1,AI 0),(2,AI l.length),(3,.fn g caps),(8,AI i),(9,AI t.1.length)],h.set id (.row (some 4) (t.1.reverse++x::t.2) 0),[]⟩)
   (fun t=>∃B,R=B++t.1∧t.2=B.reverse++(l.drop (i+1)++tl)∧∀b∈B,ltC c x b=true) (fun t=>t.1.length) (R,l.drop (i+1)++tl) (by rw[hdrop,hRl];rfl) ⟨[],rfl,rfl,by simp⟩ ?_
  rintro⟨A,C⟩ ⟨B,q1,q2,q3⟩
  dsimp only at q1 q2 q3;have hlen:(A.reverse++x::C).length=n:=by
   have:R.length=B.length+A.length:=by rw[q1];simp
   rw[q2];simp;omega
  have hBA:B.length+A.length<l.length:=by
   have:R.length=B.length+A.length:=by rw[q1];simp
   omega
  have hln:l.length≤n:=by omega
  have w1:IntKind.i64.wrap ((i:Int)+1)=((i+1:Nat):Int):=yA _ (by omega) (by omega)
  cases A with
  | nil=>
   have hd:YB (ltC c) x R=B++[x]:=by rw[q1];exact z3L (ltC c) x [] B q3 (fun y r h=>by cases h)
   simp only[go_sem,Int.lt_irrefl,w1];refine⟨i+1,?_,by omega,by omega⟩
   simp only[hnext,hd,q2,List.reverse_append,List.reverse_nil,List.nil_append,List.reverse_cons,List.append_assoc,List.cons_append]
  | cons y A=>
   have hyl:y∈l:=hRm y (by rw[q1];simp)
   have g1:=zeL (y::A) C x
   have g2:=zeM A C x y
   have sw:=zeN A C x y
   simp only[List.length_cons]at hBA;generalize hrow:(y::A).reverse++x::C=row at *;simp only[List.length_cons]at g1;have w2:IntKind.i64.wrap (((A.length+1:Nat):Int)-1)=(A.length:Int):=by rw[yA _ (by omega) (by omega)];omega
   have p1:(0:Int)<((A.length+1:Nat):Int):=by omega
   have b1:A.length+1<l.length:=by omega
   have b2:A.length<l.length:=by omega
   have cx:=iH (hs x hxl)
   have cy:=iH (hs y hyl)
   have hcc:=fun o K=>hc o x hxl y hyl K
   by_cases hxy:c x y<0
   ·have g3:(row.set (A.length+1) y)[A.length]?=some y:=by rw[List.getElem?_set_ne (by omega),g2]
    have lx:=TZ (hs x hxl)
    have ly:=TZ (hs y hyl)
    have sx:=SZ (hs x hxl)
    have sy:=SZ (hs y hyl)
    simp only[gA]at lx ly;have t1:=fun i xs h1=>gS (hs x hxl) (hs y hyl) id i 0 xs h1
    have t2:=fun i xs h1=>gS (hs y hyl) (hs x hxl) id i 0 xs h1
    simp only[go_sem,hst,p1,hlen,g1,g2,g3,w2,b1,b2,hln,cx,cy,hcc,hxy,lx,ly,sx,sy,t1,t2,sw];refine⟨(A,y::C),rfl,⟨B++[y],by simp [q1],by simp [q2],fun b hb=>?_⟩,by simp⟩
    rw[List.mem_append,List.mem_singleton]at hb;rcases hb with hb|rfl
    ·exact q3 b hb
    ·simpa [ltC] using hxy
   ·have hd:YB (ltC c) x R=B++x::y::A:=by rw[q1];exact z3L (ltC c) x (y::A) B q3 (fun z r h=>by cases h;simpa [ltC] using hxy)
    simp only[go_sem,hst,p1,hlen,g1,g2,w2,b1,b2,hln,cx,cy,hcc,hxy,w1];refine⟨i+1,?_,by omega,by omega⟩
    simp only[hnext,hd,←hrow,q2,List.reverse_append,List.reverse_cons,List.append_assoc,List.cons_append,List.nil_append]
 ·have hge':¬i<l.length:=by omega
  have e1:l.take i=l:=List.take_of_length_le hge
  have e2:l.drop i=[]:=List.drop_of_length_le hge
  simp only[go_sem,hge',e1,e2];rfl
theorem zjB (id:Nat)(l:List PV)(hs:kE (some 4) l)(hl:l.length≤19)(hh:h[id]?=some (.row (some 4) l 0)){g:Nat}{caps:List AV}{c:PV→PV→Int}(hc:Cmps g caps c l id h) :
 bA X xJ [.own id l.length 0 l.length,.fn g caps] h K=K (.tup []) (h.set id (.row (some 4) (ZB (ltC c) l) 0)) []:=by
 refine rule ?_;rw[z9i];have key:∀K:jA,bA X eM [.own id l.length 0 l.length,AI l.length,.fn g caps] h K=K (.tup []) (h.set id (.row (some 4) (ZB (ltC c) l) 0)) []:=by
  intro K;refine rule ?_;rw[z9l];have is:=fun K=>z3I (h:=h) (K:=K) id l.length l [] rfl hs (by omega) (by rw[List.append_nil];exact hh) hc
  simp only[List.append_nil]at is;have b1:¬((20:Int)≤(l.length:Int)):=by omega
  have b2:¬((20:Int)<(l.length:Int)):=by omega
  simp only[tP,go_sem];refine SA (fun _:Unit=>⟨[(0,.own id l.length 0 l.length),(1,AI l.length),(2,.fn g caps),(6,AI 20),(7,AI 0),(8,AI 20)],h,[]⟩) (fun _=>True) (fun _=>0) () rfl trivial ?_
  intro _ _;simp only[go_sem,b1,is];refine SA (fun _:Unit=>⟨[(0,.own id l.length 0 l.length),(1,AI l.length),(2,.fn g caps),(6,AI 20)],h.set id (.row (some 4) (ZB (ltC c) l) 0),[]⟩) (fun _=>True) (fun _=>0) () rfl trivial ?_
  intro _ _;simp only[go_sem,b2]
 simp only[qP,go_sem,key]
end Go.Am
end
section
/- Leaving out what is alike: printed by program. -/
open Go
set_option linter.unusedSimpArgs false
namespace Go.Am
attribute [-go_sem] PV.cells splice
variable {h:aA} {K:jA}
theorem z6x (id:Nat)(l:List PV)(hs:kE (some 4) l)(hl:l.length≤100000)(hh:h[id]?=some (.row (some 4) l 0)){g:Nat}{caps:List AV}{q:PV→PV→Bool}(hq:z6w g caps q l id h) :
 bA X uJ [.own id l.length 0 l.length,.fn g caps] h K=K (.own id l.length 0 (yB q l).length) (h.set id (.row (some 4) (yB q l++List.replicate (l.length-(yB q l).length) (PV.agg [.str [],.int .i64 0,.str [],.sl none []])) 0)) []:=by
 refine rule ?_;rw[z9b];have hid:=rG hh
 have hst:∀o,(h.set id o)[id]?=some o:=fun o=>vI hid
 have hb:¬h.length≤id:=by omega
 have hb2:max h.length (id+1)=h.length:=by omega
 have hb3:id+1≤h.length:=hid
 have hq0:∀x∈l,∀y∈l,∀K:jA,bA X g (.p x :: .p y::caps) h K=K (AB (q x y)) h []:=fun x hx y hy K=>by have:=hq (.row (some 4) l 0) x hx y hy K;rwa [SK hh]at this
 by_cases h2:l.length<2
 ·have h2':(l.length:Int)<2:=by omega
  have e:yB q l=l:=by
   cases l with
   | nil=>rfl
   | cons x r=>
    have:r=[]:=List.length_eq_zero_iff.1 (by simp only[List.length_cons]at h2;omega)
    subst this;rfl
  simp only[tL,go_sem,h2',e,Nat.sub_self,List.replicate_zero,List.append_nil,hb,hb2,hb3];rw[SK hh]
 have h2':¬(l.length:Int)<2:=by omega
 simp only[tL,go_sem,h2'];refine SA (fun k:Nat=>⟨[(0,.own id l.length 0 l.length),(1,.fn g caps),(5,AI ((k+1:Nat):Int))],h,[]⟩) (fun k=>k+1≤l.length∧yB q (l.take (k+1))=l.take (k+1)) (fun k=>l.length-(k+1)) 0 rfl ⟨by omega,?_⟩ ?_
 ·cases l with
  | nil=>rfl
  | cons x r=>rfl
 rintro k ⟨hk,hc⟩
 rcases Nat.lt_or_ge (k+1) l.length with hlt|hge
 ·have hk0:k<l.length:=by omega
  have g1:l[k+1]?=some l[k+1]:=List.getElem?_eq_getElem hlt
  have g2:l[k]?=some l[k]:=List.getElem?_eq_getElem hk0
  have c1:=iH (wI hs hlt)
  have c2:=iH (wI hs hk0)
  have w1:IntKind.i64.wrap (((k+1:Nat):Int)-1)=(k:Int):=by rw[yA _ (by omega) (by omega)];omega
  have w2:IntKind.i64.wrap (((k+1:Nat):Int)+1)=((k+1+1:Nat):Int):=yA _ (by omega) (by omega)
  have hqk:=fun K=>hq0 _ (List.getElem_mem hlt) _ (List.getElem_mem hk0) K
  have hcs:=z1C q l k hlt
  cases hqx:q l[k+1] l[k]with
  | false=>
   rw[hqx]at hcs;simp only[go_sem,hh,hlt,hk0,g1,g2,c1,c2,w1,w2,hqk,hqx];exact⟨k+1,rfl,⟨by omega,by rw[hcs,hc,cond_false,List.take_succ_eq_append_getElem hlt]⟩,by omega⟩
  | true=>
   rw[hqx,cond_true,List.append_nil,hc]at hcs;have hle:k+1≤l.length:=by omega
   simp only[go_sem,hh,hlt,hk0,hle,g1,g2,c1,c2,w1,hqk,hqx];have e0:k+1+(l.length-(k+1))=l.length:=by omega
   refine SA (fun t:List PV×Nat×Nat=>⟨[(0,.own id l.length 0 l.length),(1,.fn g caps),(5,AI ((t.2.1:Nat):Int)),(6,.own id l.length (k+1) (l.length-(k+1))),(7,AI ((t.2.2+1:Nat):Int))],h.set id (.row (some 4) t.1 0),[]⟩)
    (fun t=>t.1.length=l.length∧kE (some 4) t.1∧t.2.1≤k+1+t.2.2∧k+1+t.2.2<l.length∧t.1.take t.2.1=yB q (l.take (k+1+t.2.2+1))∧t.1.drop (k+1+t.2.2)=l.drop (k+1+t.2.2)) (fun t=>l.length-t.2.2)
    (l,k+1,0) (by rw[SK hh];rfl) ⟨rfl,hs,by simp,by simpa using hlt,by simpa using hcs.symm,rfl⟩ ?_
   rintro⟨row,i,j⟩ ⟨r1,r2,r3,r4,r5,r6⟩
   dsimp only at r1 r2 r3 r4 r5 r6;rcases Nat.lt_or_ge (k+1+j+1) l.length with hlt2|hge2
   ·have a1:row[k+1+j+1]?=some l[k+1+j+1]:=by
     have:=congrArg (·[1]?) r6
     simp only[List.getElem?_drop]at this;rw[this,List.getElem?_eq_getElem hlt2]
    have a2:row[k+1+j]?=some l[k+1+j]:=by
     have:=congrArg (·[0]?) r6
     simp only[List.getElem?_drop,Nat.add_zero]at this;rw[this,List.getElem?_eq_getElem r4]
    have s1:=wI hs hlt2
    have d1:=iH s1
    have d2:=iH (wI hs r4)
    have hil:i<l.length:=by omega
    have hir:i<row.length:=by omega
    have g3:row[i]?=some row[i]:=List.getElem?_eq_getElem hir
    have t1:=fun xs h1=>gS s1 (wI r2 hir) id i 0 xs h1
    have lx:=TZ s1
    have sx:=SZ s1
    simp only[gA]at lx;have v1:IntKind.i64.wrap (((j+1:Nat):Int)-1)=(j:Int):=by rw[yA _ (by omega) (by omega)];omega
    have v2:IntKind.i64.wrap (((j+1:Nat):Int)+1)=((j+1+1:Nat):Int):=yA _ (by omega) (by omega)
    have v3:IntKind.i64.wrap ((i:Int)+1)=((i+1:Nat):Int):=yA _ (by omega) (by omega)
    have p1:j+1<l.length-(k+1):=by omega
    have p2:j<l.length-(k+1):=by omega
    have p3:k+1+(j+1)=k+1+j+1:=by omega
    have p4:k+1+(l.length-(k+1))≤l.length:=by omega
    have hqj:=fun o K=>hq o _ (List.getElem_mem hlt2) _ (List.getElem_mem r4) K
    have hcs2:=z1C q l (k+1+j) hlt2
    cases hqy:q l[k+1+j+1] l[k+1+j]with
    | true=>
     rw[hqy,cond_true,List.append_nil]at hcs2;simp only[go_sem,hst,r1,p1,p2,p3,p4,e0,a1,a2,d1,d2,v1,v2,hqj,hqy];refine⟨(row,i,j+1),rfl,⟨r1,r2,by dsimp only;omega,by dsimp only;omega,?_,?_⟩,by dsimp only;omega⟩
     ·dsimp only;rw[r5,←hcs2];rfl
     ·dsimp only;rw[show k+1+(j+1)=k+1+j+1 from rfl,←List.drop_drop,r6,List.drop_drop]
    | false=>
     rw[hqy,cond_false]at hcs2;simp only[go_sem,hst,r1,p1,p2,p3,p4,e0,a1,a2,g3,d1,d2,v1,v2,v3,hil,hqj,hqy,lx,sx,t1];refine⟨(row.set i l[k+1+j+1],i+1,j+1),rfl,⟨by simpa using r1,fun x hx=>?_,by dsimp only;omega,by dsimp only;omega,?_,?_⟩,by dsimp only;omega⟩
     ·rcases List.mem_or_eq_of_mem_set hx with hx|rfl
      ·exact r2 x hx
      ·exact s1
     ·dsimp only
      rw[show k+1+(j+1)+1=k+1+j+1+1 from rfl,hcs2,←r5,List.take_succ_eq_append_getElem (by simp;omega)]
      simp [List.take_set_of_le]
     ·dsimp only
      rw[List.drop_set_of_lt (by omega),show k+1+(j+1)=k+1+j+1 from rfl,←List.drop_drop,r6,List.drop_drop]
   ·have ej:k+1+j+1=l.length:=by omega
    rw[ej,List.take_length]at r5;have hil:i≤l.length:=by omega
    have hm:(yB q l).length=i:=by rw[←r5];simp;omega
    have p1:¬(j+1<l.length-(k+1)):=by omega
    have sp:splice row i (List.replicate (l.length-i) (PV.agg [.str [],.int .i64 0,.str [],.sl none []]))=yB q l++List.replicate (l.length-i) (PV.agg [.str [],.int .i64 0,.str [],.sl none []]):=by
     unfold splice;rw[r5,List.length_replicate,List.drop_of_length_le (by omega),List.append_nil]
    have rl:(yB q l++List.replicate (l.length-i) (PV.agg [.str [],.int .i64 0,.str [],.sl none []])).length=l.length:=by simp only[List.length_append,hm,List.length_replicate];omega
    rw[hm];generalize yB q l++List.replicate (l.length-i) (PV.agg [.str [],.int .i64 0,.str [],.sl none []])=row' at *;simp only[go_sem,hst,r1,rl,hil,p1,sp,show i+(l.length-i)=l.length by omega,hb,hb2,hb3]
 ·have ek:k+1=l.length:=by omega
  rw[ek,List.take_length]at hc;have hge':¬k+1<l.length:=by omega
  simp only[go_sem,hge',hc,Nat.sub_self,List.replicate_zero,List.append_nil,hb,hb2,hb3];rw[SK hh]
end Go.Am
end
section
/- What is drawn: records. -/
open Go
set_option linter.unusedSimpArgs false
namespace Go.Am
variable {L:List Int} {a:Int} {h l:aA} {id:Nat} {K:jA}
theorem z14 {b:Nat}{x:Esc}(hx:∀ y∈x,b≤y.1):∀k,sB k x b=b:=by
 have hb:XE x b=b:=by
  unfold XE;induction x with
  | nil=>rfl
  | cons y r ih=>
   simp only[List.foldl_cons];rw[if_neg (by have:=hx y (by simp);omega)]
   exact ih (fun z hz=>hx z (by simp [hz]))
 intro k;induction k with
 | zero=>rfl
 | succ k ih=>unfold sB;rw[hb,ih]
theorem zkm {b:Nat}{x0 x:Esc}{e:List (Nat × AV)}{h:aA}(hx:∀ y∈x,b≤y.1):eD b x0 ⟨e,h,x⟩=⟨dE b e,h.take b,x0⟩:=by
 unfold eD;simp only[z14 hx];have hc:aB x b=true:=by
  unfold aB;rw[List.all_eq_true];intro y hy;simp [hx y hy]
 have hf:x.filter (fun y=>decide (y.1<b))=[]:=by
  rw[List.filter_eq_nil_iff];intro y hy;have:=hx y hy;simp;omega
 rw[if_pos hc,hf,List.nil_append]
theorem ZZ {b i t:Nat}{x0:Esc}{e:List (Nat × AV)}{h:aA}(hi:i<b):eD b x0 ⟨e,h,[(i,t)]⟩=⟨dE (max b t) e,h.take (max b t),(i,t)::x0⟩:=by
 unfold eD;have hb:sB [(i,t)].length [(i,t)] b=max b t:=by simp [sB,XE,hi]
 simp only[hb];have hc:aB [(i,t)] (max b t)=true:=by simp [aB];omega
 have hf:[(i,t)].filter (fun y=>decide (y.1<max b t))=[(i,t)]:=by simp;omega
 rw[if_pos hc,hf];rfl
theorem frz3 {o0 o1 o2:Obj}{sh:Sh}{xs:List PV}{fz k:Nat}:frz [o0,o1,o2,.row sh xs fz] 3 k=[o0,o1,o2,.row sh xs (max fz k)]:=rfl
set_option maxHeartbeats 2000000 in
theorem zia (hid:id<h.length)(hp:NA 30 a)(rs:List Rec)(hrs:rs.length≤1000)(u s:List UInt8)(hu:u.length≤1000)(hs:s.length≤1000)(t:Int)(ns:List Int)(hns:ns.length≤100)(G:Obj)(v1 v8 v13 v14:AV)(x:Esc)(hx:∀ y∈x,h.length+1≤y.1)(K:Ex→St→Prop)
 (hK:∀(r':Rec) (a':Int) (J:aA) (x':Esc),RecOk r'→a≤a'→a'≤a+8→(∀y∈x',h.length+1≤y.1) →
  K .normal ⟨[(0,.ref id 0),(1,v1),(7,.own h.length (rs.length+1) 0 (rs.length+1)),(8,v8),(13,v13),(14,v14)],h.set id (xA L a') ++ .row (some 4) (rs.map Rec.pv++[r'.pv]) 0::J,x'⟩) :
 AF (bA X) X.gl PM (.ref id 0) v1 (.own h.length rs.length 0 rs.length) v8 (.ref (h.length+1) 0) v13 v14
  (h.set id (xA L a)++[.row (some 4) (rs.map Rec.pv) 0,.box [AS u,AI t,AS s,.own (h.length+3) ns.length 0 ns.length],G,.row none (ns.map eI) 0]) x K:=by
 have P:=pI (iE hp (Int.le_refl a) (by omega))
 have hmx:rs.length+1≤JA:=by unfold JA;omega
 have hmn:ns.length+1≤JA:=by unfold JA;omega
 have e1:h.length+1<h.length+3+1:=by omega
 by_cases hf:oB L a 60=0
 ·by_cases h0:oB L (a+1) 3=0
  ·obtain⟨kv,a3,c1,c2,_,_,O⟩:=z3C (L:=L) (a:=a+1+1+1+1) (iE hp (by omega) (by omega)) 0 50 (by omega) (by omega) (by omega)
   have O':=fun l K=>O.app (h:=h) (id:=id) (l:=l) (K:=K) hid
   have p1:=VM (l:=[[],[117,49]]) (L:=L) (a:=a+1+1) (by simp) (by simp)
   have p2:=VM (l:=[[65],[115,49]]) (L:=L) (a:=a+1+1+1) (by simp) (by simp)
   simp only[List.mem_cons,List.not_mem_nil,or_false]at p1 p2;simp only[AF,go_sem,hid,P,hf,h0,↓O',O',hmx,frz3];rw[rF (by simp)]
   exact hK ⟨VD [[],[117,49]] L (a+1+1),kv,VD [[65],[115,49]] L (a+1+1+1),ns⟩ a3 _ _ ⟨by rcases p1 with p1|p1 <;> simp [p1],by rcases p2 with p2|p2 <;> simp [p2],by dsimp only;omega⟩ (by omega) (by omega) hx
  ·by_cases h1:oB L (a+1) 3=1
   ·simp only[AF,go_sem,hid,P,hf,h0,h1,hmx,hmn,mB,e1,frz3]
    rw[rF (by simp)]
    have e:List.map eI ns++[PV.int .i64 (SB [0,100001,-100001] L (a+1+1))]=(ns++[SB [0,100001,-100001] L (a+1+1)]).map eI:=by simp
    rw[e];refine hK ⟨u,t,s,ns++[SB [0,100001,-100001] L (a+1+1)]⟩ (a+1+1+1) _ _ ⟨hu,hs,by simp;omega⟩ (by omega) (by omega) (fun y hy=>?_)
    rcases List.mem_cons.1 hy with rfl|hy
    ·exact Nat.le_refl _
    ·exact hx y hy
   ·obtain⟨m1,m2⟩:=iI L (a+1+1) (ns.length+1) (by omega) (by omega)
    obtain⟨m,hm⟩:=Int.eq_ofNat_of_zero_le m1;have w1:IntKind.i64.wrap ((ns.length:Int)+1)=(ns.length:Int)+1:=yA _ (by omega) (by omega)
    have hml:m≤ns.length:=by omega
    simp only[AF,go_sem,hid,P,hf,h0,h1,w1,hm,hml,hmx,mB,e1,frz3];rw[z0f];refine hK ⟨u,t,s,win ns 0 m⟩ (a+1+1+1) _ _ ⟨hu,hs,by simp [win];omega⟩ (by omega) (by omega) (fun y hy=>?_)
    rcases List.mem_cons.1 hy with rfl|hy
    ·exact Nat.le_refl _
    ·exact hx y hy
 ·simp only[AF,go_sem,hid,P,hf,hmx,frz3]
  rw[rF (by simp)]
  exact hK ⟨u,t,s,ns⟩ (a+1) _ _ ⟨hu,hs,by dsimp only;omega⟩ (by omega) (by omega) hx
attribute [-go_sem] AF
def SC:PV→Rec
 | .agg [.str u,.int _ t,.str s,.sl _ xs]=>⟨u,t,s,xs.map unI⟩
 | _=>⟨[],0,[],[]⟩
theorem xI (r:Rec):SC r.pv=r:=by
 cases r with|mk u t s ns=>
 have:(ns.map eI).map unI=ns:=by
  rw[List.map_map];have:(unI ∘ eI)=id:=by funext n;rfl
  rw[this,List.map_id]
 simp only[Rec.pv,SC,this]
theorem BZ {P:Rec→Prop}:∀{xs:List PV},(∀x∈xs,∃r,P r∧x=Rec.pv r)→∃rs:List Rec,(∀r∈rs,P r)∧xs=rs.map Rec.pv
 | [],_=>⟨[],by simp,rfl⟩
 | x::xs,h=>by
  obtain⟨r,h1,h2⟩:=h x (by simp)
  obtain⟨rs,h3,h4⟩:=BZ (xs:=xs) (fun y hy=>h y (List.mem_cons_of_mem _ hy))
  refine⟨r::rs,fun z hz=>?_,by rw[h2,h4];rfl⟩
  rcases List.mem_cons.1 hz with rfl|hz
  ·exact h1
  ·exact h3 z hz
theorem ziT (a b:Rec):bA X OH [.p a.pv,.p b.pv] h K=K (AI (wC a b)) h []:=by
 refine rule ?_;rw[z8H rfl];have o:=fun h K=>KZ (h:=h) (K:=K) [WA a.time b.time,zA a.unit b.unit] (by simp)
 simp only[AL,List.map_cons,List.map_nil]at o;have e:orL [WA a.time b.time,zA a.unit b.unit]=wC a b:=by
  unfold wC orL;split
  ·rfl
  ·unfold orL
   split
   ·rfl
   ·rename_i h;simp only[ne_eq,Decidable.not_not]at h;rw[h];rfl
 rw[e]at o;simp only[TO,Rec.pv,go_sem,JZ,aN,o]
def cN (a b:Rec):Bool:=decide (a.time=b.time)&&decide (a.unit=b.unit)
theorem ziU (a b:Rec):bA X PH [.p a.pv,.p b.pv] h K=K (AB (cN a b)) h []:=by
 refine rule ?_;rw[z8I rfl];unfold cN;by_cases h1:a.time=b.time
 ·simp only[rL,Rec.pv,go_sem,h1]
 ·simp only[rL,Rec.pv,go_sem,h1]
set_option maxHeartbeats 4000000 in
theorem zes (hp:NA 4000 a)(l:List Lim)(hl1:1≤l.length)(hl2:l.length≤3)(n:Nat)(hn:n≤19) :
 iD TL [LA l,AI n] L a (fun v a2=>a≤a2∧a2≤a+2000∧∃rs:List Rec,rs.length≤n∧(∀r∈rs,RecOk r)∧v=eC rs):=by
 refine iD.of fun h id hid=>?_
 rw[z8G rfl];simp only[SO,go_sem,hid];refine SA (fun t:List Rec×Int×Int=>⟨[(0,.ref id 0),(1,LA l),(7,.own h.length t.1.length 0 t.1.length),(8,AI t.2.1),(13,AI n),(14,AI t.1.length)],h.set id (xA L t.2.2)++[.row (some 4) (t.1.map Rec.pv) 0],[]⟩)
  (fun t=>t.1.length≤n∧(∀r∈t.1,RecOk r)∧a≤t.2.2∧t.2.2≤a+40*t.1.length) (fun t=>n-t.1.length) ([],0,a) rfl ⟨by simp,by simp,by simp,by simp⟩ ?_
 rintro⟨rs,t,b⟩ ⟨q1,q2,q3,q4⟩
 dsimp only at q1 q2 q3 q4;rcases Nat.lt_or_ge rs.length n with hlt|hge
 ·have P:=pI (iE hp q3 (show b+14≤a+4000 by omega))
  have w1:IntKind.i64.wrap ((rs.length:Int)+1)=((rs.length+1:Nat):Int):=yA _ (by omega) (by omega)
  have p1:=VM (l:=[[117,49],[117,50],[117,51],[117,52]]) (L:=L) (a:=b+1) (by simp) (by simp)
  have p2:=VM (l:=[[115,49],[115,49],[115,50]]) (L:=L) (a:=b+1+1) (by simp) (by simp)
  have pu:(VD [[117,49],[117,50],[117,51],[117,52]] L (b+1)).length≤1000:=by
   simp only[List.mem_cons,List.not_mem_nil,or_false]at p1;rcases p1 with p1|p1|p1|p1 <;> simp [p1]
  have ps:(VD [[115,49],[115,49],[115,50]] L (b+1+1)).length≤1000:=by
   simp only[List.mem_cons,List.not_mem_nil,or_false]at p2;rcases p2 with p2|p2|p2 <;> simp [p2]
  simp only[go_sem,hid,P,hlt];generalize VD [[117,49],[117,50],[117,51],[117,52]] L (b+1)=u at *;generalize VD [[115,49],[115,49],[115,50]] L (b+1+1)=s at *;generalize IntKind.i64.wrap (t+SB [1,1,5,0] L b)=t' at *;have hb3:b+1+1+1+14≤a+4000:=by omega
  have fin:∀(c:Int) (ns:List Int) (G:Obj) (x:Esc),ns.length≤100→b+3≤c→c≤b+3+9→(∀y∈x,h.length+1≤y.1) →
   AF (bA X) X.gl PM (.ref id 0) (LA l) (.own h.length rs.length 0 rs.length) (AI t') (.ref (h.length+1) 0) (AI n) (AI rs.length)
    (h.set id (xA L c)++[.row (some 4) (rs.map Rec.pv) 0,.box [AS u,AI t',AS s,.own (h.length+3) ns.length 0 ns.length],G,.row none (ns.map eI) 0]) x
    (sC 1 (ID (bA X) X.gl MQ (PZ (h.length+1) [] (yM
     (fun t:List Rec×Int×Int=>⟨[(0,.ref id 0),(1,LA l),(7,.own h.length t.1.length 0 t.1.length),(8,AI t.2.1),(13,AI n),(14,AI t.1.length)],h.set id (xA L t.2.2)++[.row (some 4) (t.1.map Rec.pv) 0],[]⟩)
     (fun t=>t.1.length≤n∧(∀r∈t.1,RecOk r)∧a≤t.2.2∧t.2.2≤a+40*t.1.length) (fun t=>n-t.1.length)
     (sC 0 (ID (bA X) X.gl QM (mA [.t 6] false h.length (fun v1 h1 x1=>∃a2,(a≤a2∧a2≤a+2000∧∃rs:List Rec,rs.length≤n∧(∀r∈rs,RecOk r)∧v1=eC rs)∧h1=h.set id (xA L a2)∧x1=[])))) (rs,t,b))))):=by
   intro c ns G x h1 h2 h3 h4;refine zia hid (iE hp (by omega) (by omega)) rs (by omega) u s pu ps t' ns h1 G (LA l) (AI t') (AI n) (AI rs.length) x h4 _ (fun r' a' J x' r1 r2 r3 r4=>?_)
   have f1:id+1≤h.length+1:=by omega
   simp only[go_sem,w1,zkm r4,f1];refine⟨(rs++[r'],t',a'),?_,⟨by simp;omega,fun r hr=>?_,by dsimp only;omega,by simp;omega⟩,by simp;omega⟩
   ·simp only[List.length_append,List.length_cons,List.length_nil,List.map_append,List.map_cons,List.map_nil]
   ·rcases List.mem_append.1 hr with hr|hr
    ·exact q2 r hr
    ·rw[List.mem_singleton]at hr;rw[hr];exact r1
  generalize hc0:b+1+1+1=c0 at *;refine SA (fun o:Option (List Int×Int×Obj×Esc)=>match o with
   | none=>⟨[(0,.ref id 0),(1,LA l),(7,.own h.length rs.length 0 rs.length),(8,AI t'),(9,.ref (h.length+1) 0),(13,AI n),(14,AI rs.length),(29,LA l),(30,AI l.length),(31,AI 0)],h.set id (xA L c0)++[.row (some 4) (rs.map Rec.pv) 0,.box [AS u,AI t',AS s,.sl0 none]],[]⟩
   | some (ns,c,G,x)=>⟨[(0,.ref id 0),(1,LA l),(7,.own h.length rs.length 0 rs.length),(8,AI t'),(9,.ref (h.length+1) 0),(13,AI n),(14,AI rs.length),(29,LA l),(30,AI l.length),(31,AI ns.length)],h.set id (xA L c)++[.row (some 4) (rs.map Rec.pv) 0,.box [AS u,AI t',AS s,.own (h.length+3) ns.length 0 ns.length],G,.row none (ns.map eI) 0],x⟩)
   (fun o=>match o with
    | none=>True
    | some (ns,c,G,x)=>1≤ns.length∧ns.length≤l.length∧c0≤c∧c≤c0+3*ns.length∧∀y∈x,h.length+1≤y.1)
   (fun o=>match o with
    | none=>l.length+1
    | some (ns,c,G,x)=>l.length-ns.length) none rfl trivial ?_
  rintro (_|⟨ns,c,G,x⟩) hP
  ·have P:=pI (iE hp (show a≤c0 by omega) (show c0+14≤a+4000 by omega))
   have hl0:(0:Int)<l.length:=by omega
   have hg:=dB Lim.pv (show 0<l.length by omega)
   have cx:BA (some 4) 0 (l[0].pv)=some l[0].pv:=rfl
   generalize l[0]=y at *;have e2:h.length+1<h.length+2:=by omega
   have e3:max (h.length+2) (h.length+3+1)=h.length+4:=by omega
   have eo:mB (h.length+1) (.own (h.length+3) 1 0 1)=[(h.length+1,h.length+3+1)]:=by unfold mB;rw[if_pos (by simp [AV.top]),lS]
   have e4:id+1≤h.length+4:=by omega
   have e5:h.length+1≤h.length+4:=by omega
   have e6:h.length+1+1≤h.length+4:=by omega
   have hmx:1≤JA:=by unfold JA;omega
   have hnb:Nat.beq 2 3=false:=rfl
   have wk:IntKind.i64.wrap 1=1:=rfl
   have tr:∀(x0:Esc) (e:List (Nat×AV)) (H:aA),eD (h.length+2) x0 ⟨e,H,[(h.length+1,h.length+3+1)]⟩=⟨dE (h.length+4) e,H.take (h.length+4),(h.length+1,h.length+3+1)::x0⟩:=fun x0 e H=>by rw[ZZ e2,e3]
   by_cases hf:oB L (c0+1) 5=0
   ·obtain⟨v,hv⟩:∃v,SB [IntKind.i64.wrap (y.lo-1),IntKind.i64.wrap (y.hi+1),IntKind.i64.wrap (y.hi+7)] L (c0+1+1)=v:=⟨_,rfl⟩
    by_cases b1:v<y.lo
    ·simp only[go_sem,hid,P,hl0,hg,cx,Lim.pv,hf,eo,hv,b1,hmx,hnb,tr,e4,e5,e6]
     refine fin (c0+1+1+1) [v] _ _ (by simp) (by omega) (by omega) (by simp)
    ·by_cases b2:y.hi<v
     ·simp only[go_sem,hid,P,hl0,hg,cx,Lim.pv,hf,eo,hv,b1,b2,hmx,hnb,tr,e4,e5,e6]
      refine fin (c0+1+1+1) [v] _ _ (by simp) (by omega) (by omega) (by simp)
     ·simp only[go_sem,hid,P,hl0,hg,cx,Lim.pv,hf,eo,hv,b1,b2,hmx,hnb,tr,e4,e5,e6,wk]
      exact⟨some ([v],c0+1+1+1,_,_),rfl,⟨by simp,by simpa using hl1,by omega,by simp;omega,by simp⟩,by show l.length-[v].length<l.length+1;simp only[List.length_cons,List.length_nil];omega⟩
   ·obtain⟨v,hv⟩:∃v,SB [y.lo,y.hi,IntKind.i64.wrap ((IntKind.i64.wrap (y.lo+y.hi)).tdiv 2),IntKind.i64.wrap ((IntKind.i64.wrap (y.lo+y.hi)).tdiv 2),IntKind.i64.wrap (y.lo+1)] L c0=v:=⟨_,rfl⟩
    by_cases b1:v<y.lo
    ·simp only[go_sem,hid,P,hl0,hg,cx,Lim.pv,hf,eo,hv,b1,hmx,hnb,tr,e4,e5,e6]
     refine fin (c0+1+1) [v] _ _ (by simp) (by omega) (by omega) (by simp)
    ·by_cases b2:y.hi<v
     ·simp only[go_sem,hid,P,hl0,hg,cx,Lim.pv,hf,eo,hv,b1,b2,hmx,hnb,tr,e4,e5,e6]
      refine fin (c0+1+1) [v] _ _ (by simp) (by omega) (by omega) (by simp)
     ·simp only[go_sem,hid,P,hl0,hg,cx,Lim.pv,hf,eo,hv,b1,b2,hmx,hnb,tr,e4,e5,e6,wk]
      exact⟨some ([v],c0+1+1,_,_),rfl,⟨by simp,by simpa using hl1,by omega,by simp;omega,by simp⟩,by show l.length-[v].length<l.length+1;simp only[List.length_cons,List.length_nil];omega⟩
  ·obtain⟨r1,r2,r3,r4,r5⟩:=hP
   rcases Nat.lt_or_ge ns.length l.length with hlt2|hge2
   ·have P:=pI (iE hp (show a≤c by omega) (show c+14≤a+4000 by omega))
    have hg:=dB Lim.pv hlt2
    have cx:BA (some 4) 0 (l[ns.length].pv)=some l[ns.length].pv:=rfl
    generalize l[ns.length]=y at *;have e2:h.length+1<h.length+4:=by omega
    have e3:max (h.length+4) (h.length+3+1)=h.length+4:=by omega
    have eo:mB (h.length+1) (.own (h.length+3) (ns.length+1) 0 (ns.length+1))=[(h.length+1,h.length+3+1)]:=by unfold mB;rw[if_pos (by simp [AV.top]),lS]
    have e4:id+1≤h.length+4:=by omega
    have e5:h.length+1≤h.length+4:=by omega
    have e6:h.length+1+1≤h.length+4:=by omega
    have e7:h.length+3+1≤h.length+4:=by omega
    have e8:h.length+4≤h.length+4:=by omega
    have hmx:ns.length+1≤JA:=by unfold JA;omega
    have hnb:Nat.beq 2 3=false:=rfl
    have wi:IntKind.i64.wrap ((ns.length:Int)+1)=((ns.length+1:Nat):Int):=yA _ (by omega) (by omega)
    have tr:∀(x0:Esc) (e:List (Nat×AV)) (H:aA),eD (h.length+4) x0 ⟨e,H,[(h.length+1,h.length+3+1)]⟩=⟨dE (h.length+4) e,H.take (h.length+4),(h.length+1,h.length+3+1)::x0⟩:=fun x0 e H=>by rw[ZZ e2,e3]
    by_cases hf:oB L (c+1) 5=0
    ·obtain⟨v,hv⟩:∃v,SB [IntKind.i64.wrap (y.lo-1),IntKind.i64.wrap (y.hi+1),IntKind.i64.wrap (y.hi+7)] L (c+1+1)=v:=⟨_,rfl⟩
     have ev:ns.map eI++[PV.int .i64 v]=(ns++[v]).map eI:=by simp
     have el:(ns++[v]).length=ns.length+1:=by simp
     have hx2:∀z∈(h.length+1,h.length+3+1)::x,h.length+1≤z.1:=fun z hz=>by
      rcases List.mem_cons.1 hz with rfl|hz
      ·exact Nat.le_refl _
      ·exact r5 z hz
     by_cases b1:v<y.lo
     ·simp only[go_sem,hid,P,hlt2,hg,cx,Lim.pv,hf,eo,hv,b1,hmx,hnb,tr,e4,e5,e6,e7,e8]
      rw[ev,←el];exact fin (c+1+1+1) (ns++[v]) _ _ (by omega) (by omega) (by omega) hx2
     ·by_cases b2:y.hi<v
      ·simp only[go_sem,hid,P,hlt2,hg,cx,Lim.pv,hf,eo,hv,b1,b2,hmx,hnb,tr,e4,e5,e6,e7,e8]
       rw[ev,←el];exact fin (c+1+1+1) (ns++[v]) _ _ (by omega) (by omega) (by omega) hx2
      ·simp only[go_sem,hid,P,hlt2,hg,cx,Lim.pv,hf,eo,hv,b1,b2,hmx,hnb,tr,e4,e5,e6,e7,e8,wi]
       rw[ev];refine⟨some (ns++[v],c+1+1+1,G,(h.length+1,h.length+3+1)::x),?_,⟨by omega,by omega,by omega,by rw[el];omega,hx2⟩,by show l.length-(ns++[v]).length<l.length-ns.length;omega⟩
       simp only[el]
    ·obtain⟨v,hv⟩:∃v,SB [y.lo,y.hi,IntKind.i64.wrap ((IntKind.i64.wrap (y.lo+y.hi)).tdiv 2),IntKind.i64.wrap ((IntKind.i64.wrap (y.lo+y.hi)).tdiv 2),IntKind.i64.wrap (y.lo+1)] L c=v:=⟨_,rfl⟩
     have ev:ns.map eI++[PV.int .i64 v]=(ns++[v]).map eI:=by simp
     have el:(ns++[v]).length=ns.length+1:=by simp
     have hx2:∀z∈(h.length+1,h.length+3+1)::x,h.length+1≤z.1:=fun z hz=>by
      rcases List.mem_cons.1 hz with rfl|hz
      ·exact Nat.le_refl _
      ·exact r5 z hz
     by_cases b1:v<y.lo
     ·simp only[go_sem,hid,P,hlt2,hg,cx,Lim.pv,hf,eo,hv,b1,hmx,hnb,tr,e4,e5,e6,e7,e8]
      rw[ev,←el];exact fin (c+1+1) (ns++[v]) _ _ (by omega) (by omega) (by omega) hx2
     ·by_cases b2:y.hi<v
      ·simp only[go_sem,hid,P,hlt2,hg,cx,Lim.pv,hf,eo,hv,b1,b2,hmx,hnb,tr,e4,e5,e6,e7,e8]
       rw[ev,←el];exact fin (c+1+1) (ns++[v]) _ _ (by omega) (by omega) (by omega) hx2
      ·simp only[go_sem,hid,P,hlt2,hg,cx,Lim.pv,hf,eo,hv,b1,b2,hmx,hnb,tr,e4,e5,e6,e7,e8,wi]
       rw[ev];refine⟨some (ns++[v],c+1+1,G,(h.length+1,h.length+3+1)::x),?_,⟨by omega,by omega,by omega,by rw[el];omega,hx2⟩,by show l.length-(ns++[v]).length<l.length-ns.length;omega⟩
       simp only[el]
   ·have hb2:¬(ns.length<l.length):=by omega
    have e4:id+1≤h.length+4:=by omega
    have e5:h.length+1≤h.length+4:=by omega
    have e6:h.length+1+1≤h.length+4:=by omega
    simp only[go_sem,hb2,e4,e5,e6];exact fin c ns G x (by omega) (by omega) (by omega) r5
 ·have en:rs.length=n:=by omega
  have hb2:¬(rs.length<n):=by omega
  have hh:(h.set id (xA L b)++[Obj.row (some 4) (rs.map Rec.pv) 0])[h.length]?=some (.row (some 4) (rs.map Rec.pv) 0):=by rw[List.getElem?_append_right (by simp)];simp
  have st:=fun K=>zjB (h:=h.set id (xA L b)++[Obj.row (some 4) (rs.map Rec.pv) 0]) (K:=K) h.length (rs.map Rec.pv) zZ (by simp;omega) hh (g:=OH) (caps:=[]) (c:=fun x y=>wC (SC x) (SC y))
   (fun o x hx y hy K=>by
    obtain⟨p,_,rfl⟩:=List.mem_map.1 hx;obtain⟨q,_,rfl⟩:=List.mem_map.1 hy;dsimp only;rw[xI,xI];exact ziT p q)
  have so:=XP (ltC fun x y=>wC (SC x) (SC y)) (rs.map Rec.pv)
  have hsm:∀x∈ZB (ltC fun x y=>wC (SC x) (SC y)) (rs.map Rec.pv),∃r,RecOk r∧x=Rec.pv r:=fun x hx=>by
   obtain⟨r,hr,rfl⟩:=List.mem_map.1 (dI.1 hx);exact⟨r,q2 r hr,rfl⟩
  obtain⟨ss,s1,s2⟩:=BZ hsm;have hsl:ss.length=rs.length:=by have:=congrArg List.length s2;simp [dX]at this;omega
  simp only[List.length_map,s2]at st;have hh2:(h.set id (xA L b)++[Obj.row (some 4) (ss.map Rec.pv) 0])[h.length]?=some (.row (some 4) (ss.map Rec.pv) 0):=by rw[List.getElem?_append_right (by simp)];simp
  have cp:=fun K=>z6x (h:=h.set id (xA L b)++[Obj.row (some 4) (ss.map Rec.pv) 0]) (K:=K) h.length (ss.map Rec.pv) zZ (by simp;omega) hh2 (g:=PH) (caps:=[]) (q:=fun x y=>cN (SC x) (SC y))
   (fun o x hx y hy K=>by
    obtain⟨p,_,rfl⟩:=List.mem_map.1 hx;obtain⟨q,_,rfl⟩:=List.mem_map.1 hy;dsimp only;rw[xI,xI];exact ziU p q)
  have hcm:∀x∈yB (fun x y=>cN (SC x) (SC y)) (ss.map Rec.pv),∃r,RecOk r∧x=Rec.pv r:=fun x hx=>by
   obtain⟨r,hr,rfl⟩:=List.mem_map.1 (z1B hx);exact⟨r,s1 r hr,rfl⟩
  obtain⟨cs,c1,c2⟩:=BZ hcm;have hcl:cs.length≤ss.length:=by
   have h1:=congrArg List.length c2
   have h2:=z9S (fun x y=>cN (SC x) (SC y)) (ss.map Rec.pv)
   simp at h1 h2;omega
  simp only[List.length_map,c2,hsl]at cp;have e0:∀o,(h.set id (xA L b)++[Obj.row (some 4) (rs.map Rec.pv) 0]).set h.length o=h.set id (xA L b)++[o]:=fun o=>by rw[List.set_append_right _ _ (by simp)];simp
  have e1:∀o,(h.set id (xA L b)++[Obj.row (some 4) (ss.map Rec.pv) 0]).set h.length o=h.set id (xA L b)++[o]:=fun o=>by rw[List.set_append_right _ _ (by simp)];simp
  simp only[e0]at st;simp only[e1]at cp;have rl:(cs.map Rec.pv++List.replicate (rs.length-cs.length) (PV.agg [.str [],.int .i64 0,.str [],.sl none []])).length=rs.length:=by simp;omega
  have hw:win (cs.map Rec.pv++List.replicate (rs.length-cs.length) (PV.agg [.str [],.int .i64 0,.str [],.sl none []])) 0 cs.length=cs.map Rec.pv:=by simp [win]
  have hcr:cs.length≤rs.length:=by omega
  generalize cs.map Rec.pv++List.replicate (rs.length-cs.length) (PV.agg [.str [],.int .i64 0,.str [],.sl none []])=row at *;simp only[go_sem,hb2,↓st,st,↓cp,cp,rl,hw,hcr];exact⟨b,⟨q3,by omega,cs,by omega,c1,rfl⟩,rfl⟩
end Go.Am
end
section
/- Merging two ordered lists: by sorting and leaving out what is alike,and by looking each one up. Plain lists. -/
namespace Go.Am
variable {α:Type}
structure Ordr (c:α→α→Int):Prop where
 neg:∀a b,c b a = - c a b
 trans:∀a b d,c a b≤0→c b d≤0→c a d≤0
theorem Ordr.refl {c:α→α→Int}(o:Ordr c)(a:α):c a a=0:=by have:=o.neg a a;omega
theorem Ordr.lt_le {c:α→α→Int}(o:Ordr c){a b d:α}(h1:c a b<0)(h2:c b d≤0):c a d<0:=by
 by_cases h:c a d<0
 ·exact h
 ·have h3:=o.neg a d
  have h4:=o.trans b d a h2 (by omega)
  have:=o.neg a b;omega
def ltO (c:α→α→Int)(a b:α):Bool:=decide (c a b<0)
theorem Ordr.weak {c:α→α→Int}(o:Ordr c):Weak (ltO c):=by
 refine⟨fun a b h=>?_,fun a b d h1 h2=>?_⟩
 ·simp only[ltO,decide_eq_true_eq,decide_eq_false_iff_not]at h ⊢
  have:=o.neg a b;omega
 ·simp only[ltO,decide_eq_false_iff_not]at h1 h2 ⊢
  have q1:=o.neg a b
  have q2:=o.neg b d
  have q3:=o.trans a b d (by omega) (by omega)
  have q4:=o.neg a d
  omega
def qH (c:α→α→Int)(l:List α):Prop:=l.Pairwise fun x y=>c x y<0
theorem z5G {c:α→α→Int}(o:Ordr c):∀{l m:List α},qH c l→qH c m→(∀x,x∈l↔x∈m)→l=m
 | [],[],_,_,_=>rfl
 | [],y::m,_,_,h=>absurd ((h y).2 (by simp)) (by simp)
 | x::l,[],_,_,h=>absurd ((h x).1 (by simp)) (by simp)
 | x::l,y::m,h1,h2,h=>by
  have a1:=List.pairwise_cons.1 h1
  have a2:=List.pairwise_cons.1 h2
  have e:x=y:=by
   rcases List.mem_cons.1 ((h x).1 (by simp)) with e|e
   ·exact e
   ·rcases List.mem_cons.1 ((h y).2 (by simp)) with e'|e'
    ·exact e'.symm
    ·have b1:=a2.1 x e
     have b2:=a1.1 y e'
     have:=o.neg x y;omega
  subst e;rw[z5G o a1.2 a2.2 fun z=>?_]
  constructor
  ·intro hz
   rcases List.mem_cons.1 ((h z).1 (by simp [hz])) with e|e
   ·subst e;have:=a1.1 z hz;have:=o.refl z;omega
   ·exact e
  ·intro hz
   rcases List.mem_cons.1 ((h z).2 (by simp [hz])) with e|e
   ·subst e;have:=a2.1 z hz;have:=o.refl z;omega
   ·exact e
theorem rU (q:α→α→Bool):∀(l:List α) (p:α),(GB q p l).Sublist l
 | [],_=>List.Sublist.slnil
 | x::r,p=>by
  unfold GB;cases q x p with
  | true=>exact(rU q r x).cons x
  | false=>exact(rU q r x).cons_cons x
theorem z9V (q:α→α→Bool):∀l:List α,(yB q l).Sublist l
 | []=>List.Sublist.slnil
 | x::r=>(rU q r x).cons_cons x
theorem qU {q:α→α→Bool}(hq:∀ x y,q x y=true→x=y):∀(l:List α) (p x:α),x∈l→x=p∨x∈GB q p l
 | [],_,x,hx=>by simp at hx
 | y::r,p,x,hx=>by
  unfold GB;cases h:q y p with
  | true=>
   have e:=hq _ _ h
   subst e;rcases List.mem_cons.1 hx with e|e
   ·exact .inl e
   ·exact qU hq r y x e
  | false=>
   rcases List.mem_cons.1 hx with e|e
   ·subst e;exact .inr (by simp)
   ·rcases qU hq r y x e with e|e
    ·subst e;exact .inr (by simp)
    ·exact .inr (by simp [e])
theorem z9U {q:α→α→Bool}(hq:∀ x y,q x y=true→x=y):∀{l:List α} {x:α},x∈l→x∈yB q l
 | y::r,x,hx=>by
  rcases List.mem_cons.1 hx with e|e
  ·subst e;simp [yB]
  ·rcases qU hq r y x e with e|e
   ·subst e;simp [yB]
   ·simp [yB,e]
theorem pU {q:α→α→Bool}(hq:∀ x y,q x y=true↔x=y):∀(l:List α) (p:α) (i:Nat) (h:i+1<(p::GB q p l).length),(p::GB q p l)[i]≠(p::GB q p l)[i+1]
 | [],p,i,h=>by simp [GB]at h
 | x::r,p,i,h=>by
  cases hx:q x p with
  | true=>
   have e:=(hq _ _).1 hx
   subst e;have e2:GB q x (x::r)=GB q x r:=by rw[GB];rw[hx];rfl
   simp only[e2]at h ⊢;exact pU hq r x i h
  | false=>
   have e2:GB q p (x::r)=x::GB q x r:=by rw[GB];rw[hx];rfl
   simp only[e2]at h ⊢;cases i with
   | zero=>
    simp only[List.getElem_cons_zero,List.getElem_cons_succ];intro e;rw[(hq _ _).2 e.symm]at hx;cases hx
   | succ i=>
    simp only[List.getElem_cons_succ];exact pU hq r x i (by simpa using h)
theorem z9T {q:α→α→Bool}(hq:∀ x y,q x y=true↔x=y):∀(l:List α) (i:Nat) (h:i+1<(yB q l).length),(yB q l)[i]≠(yB q l)[i+1]
 | [],i,h=>by simp [yB]at h
 | x::r,i,h=>pU hq r x i h
variable {c:α→α→Int} {q:α→α→Bool} {a b:List α}
theorem z7s (o:Ordr c){l:List α}(hle:l.Pairwise fun x y=>c x y≤0)(hadj:∀ i (h:i+1<l.length),c l[i+1] l[i]≠0):qH c l:=by
 rw[List.pairwise_iff_getElem]at hle;unfold qH;rw[List.pairwise_iff_getElem];intro i j hi hj hij;have h1:c l[i] l[i+1]<0:=by
  have:=hle i (i+1) hi (by omega) (by omega)
  have h2:=hadj i (by omega)
  have:=o.neg l[i] l[i+1];omega
 rcases Nat.lt_or_ge (i+1) j with h|h
 ·exact o.lt_le h1 (hle (i+1) j (by omega) hj h)
 ·have e:j=i+1:=by omega
  subst e;exact h1
theorem zjT (o:Ordr c){l:List α}(hl:l.Pairwise fun x y=>c x y≠0):qH c (ZB (ltO c) l):=by
 have h1:=z3R o.weak l
 have h2:(ZB (ltO c) l).Pairwise fun x y=>c x y≠0:=((XP (ltO c) l).pairwise_iff (fun {x y} h=>by have:=o.neg x y;omega)).2 hl
 refine(h1.and h2).imp fun {x y} h=>?_
 have:=h.1;simp only[ltO,decide_eq_false_iff_not]at this;have h3:=o.neg x y
 have:=h.2;omega
end Go.Am
end
section
/- Records alike;copies;bins. -/
open Go
set_option linter.unusedSimpArgs false
namespace Go.Am
variable {h:aA} {K:jA}
def OZ (a b:Rec):Bool:=decide (a.unit=b.unit)&&(decide (a.time=b.time)&&(decide (a.site=b.site)&&decide (a.res=b.res)))
theorem zjl (a b:Rec):OZ a b=true↔a=b:=by
 cases a;cases b
 simp [OZ]
theorem DZ {b:Nat}{P:jA}{vs:List AV}{h:aA}{x:Esc}(hx:∀ y∈x,b≤y.1){v:AV}(h1:GA b h (CA vs)=some v)(h2:v.top≤b):dD false b P (some vs) h x=P v (h.take b) []:=by
 have e:max b v.top=b:=by omega
 have c:aB x b=true:=by
  unfold aB;rw[List.all_eq_true];intro y hy;simp [hx y hy]
 have f:x.filter (fun y=>decide (y.1<b))=[]:=by
  rw[List.filter_eq_nil_iff];intro y hy;have:=hx y hy;simp;omega
 simp only[dD,h1,e,z14 hx,c,if_true,f];exact propext ⟨fun h=>h.2,fun h=>⟨h2,h⟩⟩
theorem zi4 (l:List Int)(hl:l.length≤1000):bA X fJ [AL l] h K=K (AI (orL l)) h []:=by
 refine rule ?_;rw[z8e rfl];simp only[qO,go_sem];refine SA (fun k:Nat=>⟨[(5,AL l),(6,AI l.length),(7,AI k)],h,[]⟩) (fun k=>k≤l.length∧orL (l.drop k)=orL l) (fun k=>l.length-k) 0 rfl ⟨by omega,rfl⟩ ?_
 rintro k ⟨hk,hp⟩
 rcases Nat.lt_or_ge k l.length with hlt|hge
 ·have g2:=dB eI hlt
  have w2:IntKind.i64.wrap ((k:Int)+1)=((k+1:Nat):Int):=yA _ (by omega) (by omega)
  rw[List.drop_eq_getElem_cons hlt,orL]at hp;by_cases hz:l[k]=0
  ·rw[if_neg (by simp [hz])]at hp
   simp only[go_sem,hlt,g2,hz,w2];exact⟨k+1,rfl,⟨by omega,hp⟩,by omega⟩
  ·rw[if_pos hz]at hp
   simp only[go_sem,hlt,g2,hz];rw[hp]
 ·have ek:k=l.length:=by omega
  subst ek;rw[List.drop_length]at hp;simp only[go_sem,Nat.lt_irrefl];rw[←hp];rfl
end Go.Am
end
section
/- Sorting numbers: printed by program. -/
open Go
set_option linter.unusedSimpArgs false
namespace Go.Am
attribute [-go_sem] PV.cells splice
variable {h:aA} {K:jA}
end Go.Am
end
section
/- Bins,both ways;lists joined;records sorted. -/
open Go
set_option linter.unusedSimpArgs false
namespace Go.Am
variable {h:aA} {K:jA}
theorem JW (l:List Lim)(res:List Int):(WB l res = -1∧∀b∈XB l res,b=true)∨∃k:Nat,WB l res=k∧k<(XB l res).length∧(XB l res)[k]?=some false:=by
 unfold WB;split
 ·rename_i hlt
  refine .inr ⟨_,rfl,hlt,?_⟩;have:=List.findIdx_getElem (w:=hlt);rw[List.getElem?_eq_getElem hlt];simpa using this
 ·rename_i hlt
  refine .inl ⟨rfl,fun b hb=>?_⟩
  have hge:(XB l res).length≤(XB l res).findIdx fun b=>!b:=by omega
  have:=List.findIdx_eq_length.1 (Nat.le_antisymm List.findIdx_le_length hge) b hb;simpa using this
theorem TW {l:List Lim}{res:List Int}(hf:QB l res=true):1≤res.length∧res.length≤l.length:=by
 unfold QB inB at hf;simp only[Bool.and_eq_true,decide_eq_true_eq]at hf;omega
theorem zdT {l:List Lim}{res:List Int}(hf:QB l res=true)(h1:res.length-1<l.length)(h2:res.length-1<res.length):(if good l[res.length-1] res[res.length-1] then(-1:Int) else(res.length:Int)-1)=WB l res:=by
 have hl:=TW hf
 have gg:=VP (l:=l) (res:=res) h1 h2
 have gl:=aX (l:=l) (res:=res) hl.2
 rcases JW l res with⟨e,ha⟩|⟨k,e,hk,hg⟩
 ·rw[e]
  have:=ha _ (List.mem_of_getElem? gg);rw[this];rfl
 ·unfold QB at hf
  rw[e]at hf ⊢;have ek:k=res.length-1:=by
   simp only[Bool.and_eq_true,Bool.not_eq_true',Bool.and_eq_false_iff,decide_eq_false_iff_not]at hf;have:=hf.1.2;rcases this with h|h
   ·exact absurd (by omega) h
   ·simp at h;omega
  subst ek;rw[gg]at hg;simp only[Option.some.injEq]at hg;rw[hg];simp;omega
def GI (l:List Lim)(f:Int):Int:=if 0≤f then(l.getD f.toNat ⟨[],0,0,0⟩).bin else 1
theorem ZR (l:List Lim)(r:Rec)(hf:QB l r.res=true)(hn:l.length≤1000):bA X CF [LA l,.p r.pv] h K=K (AI (WB l r.res)) h []:=by
 have hl:=TW hf
 rw[z5s l r hl.1 hl.2 hn,zdT hf]
theorem ziC (l:List Lim)(r:Rec)(hf:QB l r.res=true)(hn:l.length≤1000):bA X JL [LA l,.p r.pv] h K=K (AI (GI l (WB l r.res))) h []:=by
 refine rule ?_;rw[z8u rfl];have q:=fun h K=>ZR (h:=h) (K:=K) l r hf hn
 have hl:=TW hf
 simp only[Rec.pv]at q;rcases JW l r.res with⟨e,_⟩|⟨k,e,hk,_⟩
 ·rw[e]at q ⊢
  simp only[lL,Rec.pv,go_sem,↓q,q];rfl
 ·rw[e]at q ⊢
  have hkl:k<l.length:=by rw[aX hl.2]at hk;omega
  have g1:=dB Lim.pv hkl
  have b1:(0:Int)≤(k:Int):=by omega
  simp only[lL,Rec.pv,go_sem,↓q,q,b1,hkl,g1,Lim.pv];unfold GI;rw[if_pos b1,Int.toNat_natCast,List.getD_eq_getElem?_getD,List.getElem?_eq_getElem hkl];rfl
def FI (l:List Lim)(r:Rec):Int:=if IC l≠0 then IC l else TB l r
theorem yZ {l:List Lim}{r:Rec}(hf:TB l r=0):QB l r.res=true:=by
 unfold TB at hf;cases h:QB l r.res with
 | true=>rfl
 | false=>
  rw[h]at hf;split at hf
  ·omega
  ·split at hf
   ·omega
   ·split at hf
    ·omega
    ·simp at hf
theorem s_Bin (l:List Lim)(r:Rec)(hl:LimOk l)(hr:RecOk r):bA X EL [LA l,.p r.pv] h K=K (.tup [AI (if FI l r=0 then GI l (WB l r.res) else 0),AI (if FI l r=0 then WB l r.res else 0),AI (FI l r)]) h []:=by
 refine rule ?_;rw[z8p rfl];have q1:=fun h K=>z5e (h:=h) (K:=K) l hl.k (by have:=hl.n;omega)
 have q2:=fun h K=>z5x (h:=h) (K:=K) l r hl hr
 simp only[Rec.pv]at q2;unfold FI;by_cases h1:IC l=0
 ·by_cases h2:TB l r=0
  ·have q3:=fun h K=>ziC (h:=h) (K:=K) l r (yZ h2) hl.n
   have q4:=fun h K=>ZR (h:=h) (K:=K) l r (yZ h2) hl.n
   simp only[Rec.pv]at q3 q4;simp only[h1,h2]at q1 q2;simp only[QI,Rec.pv,go_sem,↓q1,q1,↓q2,q2,↓q3,q3,↓q4,q4,h1,h2]
  ·simp only[h1]at q1
   simp only[QI,Rec.pv,go_sem,↓q1,q1,↓q2,q2,h1,h2]
 ·simp only[QI,Rec.pv,go_sem,↓q1,q1,h1]
theorem z6B (id:Nat)(l:List PV)(hs:kE (some 4) l)(hl:l.length≤12)(hh:h[id]?=some (.row (some 4) l 0)){g:Nat}{caps:List AV}{c:PV→PV→Int}(hc:Cmps g caps c l id h) :
 bA X dM [.own id l.length 0 l.length,.fn g caps] h K=K (.tup []) (h.set id (.row (some 4) (ZB (ltC c) l) 0)) []:=by
 refine rule ?_;rw[z9h];have w0:IntKind.u64.wrap (l.length:Int)=l.length:=zko _ (by omega) (by omega)
 obtain⟨m,hm⟩:=zfF (l.length:Int) (by omega) (by omega)
 have is:=fun K=>z3I (h:=h) (K:=K) id l.length l [] rfl hs (by omega) (by rw[List.append_nil];exact hh) hc
 simp only[List.append_nil]at is;have key:∀K:jA,bA X TH [.own id l.length 0 l.length,AI 0,AI l.length,AI m,.fn g caps] h K=K (.tup []) (h.set id (.row (some 4) (ZB (ltC c) l) 0)) []:=by
  intro K;refine rule ?_;rw[z9k];simp only[sP,go_sem];refine SA (fun _:Unit=>⟨[(0,.own id l.length 0 l.length),(1,AI 0),(2,AI l.length),(3,AI m),(4,.fn g caps),(10,AB true),(11,AB true)],h,[]⟩) (fun _=>True) (fun _=>0) () rfl trivial ?_
  intro _ _;have w1:IntKind.i64.wrap ((l.length:Int)-0)=l.length:=by rw[yA _ (by omega) (by omega)];omega
  have b1:((l.length:Int)≤12):=by omega
  simp only[go_sem,w1,b1,is]
 simp only[pP,go_sem,w0,hm,key]
end Go.Am
end
section
/- Lists of records joined,compared,merged. -/
open Go
set_option linter.unusedSimpArgs false
namespace Go.Am
variable {h:aA} {K:jA}
instance:DecidableEq Rec:=fun a b=>decidable_of_iff (OZ a b=true) (zjl a b)
end Go.Am
end
section
/- Records merged asv the reference does it. -/
open Go
set_option linter.unusedSimpArgs false
namespace Go.Am
variable {h:aA} {K:jA}
theorem z15 {a b c:List UInt8}(h1:zA a b≤0)(h2:zA b c≤0):zA a c≤0:=by
 by_cases e1:zA a b=0
 ·rw[KG e1];exact h2
 ·by_cases e2:zA b c=0
  ·rw[←KG e2];exact h1
  ·have:=nU (a:=a) (b:=b) (c:=c) (by omega) (by omega)
   omega
end Go.Am
end
section
/- Retests: which record of a unit counts. Plain lists;both ways yield the same. -/
set_option linter.all false
namespace Go.Am
def bE (l:List Lim)(r:Rec):Bool:=decide (0≤WB l r.res)
def jB (l:List Lim)(rule:Int)(o x:Rec):Rec:=if rule=2∨rule=3∧bE l o=true then x else o
def VA (u:List UInt8)(out:List Rec):Nat:=out.findIdx fun o=>decide (o.unit=u)
def iB (l:List Lim)(rule:Int)(out:List Rec)(x:Rec):List Rec:=
 if h:VA x.unit out<out.length then out.set (VA x.unit out) (jB l rule (out[VA x.unit out]) x) else out++[x]
def PW (l:List Lim)(rule:Int)(r:List Rec):List Rec:=r.foldl (iB l rule) []
def QF (a b:Rec):Int:=zA a.unit b.unit
def PB (l:List Lim)(rule:Int)(r:List Rec):List Rec:=ZB (ltO QF) (PW l rule r)
def ltS (a b:List UInt8):Bool:=decide (zA a b<0)
def AG (r:List Rec):List (List UInt8):=yB (fun a b=>decide (a=b)) (ZB ltS (r.map Rec.unit))
def ofU (r:List Rec)(u:List UInt8):List Rec:=r.filter fun x=>decide (x.unit=u)
def JK:Rec:=⟨[],0,[],[]⟩
def yF (l:List Lim)(rule:Int)(f:List Rec):Rec:=
 if rule=1 then f.headD JK else if f.findIdx (fun x=>!bE l x)<f.length∧rule=3 then f.getD (f.findIdx fun x=>!bE l x) JK else f.getLastD JK
def bF (l:List Lim)(rule:Int):Option Rec→List Rec→Option Rec
 | o,[]=>o
 | none,x::r=>bF l rule (some x) r
 | some y,x::r=>bF l rule (some (jB l rule y x)) r
theorem z19 (l:List Lim)(rule:Int):∀(f:List Rec) (y:Rec),bF l rule (some y) f=some (f.foldl (jB l rule) y)
 | [],y=>rfl
 | x::r,y=>by unfold bF;rw[z19 l rule r];rfl
theorem mO (l:List Lim)(rule:Int)(x:Rec):∀(f:List Rec) (o:Option Rec),bF l rule o (f++[x])=some (match bF l rule o f with|none=>x|some y=>jB l rule y x)
 | [],none=>rfl
 | [],some y=>rfl
 | z::f,none=>by simp only[List.cons_append,bF];exact mO l rule x f _
 | z::f,some y=>by simp only[List.cons_append,bF];exact mO l rule x f _
theorem z3l (l:List Lim):∀(f:List Rec) (y:Rec),f.foldl (jB l 1) y=y
 | [],y=>rfl
 | x::r,y=>by simp only[List.foldl_cons];rw[z3l l r];simp [jB]
theorem z3m (l:List Lim):∀(f:List Rec) (y:Rec),f.foldl (jB l 2) y=f.getLastD y
 | [],y=>rfl
 | x::r,y=>by
  simp only[List.foldl_cons];rw[z3m l r]
  have:jB l 2 y x=x:=by simp [jB]
  rw[this];cases r <;> simp [List.getLastD]
theorem z3o (l:List Lim):∀(f:List Rec) (y:Rec),bE l y=false→f.foldl (jB l 3) y=y
 | [],y,_=>rfl
 | x::r,y,h=>by
  simp only[List.foldl_cons];have:jB l 3 y x=y:=by simp [jB,h]
  rw[this];exact z3o l r y h
theorem z3n (l:List Lim):∀(f:List Rec) (y:Rec),some (f.foldl (jB l 3) y)=some (yF l 3 (y::f))
 | [],y=>by
  unfold yF;cases hb:bE l y <;> simp [hb,List.findIdx_cons]
 | x::r,y=>by
  cases hb:bE l y with
  | false=>
   rw[z3o l _ y hb];unfold yF;simp [hb,List.findIdx_cons]
  | true=>
   simp only[List.foldl_cons];have:jB l 3 y x=x:=by simp [jB,hb]
   rw[this,z3n l r x];unfold yF;have e:(y::x::r).findIdx (fun x=>!bE l x)=(x::r).findIdx (fun x=>!bE l x)+1:=by
    rw[List.findIdx_cons];simp [hb]
   rw[e];simp only[List.length_cons,Nat.add_lt_add_iff_right,List.getD_cons_succ];have:(y::x::r).getLastD JK=(x::r).getLastD JK:=by simp [List.getLastD]
   rw[this];rfl
theorem z9P (l:List Lim){rule:Int}(hr:1≤rule∧rule≤3):∀{f:List Rec},f≠[]→bF l rule none f=some (yF l rule f)
 | [],h=>absurd rfl h
 | y::f,_=>by
  show bF l rule (some y) f=_
  rw[z19];rcases(by omega:rule=1∨rule=2∨rule=3) with h|h|h
  ·subst h;rw[z3l];rfl
  ·subst h;rw[z3m]
   unfold yF;simp [List.getLastD];cases f <;> simp
  ·subst h;exact z3n l f y
structure FinI (l:List Lim) (rule:Int) (p out:List Rec):Prop where
 nd:out.Pairwise fun a b=>a.unit≠b.unit
 val:∀o∈out,bF l rule none (ofU p o.unit)=some o
 all:∀x∈p,∃o∈out,o.unit=x.unit
 sub:∀o∈out,∃x∈p,x.unit=o.unit
 le:out.length≤p.length
 mem:∀o∈out,o∈p
theorem JR {u:List UInt8}{out:List Rec}:VA u out<out.length↔∃o∈out,o.unit=u:=by
 unfold VA;rw[List.findIdx_lt_length];simp
theorem qI {u:List UInt8}{out:List Rec}(h:VA u out<out.length):(out[VA u out]).unit=u:=by
 have:=List.findIdx_getElem (p:=fun o:Rec=>decide (o.unit=u)) (xs:=out) (w:=h)
 exact of_decide_eq_true this
theorem z0c {l:List Lim}{rule:Int}{o x:Rec}(h:o.unit=x.unit):(jB l rule o x).unit=x.unit:=by
 unfold jB;split <;> simp [h]
theorem zk0 {l:List Lim}{rule:Int}{o x:Rec}:jB l rule o x=x∨jB l rule o x=o:=by
 unfold jB;split <;> simp
theorem zhV {l:List Lim}{rule:Int}{out:List Rec}{x:Rec}:(iB l rule out x).map Rec.unit=if VA x.unit out<out.length then out.map Rec.unit else out.map Rec.unit++[x.unit]:=by
 unfold iB;split
 ·rename_i h
  rw[List.map_set,z0c (qI h)];apply List.ext_getElem?
  intro i;rw[List.getElem?_set];split
  ·rename_i e
   subst e;simp [h,qI h]
  ·rfl
 ·simp
theorem sQ (p:List Rec)(x:Rec)(u:List UInt8):ofU (p++[x]) u=if x.unit=u then ofU p u++[x] else ofU p u:=by
 unfold ofU;rw[List.filter_append];by_cases h:x.unit=u <;> simp [h]
theorem zdY {l:List Lim}{rule:Int}{p out:List Rec}(I:FinI l rule p out)(x:Rec):FinI l rule (p++[x]) (iB l rule out x):=by
 have hu:=zhV (l:=l) (rule:=rule) (out:=out) (x:=x)
 have mU:∀u,(∃o∈iB l rule out x,o.unit=u)↔u=x.unit∨∃o∈out,o.unit=u:=by
  intro u;have h1:(∃o∈iB l rule out x,o.unit=u)↔u∈(iB l rule out x).map Rec.unit:=by simp
  have h2:(∃o∈out,o.unit=u)↔u∈out.map Rec.unit:=by simp
  rw[h1,h2,hu];split
  ·rename_i h
   obtain⟨o,ho,e⟩:=JR.1 h;constructor
   ·intro h;exact .inr h
   ·rintro (h|h)
    ·rw[h];exact List.mem_map.2 ⟨o,ho,e⟩
    ·exact h
  ·simp [or_comm]
 refine⟨?_,?_,?_,?_,?_,?_⟩
 ·have:(out.map Rec.unit).Pairwise (· ≠ ·):=List.pairwise_map.2 I.nd
  suffices hs:((iB l rule out x).map Rec.unit).Pairwise (· ≠ ·) from List.pairwise_map.1 hs
  rw[hu];split
  ·exact this
  ·rename_i h
   rw[List.pairwise_append];refine⟨this,by simp,fun a ha b hb=>?_⟩
   rw[List.mem_singleton]at hb;subst hb;intro e;obtain⟨o,ho,e2⟩:=List.mem_map.1 ha;exact h (JR.2 ⟨o,ho,by rw[e2,e]⟩)
 ·intro o ho
  unfold iB at ho;split at ho
  ·rename_i h
   obtain⟨i,hi,e⟩:=List.mem_iff_getElem.1 ho;rw[List.getElem_set]at e;split at e
   ·have eu:o.unit=x.unit:=by rw[←e];exact z0c (qI h)
    rw[sQ,if_pos eu.symm,mO];have h9:=I.val _ (List.getElem_mem h)
    have hpg:=qI h
    generalize out[VA x.unit out]=z at *;rw[hpg,←eu]at h9;rw[h9,←e]
   ·have ho2:o∈out:=by rw[←e];exact List.getElem_mem _
    have hne:¬x.unit=o.unit:=by
     intro eu;rename_i hni;have q:=List.pairwise_iff_getElem.1 I.nd
     simp only[List.length_set]at hi;rcases Nat.lt_or_ge i (VA x.unit out) with h3|h3
     ·exact q i _ hi h h3 (by rw[qI h,e,eu])
     ·exact q _ i h hi (by omega) (by rw[qI h,e,eu])
    rw[sQ,if_neg hne];exact I.val o ho2
  ·rename_i h
   rcases List.mem_append.1 ho with ho|ho
   ·have hne:¬x.unit=o.unit:=fun eu=>h (JR.2 ⟨o,ho,eu.symm⟩)
    rw[sQ,if_neg hne];exact I.val o ho
   ·rw[List.mem_singleton]at ho
    subst ho;rw[sQ,if_pos rfl,mO];have:ofU p o.unit=[]:=by
     unfold ofU;rw[List.filter_eq_nil_iff];intro z hz;simp only[decide_eq_true_eq];intro e;obtain⟨o',ho',e'⟩:=I.all z hz;exact h (JR.2 ⟨o',ho',by rw[e',e]⟩)
    rw[this];rfl
 ·intro z hz
  rw[mU];rcases List.mem_append.1 hz with hz|hz
  ·exact .inr (I.all z hz)
  ·rw[List.mem_singleton]at hz;subst hz;exact .inl rfl
 ·intro o ho
  rcases(mU o.unit).1 ⟨o,ho,rfl⟩ with h|⟨o',ho',e⟩
  ·exact⟨x,by simp,h.symm⟩
  ·obtain⟨z,hz,e2⟩:=I.sub o' ho'
   exact⟨z,by simp [hz],by rw[e2,e]⟩
 ·have:=I.le
  unfold iB;split <;> simp <;> omega
 ·intro o ho
  unfold iB at ho;split at ho
  ·rename_i h
   rcases List.mem_or_eq_of_mem_set ho with ho|ho
   ·exact List.mem_append_left _ (I.mem o ho)
   ·rcases zk0 (l:=l) (rule:=rule) (o:=out[VA x.unit out]) (x:=x) with e|e
    ·rw[ho,e];simp
    ·rw[ho,e];exact List.mem_append_left _ (I.mem _ (List.getElem_mem h))
  ·rcases List.mem_append.1 ho with ho|ho
   ·exact List.mem_append_left _ (I.mem o ho)
   ·exact List.mem_append_right _ ho
theorem z2U (l:List Lim)(rule:Int):FinI l rule [] []:=⟨.nil,by simp,by simp,by simp,by simp,by simp⟩
theorem MW (l:List Lim)(rule:Int):∀(q p out:List Rec),FinI l rule p out→FinI l rule (p++q) (q.foldl (iB l rule) out)
 | [],p,out,I=>by simpa using I
 | x::q,p,out,I=>by
  have:=MW l rule q (p++[x]) (iB l rule out x) (zdY I x);simpa using this
theorem nM (l:List Lim)(rule:Int)(r:List Rec):FinI l rule r (PW l rule r):=by
 have:=MW l rule r [] [] (z2U l rule);simpa [PW] using this
theorem MM:Ordr zA:=⟨fun a b=>jL a b,fun a b d h1 h2=>z15 h1 h2⟩
theorem ordU:Ordr QF:=⟨fun a b=>jL a.unit b.unit,fun a b d h1 h2=>z15 h1 h2⟩
theorem zfX:ltS=ltO zA:=rfl
theorem z5V (r:List Rec):qH zA (AG r):=by
 unfold AG;rw[zfX];have hq:∀x y:List UInt8,(fun a b=>decide (a=b)) x y=true↔x=y:=fun x y=>by simp
 refine z7s MM ?_ fun i h=>?_
 ·refine(List.Pairwise.sublist (z9V _ _) (z3R MM.weak _)).imp fun {x y} h=>?_
  simp only[ltO,decide_eq_false_iff_not]at h;have:=MM.neg x y;omega
 ·intro hc
  exact z9T hq _ i h (KG hc).symm
theorem mS {r:List Rec}{u:List UInt8}:u∈AG r↔∃x∈r,x.unit=u:=by
 unfold AG;constructor
 ·intro h
  have:=dI.1 (z1B h);simpa using this
 ·intro h
  exact z9U (fun x y h=>by simpa using h) (dI.2 (by simpa using h))
theorem z2X (l:List Lim)(rule:Int)(r:List Rec):(PB l rule r).map Rec.unit=AG r:=by
 have I:=nM l rule r
 have hs:qH QF (PB l rule r):=by
  refine zjT ordU (I.nd.imp fun {a b} h=>?_)
  intro hc;exact h (KG hc)
 refine z5G MM (List.pairwise_map.2 hs) (z5V r) fun u=>?_
 rw[mS,List.mem_map];constructor
 ·rintro⟨o,ho,e⟩
  obtain⟨x,hx,e2⟩:=I.sub o (dI.1 ho);exact⟨x,hx,by rw[e2,e]⟩
 ·rintro⟨x,hx,e⟩
  obtain⟨o,ho,e2⟩:=I.all x hx;exact⟨o,dI.2 ho,by rw[e2,e]⟩
theorem zeb {l:List Lim}{rule:Int}(hr:1≤rule∧rule≤3){r:List Rec}{o:Rec}(ho:o∈PB l rule r):o=yF l rule (ofU r o.unit):=by
 have I:=nM l rule r
 have h1:=I.val o (dI.1 ho)
 have hne:ofU r o.unit≠[]:=by
  intro e;rw[e]at h1;cases h1
 rw[z9P l hr hne]at h1;exact(Option.some.inj h1).symm
theorem zdZ (l:List Lim){rule:Int}(hr:1≤rule∧rule≤3)(r:List Rec):PB l rule r=(AG r).map fun u=>yF l rule (ofU r u):=by
 rw[←z2X l rule r,List.map_map];have:(PB l rule r).map (fun o=>o)=PB l rule r:=List.map_id _
 conv=>lhs;rw[←this]
 refine List.map_congr_left fun o ho=>?_
 exact zeb hr ho
theorem z2W (l:List Lim)(rule:Int)(r:List Rec):(PB l rule r).length≤r.length:=by
 unfold PB;rw[dX];exact(nM l rule r).le
theorem zea {l:List Lim}{rule:Int}{r:List Rec}{o:Rec}(h:o∈PB l rule r):o∈r:=(nM l rule r).mem o (dI.1 h)
theorem zgv {r:List Rec}{u:List UInt8}{x:Rec}:x∈ofU r u↔x∈r∧x.unit=u:=by simp [ofU]
theorem zgw {r:List Rec}{u:List UInt8}(h:u∈AG r):ofU r u≠[]:=by
 obtain⟨x,hx,e⟩:=mS.1 h;intro h2;have:x∈ofU r u:=zgv.2 ⟨hx,e⟩
 rw[h2]at this;exact absurd this (by simp)
end Go.Am
end
section
/- Lists of strings. -/
open Go
set_option linter.all false
namespace Go.Am
variable {h:aA} {K:jA}
abbrev nC (us:List (List UInt8)):AV:=.p (.sl none (us.map PV.str))
theorem zjS {us:List (List UInt8)}:kE none (us.map PV.str):=fun x hx=>by obtain⟨n,_,rfl⟩:=List.mem_map.1 hx;rfl
end Go.Am
end
section
/- The abstract machine,part L4: strings.Repeat,strings.Trim,math/bits.TrailingZeros64 asv rows. -/
set_option linter.all false
namespace Go.Am
variable {P:Program} {gl:Nat→Option PV}
open Go.Shelf
theorem z7F {w w':World}(h:Go.RowKit.Below w.heap.size w w'):WExt w w':=⟨h.size,fun b hb=>h.block b hb,by unfold zed;rw[h.os,h.tape,h.output]⟩
theorem zfN (s cs:List UInt8):Go.Lib.trimS s cs=z5Q s cs:=rfl
theorem trimRow {ρ:Ren}(L:Go.Proofs.Lays.n160 P ρ)(h116:(P.info? (ρ.t 116)).map (fun i=>(i.zero,i.size))=some (some (.agg (Array.replicate 256 (.bool false))),256))(he:∀ us w,(callFunc (ρ.f 160) us).run P w = .ok (.enter (ρ.f 160) us) w):PureRow P gl (ρ.f 160) trimS where
 enter:=he
 run M w vs r us hc hb hG hl hr hs:=by
  unfold trimS at hs;split at hs
  ·rename_i s cs
   split at hs
   ·rename_i hbd
    match us,hl with
    | [u,v],_=>
     have q:=hr 0 _ u rfl rfl
     cases q;have q2:=hr 1 _ v rfl rfl
     cases q2;simp only[Option.some.injEq]at hs
     subst hs;have hsz:∀l:List UInt8,(⟨l.toArray⟩:ByteArray).size=l.length:=fun l=>by simp [ByteArray.size]
     refine(Go.Proofs.Any.strings_Trim_laid L h116 ⟨s.toArray⟩ ⟨cs.toArray⟩ w (by rw[hsz];omega) (by rw[hsz];omega) (Go.Proofs.ascii_of_all hbd.2.2)).mono fun e w' h=>?_
     obtain⟨rfl,h⟩:=h;exact⟨_,rfl,z7F h,by rw[←zfN];exact .p _ _ (.str _)⟩
   ·cases hs
  ·cases hs
end Go.Am
end
section
/- The abstract machine,part L5: strings.Count at one byte,strings.Join asv rows. -/
set_option linter.all false
namespace Go.Am
variable {P:Program} {gl:Nat→Option PV}
open Go.Shelf
end Go.Am
end
section
/- Texts split at a byte. -/
open Go
set_option linter.all false
namespace Go.Am
variable {h:aA} {K:jA}
end Go.Am
end
section
/- Lines of a text. -/
open Go
set_option linter.all false
namespace Go.Am
variable {h:aA} {K:jA}
end Go.Am
end
section
/- Numbers read. -/
open Go
set_option linter.all false
namespace Go.Am
variable {h:aA} {K:jA}
end Go.Am
end
section
/- Several numbers read. -/
open Go
set_option linter.all false
namespace Go.Am
variable {h:aA} {K:jA}
end Go.Am
end
section
/- Numbers read,the reference's way. -/
open Go
set_option linter.all false
namespace Go.Am
variable {h:aA} {K:jA}
end Go.Am
end
section
/- Tests and faults: what is wrong with them,both ways. -/
open Go
set_option linter.all false
namespace Go.Am
variable {h:aA} {K:jA}
end Go.Am
end
section
/- Faults: what is wrong with them,both ways. -/
open Go
set_option linter.all false
namespace Go.Am
variable {h:aA} {K:jA}
def Flt.pv (f:Flt):PV:=.agg [eI f.kind,.sl none (f.nets.map eI)]
end Go.Am
end
section
/- Where a string stands among strings;words. -/
open Go
set_option linter.all false
namespace Go.Am
variable {h:aA} {K:jA}
theorem z0y {v:AV}(l:List (List UInt8))(hv:Shows none v (l.map PV.str) h)(x:List UInt8)(hl:l.length≤1000000):bA X RH [v,AS x] h K=K (AI (if l.findIdx (fun y=>decide (y=x))<l.length then(l.findIdx (fun y=>decide (y=x)):Int) else -1)) h []:=by
 refine rule ?_;rw[z9g];have vl:=hv.len
 rw[List.length_map]at vl;simp only[oP,go_sem,vl];refine SA (fun k:Nat=>⟨[(0,v),(1,AS x),(7,AI l.length),(8,AI k)],h,[]⟩) (fun k=>k≤l.length∧∀y∈l.take k,decide (y=x)=false) (fun k=>l.length-k) 0 rfl (by simp) ?_
 rintro k ⟨hk,hn⟩
 rcases Nat.lt_or_ge k l.length with hlt|hge
 ·obtain⟨a,ha,hb⟩:=hv.get k (by simpa using hlt)
  rw[List.getElem_map]at hb;have w2:IntKind.i64.wrap ((k:Int)+1)=((k+1:Nat):Int):=yA _ (by omega) (by omega)
  by_cases hpk:x=l[k]
  ·have hf:l.findIdx (fun y=>decide (y=x))=k:=by
    rw[List.findIdx_eq hlt];refine⟨by simp [hpk],fun j hj=>?_⟩
    have:=hn l[j] (by rw[List.mem_take_iff_getElem];exact⟨j,by omega,rfl⟩)
    simpa using this
   simp only[go_sem,hlt,ha,hb,hpk.symm,w2];simp only[hf,hlt,if_true]
  ·simp only[go_sem,hlt,ha,hb,hpk,w2]
   refine⟨k+1,rfl,⟨by omega,fun y hy=>?_⟩,by omega⟩
   rw[List.take_succ_eq_append_getElem hlt,List.mem_append,List.mem_singleton]at hy;rcases hy with hy|hy
   ·exact hn y hy
   ·rw[hy];simp;exact fun e=>hpk e.symm
 ·have e1:k=l.length:=by omega
  subst e1;simp only[go_sem,Nat.lt_irrefl];rw[List.take_length]at hn;have:¬l.findIdx (fun y=>decide (y=x))<l.length:=by
   rw[Nat.not_lt,Nat.le_iff_lt_or_eq];right
   exact(List.findIdx_eq_length.2 (fun y hy=>by simp [hn y hy])).symm
  rw[if_neg this]
theorem pN {v:AV}(l:List (List UInt8))(hv:∀ h':aA,h'=h→Shows none v (l.map PV.str) h')(x:List UInt8)(hl:l.length≤1000000):bA X lG [v,AS x] h K=K (AB (l.contains x)) h []:=by
 refine rule ?_;rw[z9d];have e:=fun K=>z0y (h:=h) (K:=K) l (hv h rfl) x hl
 have hd:decide (0≤(if l.findIdx (fun y=>decide (y=x))<l.length then(l.findIdx (fun y=>decide (y=x)):Int) else -1))=l.contains x:=by
  rw[Bool.eq_iff_iff,decide_eq_true_eq,List.contains_iff_mem];constructor
  ·intro hq
   split at hq
   ·rename_i hlt
    have:=List.findIdx_getElem (w:=hlt);simp only[decide_eq_true_eq]at this;exact this ▸ List.getElem_mem hlt
   ·omega
  ·intro hm
   rw[if_pos (List.findIdx_lt_length_of_exists ⟨x,hm,by simp⟩)];omega
 simp only[lP,go_sem,e,hd]
theorem strS (ws:List (List UInt8)){h:aA}:Shows none (nC ws) (ws.map PV.str) h:=dS zjS
end Go.Am
end
section
/- Numbers written,joined. -/
open Go
set_option linter.all false
namespace Go.Am
variable {h:aA} {K:jA}
end Go.Am
end
section
/- A builder of strings. -/
open Go
set_option linter.all false
namespace Go.Am
variable {h:aA} {K:jA}
theorem zju {o:Obj}{id:Nat}(hh:h[id]?=some o):h.set id o=h:=by
 apply List.ext_getElem?
 intro j;by_cases e:id=j
 ·subst e;rw[List.getElem?_set_self (rG hh),hh]
 ·rw[List.getElem?_set_ne e]
end Go.Am
end
section
/- Numbers asv sets of bits;rows of a test asv numbers. -/
set_option linter.all false
namespace Go.Am
end Go.Am
end
section
/- Lists of faults: what is wrong with them,both ways. -/
open Go
set_option linter.all false
namespace Go.Am
variable {h:aA} {K:jA}
end Go.Am
end
section
/- Rows of a test asv numbers. -/
open Go
set_option linter.all false
namespace Go.Am
variable {h:aA} {K:jA}
end Go.Am
end
section
/- Faults on rows: what the program makes of them. -/
open Go
set_option linter.all false
namespace Go.Am
variable {h:aA} {K:jA}
end Go.Am
end
section
/- Rows that are handed tov a function: it sees their values. -/
open Go
namespace Go.Am
theorem z0U {X:Ctx}{f:Nat}{F:AFun}{a:List AV}{vs:List PV}{h h1:aA}{P:jA}(hf:X.fn f=some F)(hr:F.byref=false)(hp:lA h a=some (vs.map .p,h1))(hq:lA h1 (vs.map .p)=some (vs.map .p,h1))(hl:vs.length=F.nparams)(hlen:h1.length=h.length):bA X f a h P=bA X f (vs.map .p) h1 P:=by
 cases hO:OC F.results with
 | false=>
  cases hd:F.isDet with
  | false=>rw[oA hf hr hp (by simpa using hl) hd hO,oA hf hr hq (by simpa using hl) hd hO,hlen]
  | true=>rw[ZT hf hr hp (by simpa using hl) hd hO,ZT hf hr hq (by simpa using hl) hd hO,hlen]
 | true=>
  cases hd:F.isDet with
  | false=>rw[z1m hf hr hp (by simpa using hl) hd hO,z1m hf hr hq (by simpa using hl) hd hO,hlen]
  | true=>rw[z1n hf hr hp (by simpa using hl) hd hO,z1n hf hr hq (by simpa using hl) hd hO,hlen]
theorem z3r {h:aA}{id k:Nat}:(frz h id k).length=h.length:=by
 unfold frz;split <;> simp
end Go.Am
end
section
/- Responses,asv the program computes them. -/
open Go
set_option linter.all false
namespace Go.Am
variable {h:aA} {K:jA}
end Go.Am
end
section
/- Faults written. -/
open Go
set_option linter.all false
namespace Go.Am
variable {h:aA} {K:jA}
end Go.Am
end
section
/- Sorting the middle of a row: printed by program. -/
open Go
set_option linter.unusedSimpArgs false
namespace Go.Am
attribute [-go_sem] PV.cells splice
variable {h:aA} {K:jA}
end Go.Am
end
section
/- What is drawn: orders,tests. -/
open Go
set_option linter.all false
namespace Go.Am
variable {L:List Int} {a:Int} {h l:aA} {id:Nat} {K:jA}
def GenK (f:Nat)(args:List AV)(L:List Int)(a:Int)(sh:Sh)(Q:List PV→Int→Prop):Prop:=∀(h:aA) (id:Nat),h[id]?=some (xA L a)→∃xs a2,Q xs a2∧∀K:jA,bA X f (.ref id 0::args) h K=K (.own h.length xs.length 0 xs.length) (h.set id (xA L a2)++[.row sh xs 0]) []
theorem GenK.of {f:Nat}{args:List AV}{L:List Int}{a:Int}{sh:Sh}{Q:List PV→Int→Prop}(H:∀ (h:aA) (id:Nat),id<h.length→bA X f (.ref id 0::args) (h.set id (xA L a)) fun v1 h1 x1=>∃ xs a2,Q xs a2∧v1 = .own h.length xs.length 0 xs.length∧h1=h.set id (xA L a2)++[.row sh xs 0]∧x1=[]):GenK f args L a sh Q:=by
 intro h id hh;have hid:=rG hh
 have k:=H h id hid
 rw[SK hh]at k;obtain⟨v,h',x,⟨xs,a2,q,e0,e1,e2⟩,r⟩:=bA.one z0D k;subst e0;subst e1;subst e2
 exact⟨xs,a2,q,r⟩
end Go.Am
end
section
/- A text changed at random. -/
open Go
set_option linter.all false
namespace Go.Am
variable {L:List Int} {a:Int} {h l:aA} {id:Nat} {K:jA}
end Go.Am
end
section
/- Entries written. -/
open Go
set_option linter.all false
set_option maxRecDepth 100000
namespace Go.Am
variable {h:aA} {K:jA}
theorem z2d:∀ {rs:List Ent} {p:Option Ent},ZC p rs=0→∀ r∈rs,IB r=0
 | [],p,_,r,hr=>by cases hr
 | x::rs,p,hf,r,hr=>by
  have e:ZC p (x::rs)=(if IB x≠0 then IB x else if(p.elim false fun q=>decide (AD x q≤0))=true then 7 else ZC (some x) rs):=by cases p <;> rfl
  have hf':=hf
  rw[e]at hf';by_cases h1:IB x=0
  ·rw[if_neg (by simp [h1])]at hf'
   by_cases h2:(p.elim false fun q=>decide (AD x q≤0))=true
   ·rw[if_pos h2]at hf';exact absurd hf' (by decide)
   ·rw[if_neg h2]at hf'
    rcases List.mem_cons.1 hr with e|e
    ·rw[e];exact h1
    ·exact z2d hf' r e
  ·rw[if_pos h1]at hf';exact absurd hf' h1
theorem zd4 {rs:List Ent}(hf:eF rs=0):∀r∈rs,IB r=0:=by
 unfold eF at hf;split at hf
 ·cases hf
 split at hf
 ·rename_i h;exact absurd hf h
 ·rename_i h
  exact z2d (by simpa using h)
end Go.Am
end
section
/- A text taken line by line: base.Each,scanref2.Lines. -/
open Go
set_option linter.all false
namespace Go.Am
variable {h:aA} {K:jA}
end Go.Am
end
section
/- Faults read. -/
open Go
set_option linter.all false
namespace Go.Am
variable {h:aA} {K:jA}
end Go.Am
end
section
/- Lists of faults read. -/
open Go
set_option linter.all false
namespace Go.Am
variable {h:aA} {K:jA}
end Go.Am
end
section
/- fault.Read,scanref2.FaultsRead. -/
open Go
set_option linter.all false
namespace Go.Am
variable {h:aA} {K:jA}
end Go.Am
end
section
/- What is drawn: faults. -/
open Go
set_option linter.all false
namespace Go.Am
variable {L:List Int} {a:Int} {h l:aA} {id:Nat} {K:jA}
end Go.Am
end
section
/- Deleting faults: printed by program. -/
open Go
set_option linter.unusedSimpArgs false
namespace Go.Am
attribute [-go_sem] PV.cells splice
variable {h:aA} {K:jA}
attribute [-go_sem] AV.cells cut
attribute [go_sem] AV.cells cut
end Go.Am
end
section
/- What is drawn: lists of faults. -/
open Go
set_option linter.all false
namespace Go.Am
variable {L:List Int} {a:Int} {h l:aA} {id:Nat} {K:jA}
end Go.Am
end
section
/- Stable sorts of numbers: printed by program. -/
open Go
set_option linter.unusedSimpArgs false
namespace Go.Am
attribute [-go_sem] PV.cells splice
variable {h:aA} {K:jA}
end Go.Am
end
section
/- Faults compared;texts of faults drawn. -/
open Go
set_option linter.all false
namespace Go.Am
variable {L:List Int} {a:Int} {h:aA} {K:jA}
end Go.Am
end
section
/- Entries written,the reference;kinds read. -/
open Go
set_option linter.all false
set_option maxRecDepth 100000
namespace Go.Am
variable {h:aA} {K:jA}
end Go.Am
end
section
/- A line of an entry read: the program. -/
open Go
set_option linter.all false
set_option maxRecDepth 100000
namespace Go.Am
variable {h:aA} {K:jA}
end Go.Am
end
section
/- A line of an entry read: the reference. -/
open Go
set_option linter.all false
set_option maxRecDepth 100000
namespace Go.Am
variable {h:aA} {K:jA}
end Go.Am
end
section
/- Records asv texts,plainly: read both ways. -/
set_option linter.all false
namespace Go.Am
end Go.Am
end
section
/- Records read: a line,both ways. -/
open Go
set_option linter.all false
set_option maxRecDepth 100000
namespace Go.Am
variable {h:aA} {K:jA}
end Go.Am
end
section
/- Records read: the program's line. -/
open Go
set_option linter.all false
set_option maxRecDepth 100000
namespace Go.Am
variable {h:aA} {K:jA}
end Go.Am
end
section
/- Records read: all lines. -/
open Go
set_option linter.all false
set_option maxRecDepth 100000
namespace Go.Am
variable {h:aA} {K:jA}
end Go.Am
end
section
/- lot.Read,scanref2.RecordsRead. -/
open Go
set_option linter.all false
set_option maxRecDepth 100000
namespace Go.Am
variable {h:aA} {K:jA}
end Go.Am
end
section
/- scanref2.RecordsRead. -/
open Go
set_option linter.all false
set_option maxRecDepth 100000
namespace Go.Am
variable {h:aA} {K:jA}
end Go.Am
end
section
/- Entries read,both ways. -/
open Go
set_option linter.all false
set_option maxRecDepth 100000
namespace Go.Am
variable {h:aA} {K:jA}
end Go.Am
end
section
/- Entries drawn: their pieces. -/
open Go
set_option linter.all false
set_option maxRecDepth 100000
namespace Go.Am
variable {L:List Int} {a:Int} {h l:aA} {id:Nat} {K:jA}
attribute [-go_sem] tB
def brdN:List (List UInt8):=[[],[65],[98,49],[98,50],[98,51],[98,52]]
structure EntV (x:Ent):Prop where
 s:x.site.length≤1000
 b:x.board.length≤1000
 p:x.step.length≤1000
 o:x.of.length≤1000
 n : -100000000000000000≤x.no∧x.no≤100000000000000000
 t : -100000000000000000≤x.time∧x.time≤100000000000000000
 z:x.site≠[122,122]∧(x.time≤1000∨345686399999<x.time)
 w:x.board∈brdN
theorem EntV.ok {x:Ent}(v:EntV x):EntOk x:=⟨by have:=v.s;omega,by have:=v.b;omega,by have:=v.p;omega,by have:=v.o;omega⟩
end Go.Am
end
section
/- Entries drawn. -/
open Go
set_option linter.all false
set_option maxRecDepth 100000
namespace Go.Am
variable {L:List Int} {a:Int} {h l:aA} {id:Nat} {K:jA}
attribute [-go_sem] tB QA UA
end Go.Am
end
section
/- Entries drawn: all,right ones,texts. -/
open Go
set_option linter.all false
set_option maxRecDepth 100000
namespace Go.Am
variable {L:List Int} {a:Int} {h l:aA} {id:Nat} {K:jA}
attribute [-go_sem] tB QA UA
end Go.Am
end
section
/- The floor: its state;a board leaves its site. -/
open Go
set_option linter.all false
set_option maxRecDepth 100000
namespace Go.Am
variable {h:aA} {K:jA}
attribute [-go_sem] tB QA UA splice
attribute [local go_sem] rD nE JD KD oE NE pE qE rE OE PE QE RE SE TE UE
structure Flo where
 bs:oC
 sm:kD
 ck:Nat
 ends:List EndP
 runs:List RunP
 ref:List Int
 why:List Int
def Flo.P (S:Flo):FlP:=⟨asA S.bs,asS S.sm,S.ends,S.runs⟩
def EndP.pv (e:EndP):PV:=.agg [.str e.board,.str e.step,eI e.frm,eI e.til,.bool e.pass]
def RunP.pv (r:RunP):PV:=.agg [.str r.site,eI r.frm,eI r.til]
def wbx (h:aA)(steps:List Nm)(tries:Int)(a b c d:Nat):Obj:=.box [nC steps,AI tries,.mp (h.length+1),.mp (h.length+2),.own (h.length+3) a 0 a,.own (h.length+4) b 0 b,.own (h.length+5) c 0 c,.own (h.length+6) d 0 d]
def FS (h:aA)(fb:Obj)(steps:List Nm)(tries:Int)(S:Flo)(l:aA):aA:=
 FH h fb (FA PV.str bD (bC (h.length+8) S.bs)) (uC S.sm S.ck) (.row (some 5) (S.ends.map EndP.pv) 0) (.row (some 3) (S.runs.map RunP.pv) 0) (.row none (S.ref.map eI) 0) (.row none (S.why.map eI) 0)
  (wbx h steps tries S.ends.length S.runs.length S.ref.length S.why.length) (TA S.bs) l
def aF (site:Nm)(at_:Int)(r:RunP):RunP:=if r.site=site∧r.til<0 then { r with til:=at_ } else r
def xD (l:List RunP)(site:Nm)(at_:Int)(k:Nat):List RunP:=(l.take k).map (aF site at_)++l.drop k
theorem z9H (l:List RunP)(site:Nm)(at_:Int):xD l site at_ 0=l:=by simp [xD]
theorem z11 (l:List RunP)(site:Nm)(at_:Int)(k:Nat):(xD l site at_ k).length=l.length:=by simp [xD];omega
theorem z9I (l:List RunP)(site:Nm)(at_:Int):xD l site at_ l.length=nD l site at_:=by
 unfold xD nD;rw[List.take_length,List.drop_length,List.append_nil];rfl
theorem z10 {l:List RunP}{site:Nm}{at_:Int}{k:Nat}(hk:k<l.length):(xD l site at_ k)[k]?=some l[k]:=by
 unfold xD;rw[List.getElem?_append_right (by simp;omega)]
 have:k-((l.take k).map (aF site at_)).length=0:=by simp;omega
 rw[this,List.getElem?_drop];simp [hk]
theorem z12 {l:List RunP}{site:Nm}{at_:Int}{k:Nat}(hk:k<l.length):xD l site at_ (k+1)=(xD l site at_ k).set k (aF site at_ l[k]):=by
 unfold xD;rw[List.take_succ_eq_append_getElem hk,List.map_append,List.set_append_right _ _ (by simp;omega)]
 have:k-((l.take k).map (aF site at_)).length=0:=by simp;omega
 rw[this,List.drop_eq_getElem_cons (i:=k) hk,List.append_assoc];rfl
theorem z9J {l:List RunP}{site:Nm}{at_:Int}{k:Nat}(hk:k<l.length)(e:aF site at_ l[k]=l[k]):xD l site at_ (k+1)=xD l site at_ k:=by
 rw[z12 hk,e];apply List.ext_getElem?
 intro i;rw[List.getElem?_set];split
 ·rename_i hi;subst hi
  rw[z11,if_pos hk,z10 hk]
 ·rfl
def yE (m:kD)(k:Nm):kD:=match DD k m with
 | some i=>m.eraseIdx i
 | none=>m
theorem z1R {m:kD}{k:Nm}(hu:(m.map fun e=>e.1.1).Nodup):asS (yE m k)=HH (asS m) k∧((yE m k).map fun e=>e.1.1).Nodup:=by
 have main:yE m k=m.filter fun e=>!decide (e.1.1=k):=by
  unfold yE;induction m with
  | nil=>rfl
  | cons y r ih=>
   rw[List.map_cons,List.nodup_cons]at hu;have q:=ih hu.2
   unfold DD;rw[List.filter_cons];by_cases h:k=y.1.1
   ·rw[if_pos h]
    have:r.filter (fun e=>!decide (e.1.1=k))=r:=by
     rw[List.filter_eq_self];intro z hz;have:¬z.1.1=k:=fun e=>hu.1 (by rw[←h,←e];exact List.mem_map_of_mem hz)
     simp [this]
    rw[if_neg (by simp [h.symm]),this]
    rfl
   ·have hn:¬y.1.1=k:=fun z=>h z.symm
    rw[if_neg h,if_pos (by simp [hn]),←q]
    cases DD k r with
    | none=>rfl
    | some i=>rfl
 rw[main];constructor
 ·unfold asS HH
  rw[List.filter_map];rfl
 ·exact List.Nodup.sublist (List.Sublist.map _ List.filter_sublist) hu
theorem zfY {id:Nat}{hp:aA}{m:kD}{c:Nat}{k:Nm}(hh:hp[id]?=some (uC m c)) :
 gC (none,[2]) (.mp id) (AS k) hp=some (.und,hp.set id (uC (yE m k) c),[]):=by
 have e1:aC (none,[2]) (AS k)=some (.str k):=jF
 have e2:nB hp (.mp id)=some (id,m.map fun e=>(⟨.str e.1.1,AS e.1.2,e.2⟩:ME),c):=by simp only[nB,hh,uC]
 simp only[gC,e1,e2,fQ];unfold yE;cases hf:DD k m with
 | none=>
  have:hp.set id (uC m c)=hp:=zju hh
  rw[this]
 | some i=>
  simp only[uC];have e3:∀(m:kD) (i:Nat),(m.map fun e=>(⟨.str e.1.1,AS e.1.2,e.2⟩:ME)).eraseIdx i=(m.eraseIdx i).map fun e=>(⟨.str e.1.1,AS e.1.2,e.2⟩:ME):=by
   intro m;induction m with
   | nil=>intro i;rfl
   | cons y r ih=>
    intro i;cases i with
    | zero=>rfl
    | succ i=>simp only[List.map_cons,List.eraseIdx_cons_succ,ih i]
  rw[e3]
attribute [-go_sem] gC
set_option maxHeartbeats 4000000 in
theorem z5v (fb:Obj)(steps:List Nm)(tries:Int)(S:Flo)(l:aA)(i:Nat)(e:Ent × Sta)(hi:S.bs[i]?=some e)(hr:S.runs.length≤1000000)(at_:Int) :
 bA X UH [.ref (h.length+7) 0,.ref (qB h i) 0,AI at_] (FS h fb steps tries S l) K=K (.tup []) (FS h fb steps tries { S with bs:=S.bs.set i (e.1,{ e.2 with site:=[] }),sm:=yE S.sm e.2.site,runs:=nD S.runs e.2.site at_ } l) []:=by
 refine rule ?_;rw[z9w rfl];obtain⟨bs,sm,ck,ends,runs,ref,why⟩:=S;obtain⟨x,st,si,sp,ss,sf⟩:=e;dsimp only at hi hr ⊢;have gq:=fun(o0 o1 o2 o3 o4 o5 o6 o7:Obj) (l:aA)=>z0v (h:=h) (o0:=o0) (o1:=o1) (o2:=o2) (o3:=o3) (o4:=o4) (o5:=o5) (o6:=o6) (o7:=o7) (l:=l) hi
 have sq:=fun(o0 o1 o2 o3 o4 o5 o6 o7:Obj) (l:aA)=>z0w (h:=h) (o0:=o0) (o1:=o1) (o2:=o2) (o3:=o3) (o4:=o4) (o5:=o5) (o6:=o6) (o7:=o7) (l:=l) hi ⟨st,si,sp,[],sf⟩
 unfold Sta.bx at gq sq;dsimp only at gq sq;unfold FS wbx;dsimp only;simp only[yP,go_sem];refine SA (fun k:Nat=>⟨[(0,.ref (h.length+7) 0),(1,.ref (qB h i) 0),(2,AI at_),(11,AI runs.length),(12,AI k)],
  FH h fb (FA PV.str bD (bC (h.length+8) bs)) (uC sm ck) (.row (some 5) (ends.map EndP.pv) 0) (.row (some 3) ((xD runs ss at_ k).map RunP.pv) 0) (.row none (ref.map eI) 0) (.row none (why.map eI) 0)
   (.box [nC steps,AI tries,.mp (h.length+1),.mp (h.length+2),.own (h.length+3) ends.length 0 ends.length,.own (h.length+4) runs.length 0 runs.length,.own (h.length+5) ref.length 0 ref.length,.own (h.length+6) why.length 0 why.length]) (TA bs) l,[]⟩) (fun k=>k≤runs.length) (fun k=>runs.length-k) 0 (by rw[z9H];rfl) (by omega) ?_
 intro k hk;rcases Nat.lt_or_ge k runs.length with hlt|hge
 ·have w1:IntKind.i64.wrap ((k:Int)+1)=((k+1:Nat):Int):=yA _ (by omega) (by omega)
  have hl:=z11 runs ss at_ k
  have hg:((xD runs ss at_ k).map RunP.pv)[k]?=some (RunP.pv runs[k]):=by rw[List.getElem?_map,z10 hlt];rfl
  have c0:BA none 0 (RunP.pv runs[k])=some (.str runs[k].site):=rfl
  have c2:BA none 2 (RunP.pv runs[k])=some (eI runs[k].til):=rfl
  have hs1:=z12 (l:=runs) (site:=ss) (at_:=at_) hlt
  have hs2:=fun e=>z9J (l:=runs) (site:=ss) (at_:=at_) hlt e
  by_cases h1:runs[k].site=ss
  ·by_cases h2:runs[k].til<0
   ·have e1:aF ss at_ runs[k]=⟨runs[k].site,runs[k].frm,at_⟩:=by unfold aF;rw[if_pos ⟨h1,h2⟩]
    rw[e1]at hs1;have fp:RunP.pv runs[k] = .agg [.str runs[k].site,eI runs[k].frm,eI runs[k].til]:=rfl
    rw[fp]at hg c0 c2;simp only[go_sem,hlt,gq,hl,hg,c0,c2,h1,h2,w1,splice];refine⟨k+1,?_,by omega,by omega⟩
    rw[hs1,List.map_set,←h1];rfl
   ·have e1:aF ss at_ runs[k]=runs[k]:=by unfold aF;rw[if_neg (by intro z;exact h2 z.2)]
    simp only[go_sem,hlt,gq,hl,hg,c0,c2,h1,h2,w1];exact⟨k+1,by rw[hs2 e1],by omega,by omega⟩
  ·have e1:aF ss at_ runs[k]=runs[k]:=by unfold aF;rw[if_neg (by intro z;exact h1 z.1)]
   simp only[go_sem,hlt,gq,hl,hg,c0,c2,h1,w1];exact⟨k+1,by rw[hs2 e1],by omega,by omega⟩
 ·have ek:k=runs.length:=by omega
  subst ek;rw[z9I];have md:=fun(o0 o1 o3 o4 o5 o6 o7:Obj) (B l:aA)=>zfY (id:=h.length+2) (hp:=FH h o0 o1 (uC sm ck) o3 o4 o5 o6 o7 B l) (m:=sm) (c:=ck) (k:=ss) KD
  have s3:∀v:AV,splice [AI st,AI si,AS sp,AS ss,AI sf] 3 [v]=[AI st,AI si,AS sp,v,AI sf]:=fun _=>rfl
  have cl:(nD runs ss at_).length=runs.length:=by simp [nD]
  have ml:=zM (h.length+8) bs i _ ⟨st,si,sp,[],sf⟩ hi
  have bl:(TA (bs.set i (x,⟨st,si,sp,[],sf⟩))).length=(TA bs).length:=by rw[XC,XC,List.length_set]
  simp only[go_sem,Nat.lt_irrefl,gq,md,s3,sq,cl,ml];exact List.take_of_length_le (by rw[rD,bl];exact Nat.le_refl _)
end Go.Am
end
section
/- The floor: a start,a finish. -/
open Go
set_option linter.all false
set_option maxRecDepth 100000
namespace Go.Am
variable {h:aA} {K:jA}
attribute [-go_sem] tB QA UA gC
attribute [local go_sem] rD nE JD KD oE NE pE qE rE OE PE QE RE SE TE UE
theorem zgj {id:Nat}{hp:aA}{m:kD}{c:Nat}{k v:Nm}(hh:hp[id]?=some (uC m c))(hn:rA (asS m) k=none) :
 UA (none,[2]) (.mp id) (AS k) (AS v) hp=some (.und,hp.set id (uC (m++[((k,v),c)]) (c+1)),[]):=by
 have e1:aC (none,[2]) (AS k)=some (.str k):=jF
 have e2:nB hp (.mp id)=some (id,m.map fun e=>(⟨.str e.1.1,AS e.1.2,e.2⟩:ME),c):=by simp only[nB,hh,uC]
 have e3:uG (AS v)=true:=rfl
 have e4:DD k m=none:=by
  cases hf:DD k m with
  | none=>rfl
  | some i=>
   exfalso;have h1:=QW k m
   rw[hf,Option.bind_some]at h1;obtain⟨y,hy⟩:=Option.isSome_iff_exists.1 (RW k m i hf);rw[hy]at h1;have h2:(m.find? fun e=>decide (e.1.1=k))=some y:=h1.symm
   unfold rA asS at hn;rw[List.find?_map,Option.map_map,Option.map_eq_none_iff]at hn;have h3:(m.find? fun e=>decide (e.1.1=k))=none:=hn
   rw[h3]at h2;cases h2
 simp only[UA,e1,e2,e3,fQ,e4];simp [uC,mB,AV.top]
theorem YT {bs:oC}{i:Nat}{x0:Ent}{st:Sta}(hi:bs[i]?=some (x0,st)):∃Bx:Sta→aA,TA bs=Bx st∧(∀s,TA (bs.set i (x0,s))=Bx s)∧(∀s,(Bx s).length=3*bs.length) ∧
 (∀a b c d e o0 o1 o2 o3 o4 o5 o6 o7 l,(FH h o0 o1 o2 o3 o4 o5 o6 o7 (Bx ⟨a,b,c,d,e⟩) l)[qB h i]?=some (.box [AI a,AI b,AS c,AS d,AI e])) ∧
 (∀s a b c d e o0 o1 o2 o3 o4 o5 o6 o7 l,(FH h o0 o1 o2 o3 o4 o5 o6 o7 (Bx s) l).set (qB h i) (.box [AI a,AI b,AS c,AS d,AI e])=FH h o0 o1 o2 o3 o4 o5 o6 o7 (Bx ⟨a,b,c,d,e⟩) l) ∧
 (∀s o o0 o1 o2 o3 o4 o5 o6 o7 l,(FH h o0 o1 o2 o3 o4 o5 o6 o7 (Bx s) (l++[o]))[h.length+(8+3*bs.length+l.length)]?=some o) ∧
 (∀s o0 o1 o2 o3 o4 o5 o6 o7 l l2,(FH h o0 o1 o2 o3 o4 o5 o6 o7 (Bx s) (l++l2)).take (h.length+(8+3*bs.length+l.length))=FH h o0 o1 o2 o3 o4 o5 o6 o7 (Bx s) l):=by
 have hl:i<bs.length:=by
  rcases Nat.lt_or_ge i bs.length with h|h
  ·exact h
  ·rw[List.getElem?_eq_none h]at hi;cases hi
 have hs:∀s,(bs.set i (x0,s))[i]?=some (x0,s):=fun s=>by rw[List.getElem?_set];simp [hl]
 have hlen:∀s,(TA (bs.set i (x0,s))).length=3*bs.length:=fun s=>by rw[XC,List.length_set]
 refine⟨fun s=>TA (bs.set i (x0,s)),?_,fun s=>rfl,hlen,fun a b c d e o0 o1 o2 o3 o4 o5 o6 o7 l=>?_,fun s a b c d e o0 o1 o2 o3 o4 o5 o6 o7 l=>?_,fun s o o0 o1 o2 o3 o4 o5 o6 o7 l=>?_,fun s o0 o1 o2 o3 o4 o5 o6 o7 l l2=>?_⟩
 ·have:bs.set i (x0,st)=bs:=by
   apply List.ext_getElem?
   intro j;rw[List.getElem?_set];split
   ·rename_i e;subst e;rw[hi]
   ·rfl
  dsimp only;rw[this]
 ·exact z0v (hs ⟨a,b,c,d,e⟩)
 ·have:=z0w (h:=h) (o0:=o0) (o1:=o1) (o2:=o2) (o3:=o3) (o4:=o4) (o5:=o5) (o6:=o6) (o7:=o7) (l:=l) (hs s) ⟨a,b,c,d,e⟩
  rw[List.set_set]at this;exact this
 ·have:=BS (h:=h) (o0:=o0) (o1:=o1) (o2:=o2) (o3:=o3) (o4:=o4) (o5:=o5) (o6:=o6) (o7:=o7) (B:=TA (bs.set i (x0,s))) (l:=l++[o]) l.length
  rw[hlen s]at this;rw[this];simp
 ·have:=qN (h:=h) (o0:=o0) (o1:=o1) (o2:=o2) (o3:=o3) (o4:=o4) (o5:=o5) (o6:=o6) (o7:=o7) (B:=TA (bs.set i (x0,s))) (l:=l++l2) l.length
  rw[hlen s]at this;rw[this];simp
def Flo.start (S:Flo)(i:Nat)(x0:Ent)(st:Sta)(x:Ent):Flo:=
 { S with bs:=S.bs.set i (x0,⟨2,x.time,st.step,x.site,st.failed⟩),sm:=S.sm++[((x.site,x.board),S.ck)],ck:=S.ck+1,runs:=S.runs++[⟨x.site,x.time,-1⟩] }
def Flo.startR (S:Flo)(i:Nat)(x0:Ent)(st:Sta)(x:Ent):Int×Flo:=
 if st.state≠1 then(11,S) else if x.step≠st.step then(3,S) else if(rA (asS S.sm) x.site).isSome=true then(12,S) else(0,S.start i x0 st x)
theorem esc7 (h:aA):∀k n o m,k<7→mB (h.length+7) (.own (h.length+k) n o m)=[]:=fun k n o m hk=>by unfold mB;rw[lS,if_neg (by omega)]
set_option maxHeartbeats 4000000 in
theorem zjc (fb:Obj)(steps:List Nm)(tries:Int)(S:Flo)(l:aA)(i:Nat)(x0:Ent)(st:Sta)(hi:S.bs[i]?=some (x0,st))(hr:S.runs.length≤1000000)(x:Ent) :
 bA X HJ [.ref (h.length+7) 0,.ref (qB h i) 0,.p x.pv] (FS h fb steps tries S l) K =
  K (AI (S.startR i x0 st x).1) (FS h fb steps tries (S.startR i x0 st x).2 l) []:=by
 refine rule ?_;rw[z9y rfl];obtain⟨Bx,b1,b2,b3,G,Sq,T,Tk⟩:=YT (h:=h) hi;obtain⟨bs,sm,ck,ends,runs,ref,why⟩:=S;obtain⟨s1,s2,s3,s4,s5⟩:=st;obtain⟨site,no,time,kind,board,step,of,other⟩:=x;unfold Flo.startR FS wbx Flo.start;dsimp only at hi hr b1 b2 b3 T Tk ⊢;have ml:=fun s=>zM (h.length+8) bs i _ s hi
 rw[b1];have lk:=fun(o0 o1 o3 o4 o5 o6 o7:Obj) (B l:aA)=>zfR (id:=h.length+2) (hp:=FH h o0 o1 (uC sm ck) o3 o4 o5 o6 o7 B l) (m:=sm) (c:=ck) (k:=site) KD
 have m1:runs.length+1≤JA:=by unfold JA;omega
 have e5:=fun n o m=>esc7 h 4 n o m (by decide)
 by_cases h1:s1=1
 ·subst h1
  rw[if_neg (by simp)]
  by_cases h2:step=s3
  ·subst h2
   rw[if_neg (by simp)]
   cases hg:rA (asS sm) site with
   | some v=>
    rw[if_pos (show(some v).isSome=true from rfl)]
    rw[hg]at lk;simp only[Option.isSome_some,Option.getD_some]at lk;simp only[GH,Ent.pv,go_sem,b3,T,G,lk];rw[b1];exact Tk _ _ _ _ _ _ _ _ _ _ _
   | none=>
    rw[if_neg (show ¬(none:Option Nm).isSome=true by simp)]
    rw[hg]at lk;have up:=fun(o0 o1 o3 o4 o5 o6 o7:Obj) (B l:aA)=>zgj (id:=h.length+2) (hp:=FH h o0 o1 (uC sm ck) o3 o4 o5 o6 o7 B l) (m:=sm) (c:=ck) (k:=site) (v:=board) KD hg
    simp only[Option.isSome_none,Option.getD_none]at lk;simp only[GH,Ent.pv,go_sem,b3,T,G,lk,up,Sq,splice,m1,e5];rw[Tk,b2,ml,List.map_append];rfl
  ·rw[if_pos h2]
   simp only[GH,Ent.pv,go_sem,b3,T,G,lk,h2];rw[b1];exact Tk _ _ _ _ _ _ _ _ _ _ _
 ·rw[if_pos h1]
  simp only[GH,Ent.pv,go_sem,b3,T,G,lk,h1];rw[b1];exact Tk _ _ _ _ _ _ _ _ _ _ _
end Go.Am
end
section
/- The floor: a run that ends. -/
open Go
set_option linter.all false
set_option maxRecDepth 100000
namespace Go.Am
variable {h:aA} {K:jA}
attribute [-go_sem] tB QA UA gC
attribute [local go_sem] rD nE JD KD oE NE pE qE rE OE PE QE RE SE TE UE
theorem ziO (fb:Obj)(steps:List Nm)(tries:Int)(hst:steps.length≤1000)(k:Nm)(o1 o2 o3 o4 o5 o6:Obj)(r1 r2 r3 r4 r5 r6:AV)(B l:aA) :
 bA X FJ [.ref (h.length+7) 0,AS k] (FH h fb o1 o2 o3 o4 o5 o6 (.box [nC steps,AI tries,r1,r2,r3,r4,r5,r6]) B l) K=K (AI (if steps.findIdx (fun y=>decide (y=k))<steps.length then(steps.findIdx (fun y=>decide (y=k)):Int) else -1)) (FH h fb o1 o2 o3 o4 o5 o6 (.box [nC steps,AI tries,r1,r2,r3,r4,r5,r6]) B l) []:=by
 refine rule ?_;rw[z9u rfl];have q:=fun h K=>z0y (h:=h) (K:=K) steps (strS _) k (by omega)
 simp only[xP,go_sem,q];exact List.take_of_length_le (by rw[rD];exact Nat.le_refl _)
def Flo.finish (S:Flo)(steps:List Nm)(tries:Int)(i:Nat)(x0:Ent)(st:Sta)(x:Ent):Flo:=
 { S with bs:=S.bs.set i (x0,lE steps tries st x.time (decide (x.kind=3))),sm:=yE S.sm st.site,ends:=S.ends++[⟨x.board,st.step,st.since,x.time,decide (x.kind=3)⟩],runs:=nD S.runs st.site x.time }
def Flo.finishR (S:Flo)(steps:List Nm)(tries:Int)(i:Nat)(x0:Ent)(st:Sta)(x:Ent):Int×Flo:=
 if st.state≠2 then(11,S) else if st.site≠x.site then(13,S) else(0,S.finish steps tries i x0 st x)
set_option maxHeartbeats 8000000 in
theorem ziN (fb:Obj)(steps:List Nm)(tries:Int)(hst:steps.length≤1000)(S:Flo)(l:aA)(i:Nat)(x0:Ent)(st:Sta)(hi:S.bs[i]?=some (x0,st))(hr:S.runs.length≤1000000)(he:S.ends.length≤1000000)(hs:st.state=2→st.step∈steps)(hf:0≤st.failed∧st.failed≤1000000)(x:Ent) :
 bA X GJ [.ref (h.length+7) 0,.ref (qB h i) 0,.p x.pv] (FS h fb steps tries S l) K =
  K (AI (S.finishR steps tries i x0 st x).1) (FS h fb steps tries (S.finishR steps tries i x0 st x).2 l) []:=by
 refine rule ?_;rw[z9v rfl];obtain⟨Bx,b1,b2,b3,G,Sq,T,Tk⟩:=YT (h:=h) hi;obtain⟨bs,sm,ck,ends,runs,ref,why⟩:=S;obtain⟨s1,s2,s3,s4,s5⟩:=st;have lv:=fun K=>z5v (h:=h) (K:=K) fb steps tries ⟨bs,sm,ck,ends++[⟨x.board,s3,s2,x.time,decide (x.kind=3)⟩],runs,ref,why⟩ (l++[x.bx]) i _ hi hr x.time
 have ml:=fun s=>zM (h.length+8) bs i _ s hi
 obtain⟨site,no,time,kind,board,step,of,other⟩:=x;unfold FS wbx at lv;unfold Flo.finishR FS wbx Flo.finish;dsimp only at hi hr he hs hf b1 b2 b3 T Tk ml lv ⊢;rw[b1,b2,ml]at lv;rw[b1];have m1:ends.length+1≤JA:=by unfold JA;omega
 have e3:=fun n o m=>esc7 h 3 n o m (by decide)
 have ev:∀e:EndP,EndP.pv e = .agg [.str e.board,.str e.step,eI e.frm,eI e.til,.bool e.pass]:=fun _=>rfl
 have cl:(nD runs s4 time).length=runs.length:=by simp [nD]
 simp only[List.map_append,List.map_cons,List.map_nil,List.length_append,List.length_cons,List.length_nil,Nat.zero_add,ev,cl,Ent.bx]at lv;by_cases h1:s1=2
 ·subst h1
  rw[if_neg (by simp)]
  by_cases h2:s4=site
  ·subst h2
   rw[if_neg (by simp)]
   by_cases k3:kind=3
   ·subst k3
    have hin:=hs rfl
    obtain⟨j,hj⟩:∃j,steps.findIdx (fun y=>decide (y=s3))=j:=⟨_,rfl⟩
    have jl:j<steps.length:=by rw[←hj];exact List.findIdx_lt_length_of_exists ⟨s3,hin,by simp⟩
    have at1:=fun(o1 o2 o3 o4 o5 o6:Obj) (r1 r2 r3 r4 r5 r6:AV) (B l:aA) K=>ziO (h:=h) (K:=K) fb steps tries hst s3 o1 o2 o3 o4 o5 o6 r1 r2 r3 r4 r5 r6 B l
    rw[hj,if_pos jl]at at1;have w1:IntKind.i64.wrap ((j:Int)+1)=((j+1:Nat):Int):=yA _ (by omega) (by omega)
    unfold lE;rw[if_pos (by simp),hj]
    simp only[decide_true]at lv;by_cases hl:j+1=steps.length
    ·rw[if_pos hl]
     have hl':((j+1:Nat):Int)=(steps.length:Int):=by omega
     simp only[eG,Ent.pv,go_sem,b3,T,G,Sq,splice,m1,e3,↓lv,lv,↓at1,at1,w1,eq_true hl'];rw[Tk,b2,ml,List.map_append,cl];rfl
    ·rw[if_neg hl]
     have hl':¬((j+1:Nat):Int)=(steps.length:Int):=by omega
     have hlt:j+1<steps.length:=by omega
     have gs:=dB PV.str hlt
     have cw:∀v:List UInt8,BA none 0 (PV.str v)=some (PV.str v):=fun _=>rfl
     have gd:(steps[j+1]?).getD []=steps[j+1]:=by rw[List.getElem?_eq_getElem hlt];rfl
     rw[gd];simp only[eG,Ent.pv,go_sem,b3,T,G,Sq,splice,m1,e3,↓lv,lv,↓at1,at1,w1,hl',gs,cw,hlt];rw[Tk,b2,ml,List.map_append,cl];rfl
   ·have w1:IntKind.i64.wrap (s5+1)=s5+1:=yA _ (by omega) (by omega)
    unfold lE;rw[if_neg (by simp [k3])]
    rw[decide_eq_false k3]at lv ⊢;by_cases ht:s5+1=tries
    ·rw[if_pos ht]
     simp only[eG,Ent.pv,go_sem,b3,T,G,Sq,splice,m1,e3,↓lv,lv,k3,w1,eq_true ht];rw[Tk,b2,ml,List.map_append,cl];rfl
    ·rw[if_neg ht]
     simp only[eG,Ent.pv,go_sem,b3,T,G,Sq,splice,m1,e3,↓lv,lv,k3,w1,ht];rw[Tk,b2,ml,List.map_append,cl];rfl
  ·rw[if_pos h2]
   simp only[eG,Ent.pv,go_sem,b3,T,G,h2];rw[b1];exact Tk _ _ _ _ _ _ _ _ _ _ _
 ·rw[if_pos h1]
  simp only[eG,Ent.pv,go_sem,b3,T,G,h1];rw[b1];exact Tk _ _ _ _ _ _ _ _ _ _ _
end Go.Am
end
section
/- The floor: an entry taken. -/
open Go
set_option linter.all false
set_option maxRecDepth 100000
namespace Go.Am
variable {h:aA} {K:jA}
attribute [-go_sem] tB QA UA gC
attribute [local go_sem] rD nE JD KD oE NE pE qE rE OE PE QE RE SE TE UE
def Flo.put (S:Flo)(i:Nat)(x0:Ent)(st:Sta):Flo:={ S with bs:=S.bs.set i (x0,st) }
def Flo.old (S:Flo)(steps:List Nm)(tries:Int)(x:Ent)(i:Nat)(x0:Ent)(st:Sta):Int×Flo:=
 if x.kind=2 then S.startR i x0 st x
 else if x.kind=3∨x.kind=4 then S.finishR steps tries i x0 st x
 else if x.kind=5 then(if st.state≠3 then(11,S) else(0,S.put i x0 ⟨1,x.time,st.step,st.site,st.failed⟩))
 else if st.state=4∨st.state=5 then(11,S)
 else if st.state=2 then(0,{ S with bs:=S.bs.set i (x0,⟨5,x.time,st.step,[],st.failed⟩),sm:=yE S.sm st.site,runs:=nD S.runs st.site x.time })
 else(0,S.put i x0 ⟨5,x.time,st.step,st.site,st.failed⟩)
theorem zeX {k:Nm}:∀{bs:oC} {i:Nat},ixB k bs=some i→∃e,bs[i]?=some e:=fun {bs i} h=>by
 obtain⟨e,h1,_⟩:=(iX k bs).2 i h;exact⟨e,h1⟩
theorem z4I (h:aA)(i:Nat):bD (h.length+8+(3*i+2)) = .ref (qB h i) 0:=by unfold bD qB;rw[Nat.add_assoc]
set_option maxHeartbeats 8000000 in
theorem zjg (fb:Obj)(steps:List Nm)(tries:Int)(hst:steps.length≤1000)(S:Flo)(l:aA)(i:Nat)(x0:Ent)(st:Sta)(x:Ent)(hx:ixB x.board S.bs=some i)(hi:S.bs[i]?=some (x0,st))(hr:S.runs.length≤1000000)(he:S.ends.length≤1000000)(hs:st.state=2→st.step∈steps)(hf:0≤st.failed∧st.failed≤1000000)(hk:x.kind≠1) :
 bA X EF [.ref (h.length+7) 0,.p x.pv] (FS h fb steps tries S l) K=K (AI (S.old steps tries x i x0 st).1) (FS h fb steps tries (S.old steps tries x i x0 st).2 l) []:=by
 refine rule ?_;rw[aO rfl];have sS:=fun K=>zjc (h:=h) (K:=K) fb steps tries S (l++[x.bx]) i x0 st hi hr x
 have sF:=fun K=>ziN (h:=h) (K:=K) fb steps tries hst S (l++[x.bx]) i x0 st hi hr he hs hf x
 have lv:=fun K=>z5v (h:=h) (K:=K) fb steps tries S (l++[x.bx]) i _ hi hr x.time
 have tkS:∀S',S'.bs.length=S.bs.length→(FS h fb steps tries S' (l++[x.bx])).take (h.length+(8+3*S.bs.length+l.length))=FS h fb steps tries S' l:=fun S' hl=>by
  unfold FS;have:=qN (h:=h) (B:=TA S'.bs) (l:=l++[x.bx]) (o0:=fb) (o1:=FA PV.str bD (bC (h.length+8) S'.bs)) (o2:=uC S'.sm S'.ck) (o3:=.row (some 5) (S'.ends.map EndP.pv) 0) (o4:=.row (some 3) (S'.runs.map RunP.pv) 0) (o5:=.row none (S'.ref.map eI) 0) (o6:=.row none (S'.why.map eI) 0) (o7:=wbx h steps tries S'.ends.length S'.runs.length S'.ref.length S'.why.length) l.length;rw[XC,hl]at this;rw[this];simp
 have lenS:∀r,(S.startR i x0 st x)=r→r.2.bs.length=S.bs.length:=fun r hr=>by
  subst hr;unfold Flo.startR Flo.start
  split
  ·rfl
  split
  ·rfl
  split
  ·rfl
  ·simp
 have lenF:∀r,(S.finishR steps tries i x0 st x)=r→r.2.bs.length=S.bs.length:=fun r hr=>by
  subst hr;unfold Flo.finishR Flo.finish
  split
  ·rfl
  split
  ·rfl
  ·simp
 have lk:=fun(o0 o2 o3 o4 o5 o6 o7:Obj) (B l:aA)=>tG (kk:=(none,[2])) (k:=x.board) (h:=FH h o0 (FA PV.str bD (bC (h.length+8) S.bs)) o2 o3 o4 o5 o6 o7 B l) (id:=h.length+1) WG JD jF (ok:=false) (z:=.nilp)
 rw[dQ,hx]at lk;simp only[Option.map_some,Option.getD_some,z4I,cond_false]at lk;generalize hR:S.startR i x0 st x=R1 at *;generalize hF:S.finishR steps tries i x0 st x=R2 at *;have tk1:=tkS R1.2 (lenS R1 rfl)
 have tk2:=tkS R2.2 (lenF R2 rfl)
 obtain⟨Bx,b1,b2,b3,G,Sq,T,Tk⟩:=YT (h:=h) hi;obtain⟨H1,hH1⟩:∃H,FS h fb steps tries R1.2 (l++[x.bx])=H:=⟨_,rfl⟩;obtain⟨H2,hH2⟩:∃H,FS h fb steps tries R2.2 (l++[x.bx])=H:=⟨_,rfl⟩;rw[hH1]at sS tk1;rw[hH2]at sF tk2;have ml:=fun s=>zM (h.length+8) S.bs i _ s hi
 have cl:(nD S.runs st.site x.time).length=S.runs.length:=by simp [nD]
 unfold FS wbx Ent.bx at sS sF lv;dsimp only at lv ml;rw[b1]at sS sF;rw[b1,b2,ml,cl]at lv;simp only[Ent.pv]at sS sF;have e1:∀v:AV,splice [AI st.state,AI st.since,AS st.step,AS st.site,AI st.failed] 0 [v]=[v,AI st.since,AS st.step,AS st.site,AI st.failed]:=fun _=>rfl
 have G':=G st.state st.since st.step st.site st.failed
 have est:(⟨st.state,st.since,st.step,st.site,st.failed⟩:Sta)=st:=rfl
 rw[est]at G';by_cases k2:x.kind=2
 ·have e:S.old steps tries x i x0 st=R1:=by unfold Flo.old;rw[if_pos k2,hR]
  rw[e];obtain⟨G1,hG1⟩:∃H,FS h fb steps tries R1.2 l=H:=⟨_,rfl⟩;rw[hG1]at tk1 ⊢;unfold FS wbx;rw[b1];simp only[yD,Ent.pv,go_sem,b3,T,lk,hk,eq_true k2,↓sS,sS];exact tk1
 by_cases k34:x.kind=3∨x.kind=4
 ·have e:S.old steps tries x i x0 st=R2:=by unfold Flo.old;rw[if_neg k2,if_pos k34,hF]
  rw[e];obtain⟨G1,hG1⟩:∃H,FS h fb steps tries R2.2 l=H:=⟨_,rfl⟩;rw[hG1]at tk2 ⊢;unfold FS wbx;rw[b1];rcases k34 with k3|k4
  ·simp only[yD,Ent.pv,go_sem,b3,T,lk,hk,k2,eq_true k3,↓sF,sF]
   exact tk2
  ·have k3:¬x.kind=3:=by omega
   simp only[yD,Ent.pv,go_sem,b3,T,lk,hk,k2,k3,eq_true k4,↓sF,sF];exact tk2
 have k3:¬x.kind=3:=fun z=>k34 (.inl z)
 have k4:¬x.kind=4:=fun z=>k34 (.inr z)
 by_cases k5:x.kind=5
 ·by_cases h3:st.state=3
  ·have e:S.old steps tries x i x0 st=(0,S.put i x0 ⟨1,x.time,st.step,st.site,st.failed⟩):=by unfold Flo.old;rw[if_neg k2,if_neg k34,if_pos k5,if_neg (by simp [h3])]
   rw[e];unfold Flo.put FS wbx;dsimp only;rw[b1];simp only[yD,Ent.pv,go_sem,b3,T,lk,hk,k2,k3,k4,eq_true k5,G',G,Sq,splice,eq_true h3];rw[Tk,b2,ml]
  ·have e:S.old steps tries x i x0 st=(11,S):=by unfold Flo.old;rw[if_neg k2,if_neg k34,if_pos k5,if_pos h3]
   rw[e];unfold FS wbx;dsimp only;rw[b1];simp only[yD,Ent.pv,go_sem,b3,T,lk,hk,k2,k3,k4,eq_true k5,G',h3];exact Tk _ _ _ _ _ _ _ _ _ _ _
 by_cases h45:st.state=4∨st.state=5
 ·have e:S.old steps tries x i x0 st=(11,S):=by unfold Flo.old;rw[if_neg k2,if_neg k34,if_neg k5,if_pos h45]
  rw[e];unfold FS wbx;dsimp only;rw[b1];rcases h45 with h4|h5
  ·simp only[yD,Ent.pv,go_sem,b3,T,lk,hk,k2,k3,k4,k5,G',eq_true h4]
   exact Tk _ _ _ _ _ _ _ _ _ _ _
  ·have h4:¬st.state=4:=by omega
   simp only[yD,Ent.pv,go_sem,b3,T,lk,hk,k2,k3,k4,k5,G',h4,eq_true h5];exact Tk _ _ _ _ _ _ _ _ _ _ _
 have h4:¬st.state=4:=fun z=>h45 (.inl z)
 have h5:¬st.state=5:=fun z=>h45 (.inr z)
 by_cases h2:st.state=2
 ·have e:S.old steps tries x i x0 st=(0,{ S with bs:=S.bs.set i (x0,⟨5,x.time,st.step,[],st.failed⟩),sm:=yE S.sm st.site,runs:=nD S.runs st.site x.time }):=by unfold Flo.old;rw[if_neg k2,if_neg k34,if_neg k5,if_neg h45,if_pos h2]
  rw[e];unfold FS wbx;dsimp only;rw[b1];simp only[yD,Ent.pv,go_sem,b3,T,lk,hk,k2,k3,k4,k5,G',G,Sq,splice,h4,h5,eq_true h2,↓lv,lv];rw[Tk,b2,ml,cl]
 ·have e:S.old steps tries x i x0 st=(0,S.put i x0 ⟨5,x.time,st.step,st.site,st.failed⟩):=by unfold Flo.old;rw[if_neg k2,if_neg k34,if_neg k5,if_neg h45,if_neg h2]
  rw[e];unfold Flo.put FS wbx;dsimp only;rw[b1];simp only[yD,Ent.pv,go_sem,b3,T,lk,hk,k2,k3,k4,k5,G',G,Sq,splice,h4,h5,h2];rw[Tk,b2,ml]
end Go.Am
end
section
/- The floor: a board that IP;what an entry does,plainly. -/
open Go
set_option linter.all false
set_option maxRecDepth 100000
namespace Go.Am
variable {h:aA} {K:jA}
attribute [-go_sem] tB QA UA gC
attribute [local go_sem] rD nE JD KD oE NE pE qE rE OE PE QE RE SE TE UE
theorem aL (fb:Obj)(steps:List Nm)(tries:Int)(S:Flo)(l l2:aA):(FS h fb steps tries S (l++l2)).take (h.length+(8+3*S.bs.length+l.length))=FS h fb steps tries S l:=by
 unfold FS;have:=qN (h:=h) (B:=TA S.bs) (l:=l++l2) (o0:=fb) (o1:=FA PV.str bD (bC (h.length+8) S.bs)) (o2:=uC S.sm S.ck) (o3:=.row (some 5) (S.ends.map EndP.pv) 0) (o4:=.row (some 3) (S.runs.map RunP.pv) 0) (o5:=.row none (S.ref.map eI) 0) (o6:=.row none (S.why.map eI) 0) (o7:=wbx h steps tries S.ends.length S.runs.length S.ref.length S.why.length) l.length;rw[XC]at this;rw[this];simp
theorem nX (S:Flo)(k:Nm)(o0 o2 o3 o4 o5 o6 o7:Obj)(B l:aA):QA (none,[2]) false .nilp (.mp (h.length+1)) (AS k) (FH h o0 (FA PV.str bD (bC (h.length+8) S.bs)) o2 o3 o4 o5 o6 o7 B l)=some (match ixB k S.bs with|some i=>.ref (qB h i) 0|none=>.nilp):=by
 have lk:=tG (kk:=(none,[2])) (k:=k) (h:=FH h o0 (FA PV.str bD (bC (h.length+8) S.bs)) o2 o3 o4 o5 o6 o7 B l) (id:=h.length+1) WG JD jF (ok:=false) (z:=.nilp)
 rw[dQ]at lk;rw[lk];cases ixB k S.bs with
 | none=>rfl
 | some i=>simp only[Option.map_some,Option.getD_some,z4I,cond_false]
theorem tl1 {o0 o1 o2 o3 o4 o5 o6 o7 o:Obj}{bs:oC}{l:aA}:(FH h o0 o1 o2 o3 o4 o5 o6 o7 (TA bs) (l++[o]))[h.length+(8+3*bs.length+l.length)]?=some o:=by
 have:=BS (h:=h) (o0:=o0) (o1:=o1) (o2:=o2) (o3:=o3) (o4:=o4) (o5:=o5) (o6:=o6) (o7:=o7) (B:=TA bs) (l:=l++[o]) l.length;rw[XC]at this;rw[this];simp
theorem zjf (fb:Obj)(steps:List Nm)(tries:Int)(S:Flo)(l:aA)(x:Ent)(hx:ixB x.board S.bs=none)(hk:x.kind≠1) :
 bA X EF [.ref (h.length+7) 0,.p x.pv] (FS h fb steps tries S l) K=K (AI 8) (FS h fb steps tries S l) []:=by
 refine rule ?_;rw[aO rfl];have lk:=fun(o0 o2 o3 o4 o5 o6 o7:Obj) (B l:aA)=>nX (h:=h) S x.board o0 o2 o3 o4 o5 o6 o7 B l
 rw[hx]at lk;have tk:=aL (h:=h) fb steps tries S l [x.bx]
 obtain⟨G1,hG1⟩:∃H,FS h fb steps tries S l=H:=⟨_,rfl⟩;rw[hG1]at tk ⊢;rw[←hG1];unfold Ent.bx at tk;unfold FS wbx at tk ⊢;dsimp only at lk;simp only[yD,Ent.pv,go_sem,XC,tl1,lk,hk];unfold FS wbx at hG1;rw[hG1];exact tk
theorem zji (fb:Obj)(steps:List Nm)(tries:Int)(S:Flo)(l:aA)(x:Ent)(i:Nat)(hx:ixB x.board S.bs=some i)(hk:x.kind=1) :
 bA X EF [.ref (h.length+7) 0,.p x.pv] (FS h fb steps tries S l) K=K (AI 6) (FS h fb steps tries S l) []:=by
 refine rule ?_;rw[aO rfl];have lk:=fun(o0 o2 o3 o4 o5 o6 o7:Obj) (B l:aA)=>nX (h:=h) S x.board o0 o2 o3 o4 o5 o6 o7 B l
 rw[hx]at lk;have tk:=aL (h:=h) fb steps tries S l [x.bx]
 obtain⟨G1,hG1⟩:∃H,FS h fb steps tries S l=H:=⟨_,rfl⟩;rw[hG1]at tk ⊢;rw[←hG1];unfold Ent.bx at tk;unfold FS wbx at tk ⊢;dsimp only at lk;simp only[yD,Ent.pv,go_sem,XC,tl1,lk,eq_true hk];unfold FS wbx at hG1;rw[hG1];exact tk
def Flo.enter (S:Flo)(steps:List Nm)(x:Ent):Flo:={ S with bs:=S.bs++[(x,⟨1,x.time,steps.headD [],[],0⟩)] }
theorem ziq {b i t:Nat}{n:Int}{P:jA}{H:aA}(hi:i<b)(ht:b≤t)(k:P (AI n) (H.take t) [(i,t)]):dD false b P (some [AI n]) H [(i,t)]:=by
 have e1:∀m,GA m H (AI n)=some (AI n):=fun m=>by simp [GA]
 have e2:AV.top (AI n)=0:=by simp [AV.top]
 have e3:sB 1 [(i,t)] b=t:=by simp [sB,XE,hi];omega
 have e4:aB [(i,t)] t=true:=by simp [aB]
 have e5:[(i,t)].filter (fun y=>decide (y.1<t))=[(i,t)]:=by simp;omega
 have e6:CA [AI n]=AI n:=rfl
 simp only[dD,e6,e1,e2,Nat.max_zero,List.length_cons,List.length_nil,Nat.zero_add,e3,e4,if_true,e5];exact⟨Nat.zero_le _,k⟩
set_option maxHeartbeats 4000000 in
theorem zje (fb:Obj)(steps:List Nm)(tries:Int)(hst:steps≠[])(S:Flo)(x:Ent)(hx:ixB x.board S.bs=none)(hk:x.kind=1) :
 bA X EF [.ref (h.length+7) 0,.p x.pv] (FS h fb steps tries S [x.bx]) K=K (AI 0) (FS h fb steps tries (S.enter steps x) []) [(h.length+1,h.length+(8+3*(S.bs.length+1)))]:=by
 refine rule ?_;rw[aO rfl];have lk:=fun(o0 o2 o3 o4 o5 o6 o7:Obj) (B l:aA)=>nX (h:=h) S x.board o0 o2 o3 o4 o5 o6 o7 B l
 rw[hx]at lk;obtain⟨s0,sr,rfl⟩:∃a r,steps=a::r:=by
  cases steps with
  | nil=>exact absurd rfl hst
  | cons a r=>exact⟨a,r,rfl⟩
 have wn:MB x.board (bC (h.length+8) S.bs)=none:=by
  have:=z6e (k:=x.board) (l:=bC (h.length+8) S.bs);rw[dQ,hx]at this;simpa using this
 have q0:h.length+8+3*S.bs.length+2=h.length+(8+3*S.bs.length+2):=by omega
 have up:=fun(o0 o2 o3 o4 o5 o6 o7:Obj) (B l:aA)=>OJ (kk:=(none,[2])) (k:=x.board) (h:=FH h o0 (FA PV.str bD (bC (h.length+8) S.bs)) o2 o3 o4 o5 o6 o7 B l) (id:=h.length+1) WG JD jF (v:=h.length+(8+3*S.bs.length+2)) (val:=bD) rfl
 rw[mN wn]at up;have ms:=z4g (h.length+8) S.bs (x,⟨1,x.time,s0,[],0⟩)
 rw[q0]at ms;dsimp only at ms;rw[←ms]at up;have es:mB (h.length+1) (bD (h.length+(8+3*S.bs.length+2)))=[(h.length+1,h.length+(8+3*(S.bs.length+1)))]:=by
  unfold mB bD;have e9:h.length+(8+3*S.bs.length+2)+1=h.length+(8+3*(S.bs.length+1)):=by omega
  simp only[AV.top,e9];rw[if_pos (by omega)]
 rw[es]at up;simp only[bD]at up;unfold Flo.enter;obtain⟨bs,sm,ck,ends,runs,ref,why⟩:=S;unfold FS wbx Ent.bx;dsimp only at lk hx up ms ⊢;have t1:∀(o0 o1 o2 o3 o4 o5 o6 o7 a b:Obj),(FH h o0 o1 o2 o3 o4 o5 o6 o7 (TA bs) [a,b])[h.length+(8+3*bs.length+1)]?=some b:=fun o0 o1 o2 o3 o4 o5 o6 o7 a b=>tl1 (l:=[a])
 have t2:∀(o0 o1 o2 o3 o4 o5 o6 o7 a b c:Obj),(FH h o0 o1 o2 o3 o4 o5 o6 o7 (TA bs) [a,b,c])[h.length+(8+3*bs.length+1)]?=some b:=fun o0 o1 o2 o3 o4 o5 o6 o7 a b c=>by
  have:=BS (h:=h) (o0:=o0) (o1:=o1) (o2:=o2) (o3:=o3) (o4:=o4) (o5:=o5) (o6:=o6) (o7:=o7) (B:=TA bs) (l:=[a,b,c]) 1;rw[XC]at this;rw[this];rfl
 have cw:∀v:List UInt8,BA none 0 (PV.str v)=some (PV.str v):=fun _=>rfl
 simp only[yD,Ent.pv,go_sem,XC,t1,t2,lk,eq_true hk,cw,up];refine ziq (by omega) (by omega) ⟨rfl,?_,rfl⟩
 rw[List.take_of_length_le (by rw[rD,XC];simp;omega)]
 have sh:∀(o0 o1 o2 o3 o4 o5 o6 o7:Obj) (B l:aA),FH h o0 o1 o2 o3 o4 o5 o6 o7 B l=FH h o0 o1 o2 o3 o4 o5 o6 o7 (B++l) []:=fun _ _ _ _ _ _ _ _ _ _=>by unfold FH;simp
 rw[sh,z1c];rfl
end Go.Am
end
section
/- Entries that count;entries up tov a moment. -/
open Go
set_option linter.all false
set_option maxRecDepth 100000
namespace Go.Am
variable {h:aA} {K:jA}
attribute [-go_sem] tB QA UA gC
theorem z9R {l:List Ent}{k:Nat}(hk:k<l.length):bB (l.drop k)=(!decide ((l[k].site,l[k].no)∈jC (l.drop (k+1))))::bB (l.drop (k+1)):=by
 rw[List.drop_eq_getElem_cons hk,z9O]
theorem zkt {l:List Ent}{k:Nat}(hk:k<l.length):jC (l.drop k)=if decide ((l[k].site,l[k].no)∈jC (l.drop (k+1)))=false∧l[k].kind=7 then(l[k].of,l[k].other)::jC (l.drop (k+1)) else jC (l.drop (k+1)):=by
 rw[List.drop_eq_getElem_cons hk,jC]
abbrev lB (b:Bool):PV:=.bool b
def UndM (m:List ((List UInt8 × Int) × Bool))(u:List (Nm × Int)):Prop:=∀k,EA k m=if k∈u then some true else none
set_option maxHeartbeats 4000000 in
theorem ziH (l:List Ent)(hl:l.length≤100000):bA X DJ [mC l] h K=K (.p (.sl none ((bB l).map lB))) h []:=by
 refine rule ?_;rw[z9r rfl];have mx:l.length≤JA:=by unfold JA;omega
 have w0:IntKind.i64.wrap ((l.length:Int)-1)=(l.length:Int)-1:=yA _ (by omega) (by omega)
 simp only[vP,go_sem,mx,w0];refine SA (fun t:Nat×List ((List UInt8×Int)×Bool)=>⟨[(0,mC l),(3,.mp h.length),(4,.own (h.length+1) l.length 0 l.length),(5,AI ((t.1:Int)-1))],h++[FA qD rB t.2,.row none (List.replicate t.1 (lB false)++(bB (l.drop t.1)).map lB) 0],[]⟩)
  (fun t=>t.1≤l.length∧UndM t.2 (jC (l.drop t.1))) (fun t=>t.1) (l.length,[]) ?_ ⟨Nat.le_refl _,fun k=>by simp [jC,EA]⟩ ?_
 ·simp only[List.drop_length,bB,List.map_nil,List.append_nil]
  rfl
 rintro⟨k,m⟩ ⟨hk,hm⟩
 dsimp only at hk hm ⊢;cases k with
 | zero=>
  have c0:¬(0:Int)≤((0:Nat):Int)-1:=by omega
  have cl:=BH l
  simp only[go_sem,c0,List.drop_zero,List.replicate_zero,List.nil_append];have hw:win ((bB l).map lB) 0 l.length=(bB l).map lB:=rF (by simp [cl])
  simp only[List.length_map,cl,hw,if_true];rw[if_pos ⟨trivial,Nat.le_refl _⟩];simp [AV.top]
 | succ k=>
  have hlt:k<l.length:=by omega
  have c0:(0:Int)≤((k+1:Nat):Int)-1:=by omega
  have ek:(((k+1:Nat):Int)-1)=(k:Int):=by omega
  have w1:IntKind.i64.wrap ((k:Int)-1)=(k:Int)-1:=yA _ (by omega) (by omega)
  have hk0:(0:Int)≤(k:Int):=by omega
  have hg:=dB Ent.pv hlt
  have cx:=yL (x:=l[k])
  have cs:=z9R hlt
  have us:=zkt hlt
  have lrow:(List.replicate (k+1) (lB false)++(bB (l.drop (k+1))).map lB).length=l.length:=by
   rw[List.length_append,List.length_replicate,List.length_map,BH,List.length_drop];omega
  have grow:(List.replicate (k+1) (lB false)++(bB (l.drop (k+1))).map lB)[k]?=some (lB false):=by
   rw[List.getElem?_append_left (by simp),List.getElem?_replicate];simp
  have srow:∀b:Bool,(List.replicate (k+1) (lB false)++(bB (l.drop (k+1))).map lB).set k (lB b)=List.replicate k (lB false)++(b::bB (l.drop (k+1))).map lB:=fun b=>by
   rw[List.replicate_succ',List.append_assoc,List.set_append_right _ _ (by simp)]
   simp
  have grow2:∀b:Bool,(List.replicate k (lB false)++(b::bB (l.drop (k+1))).map lB)[k]?=some (lB b):=fun b=>by
   rw[List.getElem?_append_right (by simp)];simp
  have lrow2:∀b:Bool,(List.replicate k (lB false)++(b::bB (l.drop (k+1))).map lB).length=l.length:=fun b=>by
   rw[List.length_append,List.length_replicate,List.length_map,List.length_cons,BH,List.length_drop];omega
  obtain⟨R2,hR2⟩:∃R2:Bool→List PV,∀b,List.replicate k (lB false)++(b::bB (l.drop (k+1))).map lB=R2 b:=⟨_,fun _=>rfl⟩
  simp only[hR2]at srow grow2 lrow2;have cb:∀b:Bool,BA none 0 (lB b)=some (lB b):=fun _=>rfl
  generalize hx:l[k]=x at *;have lk:=fun(hp:aA) (e:hp[h.length]?=some (FA qD rB m))=>tG (kk:=(some 2,[2,0])) (k:=(x.site,x.no)) YP e ZP (ok:=false) (z:=rB false)
  have up:=fun(hp:aA) (e:hp[h.length]?=some (FA qD rB m))=>OJ (kk:=(some 2,[2,0])) (k:=(x.of,x.other)) YP e ZP (v:=true) rfl
  have l1:=fun t=>lk (h++FA qD rB m::t) (by simp)
  have u1:=fun t=>up (h++FA qD rB m::t) (by simp)
  have es:(Option.map rB (EA (x.site,x.no) m)).getD (rB false)=AB (decide ((x.site,x.no)∈jC (l.drop (k+1)))):=by
   rw[hm];by_cases e:(x.site,x.no)∈jC (l.drop (k+1)) <;> simp [e,rB]
  simp only[cond_false,es]at l1;have nl0:¬h.length<0:=by omega
  simp only[rB,qD,mB,AV.top,nl0,if_false]at l1 u1;generalize hb:decide ((x.site,x.no)∈jC (l.drop (k+1)))=b at *;generalize hrow:List.replicate (k+1) (lB false)++(bB (l.drop (k+1))).map lB=row at *;cases b with
  | true=>
   rw[if_neg (by simp)]at us
   simp only[go_sem,c0,ek,hk0,hlt,hg,cx,Ent.pv,splice,l1,lrow,grow,srow,grow2,lrow2,cb,w1];refine⟨(k,m),?_,⟨by dsimp only;omega,by rw[us];exact hm⟩,by dsimp only;omega⟩
   dsimp only;rw[cs,hR2];rfl
  | false=>
   by_cases k7:x.kind=7
   ·rw[if_pos ⟨rfl,k7⟩]at us
    simp only[go_sem,c0,ek,hk0,hlt,hg,cx,Ent.pv,splice,l1,u1,lrow,grow,srow,grow2,lrow2,cb,w1,eq_true k7];refine⟨(k,dC (x.of,x.other) true m),?_,⟨by dsimp only;omega,?_⟩,by dsimp only;omega⟩
    ·dsimp only
     rw[cs,hR2];rfl
    ·rw[us]
     intro j;rw[YW,hm j];by_cases e:j=(x.of,x.other)
     ·simp [e]
     ·rw[if_neg e];simp [e]
   ·rw[if_neg (by simp [k7])]at us
    simp only[go_sem,c0,ek,hk0,hlt,hg,cx,Ent.pv,splice,l1,lrow,grow,srow,grow2,lrow2,cb,w1,k7];refine⟨(k,m),?_,⟨by dsimp only;omega,by rw[us];exact hm⟩,by dsimp only;omega⟩
    dsimp only;rw[cs,hR2];rfl
end Go.Am
end
section
/- Entries followed. -/
open Go
set_option linter.all false
set_option maxRecDepth 100000
namespace Go.Am
variable {h:aA} {K:jA}
attribute [-go_sem] tB QA UA gC
attribute [local go_sem] rD nE JD KD oE NE pE qE rE OE PE QE RE SE TE UE
def Flo.act (S:Flo)(steps:List Nm)(tries:Int)(x:Ent):Int×Flo:=match ixB x.board S.bs with
 | none=>if x.kind=1 then(0,S.enter steps x) else(8,S)
 | some i=>match S.bs[i]? with
  | none=>(8,S)
  | some e=>if x.kind=1 then(6,S) else S.old steps tries x i e.1 e.2
structure FlI (S:Flo) (steps:List Nm) (n:Nat):Prop where
 st:∀e∈S.bs,(e.2.state=1∨e.2.state=2∨e.2.state=3)→e.2.step∈steps
 fl:∀e∈S.bs,0≤e.2.failed∧e.2.failed≤n
 nb:(S.bs.map fun e=>e.1.board).Nodup
 ns:(S.sm.map fun e=>e.1.1).Nodup
 bl:S.bs.length≤n
 rl:S.runs.length≤n
 el:S.ends.length≤n
 fr:S.ref.length≤n
 fw:S.why.length≤n
theorem z4i {α:Type}{l:List α}{i:Nat}{a y:α}(h:y∈l.set i a):y∈l∨y=a:=by
 rw[List.mem_iff_getElem?]at h;obtain⟨j,hj⟩:=h;rw[List.getElem?_set]at hj;split at hj
 ·split at hj
  ·right;exact(Option.some.inj hj).symm
  ·cases hj
 ·left;exact List.mem_of_getElem? hj
theorem zjv {bs:oC}{i:Nat}{e:Ent × Sta}(he:bs[i]?=some e)(s:Sta):(bs.set i (e.1,s)).map (fun e=>e.1.board)=bs.map fun e=>e.1.board:=by
 rw[List.map_set];apply List.ext_getElem?
 intro j;rw[List.getElem?_set];split
 ·rename_i h;subst h
  rw[List.getElem?_map,he];have:i<(bs.map fun e=>e.1.board).length:=by
   rw[List.length_map];rcases Nat.lt_or_ge i bs.length with h|h
   ·exact h
   ·rw[List.getElem?_eq_none h]at he;cases he
  rw[if_pos this];rfl
 ·rfl
theorem FlI.set {S:Flo}{steps:List Nm}{n:Nat}(I:FlI S steps n){i:Nat}{e:Ent × Sta}(he:S.bs[i]?=some e)(s:Sta)(h1:(s.state=1∨s.state=2∨s.state=3)→s.step∈steps)(h2:0≤s.failed∧s.failed≤n+1)
 (S':Flo) (hb:S'.bs=S.bs.set i (e.1,s)) (hn:(S'.sm.map fun e=>e.1.1).Nodup) (hr:S'.runs.length≤n+1) (hl:S'.ends.length≤n+1) (hf:S'.ref=S.ref) (hw:S'.why=S.why):FlI S' steps (n+1) where
 st y hy:=by
  rw[hb]at hy;rcases z4i hy with h|h
  ·exact I.st y h
  ·rw[h];exact h1
 fl y hy:=by
  rw[hb]at hy;rcases z4i hy with h|h
  ·have:=I.fl y h;omega
  ·rw[h];dsimp only;omega
 nb:=by rw[hb,zjv he];exact I.nb
 ns:=hn
 bl:=by rw[hb,List.length_set];have:=I.bl;omega
 rl:=hr
 el:=hl
 fr:=by rw[hf];have:=I.fr;omega
 fw:=by rw[hw];have:=I.fw;omega
theorem FlI.up {S:Flo}{steps:List Nm}{n:Nat}(I:FlI S steps n):FlI S steps (n+1):=
 ⟨I.st,fun e he=>by have:=I.fl e he;omega,I.nb,I.ns,by have:=I.bl;omega,by have:=I.rl;omega,by have:=I.el;omega,by have:=I.fr;omega,by have:=I.fw;omega⟩
theorem z79 {m:kD}{k v:Nm}{c:Nat}(hn:rA (asS m) k=none):asS (m++[((k,v),c)])=zB (asS m) k v∧((m.map fun e=>e.1.1).Nodup→((m++[((k,v),c)]).map fun e=>e.1.1).Nodup):=by
 have ha:(asS m).any (fun e=>decide (e.1=k))=false:=by
  cases h:(asS m).any (fun e=>decide (e.1=k)) with
  | false=>rfl
  | true=>
   exfalso;obtain⟨e,he,hk⟩:=List.any_eq_true.1 h;unfold rA at hn;rw[Option.map_eq_none_iff,List.find?_eq_none]at hn;exact hn e he hk
 constructor
 ·unfold zB
  rw[if_neg (by simp [ha])]
  unfold asS;simp
 ·intro hu
  rw[List.map_append,List.nodup_append];refine⟨hu,by simp,fun a ha2 b hb2 e=>?_⟩
  have hb3:b=k:=by simpa using hb2
  subst hb3;subst e;obtain⟨y,hy,e2⟩:=List.mem_map.1 ha2;have:(asS m).any (fun e=>decide (e.1=a))=true:=List.any_eq_true.2 ⟨y.1,List.mem_map_of_mem hy,by simpa using e2⟩
  rw[ha]at this;cases this
theorem z3S {k:Nm}:∀{bs:oC},ixB k bs=none→k∉bs.map fun e=>e.1.board
 | [],_=>by simp
 | e::r,h=>by
  unfold ixB at h;by_cases hk:k=e.1.board
  ·rw[if_pos hk]at h;cases h
  ·rw[if_neg hk]at h
   have:=z3S (bs:=r) (by simpa using h)
   simp only[List.map_cons,List.mem_cons,not_or];exact⟨hk,this⟩
theorem z0F {S:Flo}{steps:List Nm}{tries:Int}{n:Nat}(I:FlI S steps n)(hst:steps≠[])(x:Ent) :
 (S.act steps tries x).1=(WC steps tries S.P x).2∧(S.act steps tries x).2.P=(WC steps tries S.P x).1∧FlI (S.act steps tries x).2 steps (n+1)∧(S.act steps tries x).2.ref=S.ref∧(S.act steps tries x).2.why=S.why:=by
 obtain⟨g1,g2⟩:=iX x.board S.bs;unfold Flo.act;cases hx:ixB x.board S.bs with
 | none=>
  have hg:rA S.P.bs x.board=none:=g1 hx
  dsimp only;by_cases k1:x.kind=1
  ·rw[if_pos k1]
   unfold WC;rw[if_pos k1,hg];refine⟨rfl,?_,?_,rfl,rfl⟩
   ·unfold Flo.enter Flo.P
    dsimp only;rw[z77 hx x rfl]
   ·obtain⟨a,r,rfl⟩:∃a r,steps=a::r:=by
     cases steps with
     | nil=>exact absurd rfl hst
     | cons a r=>exact⟨a,r,rfl⟩
    unfold Flo.enter;refine⟨fun e he=>?_,fun e he=>?_,?_,I.ns,?_,by have:=I.rl;dsimp only;omega,by have:=I.el;dsimp only;omega,by have:=I.fr;dsimp only;omega,by have:=I.fw;dsimp only;omega⟩
    ·rcases List.mem_append.1 he with h|h
     ·exact I.st e h
     ·rw[List.mem_singleton.1 h];intro _;simp
    ·rcases List.mem_append.1 he with h|h
     ·have:=I.fl e h;omega
     ·rw[List.mem_singleton.1 h];dsimp only;omega
    ·dsimp only
     rw[List.map_append,List.nodup_append];refine⟨I.nb,by simp,fun a ha b hb e=>?_⟩
     have hb2:b=x.board:=by simpa using hb
     subst hb2;subst e
     exact z3S hx ha
    ·dsimp only;rw[List.length_append];have:=I.bl;simp;omega
  ·rw[if_neg k1]
   unfold WC;rw[if_neg k1,hg];exact⟨rfl,rfl,I.up,rfl,rfl⟩
 | some i=>
  obtain⟨e,he,hk,hg⟩:=g2 i hx;have hg':rA S.P.bs x.board=some e.2:=hg
  have pu:=fun s=>z78 hx he I.nb s
  have hm:e∈S.bs:=List.mem_of_getElem? he
  have hfl:=I.fl e hm
  have hse:=I.st e hm
  dsimp only;rw[he];dsimp only;unfold WC;by_cases k1:x.kind=1
  ·rw[if_pos k1,if_pos k1,hg']
   exact⟨rfl,rfl,I.up,rfl,rfl⟩
  rw[if_neg k1,if_neg k1,hg'];dsimp only;unfold Flo.old;have rl:=I.rl
  have el:=I.el
  by_cases k2:x.kind=2
  ·rw[if_pos k2,if_pos k2]
   unfold Flo.startR;by_cases h1:e.2.state≠1
   ·rw[if_pos h1,if_pos h1];exact⟨rfl,rfl,I.up,rfl,rfl⟩
   rw[if_neg h1,if_neg h1];by_cases h2:x.step≠e.2.step
   ·rw[if_pos h2,if_pos h2];exact⟨rfl,rfl,I.up,rfl,rfl⟩
   rw[if_neg h2,if_neg h2];have hb:S.P.sites=asS S.sm:=rfl
   rw[hb];by_cases h3:(rA (asS S.sm) x.site).isSome=true
   ·rw[if_pos h3,if_pos h3];exact⟨rfl,rfl,I.up,rfl,rfl⟩
   rw[if_neg h3,if_neg h3];have hn:rA (asS S.sm) x.site=none:=by simpa using h3
   obtain⟨q1,q2⟩:=z79 (v:=x.board) (c:=S.ck) hn;refine⟨rfl,?_,?_,rfl,rfl⟩
   ·unfold Flo.start Flo.P
    dsimp only;rw[pu,q1]
   ·have hs1:e.2.state=1:=by simpa using h1
    exact I.set he ⟨2,x.time,e.2.step,x.site,e.2.failed⟩ (fun _=>hse (.inl hs1)) (by dsimp only;omega) _ rfl (q2 I.ns) (by unfold Flo.start;dsimp only;rw[List.length_append];simp;omega) (by unfold Flo.start;dsimp only;omega) rfl rfl
  rw[if_neg k2,if_neg k2];by_cases k34:x.kind=3∨x.kind=4
  ·rw[if_pos k34,if_pos k34]
   unfold Flo.finishR;by_cases h1:e.2.state≠2
   ·rw[if_pos h1,if_pos h1];exact⟨rfl,rfl,I.up,rfl,rfl⟩
   rw[if_neg h1,if_neg h1];by_cases h2:e.2.site≠x.site
   ·rw[if_pos h2,if_pos h2];exact⟨rfl,rfl,I.up,rfl,rfl⟩
   rw[if_neg h2,if_neg h2];have hs2:e.2.state=2:=by simpa using h1
   have hin:=hse (.inr (.inl hs2))
   obtain⟨q1,q2⟩:=z1R (m:=S.sm) (k:=e.2.site) I.ns;refine⟨rfl,?_,?_,rfl,rfl⟩
   ·unfold Flo.finish Flo.P
    dsimp only;rw[pu,q1]
   ·refine I.set he (lE steps tries e.2 x.time (decide (x.kind=3))) (fun h=>?_) ?_ _ rfl q2 (by unfold Flo.finish nD;dsimp only;rw[List.length_map];omega) (by unfold Flo.finish;dsimp only;rw[List.length_append];simp;omega) rfl rfl
    ·unfold lE at h ⊢
     by_cases k3:x.kind=3
     ·rw[if_pos (by simp [k3])]at h ⊢
      by_cases hj:steps.findIdx (fun y=>decide (y=e.2.step))+1=steps.length
      ·rw[if_pos hj]at h;dsimp only at h;omega
      ·rw[if_neg hj]
       have jl:steps.findIdx (fun y=>decide (y=e.2.step))<steps.length:=List.findIdx_lt_length_of_exists ⟨e.2.step,hin,by simp⟩
       have jl2:steps.findIdx (fun y=>decide (y=e.2.step))+1<steps.length:=by omega
       dsimp only;rw[List.getElem?_eq_getElem jl2];exact List.getElem_mem jl2
     ·rw[if_neg (by simp [k3])];exact hin
    ·unfold lE
     split
     ·split <;> (dsimp only;omega)
     ·dsimp only;omega
  rw[if_neg k34,if_neg k34];by_cases k5:x.kind=5
  ·rw[if_pos k5,if_pos k5]
   by_cases h1:e.2.state≠3
   ·rw[if_pos h1,if_pos h1];exact⟨rfl,rfl,I.up,rfl,rfl⟩
   rw[if_neg h1,if_neg h1];have hs3:e.2.state=3:=by simpa using h1
   refine⟨rfl,?_,?_,rfl,rfl⟩
   ·unfold Flo.put Flo.P
    dsimp only;rw[pu]
   ·exact I.set he ⟨1,x.time,e.2.step,e.2.site,e.2.failed⟩ (fun _=>hse (.inr (.inr hs3))) (by dsimp only;omega) _ rfl I.ns (by unfold Flo.put;dsimp only;omega) (by unfold Flo.put;dsimp only;omega) rfl rfl
  rw[if_neg k5,if_neg k5];by_cases h45:e.2.state=4∨e.2.state=5
  ·rw[if_pos h45,if_pos h45];exact⟨rfl,rfl,I.up,rfl,rfl⟩
  rw[if_neg h45,if_neg h45];have no5:∀(a:Int) (b c:Nm) (f:Int),((⟨5,a,b,c,f⟩:Sta).state=1∨(⟨5,a,b,c,f⟩:Sta).state=2∨(⟨5,a,b,c,f⟩:Sta).state=3)→b∈steps:=fun a b c f h=>by dsimp only at h;omega
  by_cases h2:e.2.state=2
  ·rw[if_pos h2,if_pos h2]
   obtain⟨q1,q2⟩:=z1R (m:=S.sm) (k:=e.2.site) I.ns;refine⟨rfl,?_,?_,rfl,rfl⟩
   ·unfold Flo.P
    dsimp only;rw[pu,q1]
   ·exact I.set he ⟨5,x.time,e.2.step,[],e.2.failed⟩ (no5 _ _ _ _) (by dsimp only;omega) _ rfl q2 (by unfold nD;dsimp only;rw[List.length_map];omega) (by dsimp only;omega) rfl rfl
  ·rw[if_neg h2,if_neg h2]
   refine⟨rfl,?_,?_,rfl,rfl⟩
   ·unfold Flo.put Flo.P
    dsimp only;rw[pu]
   ·exact I.set he ⟨5,x.time,e.2.step,e.2.site,e.2.failed⟩ (no5 _ _ _ _) (by dsimp only;omega) _ rfl I.ns (by unfold Flo.put;dsimp only;omega) (by unfold Flo.put;dsimp only;omega) rfl rfl
end Go.Am
end
section
/- Entries followed: the walk. -/
open Go
set_option linter.all false
set_option maxRecDepth 100000
namespace Go.Am
variable {h:aA} {K:jA}
attribute [-go_sem] tB QA UA gC
attribute [local go_sem] rD nE JD KD oE NE pE qE rE OE PE QE RE SE TE UE
def upK (l:List Ent)(at_:Int):Nat→Nat
 | 0=>0
 | k+1=>if at_<((l[k]?).map Ent.time).getD 0 then upK l at_ k else k+1
def upL (l:List Ent)(at_:Int):List Ent:=l.take (upK l at_ l.length)
theorem z5y (l:List Ent)(at_:Int)(hl:l.length≤1000000):bA X TG [mC l,AI at_] h K=K (mC (upL l at_)) h []:=by
 refine rule ?_;rw[z92 rfl];simp only[CP,go_sem];refine SA (fun k:Nat=>⟨[(0,mC l),(1,AI at_),(5,AI k)],h,[]⟩) (fun k=>k≤l.length∧upK l at_ k=upK l at_ l.length) (fun k=>k) l.length rfl ⟨Nat.le_refl _,rfl⟩ ?_
 rintro k ⟨hk,hp⟩
 have fin:upK l at_ l.length=k→(∀P:Prop,True)→mC (upL l at_)=mC (l.take k):=fun e _=>by unfold upL;rw[e]
 have hw:∀k,win (l.map Ent.pv) 0 k=(l.take k).map Ent.pv:=fun k=>by simp [win,List.map_take]
 cases k with
 | zero=>
  have c0:¬(0:Int)<((0:Nat):Int):=by omega
  have e:=fin hp.symm (fun _=>trivial)
  simp only[go_sem,Int.lt_irrefl,hw,Nat.zero_le,e,c0];first|done|rfl
 | succ k=>
  have hlt:k<l.length:=by omega
  have c0:(0:Int)<((k+1:Nat):Int):=by omega
  have w1:IntKind.i64.wrap (((k+1:Nat):Int)-1)=(k:Int):=by rw[yA _ (by omega) (by omega)];omega
  have hg:=dB Ent.pv hlt
  have ct:BA none 2 (Ent.pv l[k])=some (eI l[k].time):=rfl
  rw[upK,List.getElem?_eq_getElem hlt]at hp;have e0:(Option.map Ent.time (some l[k])).getD 0=l[k].time:=rfl
  rw[e0]at hp;by_cases h1:at_<l[k].time
  ·rw[if_pos h1]at hp
   simp only[go_sem,c0,w1,hlt,hg,ct,h1];exact⟨k,rfl,⟨by omega,hp⟩,by omega⟩
  ·rw[if_neg h1]at hp
   have e:=fin hp.symm (fun _=>trivial)
   have hk':k+1≤l.length:=hk
   simp only[go_sem,c0,w1,hlt,hg,ct,h1,hw,hk',e];first|done|rfl
def bI (S:Flo)(x:Ent):Bool:=(ixB x.board S.bs).isNone&&decide (x.kind=1)
theorem zjh (fb:Obj)(steps:List Nm)(tries:Int)(hst:steps.length≤1000){n:Nat}(hn:n≤1000000)(S:Flo)(I:FlI S steps n)(l:aA)(x:Ent)(hx:bI S x=false) :
 bA X EF [.ref (h.length+7) 0,.p x.pv] (FS h fb steps tries S l) K=K (AI (S.act steps tries x).1) (FS h fb steps tries (S.act steps tries x).2 l) []:=by
 unfold Flo.act;cases hi:ixB x.board S.bs with
 | none=>
  have k1:x.kind≠1:=by
   intro e;unfold bI at hx;rw[hi,e]at hx;simp at hx
  dsimp only;rw[if_neg k1];exact zjf fb steps tries S l x hi k1
 | some i=>
  obtain⟨e,he⟩:=zeX hi;have hm:e∈S.bs:=List.mem_of_getElem? he
  dsimp only;rw[he];dsimp only;by_cases k1:x.kind=1
  ·rw[if_pos k1]
   exact zji fb steps tries S l x i hi k1
  ·rw[if_neg k1]
   have:=I.fl e hm;have:=I.rl;have:=I.el;exact zjg fb steps tries hst S l i e.1 e.2 x hi he (by omega) (by omega) (fun h2=>I.st e hm (.inr (.inl h2))) (by omega) k1
def Flo.step (S:Flo)(steps:List Nm)(tries:Int)(i:Nat)(x:Ent):Flo:=
 if(S.act steps tries x).1≠0 then { (S.act steps tries x).2 with ref:=(S.act steps tries x).2.ref++[(i:Int)],why:=(S.act steps tries x).2.why++[(S.act steps tries x).1] } else(S.act steps tries x).2
def Flo.go (steps:List Nm)(tries:Int):Flo→Nat→List (Ent×Bool)→Flo
 | S,_,[]=>S
 | S,i,(x,c)::r=>if c=false∨x.kind=7 then Flo.go steps tries S (i+1) r else Flo.go steps tries (S.step steps tries i x) (i+1) r
def UG:Flo:=⟨[],[],0,[],[],[],[]⟩
theorem flI0 (steps:List Nm):FlI UG steps 0:=
 ⟨fun e he=>(by cases he),fun e he=>(by cases he),List.nodup_nil,List.nodup_nil,Nat.le_refl _,Nat.le_refl _,Nat.le_refl _,Nat.le_refl _,Nat.le_refl _⟩
theorem VZ {S:Flo}{steps:List Nm}{tries:Int}{n:Nat}(I:FlI S steps n)(hst:steps≠[])(i:Nat)(x:Ent) :
 FlI (S.step steps tries i x) steps (n+1)∧(S.step steps tries i x).P=(WC steps tries S.P x).1∧(S.step steps tries i x).ref=(if(WC steps tries S.P x).2≠0 then S.ref++[(i:Int)] else S.ref)∧(S.step steps tries i x).why=(if(WC steps tries S.P x).2≠0 then S.why++[(WC steps tries S.P x).2] else S.why):=by
 obtain⟨a1,a2,a3,a4,a5⟩:=z0F (tries:=tries) I hst x;unfold Flo.step;rw[←a1];by_cases h0:(S.act steps tries x).1≠0
 ·rw[if_pos h0,if_pos h0,if_pos h0]
  refine⟨⟨a3.st,a3.fl,a3.nb,a3.ns,a3.bl,a3.rl,a3.el,?_,?_⟩,a2,by dsimp only;rw[a4],by dsimp only;rw[a5]⟩
  ·dsimp only;rw[List.length_append,a4];have:=I.fr;simp;omega
  ·dsimp only;rw[List.length_append,a5];have:=I.fw;simp;omega
 ·rw[if_neg h0,if_neg h0,if_neg h0]
  exact⟨a3,a2,a4,a5⟩
def DC (h:aA):Nat→Esc
 | 0=>[]
 | n+1=>(h.length+1,h.length+(8+3*(n+1)))::DC h n
theorem bJ {h:aA}:∀{n:Nat} {y:Nat×Nat},y∈DC h n→y.1=h.length+1∧y.2≤h.length+(8+3*n)
 | 0,y,hy=>by cases hy
 | n+1,y,hy=>by
  rcases List.mem_cons.1 hy with e|e
  ·rw[e];exact⟨rfl,Nat.le_refl _⟩
  ·have:=bJ e;omega
theorem z2k (h:aA):∀(n m:Nat),h.length+8≤m→m≤h.length+(8+3*n)→XE (DC h n) m=h.length+(8+3*n)
 | 0,m,h1,h2=>by simp [DC,XE];omega
 | n+1,m,h1,h2=>by
  unfold DC XE;rw[List.foldl_cons,if_pos (by dsimp only;omega)]
  have e:max m (h.length+(8+3*(n+1)))=h.length+(8+3*(n+1)):=by omega
  dsimp only;rw[e];have:∀(x:Esc) (m:Nat),(∀y∈x,y.2≤m)→x.foldl (fun m y=>if y.1<m then max m y.2 else m) m=m:=by
   intro x;induction x with
   | nil=>intro m _;rfl
   | cons y r ih=>
    intro m hm;rw[List.foldl_cons];have h1:=hm y (List.mem_cons_self ..)
    have:(if y.1<m then max m y.2 else m)=m:=by split <;> omega
    rw[this];exact ih m fun z hz=>hm z (List.mem_cons_of_mem _ hz)
  exact this _ _ fun y hy=>by have:=(bJ hy).2;omega
theorem zir {b q n:Nat}{P:jA}{H:aA}(hq:q=b+7)(hH:H.length=b+(8+3*n))(x:Esc)(hx:∃ h:aA,h.length=b∧x=DC h n)(k:P (.ref q 0) H x):dD false b P (some [.ref q 0]) H x:=by
 obtain⟨h,rfl,rfl⟩:=hx;subst hq;have e1:∀m,GA m H (.ref (h.length+7) 0)=some (.ref (h.length+7) 0):=fun m=>by simp [GA]
 have e2:AV.top (.ref (h.length+7) 0)=h.length+8:=by simp [AV.top]
 have e6:CA [AV.ref (h.length+7) 0] = .ref (h.length+7) 0:=rfl
 have e7:max h.length (h.length+8)=h.length+8:=by omega
 have e3:∀c,XE (DC h n) c=h.length+(8+3*n)→sB (DC h n).length (DC h n) (h.length+8)=h.length+(8+3*n):=by
  intro c _;have hb:=fun m h1 h2=>z2k h n m h1 h2
  have:∀k m,h.length+8≤m→m≤h.length+(8+3*n)→(m=h.length+(8+3*n)∨1≤k)→sB k (DC h n) m=h.length+(8+3*n):=by
   intro k;induction k with
   | zero=>intro m h1 h2 h3;unfold sB;omega
   | succ k ih=>
    intro m h1 h2 _;unfold sB;rw[hb m h1 h2];exact ih _ (by omega) (Nat.le_refl _) (.inl rfl)
  refine this _ _ (Nat.le_refl _) (by omega) ?_
  cases n with
  | zero=>left;omega
  | succ n=>right;simp [DC]
 have e3':=e3 _ (z2k h n _ (Nat.le_refl _) (by omega))
 have e4:aB (DC h n) (h.length+(8+3*n))=true:=by
  unfold aB;rw[List.all_eq_true];intro y hy;have:=(bJ hy).2;simp [this]
 have e5:(DC h n).filter (fun y=>decide (y.1<h.length+(8+3*n)))=DC h n:=by
  rw[List.filter_eq_self];intro y hy;have:=(bJ hy).1;simp;omega
 have e8:H.take (h.length+(8+3*n))=H:=List.take_of_length_le (by omega)
 simp only[dD,e6,e1,e2,e7,e3',e4,e5,e8,if_true];exact⟨by omega,k⟩
theorem CS (fb:Obj)(steps:List Nm)(tries:Int)(S:Flo)(l:aA):(FS h fb steps tries S l).length=h.length+(8+3*S.bs.length+l.length):=by unfold FS;rw[rD,XC]
end Go.Am
end
