/- Texts of the proof, laid together: PLrn, SpRnV3, PLrn2, SpTag0, SpTag1, SpVec19, SpVec20, SpGenV, SpVec18, SpReady, SpKeep, SpLawLN, Bridge, AmL2, AmL6. -/
import Derived.KernelRfl
import Derived.ProofKit
import Derived.Shelf.Strconv.Itoa3
import Derived.Lib.LaidTab
import Derived.Test.YthlhdniejglcnaaGreatDoorlawLN9
set_option linter.all false
section
/- Learned programs,plainly. -/
open Go
set_option linter.all false
set_option maxRecDepth 100000
namespace Go.Am
def ZB (c:Cmd):Cmd:={ c with w:=[],m:=[] }
theorem LM (pre:List Cmd)(k:Int):mA (pre.map ZB) k=ZB (mA pre k):=by
 unfold mA;rw[←List.map_reverse,List.find?_map];have:((fun c:Cmd=>c.k==k) ∘ ZB)=fun c:Cmd=>c.k==k:=rfl
 rw[this];cases (pre.reverse.find? fun c=>c.k==k) with
 | none=>rfl
 | some c=>rfl
theorem z88 (pre:List Cmd)(c:Cmd)(state:Nat):(nA eA (pre.map ZB) (ZB c) state).tms=(nA eA pre c state).tms∧(nA eA (pre.map ZB) (ZB c) state).tdi=(nA eA pre c state).tdi∧(nA eA (pre.map ZB) (ZB c) state).fr=(nA eA pre c state).fr∧(nA eA (pre.map ZB) (ZB c) state).st=(nA eA pre c state).st:=by
 unfold nA;rw[LM,LM,LM,LM,LM,LM];show _∧_
 have e:∀k,(ZB (mA pre k)).b=(mA pre k).b∧(ZB (mA pre k)).s=(mA pre k).s:=fun k=>⟨rfl,rfl⟩
 have ek:(ZB c).k=c.k:=rfl
 rw[ek];by_cases h10:c.k=10
 ·simp only[if_pos h10];exact⟨rfl,rfl,rfl,rfl⟩
 ·simp only[if_neg h10]
  by_cases h9:c.k=9
  ·simp only[if_pos h9];exact⟨rfl,rfl,rfl,rfl⟩
  ·simp only[if_neg h9]
   by_cases h7:c.k=7
   ·simp only[if_pos h7];exact⟨rfl,rfl,rfl,rfl⟩
   ·simp only[if_neg h7]
    by_cases h8:c.k=8
    ·simp only[if_pos h8];exact⟨rfl,rfl,rfl,rfl⟩
    ·simp only[if_neg h8];first|trivial|exact⟨rfl,trivial,trivial,trivial⟩|simp [IB]
theorem z3w:∀ (l pre:List Cmd) (state:Nat),sA (oA eA (pre.map ZB) state (l.map ZB))=sA (oA eA pre state l)∧xB (oA eA (pre.map ZB) state (l.map ZB))=xB (oA eA pre state l)
 | [],_,_=>⟨rfl,rfl⟩
 | c::l,pre,state=>by
  obtain⟨p1,p2,p3,p4⟩:=z88 pre c state;have ih:=z3w l (pre++[c]) (nA eA pre c state).st
  rw[List.map_append,List.map_cons,List.map_nil]at ih;unfold sA xB at *;simp only[List.map_cons,oA,List.flatMap_cons,p1,p2,p4,ih.1,ih.2,and_self]
theorem z2Q (R:List UInt8):∀(l pre:List Cmd) (state at_:Nat),PC eA (pre.map ZB) state (l.map ZB) at_ R=PC eA pre state l at_ R
 | [],_,_,_=>rfl
 | c::l,pre,state,at_=>by
  obtain⟨p1,p2,p3,p4⟩:=z88 pre c state;have ih:=z2Q R l (pre++[c]) (nA eA pre c state).st (at_+(nA eA pre c state).tms.length)
  rw[List.map_append,List.map_cons,List.map_nil]at ih;have e1:zB (ZB c)=zB c:=rfl
  have e2:(ZB c).b=c.b:=rfl
  simp only[List.map_cons,PC,p1,p3,p4,ih,e1,e2]
theorem FQ {l y:List Cmd}(h:y.map ZB=l.map ZB)(ds:List TDev):sA (oA eA [] 0 y)=sA (oA eA [] 0 l)∧xB (oA eA [] 0 y)=xB (oA eA [] 0 l)∧FB ds y=FB ds l:=by
 have a:=z3w y [] 0
 have b:=z3w l [] 0
 rw[h]at a;have e1:sA (oA eA [] 0 y)=sA (oA eA [] 0 l):=a.1.symm.trans b.1
 have e2:xB (oA eA [] 0 y)=xB (oA eA [] 0 l):=a.2.symm.trans b.2
 refine⟨e1,e2,?_⟩;have r1:=z2Q (cC ds l) y [] 0 0
 have r2:=z2Q (cC ds l) l [] 0 0
 have et:cC ds y=cC ds l:=by unfold cC;rw[e1,e2]
 unfold FB;rw[et,←r1,h,r2]
theorem zkG (l:List Cmd)(RV:List (List UInt8)):(uC l RV).map ZB=l.map ZB:=by
 apply List.ext_getElem
 ·simp [uC,pC]
 ·intro i h1 h2
  have hi:i<l.length:=by simpa using h2
  have:∀(c:Cmd) (s:List UInt8),ZB (ID c s)=ZB c:=fun c s=>by unfold ID;split <;> rfl
  simp [uC,pC,hi,this,List.getD_eq_getElem?_getD]
theorem zl9 (n:Nat):zA (nE n)=true:=by simp [zA,nE,pJ]
theorem zkF {c:Cmd}(h:FA c=0){s:List UInt8}(hb:zA s=true)(hs:zB c=true→s.length=c.b.length):FA (ID c s)=0:=by
 unfold ID;cases q:zB c with
 | false=>exact h
 | true=>
  rw[if_pos rfl];have hs:=hs q
  cases SD h with
  | set h' _ _=>have:=WC.1 q;omega
  | pad h0 h1 _ _ _=>have:=WC.1 q;omega
  | go h' _ _=>have:=WC.1 q;omega
  | idle h' _ _ _=>have:=WC.1 q;omega
  | scan hk hF e=>
   obtain⟨q1,q2,q3,q4,q5,q6⟩:=IE hF;have hp:=List.length_pos_iff.2 q1
   have hne:s≠[]:=fun e=>by rw[e]at hs;simp at hs;omega
   have hsc:xC { c with w:=s,m:=nE s.length }=0:=by
    unfold xC;dsimp only;rw[if_neg q1,q2,hb,zl9];have:¬2000<c.b.length:=by omega
    have h2:(nE s.length).length=s.length:=by simp [nE]
    have h3:¬(s≠[]∧(s.length≠c.b.length∨(nE s.length).length≠c.b.length)):=by rw[h2];omega
    have h4:¬(s=[]∧nE s.length≠[]):=fun z=>hne z.1
    simp only[Bool.not_true,Bool.false_eq_true,if_false,this,h3,h4,Bool.or_self]
   have ek:({ c with w:=s,m:=nE s.length }:Cmd).k=c.k:=rfl
   unfold FA;rw[ek,if_neg (by omega),if_neg (by omega),if_pos hk,hsc]
   have e2:({ c with w:=s,m:=nE s.length }:Cmd)=⟨c.k,0,0,c.b,s,nE s.length⟩:=by
    rw[e]
   simp only[ne_eq,not_true,if_false];rw[if_pos e2]
theorem z5i:∀ {l:List Cmd},(∀ c∈l,FA c=0)→cD l=0
 | [],_=>rfl
 | c::l,h=>by
  unfold cD;rw[h c List.mem_cons_self];simpa using z5i fun d hd=>h d (List.mem_cons_of_mem _ hd)
theorem z8Z (ds:List TDev)(hd:∀ d∈ds,DevOk d):∀(l:List (UInt8×UInt8)) (st:Nat) (ps:List JC) (k:Nat),k<l.length→(∀p∈ps,PortOk p)→ps.length=ds.length→(∀x∈l,aC x.2) →
 ∃b,aC b∧(YD ds st ps l)[k]?=some (nI (WA st ((l.take k).map Prod.fst)) b)
 | [],_,_,k,hk,_,_,_=>by simp at hk
 | (t,b)::l,st,ps,0,_,hp,hl,hb=>by
  obtain⟨a1,a2,a3⟩:=MX st hd hp hl (hb (t,b) List.mem_cons_self);exact⟨_,a3,rfl⟩
 | (t,b)::l,st,ps,k+1,hk,hp,hl,hb=>by
  obtain⟨a1,a2,a3⟩:=MX st hd hp hl (hb (t,b) List.mem_cons_self);obtain⟨x,x1,x2⟩:=z8Z ds hd l (stW st t) (tE st ds ps b).1 k (by simpa using hk) a1 a2 (fun y hy=>hb y (List.mem_cons_of_mem _ hy))
  exact⟨x,x1,x2⟩
theorem z5Q {l:List Cmd}(hc:∀ c∈l,FA c=0):∀k,k≤l.length→WA 0 (sA ((oA eA [] 0 l).take k))=JB [] 0 (l.take k)
 | 0,_=>rfl
 | k+1,hk=>by
  have hlt:k<l.length:=by omega
  have ih:=z5Q hc k (by omega)
  have g:=FJ hlt
  have hlp:k<(oA eA [] 0 l).length:=by rw[ZH];exact hlt
  have e:sA ((oA eA [] 0 l).take (k+1))=sA ((oA eA [] 0 l).take k)++(nA eA (l.take k) l[k] (JB [] 0 (l.take k))).tms:=by
   rw[List.take_add_one,g];simp [sA]
  rw[e,JG,ih,(z87 hc hlt).1,zqE hlt]
theorem zqt {pre:List Cmd}{c:Cmd}{state:Nat}(T:state∈stb)(hs:zB c=true){j:Nat}(hj:j<c.b.length) :
 let p:=nA eA pre c state
 WA state (p.tms.take (p.fr+j))=4∨WA state (p.tms.take (p.fr+j))=11:=by
 have key:∀(sh:Nat) (hd tl r:List UInt8),stW sh 48=sh→sh∈toS→WA state ((eA state sh++zs ((hd++c.b++tl).length-1)++r).take ((eA state sh).length+hd.length+j))=sh:=by
  intro sh hd tl r h1 h2;have hm:hd.length+j≤(hd++c.b++tl).length-1:=by simp only[List.length_append];omega
  have e:(eA state sh++zs ((hd++c.b++tl).length-1)++r).take ((eA state sh).length+hd.length+j)=eA state sh++zs (hd.length+j):=by
   rw[List.append_assoc,Nat.add_assoc,List.take_length_add_append,List.take_append_of_le_length (by simp [zs];omega)]
   congr 1
   unfold zs;rw[List.take_replicate,Nat.min_eq_left hm]
  rw[e,JG,(SB (TB T) h2).2.2];exact(eQ h1 _).2
 intro p;rcases WC.1 hs with h|h
 ·right
  have ep:p=IB (mB eA c state 11 12 (mA pre 3).b (mA pre 4).b (mA pre 1).s.toNat):=by
   show nA eA pre c state=_
   unfold nA;rw[if_neg (by omega),if_neg (by omega),if_pos h]
  rw[ep];show WA state ((eA state 11++zs _++[49]++_).take _)=11
  rw[List.append_assoc (eA state 11++zs _)];exact key 11 (mA pre 3).b (mA pre 4).b _ rfl (by decide)
 ·left
  have ep:p=IB (mB eA c state 4 5 (mA pre 5).b (mA pre 6).b (mA pre 2).s.toNat):=by
   show nA eA pre c state=_
   unfold nA;rw[if_neg (by omega),if_neg (by omega),if_neg (by omega),if_pos h]
  rw[ep];show WA state ((eA state 4++zs _++[49]++_).take _)=4
  rw[List.append_assoc (eA state 4++zs _)];exact key 4 (mA pre 5).b (mA pre 6).b _ rfl (by decide)
theorem zcX {s:List UInt8}(h:zA s=true):∀c∈s,aC c:=fun c hc=>by
 have:=List.all_eq_true.1 h c hc;simpa [pJ,aC] using this
theorem zcY {s:List UInt8}(h:∀ c∈s,aC c):zA s=true:=List.all_eq_true.2 fun c hc=>by
 rcases h c hc with e|e <;> rw[e] <;> rfl
theorem zpa {ds:List TDev}(hd:∀ d∈ds,DevOk d){l:List Cmd}(hc:∀ c∈l,FA c=0){k:Nat}(hk:k<l.length){s:List UInt8}(hs:(FB ds l)[k]?=some s):zA s=true:=by
 have hlp:k<(oA eA [] 0 l).length:=by rw[ZH];exact hk
 obtain⟨x1,x2⟩:=z8P (cC ds l) l [] 0 0 k hk _ (FJ hk);have hRV:PC eA [] 0 l 0 (cC ds l)=FB ds l:=rfl
 rw[hRV,hs,Nat.zero_add]at x1;have x1:=Option.some.inj x1
 cases hq:zB l[k]with
 | false=>rw[if_neg (by rw[hq];simp)]at x1;rw[x1];rfl
 | true=>
  rw[if_pos hq]at x1;have x2:=x2 hq
  obtain⟨S,T⟩:=pM hc k (by omega)
  have sc:=fun j (hj:j<l[k].b.length)=>zqt (pre:=l.take k) (c:=l[k]) T hq hj
  have ea:=z5Q hc k (by omega)
  obtain⟨f1,_⟩:=z3v hc;have tl:=bQ (ds:=ds) hc
  have g:=FJ hk
  have s1:sA ((oA eA [] 0 l).take (k+1))=sA ((oA eA [] 0 l).take k)++(nA eA (l.take k) l[k] (JB [] 0 (l.take k))).tms:=by
   rw[List.take_add_one,g];simp [sA]
  have s3:sA (oA eA [] 0 l)=sA ((oA eA [] 0 l).take (k+1))++sA ((oA eA [] 0 l).drop (k+1)):=by unfold sA;rw[←List.flatMap_append,List.take_append_drop]
  rw[s1]at s3;have bI:=zcX (z4D hc)
  unfold cC at x1 tl;generalize oA eA [] 0 l=ps at *;generalize nA eA (l.take k) l[k] (JB [] 0 (l.take k))=p at *;generalize JB [] 0 (l.take k)=st at *;generalize sA (ps.take k)=A at *;generalize sA (ps.drop (k+1))=Z at *;refine zcY fun c hcs=>?_
  rw[x1]at hcs;obtain⟨j,hj,rfl⟩:=List.mem_iff_getElem.1 hcs;have hjl:j<l[k].b.length:=by
   have:(win (YD ds 0 (wF ds) ((sA ps).zip (xB ps))) (A.length+p.fr) l[k].b.length).length≤l[k].b.length:=by unfold win;simp;omega
   omega
  have hzl:((sA ps).zip (xB ps)).length=(sA ps).length:=by rw[List.length_zip];omega
  have hlen:(sA ps).length=A.length+p.tms.length+Z.length:=by rw[s3];simp;omega
  obtain⟨b,b1,b2⟩:=z8Z ds hd ((sA ps).zip (xB ps)) 0 (wF ds) (A.length+p.fr+j) (by omega) (zoB ds) (by simp [wF]) (fun x hx=>bI _ (List.of_mem_zip hx).2)
  have e1:(win (YD ds 0 (wF ds) ((sA ps).zip (xB ps))) (A.length+p.fr) l[k].b.length)[j]?=(YD ds 0 (wF ds) ((sA ps).zip (xB ps)))[A.length+p.fr+j]?:=by
   unfold win;rw[List.getElem?_take,if_pos hjl,List.getElem?_drop]
  rw[List.getElem?_eq_getElem hj,b2]at e1;rw[Option.some.inj e1];have e2:(((sA ps).zip (xB ps)).take (A.length+p.fr+j)).map Prod.fst=A++p.tms.take (p.fr+j):=by
   rw[List.map_take,List.map_fst_zip (by omega),s3,Nat.add_assoc,List.append_assoc,List.take_length_add_append,List.take_append_of_le_length (by omega)]
  rw[e2,JG,ea];have:=sc j hjl;unfold nI;rw[if_pos this];exact b1
end Go.Am
end
section
/- Programs run: the program: Failed. -/
open Go
set_option linter.all false
set_option maxRecDepth 100000
namespace Go.Am
variable {h:aA} {K:kA}
attribute [-go_sem] SA splice
def gE (c:Cmd)(s:List UInt8)(j:Nat):Nat:=(List.range j).countP fun k=>decide (c.m[k]?=some 49)&&decide (s[k]?≠c.w[k]?)
theorem zfa (c:Cmd)(s:List UInt8):gE c s c.m.length=pG c s:=rfl
theorem zfb (c:Cmd)(s:List UInt8)(j:Nat):gE c s j≤j:=by
 unfold gE;have:=List.countP_le_length (p:=fun k=>decide (c.m[k]?=some 49)&&decide (s[k]?≠c.w[k]?)) (l:=List.range j)
 rwa [List.length_range]at this
theorem zfc (c:Cmd)(s:List UInt8)(j:Nat):gE c s (j+1)=gE c s j+if c.m[j]?=some 49∧s[j]?≠c.w[j]? then 1 else 0:=by
 unfold gE;rw[List.range_succ,List.countP_append,List.countP_singleton];congr 1
 by_cases h1:c.m[j]?=some 49 <;> by_cases h2:s[j]?=c.w[j]? <;> simp [h1,h2]
def pf1 (l:List (Nat × Nat)):List PV:=l.map fun x=>eI x.1
def pf2 (l:List (Nat × Nat)):List PV:=l.map fun x=>eI x.2
theorem zo5 (l:List (Nat × Nat)):(pf1 l).length=l.length:=List.length_map ..
theorem zo7 (l:List (Nat × Nat)):(pf2 l).length=l.length:=List.length_map ..
theorem zo4 (l m:List (Nat × Nat)):pf1 (l++m)=pf1 l++pf1 m:=List.map_append ..
theorem zo6 (l m:List (Nat × Nat)):pf2 (l++m)=pf2 l++pf2 m:=List.map_append ..
theorem u8_ne {a b:UInt8}:((a.toNat:Int)=(b.toNat:Int))↔a=b:=⟨fun e=>UInt8.toNat_inj.1 (by omega),fun e=>by rw[e]⟩
set_option maxHeartbeats 4000000 in
theorem zp4 (ds:List TDev)(hB:∀ d∈ds,DevB d)(h3:ds.length≤1000)(l:List Cmd)(hok:∀ c∈l,CmdOk c)(hl:l.length≤1000000) :
 bA X aP [jD ds,ACs l] h K=K (.tup [.p (.sl none (if fD ds l=0 then pf1 (oC l (FB ds l) l.length) else [])),.p (.sl none (if fD ds l=0 then pf2 (oC l (FB ds l) l.length) else [])),AI (fD ds l)]) h []:=by
 refine xA ?_;rw[ze1 rfl];have q1:=fun h K=>z3j (h:=h) (K:=K) ds hB h3 l hok hl
 by_cases e:fD ds l=0
 ·obtain⟨e1,e2⟩:=yV e
  have q2:=fun h K=>z3i (h:=h) (K:=K) ds hB e1 l e2
  rw[if_pos e,if_pos e];rw[e]at q1 ⊢;obtain⟨hc,hn,hl⟩:=sM e2;have tl:=bQ (ds:=ds) hc
  have rl:(FB ds l).length=l.length:=EM eA l [] 0 0 (cC ds l)
  have rs:=fun k hk=>z2N (R:=cC ds l) l (by omega) k hk
  have hRV:PC eA [] 0 l 0 (cC ds l)=FB ds l:=rfl
  rw[hRV]at rs;simp only[IN,go_sem,↓q1,q1,↓q2,q2];generalize FB ds l=RV at *;refine jB (fun k:Nat=>⟨[(1,ACs l),(8,.own h.length (oC l RV k).length 0 (oC l RV k).length),(9,.own (h.length+1) (oC l RV k).length 0 (oC l RV k).length),(22,tI RV),(23,.p (.int .i64 (RV.length:Nat))),(24,AI k)],h++[.row none (pf1 (oC l RV k)) 0,.row none (pf2 (oC l RV k)) 0],[]⟩) (fun k=>k≤l.length) (fun k=>l.length-k) 0 rfl (by omega) ?_
  intro k hk;rw[kH];have fle:=z6X l RV k
  have l1:=zo5 (oC l RV k)
  have l2:=zo7 (oC l RV k)
  have ms:(oC l RV k).length+1≤NA:=by unfold NA;omega
  rcases Nat.lt_or_ge k l.length with hlt|hge
  ·have hlt':(k:Int)<(RV.length:Int):=by omega
   have hg:=iC dB hlt
   obtain⟨s,x1,x2⟩:=rs k hlt;have hgs:(RV.map PV.str)[k]?=some (.str s):=by rw[List.getElem?_map,x1];rfl
   have w2:IntKind.i64.wrap ((k:Int)+1)=((k+1:Nat):Int):=GA _ (by omega) (by omega)
   have ml:=z0K (hc _ (List.getElem_mem hlt))
   have fs:=z6Y l RV k
   have d1:l.getD k XG=l[k]:=by rw[List.getD_eq_getElem?_getD,List.getElem?_eq_getElem hlt];rfl
   have d2:RV.getD k []=s:=by rw[List.getD_eq_getElem?_getD,x1];rfl
   rw[d1,d2]at fs;generalize oC l RV k=F at *;generalize l[k]=c at *;have fp:dB c = .agg [eI c.k,eI c.s,eI c.cl,.str c.b,.str c.w,.str c.m]:=rfl
   rw[fp]at hg;have hmb:c.m.length≤2000∧(∀j,j<c.m.length→j<s.length∧j<c.w.length):=by
    rcases ml with⟨m1,m2,m3,m4|⟨m4,m5⟩⟩|⟨m1,m4⟩
    ·rw[m4];exact⟨by simp,fun j hj=>by simp at hj⟩
    ·rw[if_pos m1]at x2;exact⟨by omega,fun j hj=>by omega⟩
    ·rw[m4];exact⟨by simp,fun j hj=>by simp at hj⟩
   simp only[AH,iG,ZN,YI,aO,ZI,go_sem,hlt',hgs,hg];refine jB (fun j:Nat=>⟨[(1,ACs l),(8,.own h.length F.length 0 F.length),(9,.own (h.length+1) F.length 0 F.length),(10,AI k),(11,AS s),(12,AI (gE c s j)),(22,tI RV),(23,.p (.int .i64 (RV.length:Nat))),(24,AI k),(34,AI c.m.length),(35,AI j)],h++[.row none (pf1 F) 0,.row none (pf2 F) 0],[]⟩) (fun j=>j≤c.m.length) (fun j=>c.m.length-j) 0 rfl (by omega) ?_
   intro j hj;have cle:=zfb c s j
   have w3:IntKind.i64.wrap ((gE c s j:Int)+1)=((gE c s j+1:Nat):Int):=GA _ (by omega) (by omega)
   have w4:IntKind.i64.wrap ((j:Int)+1)=((j+1:Nat):Int):=GA _ (by omega) (by omega)
   rcases Nat.lt_or_ge j c.m.length with jlt|jge
   ·have jlt':(j:Int)<(c.m.length:Int):=by omega
    obtain⟨y1,y2⟩:=hmb.2 j jlt;have g1:c.m[j]?=some c.m[j]:=List.getElem?_eq_getElem jlt
    have g2:s[j]?=some s[j]:=List.getElem?_eq_getElem y1
    have g3:c.w[j]?=some c.w[j]:=List.getElem?_eq_getElem y2
    have cs:=zfc c s j
    rw[g1,g2,g3]at cs;by_cases h49:c.m[j]=49
    ·have h49':(c.m[j].toNat:Int)=49:=by rw[h49];rfl
     by_cases hw:s[j]=c.w[j]
     ·have cs:gE c s (j+1)=gE c s j:=by rw[cs];simp [hw]
      have hw':(s[j].toNat:Int)=(c.w[j].toNat:Int):=by rw[hw]
      simp only[AH,iG,ZN,YI,aO,ZI,go_sem,jlt',jlt,hg,g1,g2,g3,h49',hw',w4];exact⟨j+1,by rw[cs],by omega,by omega⟩
     ·have cs:gE c s (j+1)=gE c s j+1:=by rw[cs];simp [hw,h49]
      have hw':¬(s[j].toNat:Int)=(c.w[j].toNat:Int):=fun q=>hw (u8_ne.1 q)
      simp only[AH,iG,ZN,YI,aO,ZI,go_sem,jlt',jlt,hg,g1,g2,g3,h49',hw',w3,w4];exact⟨j+1,by rw[cs],by omega,by omega⟩
    ·have cs:gE c s (j+1)=gE c s j:=by rw[cs];simp [h49]
     have h49':¬(c.m[j].toNat:Int)=49:=fun q=>h49 (UInt8.toNat_inj.1 (by rw[show(49:UInt8).toNat=49 from rfl];omega))
     simp only[AH,iG,ZN,YI,aO,ZI,go_sem,jlt',jlt,hg,g1,h49',w4];exact⟨j+1,by rw[cs],by omega,by omega⟩
   ·have ej:j=c.m.length:=by omega
    rw[ej]at cle ⊢;rw[zfa]at cle ⊢;by_cases hf:0<pG c s
    ·rw[if_pos hf]at fs
     have hf':(0:Int)<(pG c s:Int):=by omega
     simp only[AH,iG,z0d,JN,go_sem,splice,Int.lt_irrefl,hf',l1,l2,ms,w2];refine⟨k+1,?_,by omega,by omega⟩
     rw[fs,zo4,zo6,List.length_append];rfl
    ·rw[if_neg hf,List.append_nil]at fs
     have hf':¬(0:Int)<(pG c s:Int):=by omega
     simp only[AH,iG,z0d,JN,go_sem,Int.lt_irrefl,hf',w2];exact⟨k+1,by rw[fs],by omega,by omega⟩
  ·have ek:k=l.length:=by omega
   subst ek;have hlt':¬(l.length:Int)<(RV.length:Int):=by omega
   have wf1:win (pf1 (oC l RV l.length)) 0 (oC l RV l.length).length=pf1 (oC l RV l.length):=YF l1
   have wf2:win (pf2 (oC l RV l.length)) 0 (oC l RV l.length).length=pf2 (oC l RV l.length):=YF l2
   simp only[AH,iG,z5I,lS,go_sem,hlt',l1,l2,wf1,wf2]
 ·rw[if_neg e,if_neg e]
  simp only[IN,go_sem,↓q1,q1,e,List.map_nil]
end Go.Am
end
section
/- Learned programs do not fail. -/
open Go
set_option linter.all false
set_option maxRecDepth 100000
namespace Go.Am
theorem z8c (l:List Cmd)(RV:List (List UInt8)):(uC l RV).length=l.length:=aT _ _ _
theorem zkE (l:List Cmd)(RV:List (List UInt8)){k:Nat}(hk:k<l.length){s:List UInt8}(hs:RV[k]?=some s):(uC l RV)[k]?=some (ID l[k] s):=by
 rw[List.getElem?_eq_getElem (by rw[z8c];exact hk)]
 simp [uC,pC,List.getD_eq_getElem?_getD,List.getElem?_eq_getElem hk,hk,hs]
theorem ziT {c:Cmd}(h:FA c=0)(s:List UInt8):pG (ID c s) s=0:=by
 unfold pG;apply List.countP_eq_zero.2
 intro k _;unfold ID;cases hq:zB c with
 | true=>rw[if_pos rfl];simp
 | false=>
  rw[if_neg (by simp)]
  rcases z0K h with⟨m1,_⟩|⟨_,m2⟩
  ·rw[hq]at m1;cases m1
  ·rw[m2];simp
theorem zr5 {c:Cmd}(h:FA c=0)(hq:zB c=false):c.w=[]:=by
 have:¬(c.k=7∨c.k=8):=fun q=>by rw[WC.2 q]at hq;cases hq
 cases SD h with
 | set h' _ e=>rw[e]
 | pad _ _ _ _ e=>rw[e]
 | go _ _ e=>rw[e]
 | idle _ _ _ e=>rw[e]
 | scan hk _ _=>exact absurd hk this
structure Lrn (ds:List TDev) (l:List Cmd) (RV:List (List UInt8)):Prop where
 ok:∀c∈uC l RV,CmdOk c
 f:DB eA (uC l RV)=0
 n:(uC l RV).length=l.length
 t:sA (oA eA [] 0 (uC l RV))=sA (oA eA [] 0 l)
 i:xB (oA eA [] 0 (uC l RV))=xB (oA eA [] 0 l)
 r:FB ds (uC l RV)=RV
 z:oC (uC l RV) RV l.length=[]
 w:∀k,k<l.length→∃s c,RV[k]?=some s∧(uC l RV)[k]?=some c∧c.w=s
theorem lrn {ds:List TDev}(hd:∀ d∈ds,DevOk d){l:List Cmd}(hok:∀ c∈l,CmdOk c)(h0:DB eA l=0):Lrn ds l (FB ds l):=by
 obtain⟨hc,hT,h1⟩:=sM h0;obtain⟨a1,a2,a3⟩:=FQ (zkG l (FB ds l)) ds;have tl:=bQ (ds:=ds) hc
 have rl:(FB ds l).length=l.length:=EM eA l [] 0 0 (cC ds l)
 have rs:=fun k hk=>z2N (R:=cC ds l) l (by omega) k hk
 have hRV:PC eA [] 0 l 0 (cC ds l)=FB ds l:=rfl
 rw[hRV]at rs;have rb:=fun k (hk:k<l.length) s hs=>zpa hd hc hk (s:=s) hs
 have g:=fun k (hk:k<l.length) s hs=>zkE l (FB ds l) hk (s:=s) hs
 have ln:=z8c l (FB ds l)
 generalize FB ds l=RV at *;have mem:∀c∈uC l RV,∃k,∃(hk:k<l.length),∃s,RV[k]?=some s∧c=ID l[k] s:=fun c hm=>by
  obtain⟨k,hk⟩:=List.mem_iff_getElem?.1 hm;have hlt:k<l.length:=by rw[←ln];exact(List.getElem?_eq_some_iff.1 hk).1
  obtain⟨s,x1,x2⟩:=rs k hlt;rw[g k hlt s x1]at hk;exact⟨k,hlt,s,x1,(Option.some.inj hk).symm⟩
 have sl:∀k (hk:k<l.length) s,RV[k]?=some s→zB l[k]=true→s.length=l[k].b.length:=fun k hk s hs q=>by
  obtain⟨s',x1,x2⟩:=rs k hk;rw[hs]at x1;cases x1;rw[if_pos q]at x2;exact x2
 refine⟨fun c hm=>?_,?_,ln,a1,a2,a3,?_,fun k hk=>?_⟩
 ·obtain⟨k,hk,s,x1,rfl⟩:=mem c hm
  have o:=hok _ (List.getElem_mem hk)
  unfold ID;split
  ·rename_i q
   have:=sl k hk s x1 q;have:=o.b;exact⟨o.b,by dsimp only;omega,by simp [nE];omega⟩
  ·exact o
 ·unfold DB
  have z:cD (uC l RV)=0:=z5i fun c hm=>by
   obtain⟨k,hk,s,x1,rfl⟩:=mem c hm;exact zkF (hc _ (List.getElem_mem hk)) (rb k hk s x1) (sl k hk s x1)
  rw[z,a1,ln,if_neg (by omega),if_neg (by omega),if_neg (by omega)]
 ·unfold oC
  rw[List.filterMap_eq_nil_iff];intro i hi;have hi:i<l.length:=List.mem_range.1 hi
  obtain⟨s,x1,x2⟩:=rs i hi;have e1:(uC l RV).getD i XG=ID l[i] s:=by rw[List.getD_eq_getElem?_getD,g i hi s x1];rfl
  have e2:RV.getD i []=s:=by rw[List.getD_eq_getElem?_getD,x1];rfl
  rw[e1,e2,ziT (hc _ (List.getElem_mem hi)),if_neg (Nat.lt_irrefl 0)]
 ·obtain⟨s,x1,x2⟩:=rs k hk
  refine⟨s,_,x1,g k hk s x1,?_⟩;unfold ID;cases q:zB l[k]with
  | true=>rw[if_pos rfl]
  | false=>
   rw[if_neg (by simp),zr5 (hc _ (List.getElem_mem hk)) q]
   rw[q,if_neg (by simp)]at x2
   exact(List.length_eq_zero_iff.1 x2).symm
end Go.Am
end
section
/- Devices of a chain,drawn. -/
open Go
set_option linter.all false
set_option maxRecDepth 100000
namespace Go.Am
variable {L:List Int} {a:Int} {h l:aA} {id:Nat} {K:kA}
attribute [-go_sem] SA
def ZC:List UInt8:=[100,97,116,97]
structure DvG (d:TDev):Prop where
 n:d.name.length≤10
 lo : -1000≤d.long∧d.long≤1000
 id : -1000≤d.id∧d.id≤1000
 r:∃n:Int,d.regs=[⟨ZC,n⟩]∧1≤n∧n≤4
 i:d.ins.length≤2
 c:∀x∈d.ins,x.code.length≤4∧x.reg.length≤10
 z:∃(m:Nat) (rest:List TIns),d.ins=⟨zs m,ZC⟩::rest∧∀x∈rest,x.code.headD 0=49
theorem DvG.b {d:TDev}(D:DvG d):DevB d:=by
 obtain⟨n,e,_,_⟩:=D.r;exact⟨by have:=D.n;omega,by rw[e];simp,by have:=D.i;omega,fun r hr=>by rw[e]at hr;simp at hr;rw[hr];simp [ZC],fun x hx=>by have:=D.c x hx;omega⟩
attribute [-go_sem] HG GF jG pF LF SE zS lK BS SI
theorem z2F {l:List Int}{lo hi:Int}(hl:0<l.length)(hl2:l.length<4611686018427387904)(h:∀ x∈l,lo≤x∧x≤hi)(a:Int):lo≤NC l L a∧NC l L a≤hi:=h _ (UU hl hl2)
theorem z7n {o0 o1 o3:Obj}{sh:Sh}{xs:List PV}{fz n:Nat}:frz [o0,o1,.row sh xs fz,o3] 2 n=[o0,o1,.row sh xs (max fz n),o3]:=rfl
theorem z7o {o0 o1 o2:Obj}{sh:Sh}{xs:List PV}{fz n:Nat}:frz [o0,o1,o2,.row sh xs fz] 3 n=[o0,o1,o2,.row sh xs (max fz n)]:=rfl
theorem win1 {x:PV}:win [x] 0 1=[x]:=rfl
theorem win2 {x y:PV}:win [x,y] 0 2=[x,y]:=rfl
theorem z7H {o0 o1 o2 o3:Obj}:[o0,o1,o2,o3][3]?=some o3:=rfl
theorem z7G {o0 o1 o2 o3:Obj}:[o0,o1,o2,o3][2]?=some o2:=rfl
attribute [local go_sem] z7n z7o win1 win2 z7H z7G
theorem AK {b:Nat}{X Y:Esc}(hX:∀ y∈X,b≤y.1)(hY:∀ y∈Y,b≤y.1):∀y∈X++Y,b≤y.1:=fun y hy=>by
 rcases List.mem_append.1 hy with e|e
 ·exact hX y e
 ·exact hY y e
theorem BK {b i:Nat}{v:AV}(h:b≤i):∀y∈UC i v,b≤y.1:=fun y hy=>by
 unfold UC at hy;split at hy
 ·rw[List.mem_singleton.1 hy];exact h
 ·cases hy
def uvw:List (List UInt8):=[[117],[118],[119]]
set_option maxHeartbeats 4000000 in
theorem zeP (hid:id<h.length){b:Int}(hp:aB 100 b){ds:List TDev}(h1:1≤ds.length)(h3:ds.length≤3)(hd:∀ d∈ds,DvG d){P:kA}{y:List (Nat × AV)}{E:Ex→St→Prop}(hE:E=qA [.t 2] false h.length P)
 (hP:∀(ds':List TDev) (b':Int),b≤b'→b'≤b+10→ds'.length=ds.length→(∀d∈ds',DvG d)→P (jD ds') (h.set id (OA L b')) []) :
 NW (bA X) X.gl yP ⟨[(0,.ref id 0),(3,.own h.length ds.length 0 ds.length)]++y,h.set id (OA L b)++[.row (some 5) (ds.map JA) 0],[]⟩ E:=by
 subst hE;have hid':id≤h.length:=by omega
 have Q:=rM (OC hp (Int.le_refl b) (by omega))
 have lml:(ds.map JA).length=ds.length:=List.length_map ..
 have done:∀(ds':List TDev) (b':Int),b≤b'→b'≤b+10→ds'.length=ds.length→(∀d∈ds',DvG d)→∀(M:List PV) (y:List (Nat×AV)),gA y 3 = .own h.length ds.length 0 ds.length→M=ds'.map JA→NW (bA X) X.gl xP ⟨y,h.set id (OA L b')++[.row (some 5) M 0],[]⟩ (qA [.t 2] false h.length P):=fun ds' b' q1 q2 q3 q4 M y hy hM=>by
  subst hM;have l2:(ds'.map JA).length=ds.length:=by rw[List.length_map,q3]
  have wf:win (ds'.map JA) 0 ds.length=ds'.map JA:=YF l2
  rw[zS];simp only[lK,hy];simp only[go_sem,l2,wf];exact hP ds' b' q1 q2 q3 q4
 rw[BS];by_cases hf:CB L b 20=0
 ·obtain⟨j1,j2⟩:=vJ L (b+1) ds.length (by omega) (by omega)
  obtain⟨j,hj⟩:=Int.eq_ofNat_of_zero_le j1;have hjl:j<ds.length:=by omega
  have hg:=iC JA hjl
  have D:=hd _ (List.getElem_mem hjl)
  have fp:∀y:TDev,JA y = .agg [.str y.name,eI y.long,eI y.id,.sl (some 2) (y.regs.map DA),.sl (some 2) (y.ins.map ZA)]:=fun _=>rfl
  have hset:∀(n:List UInt8) (lo i:Int),(ds.map JA).set j (.agg [.str n,eI lo,eI i,.sl (some 2) (ds[j].regs.map DA),.sl (some 2) (ds[j].ins.map ZA)])=(ds.set j ⟨n,lo,i,ds[j].regs,ds[j].ins⟩).map JA:=fun n lo i=>by rw[List.map_set];rfl
  have hmem:∀(n:List UInt8) (lo i:Int),n.length≤10→(-1000≤lo∧lo≤1000)→(-1000≤i∧i≤1000)→∀d∈ds.set j ⟨n,lo,i,ds[j].regs,ds[j].ins⟩,DvG d:=fun n lo i q1 q2 q3 d hm=>by
   rcases List.mem_or_eq_of_mem_set hm with e|e
   ·exact hd d e
   ·subst e;exact⟨q1,q2,q3,D.r,D.i,D.c,D.z⟩
  generalize hdj:ds[j]=d at *;rw[fp]at hg;have pm:=IP (l:=[d.name,[],[117]]) (L:=L) (a:=b+1+1) (by simp) (by simp)
  have pl:(KD [d.name,[],[117]] L (b+1+1)).length≤10:=by
   simp only[List.mem_cons,List.not_mem_nil,or_false]at pm;rcases pm with e|e|e
   ·rw[e];exact D.n
   ·rw[e];decide
   ·rw[e];decide
  obtain⟨l1,l2⟩:=z2F (L:=L) (l:=[d.long,1,33]) (lo:=-1000) (hi:=1000) (by simp) (by simp) (by simp;exact D.lo) (b+1+1+1)
  obtain⟨k1,k2⟩:=z2F (L:=L) (l:=[d.id,4,-1]) (lo:=-1000) (hi:=1000) (by simp) (by simp) (by simp;exact D.id) (b+1+1+1+1)
  generalize hps:KD [d.name,[],[117]] L (b+1+1)=nm at *;generalize hlo:NC [d.long,1,33] L (b+1+1+1)=lo at *;generalize hii:NC [d.id,4,-1] L (b+1+1+1+1)=ii at *;have gs:∀v,((ds.map JA).set j v)[j]?=some v:=fun v=>List.getElem?_set_self (by omega)
  have ss:∀v w,((ds.map JA).set j v).set j w=(ds.map JA).set j w:=fun v w=>List.set_set ..
  have ls:∀v,((ds.map JA).set j v).length=ds.length:=fun v=>by rw[List.length_set,lml]
  simp (config:={maxSteps:=4000000}) only[SI,go_sem,hid,hid',Q,hf,hj,lml,hjl,hg,hps,hlo,hii,gs,ss,ls,splice,List.cons_append,List.nil_append];exact done (ds.set j ⟨nm,lo,ii,d.regs,d.ins⟩) (b+1+1+1+1+1) (by omega) (by omega) (by simp) (hmem nm lo ii pl ⟨l1,l2⟩ ⟨k1,k2⟩) _ _ rfl (hset nm lo ii)
 ·simp only[SI,go_sem,hid,hid',Q,hf,List.cons_append,List.nil_append]
  exact done ds (b+1) (by omega) (by omega) rfl hd _ _ rfl rfl
end Go.Am
end
section
/- Devices of a chain,drawn. -/
open Go
set_option linter.all false
set_option maxRecDepth 100000
namespace Go.Am
variable {L:List Int} {a:Int} {h l:aA} {id:Nat} {K:kA}
attribute [-go_sem] SA
attribute [-go_sem] HG GF jG pF LF SE zS lK BS SI
attribute [local go_sem] z7n z7o win1 win2 z7H z7G
set_option maxHeartbeats 4000000 in
theorem zjr (hp:aB 200 a):qD lO [] L a (fun v a2=>a≤a2∧a2≤a+60∧∃ds:List TDev,1≤ds.length∧ds.length≤3∧(∀d∈ds,DvG d)∧v=jD ds):=by
 refine qD.of fun h id hid=>?_
 rw[zdu rfl];have hid':id≤h.length:=by omega
 simp only[ZQ,go_sem];refine jB (fun t:Nat×Int×List TDev=>⟨[(0,.ref id 0),(3,.own h.length t.2.2.length 0 t.2.2.length),(8,.p (.sl none (uvw.map .str))),(9,AI 3),(10,AI t.1)],h.set id (OA L t.2.1)++[.row (some 5) (t.2.2.map JA) 0],[]⟩)
  (fun t=>(t.1≤3∧(1≤t.1→1≤t.2.2.length))∧(a≤t.2.1∧t.2.1≤a+10*t.1)∧t.2.2.length≤t.1∧∀d∈t.2.2,DvG d) (fun t=>3-t.1) (0,a,[]) rfl ⟨⟨by simp,by simp⟩,⟨by simp,by simp⟩,by simp,by simp⟩ ?_
 rintro⟨k,b,ds⟩ ⟨⟨i1,i2⟩,⟨i3,i4⟩,i5,i6⟩
 dsimp only at i1 i2 i3 i4 i5 i6 ⊢;rw[kH];have hlen:∀(b:Int) (t:aA),(h.set id (OA L b) ++ .row (some 5) (ds.map JA) 0::t).length=h.length+1+t.length:=fun b t=>by simp;omega
 rcases Nat.lt_or_ge k 3 with hlt|hge
 ·have P:=rM (OC hp i3 (show b+14≤a+200 by omega))
  have hlt':(k:Int)<3:=by omega
  have w1:IntKind.i64.wrap ((k:Int)+1)=((k+1:Nat):Int):=GA _ (by omega) (by omega)
  have hk3:k<uvw.length:=hlt
  have hg:=iC PV.str hk3
  have cc:∀v:List UInt8,nB none 0 (PV.str v)=some (PV.str v):=fun _=>rfl
  have nl:uvw[k].length≤10:=by
   have:k=0∨k=1∨k=2:=by omega
   rcases this with rfl|rfl|rfl <;> simp [uvw]
  generalize uvw[k]=nm at *;by_cases hf:CB L b 3=0∧0<ds.length
  ·obtain⟨f1,f2⟩:=hf
   have f2':(0:Int)<(ds.length:Int):=by omega
   simp only[LF,SE,jG,pF,go_sem,hid,hid',P,hlt',hg,cc,f1,f2',w1];refine⟨(k+1,b+1,ds),rfl,⟨⟨by dsimp only;omega,fun _=>by dsimp only;omega⟩,⟨by dsimp only;omega,by dsimp only;omega⟩,by dsimp only;omega,i6⟩,by dsimp only;omega⟩
  ·obtain⟨m1,m2⟩:=LP (u:=2) (v:=4) L (b+1) (by omega) (by omega)
   obtain⟨j1,j2⟩:=z2F (L:=L) (l:=[0,0,5,257]) (lo:=0) (hi:=257) (by simp) (by simp) (by simp) (b+1+1)
   obtain⟨n1,n2⟩:=LP (u:=1) (v:=4) L (b+1+1+1) (by omega) (by omega)
   generalize hm:XD 2 4 L (b+1)=m at *;generalize hi:NC [0,0,5,257] L (b+1+1)=i at *;generalize hn:XD 1 4 L (b+1+1+1)=n at *;have rz:=fun h K=>uG (h:=h) (K:=K) m (by omega) (by omega)
   have rz2:=fun h K=>uG (h:=h) (K:=K) (m-1) (by omega) (by omega)
   have zl:(zs m.toNat).length≤4:=by simp [zs];omega
   have zl2:(zs (m-1).toNat).length≤3:=by simp [zs];omega
   have hzz:∃k:Nat,zs m.toNat=zs k:=⟨_,rfl⟩
   generalize zs m.toNat=z at *;generalize zs (m-1).toNat=z2 at *;have w3:IntKind.i64.wrap (m-1)=m-1:=GA _ (by omega) (by omega)
   have ml:1+z2.length≤PA:=by unfold PA;omega
   have dsl:(ds.map JA).length=ds.length:=List.length_map ..
   have ms:ds.length+1≤NA:=by unfold NA;omega
   have cond:CB L b 3=0∧¬(0:Int)<(ds.length:Int)∨¬CB L b 3=0:=by
    by_cases q:CB L b 3=0
    ·exact .inl ⟨q,fun c=>hf ⟨q,by omega⟩⟩
    ·exact .inr q
   have fin:∀(d:TDev) (b2:Int),b≤b2→b2≤b+10→DvG d→∀M:List PV,M=(ds++[d]).map JA→∃u:Nat×Int×List TDev,(⟨[(0,.ref id 0),(3,.own h.length (ds.length+1) 0 (ds.length+1)),(8,.p (.sl none (uvw.map .str))),(9,AI 3),(10,.p (.int .i64 ((k+1:Nat):Int)))],h.set id (OA L b2)++[.row (some 5) M 0],[]⟩:St)=⟨[(0,.ref id 0),(3,.own h.length u.2.2.length 0 u.2.2.length),(8,.p (.sl none (uvw.map .str))),(9,AI 3),(10,AI u.1)],h.set id (OA L u.2.1)++[.row (some 5) (u.2.2.map JA) 0],[]⟩∧((u.1≤3∧(1≤u.1→1≤u.2.2.length))∧(a≤u.2.1∧u.2.1≤a+10*u.1)∧u.2.2.length≤u.1∧∀d∈u.2.2,DvG d)∧3-u.1<3-k:=fun d b2 h1 h2 hd M hM=>by
    subst hM;refine⟨(k+1,b2,ds++[d]),by simp,⟨⟨by dsimp only;omega,fun _=>by simp⟩,⟨by dsimp only;omega,by dsimp only;omega⟩,by simp;omega,fun y hy=>?_⟩,by dsimp only;omega⟩
    rcases List.mem_append.1 hy with e|e
    ·exact i6 y e
    ·rw[List.mem_singleton.1 e];exact hd
   have D1:DvG ⟨nm,m,i,[⟨ZC,n⟩],[⟨z,ZC⟩]⟩:=⟨nl,by dsimp only;omega,by dsimp only;omega,⟨n,rfl,n1,n2⟩,by simp,fun x hx=>by simp at hx;rw[hx];exact⟨zl,by simp [ZC]⟩,by obtain⟨q,hq⟩:=hzz;exact⟨q,[],by rw[hq],by simp⟩⟩
   have D2:DvG ⟨nm,m,i,[⟨ZC,n⟩],[⟨z,ZC⟩,⟨49::z2,sB⟩]⟩:=⟨nl,by dsimp only;omega,by dsimp only;omega,⟨n,rfl,n1,n2⟩,by simp,fun x hx=>by
    simp at hx;rcases hx with e|e
    ·rw[e];exact⟨zl,by simp [ZC]⟩
    ·rw[e];exact⟨by simp;omega,by simp [sB]⟩,by obtain⟨q,hq⟩:=hzz;exact⟨q,[⟨49::z2,sB⟩],by rw[hq],fun x hx=>by simp at hx;rw[hx];rfl⟩⟩
   rcases cond with⟨f1,f2⟩|f1
   ·by_cases hz:i=0
    ·simp (config:={maxSteps:=4000000}) only[LF,SE,jG,pF,HG,GF,go_sem,hid,hid',P,hlt',hg,cc,w1,hm,hi,hn,↓rz,rz,splice,f1,f2,eq_true hz,dsl,ms]
     rw[UM (b:=h.length+1) (by repeat first|exact BK (by omega)|refine AK ?_ ?_)]
     simp only[go_sem,hid'];refine fin ⟨nm,m,i,[⟨ZC,n⟩],[⟨z,ZC⟩]⟩ (b+1+1+1+1) (by omega) (by omega) ?_ _ ?_
     ·exact D1 
     ·rw[List.map_append];rfl
    ·by_cases hfl:CB L (b+1+1+1+1) 2=0
     ·simp (config:={maxSteps:=4000000}) only[LF,SE,jG,pF,HG,GF,go_sem,hid,hid',P,hlt',hg,cc,w1,hm,hi,hn,↓rz,rz,splice,f1,f2,hz,hfl,w3,↓rz2,rz2,ml,dsl,ms]
      rw[UM (b:=h.length+1) (by repeat first|exact BK (by omega)|refine AK ?_ ?_)]
      simp only[go_sem,hid'];refine fin ⟨nm,m,i,[⟨ZC,n⟩],[⟨z,ZC⟩,⟨49::z2,sB⟩]⟩ (b+1+1+1+1+1) (by omega) (by omega) ?_ _ ?_
      ·exact D2 
      ·rw[List.map_append];rfl
     ·simp (config:={maxSteps:=4000000}) only[LF,SE,jG,pF,HG,GF,go_sem,hid,hid',P,hlt',hg,cc,w1,hm,hi,hn,↓rz,rz,splice,f1,f2,hz,hfl,dsl,ms]
      rw[UM (b:=h.length+1) (by repeat first|exact BK (by omega)|refine AK ?_ ?_)]
      simp only[go_sem,hid'];refine fin ⟨nm,m,i,[⟨ZC,n⟩],[⟨z,ZC⟩]⟩ (b+1+1+1+1+1) (by omega) (by omega) ?_ _ ?_
      ·exact D1 
      ·rw[List.map_append];rfl
   ·by_cases hz:i=0
    ·simp (config:={maxSteps:=4000000}) only[LF,SE,jG,pF,HG,GF,go_sem,hid,hid',P,hlt',hg,cc,w1,hm,hi,hn,↓rz,rz,splice,f1,eq_true hz,dsl,ms]
     rw[UM (b:=h.length+1) (by repeat first|exact BK (by omega)|refine AK ?_ ?_)]
     simp only[go_sem,hid'];refine fin ⟨nm,m,i,[⟨ZC,n⟩],[⟨z,ZC⟩]⟩ (b+1+1+1+1) (by omega) (by omega) ?_ _ ?_
     ·exact D1 
     ·rw[List.map_append];rfl
    ·by_cases hfl:CB L (b+1+1+1+1) 2=0
     ·simp (config:={maxSteps:=4000000}) only[LF,SE,jG,pF,HG,GF,go_sem,hid,hid',P,hlt',hg,cc,w1,hm,hi,hn,↓rz,rz,splice,f1,hz,hfl,w3,↓rz2,rz2,ml,dsl,ms]
      rw[UM (b:=h.length+1) (by repeat first|exact BK (by omega)|refine AK ?_ ?_)]
      simp only[go_sem,hid'];refine fin ⟨nm,m,i,[⟨ZC,n⟩],[⟨z,ZC⟩,⟨49::z2,sB⟩]⟩ (b+1+1+1+1+1) (by omega) (by omega) ?_ _ ?_
      ·exact D2 
      ·rw[List.map_append];rfl
     ·simp (config:={maxSteps:=4000000}) only[LF,SE,jG,pF,HG,GF,go_sem,hid,hid',P,hlt',hg,cc,w1,hm,hi,hn,↓rz,rz,splice,f1,hz,hfl,dsl,ms]
      rw[UM (b:=h.length+1) (by repeat first|exact BK (by omega)|refine AK ?_ ?_)]
      simp only[go_sem,hid'];refine fin ⟨nm,m,i,[⟨ZC,n⟩],[⟨z,ZC⟩]⟩ (b+1+1+1+1+1) (by omega) (by omega) ?_ _ ?_
      ·exact D1 
      ·rw[List.map_append];rfl
 ·have ek:k=3:=by omega
  subst ek;have hn1:1≤ds.length:=i2 (by omega)
  simp only[LF,SE,go_sem,hid'];refine zeP hid (OC hp i3 (by omega)) hn1 i5 i6 rfl ?_
  intro ds' b' q1 q2 q3 q4;exact⟨b',⟨by omega,by omega,ds',by omega,by omega,q4,rfl⟩,rfl,rfl⟩
end Go.Am
end
section
/- What is drawn: bits,commands. -/
open Go
set_option linter.all false
namespace Go.Am
variable {L:List Int} {a:Int} {h l:aA} {id:Nat} {K:kA}
attribute [-go_sem] SA FF
theorem zda (a:Int):KD [[48],[49]] L a=[48]∨KD [[48],[49]] L a=[49]:=by
 have:=IP (l:=[[48],[49]]) (L:=L) (a:=a) (by simp) (by simp)
 simpa using this
theorem US (n:Nat)(hn:n≤1000)(hp:aB 1200 a):qD tF [AI n] L a (fun v a2=>a2=a+n∧∃s:List UInt8,zA s=true∧s.length=n∧v=AS s):=by
 refine qD.of fun h id hid=>?_
 rw[zd2 rfl];simp only[iR,go_sem];refine jB (fun t:Nat×List UInt8=>⟨[(0,.ref id 0),(5,AS t.2),(6,AI n),(7,AI t.1)],h.set id (OA L (a+t.1)),[]⟩) (fun t=>t.1≤n∧t.2.length=t.1∧zA t.2=true) (fun t=>n-t.1) (0,[]) (by simp) ⟨Nat.zero_le _,rfl,rfl⟩ ?_
 rintro⟨k,s⟩ ⟨hk,hs,hb⟩
 dsimp only at hk hs hb ⊢;rcases Nat.lt_or_ge k n with hlt|hge
 ·have w2:IntKind.i64.wrap ((k:Int)+1)=((k+1:Nat):Int):=GA _ (by omega) (by omega)
  have P:=OC (n:=0) hp (show a≤a+(k:Int) by omega) (by omega)
  have hlt':(k:Int)<(n:Int):=by omega
  have e:a+((k+1:Nat):Int)=a+(k:Int)+1:=by omega
  rcases zda (L:=L) (a+(k:Int)) with e1|e1
  ·have hl:s.length+1≤PA:=by unfold PA;omega
   simp only[go_sem,hlt,hlt',hid,P,w2,e1,hl];exact⟨(k+1,s++[48]),by dsimp only;rw[e],⟨by dsimp only;omega,by simp [hs],by unfold zA at *;rw[List.all_append,hb];rfl⟩,by dsimp only;omega⟩
  ·have hl:s.length+1≤PA:=by unfold PA;omega
   simp only[go_sem,hlt,hlt',hid,P,w2,e1,hl];exact⟨(k+1,s++[49]),by dsimp only;rw[e],⟨by dsimp only;omega,by simp [hs],by unfold zA at *;rw[List.all_append,hb];rfl⟩,by dsimp only;omega⟩
 ·obtain rfl:k=n:=by omega
  simp only[go_sem,Nat.lt_irrefl,Int.lt_irrefl];exact⟨a+(k:Int),⟨rfl,s,hb,hs,rfl⟩,rfl⟩
structure CmdB (m:Nat) (c:Cmd):Prop where
 k : -1152921504606846976≤c.k∧c.k≤1152921504606846976
 s : -1152921504606846976≤c.s∧c.s≤1152921504606846976
 cl : -1152921504606846976≤c.cl∧c.cl≤1152921504606846976
 b:c.b.length≤m
 w:c.w.length≤m
 m:c.m.length≤m
theorem CmdB.ok {m:Nat}{c:Cmd}(hm:m≤100000)(H:CmdB m c):CmdOk c:=⟨by have:=H.b;omega,by have:=H.w;omega,by have:=H.m;omega⟩
abbrev cmdV (c:Cmd):List AV:=[AI c.k,AI c.s,AI c.cl,AS c.b,AS c.w,AS c.m]
set_option maxHeartbeats 4000000 in
theorem ac_k4 (hid:id<h.length){b:Int}(hp:aB 60 b)(c:Cmd)(hc:CmdB 8 c){z1 z2 z3:Int}{z4 z5 z6:List UInt8}{Kx:Ex→St→Prop}
 (hK:∀(c2:Cmd) (b2:Int),b≤b2→b2≤b+8→CmdB 2100 c2→Kx .ret ⟨[(2,.ref h.length 0)],h.set id (OA L b2)++[.box (cmdV c2),.box (cmdV c2)],[]⟩) :
 FF (bA X) X.gl wP (.ref id 0) (.ref h.length 0) (.ref (h.length+1) 0) (h.set id (OA L b)++[.box [AI z1,AI z2,AI z3,AS z4,AS z5,AS z6],.box (cmdV c)]) [] Kx:=by
 have hid':id≤h.length:=by omega
 have P:=rM (OC hp (Int.le_refl b) (by omega))
 obtain⟨k,s,cl,bb,w,m⟩:=c;obtain⟨q1,q2,q3,q4,q5,q6⟩:=hc;dsimp only at q1 q2 q3 q4 q5 q6;by_cases hf:CB L b 60=0
 ·obtain⟨m1,m2⟩:=vJ L (b+1) 4 (by omega) (by omega)
  generalize hn:CB L (b+1) 4=nx at m1 m2;have:nx=0∨nx=1∨nx=2∨nx=3:=by omega
  rcases this with rfl|rfl|rfl|rfl
  ·obtain⟨kv,a3,c1,c2,c3,c4,O⟩:=z7B (L:=L) (a:=b+1+1) (OC hp (by omega) (by omega)) 1 10 (by omega) (by omega) (by omega)
   have O':=fun l K=>O.app (h:=h) (id:=id) (l:=l) (K:=K) hid
   simp only[FF,go_sem,hid,hid',P,hf,hn,O'];exact hK ⟨kv,s,cl,bb,w,m⟩ a3 (by omega) (by omega) ⟨by dsimp only;omega,q2,q3,by dsimp only;omega,by dsimp only;omega,by dsimp only;omega⟩
  ·obtain⟨kv,a3,c1,c2,c3,c4,O⟩:=z7B (L:=L) (a:=b+1+1) (OC hp (by omega) (by omega)) 0 15 (by omega) (by omega) (by omega)
   have O':=fun l K=>O.app (h:=h) (id:=id) (l:=l) (K:=K) hid
   have P3:aB 0 a3:=OC hp (by omega) (by omega)
   have pm:=UU (l:=[0,1,-1,20000,20001]) (L:=L) (a:=a3) (by simp) (by simp)
   simp only[List.mem_cons,List.not_mem_nil,or_false]at pm;simp only[FF,go_sem,hid,hid',P,P3,hf,hn,O'];exact hK ⟨k,kv,NC [0,1,-1,20000,20001] L a3,bb,w,m⟩ (a3+1) (by omega) (by omega) ⟨q1,by dsimp only;omega,by dsimp only;omega,by dsimp only;omega,by dsimp only;omega,by dsimp only;omega⟩
  ·have w1:IntKind.i64.wrap (2000-(bb.length:Int))=((2000-bb.length:Nat):Int):=by
    rw[show(2000:Int)-(bb.length:Int)=((2000-bb.length:Nat):Int) by omega];exact GA _ (by omega) (by omega)
   have r1:=fun(h':aA) (K':kA)=>uG (h:=h') (K:=K') ((2000-bb.length:Nat):Int) (by omega) (by omega)
   have r2:=fun(h':aA) (K':kA)=>uG (h:=h') (K:=K') 2001 (by omega) (by omega)
   simp only[Int.toNat_natCast]at r1;have pm:=IP (l:=[[120],[],zs (2000-bb.length),zs (Int.toNat 2001)]) (L:=L) (a:=b+1+1) (by simp) (by simp)
   have pl:(KD [[120],[],zs (2000-bb.length),zs (Int.toNat 2001)] L (b+1+1)).length≤2001:=by
    simp only[List.mem_cons,List.not_mem_nil,or_false]at pm;rcases pm with e|e|e|e
    ·rw[e];decide
    ·rw[e];decide
    ·rw[e];simp only[zs,List.length_replicate];omega
    ·rw[e];simp only[zs,List.length_replicate];omega
   generalize hps:KD [[120],[],zs (2000-bb.length),zs (Int.toNat 2001)] L (b+1+1)=ps at pl;have hl:bb.length+ps.length≤PA:=by unfold PA;omega
   simp only[FF,go_sem,hid,hid',P,hf,hn,w1,r1,r2,hps,hl];exact hK ⟨k,s,cl,bb++ps,w,m⟩ (b+1+1+1) (by omega) (by omega) ⟨q1,q2,q3,by simp;omega,by dsimp only;omega,by dsimp only;omega⟩
  ·have pm:=IP (l:=[[],[48],w++[49]]) (L:=L) (a:=b+1+1) (by simp) (by simp)
   have pl:(KD [[],[48],w++[49]] L (b+1+1)).length≤9:=by
    simp only[List.mem_cons,List.not_mem_nil,or_false]at pm;rcases pm with e|e|e
    ·rw[e];decide
    ·rw[e];decide
    ·rw[e,List.length_append,List.length_singleton];omega
   have pm2:=IP (l:=[[],[49],[120],m]) (L:=L) (a:=b+1+1+1) (by simp) (by simp)
   have pl2:(KD [[],[49],[120],m] L (b+1+1+1)).length≤9:=by
    simp only[List.mem_cons,List.not_mem_nil,or_false]at pm2;rcases pm2 with e|e|e|e
    ·rw[e];decide
    ·rw[e];decide
    ·rw[e];decide
    ·rw[e];omega
   have hl:w.length+1≤PA:=by unfold PA;omega
   generalize hps:KD [[],[48],w++[49]] L (b+1+1)=ps at pl;generalize hps2:KD [[],[49],[120],m] L (b+1+1+1)=ps2 at pl2;simp only[FF,go_sem,hid,hid',P,hf,hn,hps,hps2,hl];exact hK ⟨k,s,cl,bb,ps,ps2⟩ (b+1+1+1+1) (by omega) (by omega) ⟨q1,q2,q3,by dsimp only;omega,by dsimp only;omega,by dsimp only;omega⟩
 ·simp only[FF,go_sem,hid,hid',P,hf]
  exact hK ⟨k,s,cl,bb,w,m⟩ (b+1) (by omega) (by omega) ⟨q1,q2,q3,by dsimp only;omega,by dsimp only;omega,by dsimp only;omega⟩
theorem qM {l:List Int}{lo hi:Int}(hl:0<l.length)(hl2:l.length<4611686018427387904)(h:∀ x∈l,lo≤x∧x≤hi)(a:Int):lo≤NC l L a∧NC l L a≤hi:=h _ (UU hl hl2)
set_option maxHeartbeats 4000000 in
theorem zjq (hp:aB 2000 a):qD jO [] L a (fun v a2=>a≤a2∧a2≤a+60∧∃c:Cmd,CmdB 2100 c∧v=ACm c):=by
 refine qD.of fun h id hid=>?_
 rw[zdt rfl];have hid':id≤h.length:=by omega
 have P:=rM (OC hp (Int.le_refl a) (by omega))
 obtain⟨k1,k2⟩:=qM (L:=L) (l:=[7,7,8,8,8,1,2,3,4,5,6,9,10]) (lo:=1) (hi:=10) (by simp) (by simp) (by simp) a
 generalize hkd:NC [7,7,8,8,8,1,2,3,4,5,6,9,10] L a=kd at k1 k2;have hb2:∀o1 o2:Obj,(h.set id (OA L a)++[o1,o2]).length=h.length+2:=fun o1 o2=>by simp
 have fin:∀(c:Cmd) (b:Int),a≤b→b≤a+50→CmdB 8 c→FF (bA X) X.gl wP (.ref id 0) (.ref h.length 0) (.ref (h.length+1) 0) (h.set id (OA L b)++[.box [AI 0,AI 0,AI 0,AS [],AS [],AS []],.box (cmdV c)]) []
  (qA [.cell 2 (some 6)] false h.length fun v1 h1 x1=>∃a2,(a≤a2∧a2≤a+60∧∃c:Cmd,CmdB 2100 c∧v1=ACm c)∧h1=h.set id (OA L a2)∧x1=[]):=by
  intro c b hb1 hb2 hc;refine ac_k4 hid (OC hp hb1 (by omega)) c hc fun c2 b2 q1 q2 q3=>?_
  simp only[go_sem];exact⟨b2,⟨by omega,by omega,c2,q3,rfl⟩,rfl⟩
 have z:(-1152921504606846976:Int)≤0∧(0:Int)≤1152921504606846976:=by omega
 have ck:∀k:Int,1≤k→k≤10 → -1152921504606846976≤k∧k≤1152921504606846976:=fun k _ _=>by omega
 by_cases hs:kd=1∨kd=2∨kd=10
 ·obtain⟨s1,s2⟩:=qM (L:=L) (l:=[0,1,1,6,13]) (lo:=0) (hi:=13) (by simp) (by simp) (by simp) (a+1)
  generalize hsv:NC [0,1,1,6,13] L (a+1)=sv at s1 s2;have hf:=fin ⟨kd,sv,0,[],[],[]⟩ (a+1+1) (by omega) (by omega) ⟨ck _ k1 k2,by dsimp only;omega,z,Nat.zero_le _,Nat.zero_le _,Nat.zero_le _⟩
  rcases hs with rfl|rfl|rfl
  ·simp only[oF,go_sem,hid,hid',P,hkd,hsv]
   exact hf
  ·simp only[oF,go_sem,hid,hid',P,hkd,hsv]
   exact hf
  ·simp only[oF,go_sem,hid,hid',P,hkd,hsv]
   exact hf
 have n1:¬kd=1:=fun e=>hs (.inl e)
 have n2:¬kd=2:=fun e=>hs (.inr (.inl e))
 have n10:¬kd=10:=fun e=>hs (.inr (.inr e))
 by_cases h9:kd=9
 ·obtain⟨s1,s2⟩:=qM (L:=L) (l:=[0,0,1,3]) (lo:=0) (hi:=3) (by simp) (by simp) (by simp) (a+1)
  generalize hsv:NC [0,0,1,3] L (a+1)=sv at s1 s2;have hf:=fin ⟨9,0,sv,[],[],[]⟩ (a+1+1) (by omega) (by omega) ⟨ck 9 (by omega) (by omega),z,by dsimp only;omega,Nat.zero_le _,Nat.zero_le _,Nat.zero_le _⟩
  subst h9;simp only[oF,go_sem,hid,hid',P,hkd,hsv];exact hf
 by_cases h78:kd=7∨kd=8
 ·obtain⟨s1,s2⟩:=qM (L:=L) (l:=[1,2,3,5,8]) (lo:=1) (hi:=8) (by simp) (by simp) (by simp) (a+1)
  generalize hsv:NC [1,2,3,5,8] L (a+1)=sv at s1 s2;obtain⟨n,rfl⟩:∃n:Nat,sv=n:=⟨sv.toNat,by omega⟩
  obtain⟨_,a3,⟨e3,s,sb,sl,rfl⟩,V⟩:=(US (L:=L) (a:=a+1+1) n (by omega) (OC hp (by omega) (by omega))).app (h:=h) (l:=[.box [AI 0,AI 0,AI 0,AS [],AS [],AS []],.box [AI kd,AI 0,AI 0,AS [],AS [],AS []]]) hid
  have P3:aB 0 a3:=OC hp (by omega) (by omega)
  have hid2:id<(h.set id (OA L (a3+1))++[Obj.box [AI 0,AI 0,AI 0,AS [],AS [],AS []],.box [AI kd,AI 0,AI 0,AS s,AS [],AS []]]).length:=by simp;omega
  obtain⟨_,a4,⟨e4,t,tb,tl,rfl⟩,V2⟩:=(US (L:=L) (a:=a3+1) s.length (by omega) (OC hp (by omega) (by omega))).app (h:=h) (l:=[.box [AI 0,AI 0,AI 0,AS [],AS [],AS []],.box [AI kd,AI 0,AI 0,AS s,AS [],AS []]]) hid
  obtain⟨_,a5,⟨e5,u,ub,ul,rfl⟩,V3⟩:=(US (L:=L) (a:=a4) s.length (by omega) (OC hp (by omega) (by omega))).app (h:=h) (l:=[.box [AI 0,AI 0,AI 0,AS [],AS [],AS []],.box [AI kd,AI 0,AI 0,AS s,AS [],AS []]]) hid
  have hf:=fin ⟨kd,0,0,s,[],[]⟩ (a3+1) (by omega) (by omega) ⟨ck _ k1 k2,z,z,by dsimp only;omega,Nat.zero_le _,Nat.zero_le _⟩
  have hf2:=fin ⟨kd,0,0,s,t,u⟩ a5 (by omega) (by omega) ⟨ck _ k1 k2,z,z,by dsimp only;omega,by dsimp only;omega,by dsimp only;omega⟩
  by_cases hfl:CB L a3 2=0
  ·rcases h78 with rfl|rfl
   ·simp only[oF,go_sem,hid,hid',P,P3,hkd,hsv,V,V2,V3,hfl]
    exact hf2
   ·simp only[oF,go_sem,hid,hid',P,P3,hkd,hsv,V,V2,V3,hfl]
    exact hf2
  ·rcases h78 with rfl|rfl
   ·simp only[oF,go_sem,hid,hid',P,P3,hkd,hsv,V,hfl]
    exact hf
   ·simp only[oF,go_sem,hid,hid',P,P3,hkd,hsv,V,hfl]
    exact hf
 ·have n7:¬kd=7:=fun e=>h78 (.inl e)
  have n8:¬kd=8:=fun e=>h78 (.inr e)
  obtain⟨s1,s2⟩:=qM (L:=L) (l:=[0,0,1,2,3]) (lo:=0) (hi:=3) (by simp) (by simp) (by simp) (a+1)
  generalize hsv:NC [0,0,1,2,3] L (a+1)=sv at s1 s2;obtain⟨n,rfl⟩:∃n:Nat,sv=n:=⟨sv.toNat,by omega⟩
  obtain⟨_,a3,⟨e3,s,sb,sl,rfl⟩,V⟩:=(US (L:=L) (a:=a+1+1) n (by omega) (OC hp (by omega) (by omega))).app (h:=h) (l:=[.box [AI 0,AI 0,AI 0,AS [],AS [],AS []],.box [AI kd,AI 0,AI 0,AS [],AS [],AS []]]) hid
  have hf:=fin ⟨kd,0,0,s,[],[]⟩ a3 (by omega) (by omega) ⟨ck _ k1 k2,z,z,by dsimp only;omega,Nat.zero_le _,Nat.zero_le _⟩
  simp only[oF,go_sem,hid,hid',P,hkd,hsv,n1,n2,n10,h9,n7,n8,V];exact hf
end Go.Am
end
section
/- What is drawn: programs. -/
open Go
set_option linter.all false
namespace Go.Am
variable {L:List Int} {a:Int} {h l:aA} {id:Nat} {K:kA}
attribute [-go_sem] SA
theorem zoY (n:Int)(h0:0≤n)(h1:n≤1000000)(h:aA)(K:kA):bA X PB [AS [49],AI n] h K=K (AS (List.replicate n.toNat 49)) h []:=by
 rw[EV [49] n h0 (by simp;omega) h1,OP]
set_option maxHeartbeats 4000000 in
theorem zjs (n:Nat)(hn:n≤20)(hp:aB 4000 a):qD mO [AI n] L a (fun v a2=>a≤a2∧a2≤a+1300∧∃l:List Cmd,l.length≤n+11∧(∀c∈l,CmdB 2100 c)∧v=ACs l):=by
 refine qD.of fun h id hid=>?_
 rw[zdv rfl];have hid':id≤h.length:=by omega
 have hz:PV.shp (some 6) (.agg [.int .i64 0,.int .i64 0,.int .i64 0,.str [],.str [],.str []])=true:=rfl
 simp only[aR,go_sem];refine jB (fun t:List Cmd×Int=>⟨[(0,.ref id 0),(5,.own h.length t.1.length 0 t.1.length),(6,AI n),(7,AI t.1.length)],h.set id (OA L t.2)++[.row (some 6) (t.1.map dB) 0],[]⟩)
  (fun t=>t.1.length≤n∧(∀c∈t.1,CmdB 2100 c)∧a≤t.2∧t.2≤a+60*t.1.length) (fun t=>n-t.1.length) ([],a) rfl ⟨by simp,by simp,by simp,by simp⟩ ?_
 rintro⟨cs,b⟩ ⟨q1,q2,q3,q4⟩
 dsimp only at q1 q2 q3 q4 ⊢;have hcz:∀c:Cmd,PV.shp (some 6) (dB c)=true:=fun c=>rfl
 rcases Nat.lt_or_ge cs.length n with hlt|hge
 ·have w2:IntKind.i64.wrap ((cs.length:Int)+1)=((cs.length+1:Nat):Int):=GA _ (by omega) (by omega)
  obtain⟨_,a3,⟨d1,d2,c,hc,rfl⟩,V⟩:=(zjq (L:=L) (a:=b) (OC hp (by omega) (by omega))).app (h:=h) (l:=[.row (some 6) (cs.map dB) 0]) hid
  have hmx:cs.length+1≤NA:=by unfold NA;omega
  have hc':=hcz c
  have hlt':(cs.length:Int)<(n:Int):=by omega
  simp only[go_sem,hid,hid',hlt,hlt',V,hmx,hz,hc',w2];refine⟨(cs++[c],a3),by simp,⟨by simp;omega,fun g hg=>?_,by dsimp only;omega,by simp;omega⟩,by simp;omega⟩
  rcases List.mem_append.1 hg with hg|hg
  ·exact q2 g hg
  ·rw[List.mem_singleton.1 hg];exact hc
 ·have hge':¬cs.length<n:=by omega
  have P:=OC (n:=0) hp q3 (by omega)
  by_cases hf:CB L b 80=0
  ·simp only[go_sem,hid,hid',hge',P,hf]
   refine jB (fun t:List Cmd×Int×Nat=>⟨[(0,.ref id 0),(5,.own h.length t.1.length 0 t.1.length),(17,AI t.2.2)],h.set id (OA L t.2.1)++[.row (some 6) (t.1.map dB) 0],[]⟩)
    (fun t=>t.2.2≤11∧t.1.length=cs.length+t.2.2∧(∀c∈t.1,CmdB 2100 c)∧t.2.1=b+1+t.2.2) (fun t=>11-t.2.2) (cs,b+1,0) rfl ⟨by simp,by simp,q2,by simp⟩ ?_
   rintro⟨ds,b2,k⟩ ⟨r1,r2,r3,r4⟩
   dsimp only at r1 r2 r3 r4 ⊢;subst r4;have P2:=OC (n:=0) (b:=b+1+(k:Int)) hp (by omega) (by omega)
   rcases Nat.lt_or_ge k 11 with hk|hk
   ·have w2:IntKind.i64.wrap ((k:Int)+1)=((k+1:Nat):Int):=GA _ (by omega) (by omega)
    obtain⟨s1,s2⟩:=qM (L:=L) (l:=[1800,1830,2000]) (lo:=1800) (hi:=2000) (by simp) (by simp) (by simp) (b+1+(k:Int))
    generalize hsv:NC [1800,1830,2000] L (b+1+(k:Int))=sv at s1 s2;have r0:=fun(h':aA) (K':kA)=>zoY sv (by omega) (by omega) h' K'
    have hmx:ds.length+1≤NA:=by unfold NA;omega
    have hk':(k:Int)<11:=by omega
    have hc':=hcz ⟨8,0,0,List.replicate sv.toNat 49,[],[]⟩
    simp only[go_sem,hid,hid',hk',P2,hsv,r0,hmx,hz,hc',w2];refine⟨(ds++[⟨8,0,0,List.replicate sv.toNat 49,[],[]⟩],b+1+(k:Int)+1,k+1),by simp,⟨by dsimp only;omega,by simp;omega,fun g hg=>?_,by dsimp only;omega⟩,by dsimp only;omega⟩
    rcases List.mem_append.1 hg with hg|hg
    ·exact r3 g hg
    ·rw[List.mem_singleton.1 hg]
     exact⟨by dsimp only;omega,by dsimp only;omega,by dsimp only;omega,by simp;omega,Nat.zero_le _,Nat.zero_le _⟩
   ·obtain rfl:k=11:=by omega
    have hk':¬((11:Nat):Int)<11:=by omega
    simp only[go_sem,hid,hid',hk'];refine⟨b+1+((11:Nat):Int),⟨by omega,by omega,ds,by omega,r3,?_⟩,rfl⟩
    exact congrArg (fun x=>AV.p (PV.sl (some 6) x)) (List.take_of_length_le (by simp))
  ·simp only[go_sem,hid,hid',hge',P,hf]
   refine⟨b+1,⟨by omega,by omega,cs,by omega,q2,?_⟩,rfl⟩
   exact congrArg (fun x=>AV.p (PV.sl (some 6) x)) (List.take_of_length_le (by simp))
end Go.Am
end
section
/- What is drawn and right: programs. -/
open Go
set_option linter.all false
namespace Go.Am
variable {L:List Int} {a:Int} {h l:aA} {id:Nat} {K:kA}
theorem zjt (n:Nat)(hn:n≤20)(hp:aB 20000 a):qD nO [AI n] L a (fun v a2=>a≤a2∧a2≤a+7800∧∃l:List Cmd,l.length≤n∧(∀c∈l,CmdB 2100 c)∧DB eA l=0∧v=ACs l):=by
 refine qD.of fun h id hid=>?_
 rw[zd0 rfl];simp only[fR,go_sem,hid];refine jB (fun t:Nat×Int=>⟨[(0,.ref id 0),(1,AI n),(6,AI t.1)],h.set id (OA L t.2),[]⟩) (fun t=>t.1≤6∧a≤t.2∧t.2≤a+1300*t.1) (fun t=>6-t.1) (0,a) rfl ⟨by simp,by simp,by simp⟩ ?_
 rintro⟨k,b⟩ ⟨h1,h2,h3⟩
 dsimp only at h1 h2 h3 ⊢;rcases Nat.lt_or_ge k 6 with hlt|hge
 ·have hk:(k:Int)<6:=by omega
  have w1:IntKind.i64.wrap ((k:Int)+1)=((k+1:Nat):Int):=GA _ (by omega) (by omega)
  obtain⟨_,a2,⟨c1,c2,l,l1,lb,rfl⟩,V⟩:=(zjs (L:=L) (a:=b) n hn (OC hp h2 (by omega))).set (h:=h) hid
  have F:=fun h K=>zp0 (h:=h) (K:=K) l (fun c hc=>(lb c hc).ok (by omega)) (by omega)
  by_cases hf:DB eA l=0
  ·have hf':((DB eA l:Nat):Int)=0:=by omega
   by_cases hl:l.length≤n
   ·have hl':(l.length:Int)≤(n:Int):=by omega
    simp only[go_sem,hid,hk,↓V,V,↓F,F,hf,hf',hl,hl'];exact⟨a2,⟨by omega,by omega,l,hl,lb,hf,rfl⟩,rfl⟩
   ·have hl':¬(l.length:Int)≤(n:Int):=by omega
    simp only[go_sem,hid,hk,↓V,V,↓F,F,hf,hf',hl,hl',w1];exact⟨(k+1,a2),rfl,⟨by dsimp only;omega,by dsimp only;omega,by dsimp only;omega⟩,by dsimp only;omega⟩
  ·have hf':¬((DB eA l:Nat):Int)=0:=by omega
   simp only[go_sem,hid,hk,↓V,V,↓F,F,hf,hf',w1];exact⟨(k+1,a2),rfl,⟨by dsimp only;omega,by dsimp only;omega,by dsimp only;omega⟩,by dsimp only;omega⟩
 ·have hk:¬(k:Int)<6:=by omega
  simp only[go_sem,hid,hk];exact⟨b,⟨by omega,by omega,[],by simp,by simp,rfl,rfl⟩,rfl⟩
end Go.Am
end
section
/- The reference: bits that are shifted. -/
open Go
set_option linter.all false
namespace Go.Am
variable {h:aA} {K:kA}
attribute [-go_sem] SA splice
end Go.Am
end
section
/- ready: a NB call,computed. -/
open Go
set_option linter.all false
namespace Go.Am
def orcP (f:Nat)(a:List AV):Option AV:=bif Nat.beq f mG then match a with
 | [.p (.int .i64 x),.p (.int .i64 y)]=>bif decide (0≤x)&&decide (x<16)&&decide (0≤y)&&decide (y<16) then some (.p (.str (eA x.toNat y.toNat))) else none
 | _=>none else none
theorem zlC:∀ f a v,orcP f a=some v→∀ h (K:kA),K v h []→bA X0 f a h K:=by
 intro f a v hv h K hK;unfold orcP at hv;cases hf:Nat.beq f mG with
 | false=>rw[hf]at hv;cases hv
 | true=>
  have hf':=Nat.eq_of_beq_eq_true hf
  rw[hf]at hv;subst hf';simp only[cond_true]at hv;split at hv
  ·rename_i x y
   cases hc:(decide (0≤x)&&decide (x<16)&&decide (0≤y)&&decide (y<16)) with
   | false=>rw[hc]at hv;cases hv
   | true=>
    rw[hc]at hv;simp only[cond_true,Option.some.injEq]at hv;simp only[Bool.and_eq_true,decide_eq_true_eq]at hc;obtain⟨a,rfl⟩:=Int.eq_ofNat_of_zero_le hc.1.1.1;obtain⟨b,rfl⟩:=Int.eq_ofNat_of_zero_le hc.1.2;have:=z7E (h:=h) (K:=K) zrA zr9 a b (by omega) (by omega)
    rw[this];subst hv;exact hK
  ·cases hv
theorem zoN:dO X0 orcP 1000 60 cJ [] []=some (AB true,[],[]):=by kernel_rfl
theorem ztt:bA X0 cJ [] [] fun v h x=>v=AB true∧h=[]∧x=[]:=(za1 zlC 1000 60 zoN _).2 ⟨rfl,rfl,rfl⟩
theorem z95 {h:aA}{K:kA}:bA X cJ [] h K=K (AB true) h []:=bT (by kernel_rfl) rfl
end Go.Am
end
section
/- What all laws of the keep package use. -/
open Go
set_option linter.all false
namespace Go.Am
variable {h:aA} {K:kA}
theorem zpI (l:List Int)(hl:l.length≤1000):bA X bJ [AL l] h K=K (AI (gL l)) h []:=by
 refine xA ?_;rw[zdr rfl];simp only[XQ,go_sem];refine jB (fun k:Nat=>⟨[(5,AL l),(6,AI l.length),(7,AI k)],h,[]⟩) (fun k=>k≤l.length∧gL (l.drop k)=gL l) (fun k=>l.length-k) 0 rfl (by simp) ?_
 rintro k ⟨hk,hp⟩
 rcases Nat.lt_or_ge k l.length with hlt|hge
 ·have hg:=iC eI hlt
  have w2:IntKind.i64.wrap ((k:Int)+1)=((k+1:Nat):Int):=GA _ (by omega) (by omega)
  rw[List.drop_eq_getElem_cons hlt,gL]at hp;by_cases he:l[k]=0
  ·rw[if_pos he]at hp
   simp only[go_sem,hlt,hg,w2,he];exact⟨k+1,rfl,⟨by omega,hp⟩,by omega⟩
  ·rw[if_neg he]at hp
   simp only[go_sem,hlt,hg,w2,he];rw[hp]
 ·have e1:k=l.length:=by omega
  subst e1;simp only[go_sem,Nat.lt_irrefl];rw[List.drop_length]at hp;rw[←hp];rfl
end Go.Am
end
section
/- LearnedDoNotFail returns true. -/
open Go
set_option linter.all false
set_option maxRecDepth 100000
namespace Go.Am
variable {h:aA} {K:kA}
attribute [-go_sem] SA
attribute [-go_sem] yS kK UZ tN
set_option maxHeartbeats 4000000 in
theorem law_LN (L:List Int){K:kA}:bA X RS [AL L] [] K=K (AB true) [] []:=by
 refine xA ?_;rw[zdq rfl];have p0:aB 100000 0:=by unfold aB;omega
 obtain⟨_,a1,⟨b1,b2,ds,n1,n3,hd,rfl⟩,V1⟩:=(zjr (L:=L) (a:=0) (OC p0 (by omega) (by omega))).hd (l:=[])
 have p1:aB 0 a1:=OC p0 (by omega) (by omega)
 have rb:0≤XD 0 6 L a1∧XD 0 6 L a1≤6:=LP L a1 (by omega) (by omega)
 obtain⟨n,hn⟩:∃n:Nat,XD 0 6 L a1=n:=⟨(XD 0 6 L a1).toNat,by omega⟩
 obtain⟨_,a2,⟨d1,d2,l,hl,hb,h0,rfl⟩,V⟩:=(zjt (L:=L) (a:=a1+1) n (by omega) (OC p0 (by omega) (by omega))).hd (l:=[])
 have hok:∀c∈l,CmdOk c:=fun c hc=>(hb c hc).ok (by omega)
 have hB:∀d∈ds,DevB d:=fun d hd'=>(hd d hd').b
 have C1:=fun h K=>zp5 (h:=h) (K:=K) ds hB (by omega) l hok (by omega)
 have C4:=fun h K=>zp3 (h:=h) (K:=K) ds hB (by omega)
 by_cases hr:fD ds l=0
 ·obtain⟨e1,e2⟩:=yV hr
  have O:=chOk e1
  have LR:=lrn O.d hok h0
  obtain⟨hc,hT,h1⟩:=sM h0;have rl:(FB ds l).length=l.length:=EM eA l [] 0 0 (cC ds l)
  have ry:fD ds (uC l (FB ds l))=0:=by unfold fD;rw[LR.f,e1];rfl
  have C2:=fun h K=>zp4 (h:=h) (K:=K) ds hB (by omega) (uC l (FB ds l)) LR.ok (by rw[LR.n];omega)
  have C3:=fun h K=>zpC (h:=h) (K:=K) ds hB (by omega) (uC l (FB ds l)) LR.ok (by rw[LR.n];omega)
  have S1:=fun h K=>z9x (h:=h) (K:=K) l hok (by omega)
  have S2:=fun h K=>z9x (h:=h) (K:=K) (uC l (FB ds l)) LR.ok (by rw[LR.n];omega)
  have E:=fun h K=>zpI (h:=h) (K:=K) [0,0,0,0] (by simp)
  simp only[AL,List.map_cons,List.map_nil]at E;have ef:gL [0,0,0,0]=0:=rfl
  rw[ef]at E;rw[if_pos hr,hr]at C1;rw[ry,if_pos rfl,if_pos rfl,LR.r,LR.n,LR.z]at C2;rw[ry,if_pos rfl,LR.r]at C3;simp only[sigV,LR.f,h0,if_true,LR.t,LR.i]at S1 S2;have hw:=LR.w
  have hyn:=LR.n
  generalize uC l (FB ds l)=y at *;generalize FB ds l=RV at *;have e1:pf1 ([]:List (Nat×Nat))=[]:=rfl
  have e2:pf2 ([]:List (Nat×Nat))=[]:=rfl
  rw[e1,e2]at C2;have lp:∀h,List.length h=1→QA (bA X) X.gl (.scope AJ) (tC 0 (xD (bA X) X.gl vP (qA [.t 2] false 0 fun v1 h1 x1=>v1=AB true∧h1=[]∧x1=[]))) [(19,tI RV),(106,ACs y),(107,.p (.int .i64 (y.length:Nat))),(108,AI 0)] h []:=by
   intro h hh;refine jB (fun k:Nat=>⟨[(19,tI RV),(106,ACs y),(107,.p (.int .i64 (y.length:Nat))),(108,AI k)],h,[]⟩) (fun k=>k≤l.length) (fun k=>l.length-k) 0 rfl (by omega) ?_
   intro k hk;rw[kH];rcases Nat.lt_or_ge k l.length with hlt|hge
   ·obtain⟨s,c,x1,x2,x3⟩:=hw k hlt
    have hlt':(k:Int)<(y.length:Int):=by omega
    have hlt2:k<y.length:=by omega
    have hgs:(RV.map PV.str)[k]?=some (.str s):=by rw[List.getElem?_map,x1];rfl
    have hg:(y.map dB)[k]?=some (.agg [eI c.k,eI c.s,eI c.cl,.str c.b,.str s,.str c.m]):=by rw[List.getElem?_map,x2,←x3];rfl
    have w2:IntKind.i64.wrap ((k:Int)+1)=((k+1:Nat):Int):=GA _ (by omega) (by omega)
    simp only[yS,kK,go_sem,hlt',hlt2,hgs,hg,w2];exact⟨k+1,rfl,by omega,by omega⟩
   ·have hlt':¬(k:Int)<(y.length:Int):=by omega
    simp only[yS,kK,UZ,tN,go_sem,hlt',z95,hh]
  have lp:=lp [OA L a2] rfl
  have wz:IntKind.i64.wrap 0=0:=rfl
  have rle:((RV.length:Nat):Int)=(l.length:Int):=by omega
  simp only[sN,go_sem,V1,p1,hn,V,↓C1,C1,↓C2,C2,↓C3,C3,↓S1,S1,↓S2,S2,↓E,E,List.map_nil,List.length_nil,rl,rle,lp,List.length_map,wz,Int.lt_irrefl]
 ·have ef:rF ds=fD ds l:=by
   unfold fD at hr ⊢;rw[h0]at hr ⊢;rw[orL2]at hr ⊢;split
   ·rfl
   ·rename_i q;rw[if_neg q]at hr;exact absurd rfl hr
  rw[ef]at C4;rw[if_neg hr]at C1;generalize fD ds l=e at *;simp only[sN,go_sem,V1,p1,hn,V,↓C1,C1,↓C4,C4,hr,z95]
end Go.Am
end
section
/- From a law that is true here tov the model's calls at what came in. -/
open Go
namespace Go.Am
variable {P:Program}
theorem law_nil {X:Ctx}(HX:Fits P X){f:Nat}{F:AFun}(hF:X.fn f=some F)(H:∀ L:List Int,bA X f [VU L] [] fun v _ _=>v = .p (.bool true))(W:World)(hG:qE X.gl (imm [] [] W)) :
 Calls P f #[.slice none 0 0] W fun e W'=>e = .returned (.bool true)∧RowKit.Below W.heap.size W W':=by
 refine(z4Q HX hF (H []) (W:=W) (vs:=[.slice none 0 0]) hG rfl (fun j y v hy hv=>?_)).mono fun e W' he=>?_
 ·cases j with
  | zero=>cases hy;cases hv;exact zeN W
  | succ j=>cases hy
 ·cases e with
  | returned r=>
   obtain⟨⟨v,h,x,μ,hk,hr⟩,hb⟩:=he;subst hk;exact⟨by rw[hr.p_bool],hb⟩
  | panicked _=>exact he.elim
  | outgrown=>exact he.elim
theorem law_ints {X:Ctx}(HX:Fits P X){f:Nat}{F:AFun}(hF:X.fn f=some F)(H:∀ L:List Int,bA X f [VU L] [] fun v _ _=>v = .p (.bool true)){W:World}(hG:qE X.gl (imm [] [] W)){a:Addr}{len cap:Nat}{zs:List Int}
 (hl:len≤cap) (hz:len≤zs.length) (hc:∀i,i<zs.length→W.cell? (a.add i)=some (.int .i64 (zs.getD i 0))) :
 Calls P f #[.slice (some a) len cap] W fun e W'=>e = .returned (.bool true)∧RowKit.Below W.heap.size W W':=by
 refine(z4Q HX hF (H (zs.take len)) (W:=W) (vs:=[.slice (some a) len cap]) hG rfl (fun j y v hy hv=>?_)).mono fun e W' he=>?_
 ·cases j with
  | zero=>
   cases hy;cases hv
   rcases Nat.eq_zero_or_pos len with h0|h0
   ·subst h0
    exact .p _ _ (.nils _ _ _)
   ·exact zeM (by simpa [Addr.add] using World.cell?_spot (hc 0 (by omega))) hl hz hc
  | succ j=>cases hy
 ·cases e with
  | returned r=>
   obtain⟨⟨v,h,x,μ,hk,hr⟩,hb⟩:=he;subst hk;exact⟨by rw[hr.p_bool],hb⟩
  | panicked _=>exact he.elim
  | outgrown=>exact he.elim
end Go.Am
namespace Go.ChangeShapes
open Go.RowKit Go.WideShapes
end Go.ChangeShapes
end
section
/- The abstract machine,part L2: the kit's contracts asv rows. -/
set_option linter.unusedSimpArgs false
set_option linter.unusedVariables false
namespace Go.Am
variable {P:Program} {gl:Nat→Option PV}
open Go.Shelf
end Go.Am
end
section
/- The abstract machine,part L6: scanref2.setting (a range over slices.Backward with a return inside) asv a row,out of what the walk says of it. -/
set_option linter.all false
namespace Go.Am
variable {P:Program} {gl:Nat→Option PV}
theorem z7V {y:PV}(h:qJ y=true):∃a b c s t u,y = .agg [.int .i64 a,.int .i64 b,.int .i64 c,.str s,.str t,.str u]:=by
 unfold qJ at h;split at h
 ·exact⟨_,_,_,_,_,_,rfl⟩
 ·cases h
def cmdW (a b c:Int)(s t u:List UInt8):Value:=.agg #[.int .i64 a,.int .i64 b,.int .i64 c,.string ⟨s.toArray⟩,.string ⟨t.toArray⟩,.string ⟨u.toArray⟩]
theorem z5g (M:Mem)(a b c:Int)(s t u:List UInt8):RPV M (.agg [.int .i64 a,.int .i64 b,.int .i64 c,.str s,.str t,.str u]) (cmdW a b c s t u):=by
 refine .agg _ [_,_,_,_,_,_] rfl fun j y v h1 h2=>?_
 match j with
 | 0=>cases h1;cases h2;exact .int _ _
 | 1=>cases h1;cases h2;exact .int _ _
 | 2=>cases h1;cases h2;exact .int _ _
 | 3=>cases h1;cases h2;exact .str _
 | 4=>cases h1;cases h2;exact .str _
 | 5=>cases h1;cases h2;exact .str _
 | j+6=>simp at h1
def PI (xs:List PV)(j q:Nat):Value:=match xs[j]? with
 | some (.agg [.int .i64 a,.int .i64 b,.int .i64 c,.str s,.str t,.str u])=>match q with
  | 0=>.int .i64 a|1=>.int .i64 b|2=>.int .i64 c|3=>.string ⟨s.toArray⟩|4=>.string ⟨t.toArray⟩|_=>.string ⟨u.toArray⟩
 | _=>match q with
  | 0=>.int .i64 0|1=>.int .i64 1|2=>.int .i64 0|_=>.string ⟨#[]⟩
theorem kY {xs:List PV}{j:Nat}{a b c:Int}{s t u:List UInt8}(h:xs[j]?=some (.agg [.int .i64 a,.int .i64 b,.int .i64 c,.str s,.str t,.str u]))(q:Nat) :
 PI xs j q=match q with
 | 0=>.int .i64 a|1=>.int .i64 b|2=>.int .i64 c|3=>.string ⟨s.toArray⟩|4=>.string ⟨t.toArray⟩|_=>.string ⟨u.toArray⟩:=by
 unfold PI;rw[h]
theorem zeW {xs:List PV}{j:Nat}(h:xs[j]?=none)(q:Nat) :
 PI xs j q=match q with
 | 0=>.int .i64 0|1=>.int .i64 1|2=>.int .i64 0|_=>.string ⟨#[]⟩:=by
 unfold PI;rw[h]
def Cmds (f:Nat→Nat→Value)(kd:Nat→Int):Prop:=∀j,∃b c s t u,f j 0 = .int .i64 (kd j)∧f j 1 = .int .i64 b∧f j 2 = .int .i64 c∧f j 3 = .string s∧f j 4 = .string t∧f j 5 = .string u
def zaY (P:Program)(fn:Nat):Prop:=
 (∀(b off len cap i:Nat) (k:Int) (f:Nat→Nat→Value) (kd:Nat→Int) (w:World),i≤len→len≤cap→Cmds f kd→len*200≤140737488351232 →
  (b<w.heap.size∧∀j q,j<len→q<6→w.cell? ⟨b,off+(6*j+q),none⟩=some (f j q)) →
  Calls P fn #[.slice (some ⟨b,off,none⟩) len cap,.int .i64 i,.int .i64 k] w fun e W'=>
   ((∃j,j<i∧e = .returned (.agg #[f j 0,f j 1,f j 2,f j 3,f j 4,f j 5])∧kd j=k∧∀j',j<j'→j'<i→kd j'≠k) ∨
    (e = .returned (.agg #[.int .i64 0,.int .i64 1,.int .i64 0,.string ⟨#[]⟩,.string ⟨#[]⟩,.string ⟨#[]⟩])∧∀j,j<i→kd j≠k))∧Go.RowKit.Below w.heap.size w W') ∧
 (∀(a:Option Addr) (cap:Nat) (k:Int) (w:World),Calls P fn #[.slice a 0 cap,.int .i64 0,.int .i64 k] w fun e W'=>
  e = .returned (.agg #[.int .i64 0,.int .i64 1,.int .i64 0,.string ⟨#[]⟩,.string ⟨#[]⟩,.string ⟨#[]⟩])∧Go.RowKit.Below w.heap.size w W')
theorem lY {xs:List PV}(h:xs.all qJ=true)(j:Nat) :
 (xs.length≤j∧xs[j]?=none)∨(j<xs.length∧∃a b c s t u,xs[j]?=some (.agg [.int .i64 a,.int .i64 b,.int .i64 c,.str s,.str t,.str u])):=by
 rcases Nat.lt_or_ge j xs.length with h1|h1
 ·obtain⟨a,b,c,s,t,u,e⟩:=z7V (List.all_eq_true.1 h _ (List.getElem_mem h1))
  exact .inr ⟨h1,a,b,c,s,t,u,by rw[List.getElem?_eq_getElem h1,e]⟩
 ·exact .inl ⟨h1,List.getElem?_eq_none h1⟩
theorem zeY {xs:List PV}(h:xs.all qJ=true):Cmds (PI xs) fun j=>PQ ((xs[j]?).getD jP):=fun j=>by
 rcases lY h j with⟨_,e⟩|⟨_,a,b,c,s,t,u,e⟩
 ·simp only[zeW e,e]
  exact⟨_,_,_,_,_,rfl,rfl,rfl,rfl,rfl,rfl⟩
 ·simp only[kY e,e]
  exact⟨_,_,_,_,_,rfl,rfl,rfl,rfl,rfl,rfl⟩
theorem zjc {p:PV→Bool}:∀{l:List PV} {j:Nat} {y:PV},l[j]?=some y→p y=true→(∀j' z,j<j'→l[j']?=some z→p z=false)→l.reverse.find? p=some y:=by
 intro l;induction l with
 | nil=>intro j y h;simp at h
 | cons a r ih=>
  intro j y h hp hn;rw[List.reverse_cons,List.find?_append];cases j with
  | succ j=>
   rw[ih (j:=j) (by simpa using h) hp (fun j' z h1 h2=>hn (j'+1) z (by omega) (by simpa using h2))]
   rfl
  | zero=>
   simp only[List.getElem?_cons_zero,Option.some.injEq]at h;subst h;have:r.reverse.find? p=none:=by
    rw[List.find?_eq_none];intro z hz;obtain⟨j',h1⟩:=List.mem_iff_getElem?.1 (List.mem_reverse.1 hz);simp [hn (j'+1) z (by omega) (by simpa using h1)]
   rw[this];simp [hp]
theorem ztv {fn:Nat}(H:zaY P fn)(he:∀ us w,(callFunc fn us).run P w = .ok (.enter fn us) w):PureRow P gl fn MM where
 enter:=he
 run M w vs r us hc hb hG hl hr hs:=by
  unfold MM at hs;split at hs
  ·rename_i xs i k
   split at hs
   ·rename_i hcd
    obtain⟨h0,hi,hlen,hall⟩:=hcd;simp only[Option.some.injEq]at hs;subst hs;match us,hl with
    | [u0,u1,u2],_=>
     have q0:=hr 0 _ u0 rfl rfl
     have q1:=hr 1 _ u1 rfl rfl
     cases q1;have q2:=hr 2 _ u2 rfl rfl
     cases q2;obtain⟨n,rfl⟩:∃n:Nat,i=n:=⟨i.toNat,by omega⟩
     simp only[Int.toNat_natCast];have hidle:∀M',RAV M' [] [] (.p jP) (.agg #[.int .i64 0,.int .i64 1,.int .i64 0,.string ⟨#[]⟩,.string ⟨#[]⟩,.string ⟨#[]⟩]):=fun M'=>.p _ _ (z5g M' 0 1 0 [] [] [])
     generalize hsh:(some 6:Sh)=sh at q0;cases q0 with
     | nils _ a cap=>
      obtain rfl:n=0:=by simpa using hi
      refine(H.2 a cap k w).mono fun e w' h=>?_
      obtain⟨rfl,h⟩:=h;exact⟨_,rfl,fN h,hidle _⟩
     | sl _ _ b o cap f hne hcap hshp hm hrr=>
      have hn6:∀x∈xs,x.cells.length=6:=fun x hx=>by
       obtain⟨a,b,c,s,t,u,e⟩:=z7V (List.all_eq_true.1 hall x hx);rw[e];rfl
      have hcell:∀j q,j<xs.length→q<6→w.cell? ⟨b,o+(6*j+q),none⟩=some (PI xs j q):=by
       intro j q hj hq;rcases lY hall j with⟨h1,_⟩|⟨_,a,b',c,s,t,u,e⟩
       ·omega
       ·have hf:=KH hn6 j q hq
        rw[e]at hf;rw[Nat.mul_comm 6 j];rw[kY e];have hq':q=0∨q=1∨q=2∨q=3∨q=4∨q=5:=by omega
        rcases hq' with rfl|rfl|rfl|rfl|rfl|rfl <;>
        ·have h1:=hc _ _ _ (hm _ _ hf)
         have h2:=hrr _ _ hf
         revert h1 h2
         generalize f _=fj;intro h1 h2;cases h2;exact h1
      have hb0:b<w.heap.size:=kN (hcell 0 0 (List.length_pos_iff.2 hne) (by omega))
      refine(H.1 b o xs.length cap n k (PI xs) (fun j=>PQ ((xs[j]?).getD jP)) w (by omega) hcap (zeY hall) (by omega) ⟨hb0,hcell⟩).mono fun e w' h=>?_
      obtain⟨h,hB⟩:=h;rcases h with⟨j,hj,rfl,hk,hlast⟩|⟨rfl,hnone⟩
      ·rcases lY hall j with⟨h1,_⟩|⟨_,a,b',c,s,t,u,e⟩
       ·omega
       ·have hfd:OH (xs.take n) k = .agg [.int .i64 a,.int .i64 b',.int .i64 c,.str s,.str t,.str u]:=by
         unfold OH;rw[zjc (j:=j) (y:=.agg [.int .i64 a,.int .i64 b',.int .i64 c,.str s,.str t,.str u]) (by rw[List.getElem?_take,if_pos hj];exact e) (by rw[e]at hk;simpa using hk) (fun j' z h1 h2=>by
          rw[List.getElem?_take]at h2;split at h2
          ·rename_i h3
           have:=hlast j' h1 h3;rw[h2]at this;simpa using this
          ·cases h2)]
         rfl
        refine⟨_,rfl,fN hB,?_⟩;rw[hfd];simp only[kY e];exact .p _ _ (z5g _ a b' c s t u)
      ·have hfd:OH (xs.take n) k=jP:=by
        unfold OH;rw[List.find?_eq_none.2]
        ·rfl
        ·intro z hz
         obtain⟨j',h1⟩:=List.mem_iff_getElem?.1 (List.mem_reverse.1 hz);rw[List.getElem?_take]at h1;split at h1
         ·rename_i h3
          have:=hnone j' h3;rw[h1]at this;simpa using this
         ·cases h1
       refine⟨_,rfl,fN hB,?_⟩;rw[hfd];exact hidle _
   ·cases hs
  ·cases hs
end Go.Am
end
