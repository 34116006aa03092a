/- Texts of the proof, laid together: PPad, SpTag0, PPad2, SpRnV2, SpRnV3, SpRnV4, SpRnV6, SpMapN, SpPad1, SpPad2, SpPad3, SpTag1, SpReady, SpKeep, PShort, PDet, SpGenA2, SpDelF, SpGenF2, SpDet, SpVec19, SpLawPS, Bridge, AmL2. -/
import Derived.KernelRfl
import Derived.ProofKit
import Derived.Shelf.Strconv.Itoa3
import Derived.Lib.LaidTab
import Derived.Test.YthlhdniejglcnaaGreatDoorlawPS8
set_option linter.all false
section
/- A chain in which all devices but one are bypassed,plainly: its scans have the bits that the device alone has. -/
open Go
set_option linter.all false
set_option maxRecDepth 100000
namespace Go.Am
structure PreS (pre:List Cmd) (H T h t:List UInt8):Prop where
 e1:(BA pre 1).s=1
 e2:(BA pre 2).s=1
 h3:(BA pre 3).b=H
 h4:(BA pre 4).b=T
 h5:(BA pre 5).b=h
 h6:(BA pre 6).b=t
theorem IL {pre:List Cmd}{c:Cmd}{k:Int}(h:c.k≠k):BA (pre++[c]) k=BA pre k:=by
 unfold BA;rw[List.reverse_append,List.reverse_singleton,List.singleton_append,List.find?_cons];have:(c.k==k)=false:=by simpa using h
 rw[this]
theorem PreS.snoc {pre:List Cmd}{H T h t:List UInt8}(P:PreS pre H T h t){c:Cmd}(hc:7≤c.k):PreS (pre++[c]) H T h t:=
 ⟨by rw[IL (by omega)];exact P.e1,by rw[IL (by omega)];exact P.e2,by rw[IL (by omega)];exact P.h3,by rw[IL (by omega)];exact P.h4,by rw[IL (by omega)];exact P.h5,by rw[IL (by omega)];exact P.h6⟩
theorem z5n:PreS [] [] [] [] []:=⟨rfl,rfl,rfl,rfl,rfl,rfl⟩
def mk9 (n:Int):Cmd:=⟨9,0,n,[],[],[]⟩
def GA (b:List UInt8):Cmd:=⟨7,0,0,b,[],[]⟩
theorem p11:eA 1 1=[]:=by kernel_rfl
theorem z5d {pre:List Cmd}{H T h t:List UInt8}(P:PreS pre H T h t)(b:List UInt8)(hb:1≤b.length) :
 (lA eA pre (mk8 b) 1).tms=[49,48,48]++(zs ((h++b++t).length-1)++[49])++[49,48]∧(lA eA pre (mk8 b) 1).tdi=zs 3++(h++b++t)++zs 2∧(lA eA pre (mk8 b) 1).fr=3+h.length∧(lA eA pre (mk8 b) 1).st=1:=by
 have ep:lA eA pre (mk8 b) 1=fC (KC eA (mk8 b) 1 4 5 (BA pre 5).b (BA pre 6).b (BA pre 2).s.toNat):=rfl
 rw[ep,P.h5,P.h6,P.e2];have e1:(fC (KC eA (mk8 b) 1 4 5 h t (1:Int).toNat)).tms=[49,48,48]++(zs ((h++b++t).length-1)++[49])++[49,48]:=by
  show eA 1 4++zs ((h++b++t).length-1)++[49]++eA 5 1=_
  rw[p14,p51];simp
 refine⟨e1,?_,?_,rfl⟩
 ·show(zs (eA 1 4).length++(h++b++t))++zs ((fC (KC eA (mk8 b) 1 4 5 h t (1:Int).toNat)).tms.length-(zs (eA 1 4).length++(h++b++t)).length)=_
  rw[e1,p14];congr 2
  simp [zs];omega
 ·show(eA 1 4).length+h.length=_
  rw[p14];rfl
theorem z5c {pre:List Cmd}{H T h t:List UInt8}(P:PreS pre H T h t)(b:List UInt8)(hb:1≤b.length) :
 (lA eA pre (GA b) 0).tms=[48,49,49,48,48]++(zs ((H++b++T).length-1)++[49])++[49,48]∧(lA eA pre (GA b) 0).tdi=zs 5++(H++b++T)++zs 2∧(lA eA pre (GA b) 0).fr=5+H.length∧(lA eA pre (GA b) 0).st=1:=by
 have ep:lA eA pre (GA b) 0=fC (KC eA (GA b) 0 11 12 (BA pre 3).b (BA pre 4).b (BA pre 1).s.toNat):=rfl
 rw[ep,P.h3,P.h4,P.e1];have e1:(fC (KC eA (GA b) 0 11 12 H T (1:Int).toNat)).tms=[48,49,49,48,48]++(zs ((H++b++T).length-1)++[49])++[49,48]:=by
  show eA 0 11++zs ((H++b++T).length-1)++[49]++eA 12 1=_
  rw[p011,p121];simp
 refine⟨e1,?_,?_,rfl⟩
 ·show(zs (eA 0 11).length++(H++b++T))++zs ((fC (KC eA (GA b) 0 11 12 H T (1:Int).toNat)).tms.length-(zs (eA 0 11).length++(H++b++T)).length)=_
  rw[e1,p011];congr 2
  simp [zs];omega
 ·show(eA 0 11).length+H.length=_
  rw[p011];rfl
theorem z5e (pre:List Cmd)(n:Int):(lA eA pre (mk9 n) 1).tms=zs n.toNat∧(lA eA pre (mk9 n) 1).tdi=zs n.toNat∧(lA eA pre (mk9 n) 1).st=1:=by
 have ep:lA eA pre (mk9 n) 1=fC ⟨eA 1 1++zs n.toNat,[],[],0,1⟩:=rfl
 rw[ep,p11];refine⟨rfl,?_,rfl⟩;show []++zs ((zs n.toNat).length-0)=zs n.toNat
 simp [zs]
def cC:List (List UInt8)→List UInt8
 | []=>[]
 | x::xs=>cC xs++x
theorem ZQ:∀ ps:List PA,zB ps=cC (ps.map Prod.snd)
 | []=>rfl
 | p::ps=>by simp only[zB,List.map_cons,cC,ZQ ps]
theorem aR:∀ a b:List (List UInt8),cC (a++b)=cC b++cC a
 | [],b=>by simp [cC]
 | x::a,b=>by simp only[List.cons_append,cC,aR a b,List.append_assoc]
theorem zX:∀ (l:List TDev),cC (l.map fun _=>[48])=zs l.length
 | []=>rfl
 | d::l=>by
  simp only[List.map_cons,cC,zX l,List.length_cons];unfold zs;rw[List.replicate_succ']
def bB (l:List TDev):Nat:=(l.map fun d=>d.long.toNat).sum
theorem AX:∀ (l:List TDev),cC (l.map fun d=>VA d.long.toNat)=VA (bB l)
 | []=>rfl
 | d::l=>by
  simp only[List.map_cons,cC,AX l,bB,List.sum_cons];unfold VA;rw[List.replicate_append_replicate,Nat.add_comm]
def irC (d:TDev):List UInt8:=49::zs (d.long-1).toNat
theorem yX:∀ (l:List TDev),(∀ d∈l,1≤d.long)→(cC (l.map irC)).length=bB l
 | [],_=>rfl
 | d::l,h=>by
  have:=h d List.mem_cons_self;have ih:=yX l fun x hx=>h x (List.mem_cons_of_mem _ hx)
  simp only[List.map_cons,cC,List.length_append,ih,bB,List.sum_cons,irC,List.length_cons,zs,List.length_replicate];omega
theorem z0P:∀ {ds:List TDev} {ps:List PA},ps.length=ds.length→(dB 10 ds ps).map Prod.snd=ds.map irC
 | [],[],_=>rfl
 | d::ds,p::ps,hl=>by
  have e:(fG 10 d p).2=irC d:=rfl
  simp only[dB,List.map_cons,e,z0P (show ps.length=ds.length by simpa using hl)]
 | [],_::_,hl=>by simp at hl
 | _::_,[],hl=>by simp at hl
theorem z0Q:∀ {ds:List TDev} {ps:List PA},ps.length=ds.length→(dB 15 ds ps).map Prod.fst=ps.map Prod.snd
 | [],[],_=>rfl
 | d::ds,p::ps,hl=>by
  have e:(fG 15 d p).1=p.2:=rfl
  simp only[dB,List.map_cons,e,z0Q (show ps.length=ds.length by simpa using hl)]
 | [],_::_,hl=>by simp at hl
 | _::_,[],hl=>by simp at hl
theorem z0R:∀ {ds:List TDev} {ps:List PA},ps.length=ds.length→(dB 3 ds ps).map Prod.snd=List.zipWith kD ds (ps.map Prod.fst)
 | [],[],_=>rfl
 | d::ds,p::ps,hl=>by
  have e:(fG 3 d p).2=kD d p.1:=rfl
  simp only[dB,List.map_cons,e,z0R (show ps.length=ds.length by simpa using hl),List.zipWith_cons_cons]
 | [],_::_,hl=>by simp at hl
 | _::_,[],hl=>by simp at hl
structure Chn (bef:List TDev) (own:TDev) (aft:List TDev) (n:Nat):Prop where
 lo:∀d∈bef++own::aft,2≤d.long
 z:∀d∈bef++own::aft,∀x∈d.ins,x.code.contains 48=true
 n1:1≤n
 cap:kD own (zs own.long.toNat)=zs n
def EE (bef:List TDev)(own:TDev)(aft:List TDev):List (List UInt8):=(bef.map fun d=>VA d.long.toNat)++zs own.long.toNat::aft.map fun d=>VA d.long.toNat
variable {bef aft:List TDev} {own:TDev} {n:Nat}
theorem sV:∀ {l:List TDev},(∀ d∈l,2≤d.long)→(∀ d∈l,∀ x∈d.ins,x.code.contains 48=true)→List.zipWith kD l (l.map fun d=>VA d.long.toNat)=l.map fun _=>[48]
 | [],_,_=>rfl
 | d::l,h1,h2=>by
  have a:=h1 d List.mem_cons_self
  rw[List.map_cons,List.zipWith_cons_cons,zaV (h2 d List.mem_cons_self) (by omega),sV (fun x hx=>h1 x (List.mem_cons_of_mem _ hx)) (fun x hx=>h2 x (List.mem_cons_of_mem _ hx)),List.map_cons]
theorem Chn.caps (C:Chn bef own aft n):List.zipWith kD (bef++own::aft) (EE bef own aft)=(bef.map fun _=>[48])++zs n::aft.map fun _=>[48]:=by
 unfold EE;rw[List.zipWith_append (by simp),List.zipWith_cons_cons,C.cap,sV (fun d hd=>C.lo d (List.mem_append_left _ hd)) (fun d hd=>C.z d (List.mem_append_left _ hd)),
  sV (fun d hd=>C.lo d (List.mem_append_right _ (List.mem_cons_of_mem _ hd))) (fun d hd=>C.z d (List.mem_append_right _ (List.mem_cons_of_mem _ hd)))]
theorem Chn.flat3 (C:Chn bef own aft n){ps:List PA}(hc:ps.map Prod.fst=EE bef own aft):ps.length=(bef++own::aft).length∧zB (dB 3 (bef++own::aft) ps)=zs aft.length++zs n++zs bef.length∧∀p∈dB 3 (bef++own::aft) ps,p.2≠[]:=by
 have hl:ps.length=(bef++own::aft).length:=by
  have:=congrArg List.length hc;simpa [EE] using this
 have hs:=z0R hl
 rw[hc,C.caps]at hs;refine⟨hl,?_,fun p hp e=>?_⟩
 ·rw[ZQ,hs,aR]
  show cC (aft.map fun _=>[48])++zs n++cC (bef.map fun _=>[48])=_
  rw[zX,zX]
 ·have:p.2∈(dB 3 (bef++own::aft) ps).map Prod.snd:=List.mem_map.2 ⟨p,hp,rfl⟩
  rw[hs,e]at this;rcases List.mem_append.1 this with h|h
  ·simp at h
  ·rcases List.mem_cons.1 h with h|h
   ·have q:=C.n1;have:=congrArg List.length h;simp [zs]at this;omega
   ·simp at h
theorem z4u (ds:List TDev):∀(m:Nat) (ps:List PA),ps.length=ds.length→∀r,uB ds 1 ps ((zs m).zip (zs m)++r)=List.replicate m 122++uB ds 1 ps r
 | 0,ps,_,r=>rfl
 | m+1,ps,hl,r=>by
  have a1:=gG (st:=1) (by decide) (by decide) (ds:=ds) (ps:=ps) 48 hl
  have e:(zs (m+1)).zip (zs (m+1))++r=(48,48)::((zs m).zip (zs m)++r):=rfl
  have s1:stW 1 48=1:=rfl
  rw[e];simp only[uB,a1,s1,z4u ds m ps hl r];rfl
inductive Rest (n:Nat):List Cmd→Prop
 | nil:Rest n []
 | idle {l} (m:Int):0≤m→m≤3→Rest n l→Rest n (mk9 m::l)
 | scan {l} (b:List UInt8):b.length=n→EA b=true→Rest n l→Rest n (mk8 b::l)
def resR (n:Nat)(l:List Cmd):List (List UInt8):=l.map fun c=>if QC c=true then zs n else []
theorem zjC (C:Chn bef own aft n)(R:List UInt8){l:List Cmd}(hl:Rest n l):∀(pre:List Cmd) (at_:Nat) (ps:List PA) (H T:List UInt8),PreS pre H T (zs aft.length) (zs bef.length)→ps.map Prod.fst=EE bef own aft →
 R.drop at_=uB (bef++own::aft) 1 ps ((sA (nA eA pre 1 l)).zip (EB (nA eA pre 1 l)))→TC eA pre 1 l at_ R=resR n l:=by
 induction hl with
 | nil=>intro _ _ _ _ _ _ _ _;rfl
 | @idle l m _ _ hr ih=>
  intro pre at_ ps H T P hc hR;obtain⟨hl,_,_⟩:=C.flat3 hc;obtain⟨e1,e2,e4⟩:=z5e pre m;have hz:(sA (nA eA pre 1 (mk9 m::l))).zip (EB (nA eA pre 1 (mk9 m::l)))=(zs m.toNat).zip (zs m.toNat)++(sA (nA eA (pre++[mk9 m]) 1 l)).zip (EB (nA eA (pre++[mk9 m]) 1 l)):=by
   show(sA (lA eA pre (mk9 m) 1::nA eA (pre++[mk9 m]) (lA eA pre (mk9 m) 1).st l)).zip (EB (lA eA pre (mk9 m) 1::nA eA (pre++[mk9 m]) (lA eA pre (mk9 m) 1).st l))=_
   unfold sA EB;rw[List.flatMap_cons,List.flatMap_cons,e1,e2,e4,List.zip_append rfl]
  rw[hz,z4u _ _ _ hl]at hR;have ih:=ih (pre++[mk9 m]) (at_+m.toNat) ps H T (P.snoc (by simp [mk9])) hc (by
   rw[←List.drop_drop,hR,List.drop_append_of_le_length (by simp),List.drop_eq_nil_of_le (by simp)];rfl)
  show(if QC (mk9 m)=true then _ else [])::TC eA (pre++[mk9 m]) (lA eA pre (mk9 m) 1).st l (at_+(lA eA pre (mk9 m) 1).tms.length) R=_
  have hlen:(zs m.toNat).length=m.toNat:=by simp [zs]
  rw[e4,e1,hlen,ih];rfl
 | @scan l b hb _ hr ih=>
  intro pre at_ ps H T P hc hR;have hn:=C.n1
  obtain⟨hl,h3,h4⟩:=C.flat3 hc;obtain⟨e1,e2,e3,e4⟩:=z5d P b (by omega)
  have hbs:(zs aft.length++b++zs bef.length).length=aft.length+n+bef.length:=by simp only[List.length_append,zs,List.length_replicate,hb]
  have h3l:(zB (dB 3 (bef++own::aft) ps)).length=(zs aft.length++b++zs bef.length).length:=by rw[h3,hbs];simp [zs]
  have hz:(sA (nA eA pre 1 (mk8 b::l))).zip (EB (nA eA pre 1 (mk8 b::l)))=([49,48,48]++(zs ((zs aft.length++b++zs bef.length).length-1)++[49])++[49,48]).zip (zs 3++(zs aft.length++b++zs bef.length)++zs 2)++(sA (nA eA (pre++[mk8 b]) 1 l)).zip (EB (nA eA (pre++[mk8 b]) 1 l)):=by
   show(sA (lA eA pre (mk8 b) 1::nA eA (pre++[mk8 b]) (lA eA pre (mk8 b) 1).st l)).zip (EB (lA eA pre (mk8 b) 1::nA eA (pre++[mk8 b]) (lA eA pre (mk8 b) 1).st l))=_
   unfold sA EB;rw[List.flatMap_cons,List.flatMap_cons,e1,e2,e4,List.zip_append (by simp only[List.length_append,hbs,zs,List.length_replicate,List.length_cons,List.length_nil];omega)]
  obtain⟨qs,q1,q2⟩:=zb2 (bef++own::aft) ps hl h4 (zs aft.length++b++zs bef.length) h3l (by omega) ((sA (nA eA (pre++[mk8 b]) 1 l)).zip (EB (nA eA (pre++[mk8 b]) 1 l)))
  rw[hz,q1,h3]at hR;have ih:=ih (pre++[mk8 b]) (at_+(aft.length+n+bef.length+5)) qs H T (P.snoc (by simp [mk8])) (q2.trans hc) (by
   rw[←List.drop_drop,hR,List.drop_append_of_le_length (by simp [zs] <;> omega),List.drop_eq_nil_of_le (by simp [zs] <;> omega)];rfl)
  show(if QC (mk8 b)=true then win R (at_+(lA eA pre (mk8 b) 1).fr) b.length else [])::TC eA (pre++[mk8 b]) (lA eA pre (mk8 b) 1).st l (at_+(lA eA pre (mk8 b) 1).tms.length) R=_
  have hlen:(lA eA pre (mk8 b) 1).tms.length=aft.length+n+bef.length+5:=by
   rw[e1];simp only[List.length_append,hbs,zs,List.length_replicate,List.length_cons,List.length_nil];omega
  rw[e3,e4,hlen,ih,if_pos (show QC (mk8 b)=true from rfl)]
  have hw2:win R (at_+(3+(zs aft.length).length)) b.length=zs n:=by
   unfold win;rw[←List.drop_drop,hR,←List.drop_drop];show((((zs aft.length++zs n++zs bef.length)++[122,122])++_).drop (zs aft.length).length).take b.length=zs n
   rw[List.append_assoc,List.append_assoc,List.append_assoc,List.drop_left,List.take_append_of_le_length (by simp [zs];omega),List.take_of_length_le (by simp [zs];omega)]
  rw[hw2];rfl
theorem z55 (C:Chn bef own aft n){l:List Cmd}(hl:Rest n l){pre:List Cmd}(P:PreS pre (VA (bB aft)) (VA (bB bef)) (zs aft.length) (zs bef.length))(hs:∀ c∈pre,3≤c.k∧c.k≤6) :
 tF (bef++own::aft) (pre++GA (zs own.long.toNat)::l)=(pre.map fun _=>[])++irC own::resR n l:=by
 have lo:=C.lo own (by simp)
 -- settings make no clocks
 have key:∀(q p:List Cmd) (at_:Nat) (R:List UInt8) (m:List Cmd),(∀c∈q,3≤c.k∧c.k≤6)→sA (nA eA p 0 (q++m))=sA (nA eA (p++q) 0 m)∧EB (nA eA p 0 (q++m))=EB (nA eA (p++q) 0 m)∧TC eA p 0 (q++m) at_ R=(q.map fun _=>[])++TC eA (p++q) 0 m at_ R:=by
  intro q;induction q with
  | nil=>intro p at_ R m _;simp
  | cons c q ih=>
   intro p at_ R m hq;have hc:=hq c List.mem_cons_self
   have ep:lA eA p c 0=fC ⟨[],[],[],0,0⟩:=by
    unfold lA;rw[if_neg (by omega),if_neg (by omega),if_neg (by omega),if_neg (by omega)]
   have hsn:QC c=false:=by
    cases q:QC c with
    | false=>rfl
    | true=>have:=nH.1 q;omega
   obtain⟨a1,a2,a3⟩:=ih (p++[c]) at_ R m fun x hx=>hq x (List.mem_cons_of_mem _ hx)
   refine⟨?_,?_,?_⟩
   ·show sA (lA eA p c 0::nA eA (p++[c]) (lA eA p c 0).st (q++m))=_
    rw[ep];show []++sA (nA eA (p++[c]) 0 (q++m))=_
    rw[a1];simp
   ·show EB (lA eA p c 0::nA eA (p++[c]) (lA eA p c 0).st (q++m))=_
    rw[ep];show []++EB (nA eA (p++[c]) 0 (q++m))=_
    rw[a2];simp
   ·show(if QC c=true then _ else [])::TC eA (p++[c]) (lA eA p c 0).st (q++m) (at_+(lA eA p c 0).tms.length) R=_
    rw[ep,hsn];show []::TC eA (p++[c]) 0 (q++m) at_ R=_
    rw[a3];simp
 unfold tF;obtain⟨k1,k2,k3⟩:=key pre [] 0 (zE (bef++own::aft) (pre++GA (zs own.long.toNat)::l)) (GA (zs own.long.toNat)::l) hs;rw[k3,List.nil_append];congr 1
 have hR:zE (bef++own::aft) (pre++GA (zs own.long.toNat)::l)=uB (bef++own::aft) 0 (vE (bef++own::aft)) ((sA (nA eA pre 0 (GA (zs own.long.toNat)::l))).zip (EB (nA eA pre 0 (GA (zs own.long.toNat)::l)))):=by
  unfold zE;rw[k1,k2,List.nil_append]
 generalize zE (bef++own::aft) (pre++GA (zs own.long.toNat)::l)=R at hR ⊢;have hzl:(zs own.long.toNat).length=own.long.toNat:=by simp [zs]
 obtain⟨e1,e2,e3,e4⟩:=z5c P (zs own.long.toNat) (by omega)
 generalize hB:VA (bB aft)++zs own.long.toNat++VA (bB bef)=B at *;have hBl:B.length=bB aft+own.long.toNat+bB bef:=by rw[←hB];simp [zs,VA];omega
 have hz:(sA (nA eA pre 0 (GA (zs own.long.toNat)::l))).zip (EB (nA eA pre 0 (GA (zs own.long.toNat)::l)))=([48,49,49,48,48]++(zs (B.length-1)++[49])++[49,48]).zip (zs 5++B++zs 2)++(sA (nA eA (pre++[GA (zs own.long.toNat)]) 1 l)).zip (EB (nA eA (pre++[GA (zs own.long.toNat)]) 1 l)):=by
  show(sA (lA eA pre (GA (zs own.long.toNat)) 0::nA eA (pre++[GA (zs own.long.toNat)]) (lA eA pre (GA (zs own.long.toNat)) 0).st l)).zip (EB (lA eA pre (GA (zs own.long.toNat)) 0::nA eA (pre++[GA (zs own.long.toNat)]) (lA eA pre (GA (zs own.long.toNat)) 0).st l))=_
  unfold sA EB;rw[List.flatMap_cons,List.flatMap_cons,e1,e2,e4,List.zip_append (by simp only[List.length_append,hBl,zs,List.length_replicate,List.length_cons,List.length_nil];omega)]
 have hl0:(vE (bef++own::aft)).length=(bef++own::aft).length:=by simp [vE]
 have hl1:=jJ (st:=0) hl0
 have s10:=z0P hl1
 have hl2:=jJ (st:=10) hl1
 have f10:zB (dB 10 (bef++own::aft) (dB 0 (bef++own::aft) (vE (bef++own::aft))))=cC (aft.map irC)++irC own++cC (bef.map irC):=by
  rw[ZQ,s10,List.map_append,aR];rfl
 have il:(irC own).length=own.long.toNat:=by simp [irC,zs];omega
 have fa:=yX aft fun d hd=>by have:=C.lo d (by simp [hd]);omega
 have fb:=yX bef fun d hd=>by have:=C.lo d (by simp [hd]);omega
 have hn10:∀p∈dB 10 (bef++own::aft) (dB 0 (bef++own::aft) (vE (bef++own::aft))),p.2≠[]:=fun p hp e=>by
  have:p.2∈(dB 10 (bef++own::aft) (dB 0 (bef++own::aft) (vE (bef++own::aft)))).map Prod.snd:=List.mem_map.2 ⟨p,hp,rfl⟩
  rw[s10,e]at this;obtain⟨d,_,hd⟩:=List.mem_map.1 this;simp [irC]at hd
 obtain⟨qs,q1,q2,q3⟩:=ze6 (bef++own::aft) (vE (bef++own::aft)) hl0 hn10 B (by rw[f10,hBl];simp only[List.length_append,il,fa,fb]) (by omega) ((sA (nA eA (pre++[GA (zs own.long.toNat)]) 1 l)).zip (EB (nA eA (pre++[GA (zs own.long.toNat)]) 1 l)))
 have q3l:qs.length=(bef++own::aft).length:=by have:=congrArg List.length q3;simpa [hl2] using this
 rw[hz,q1,f10]at hR
 -- the codes
 have codes:qs.map Prod.snd=EE bef own aft:=by
  have lens:qs.map (fun p=>p.2.length)=(bef++own::aft).map fun d=>d.long.toNat:=by
   rw[q3];have:∀l:List PA,l.map (fun p=>p.2.length)=(l.map Prod.snd).map List.length:=fun l=>by rw[List.map_map];rfl
   rw[this,s10,List.map_map];apply List.map_congr_left
   intro d hd;have:=C.lo d hd;simp [irC,zs];omega
  have tgt:=z3I (ps:=qs) (qs:=(EE bef own aft).map fun c=>(([]:List UInt8),c)) (by
   rw[q2,ZQ,List.map_map];show B=cC ((EE bef own aft).map id)
   rw[List.map_id,←hB];unfold EE;rw[aR];show _=cC (aft.map fun d=>VA d.long.toNat)++zs own.long.toNat++cC (bef.map fun d=>VA d.long.toNat)
   rw[AX,AX]) (by
   rw[lens,List.map_map];unfold EE;rw[List.map_append,List.map_append,List.map_cons,List.map_cons,List.map_map,List.map_map];simp [zs,VA,Function.comp_def])
  rw[tgt,List.map_map];show(EE bef own aft).map id=_
  rw[List.map_id]
 have hfst:(dB 15 (bef++own::aft) qs).map Prod.fst=EE bef own aft:=by rw[z0Q q3l,codes]
 have d9:=zjC C R hl (pre++[GA (zs own.long.toNat)]) (B.length+7) (dB 15 (bef++own::aft) qs) _ _ (P.snoc (by simp [GA])) hfst (by
  rw[hR,List.drop_append_of_le_length (by simp [il,fa,fb];omega),List.drop_eq_nil_of_le (by simp [il,fa,fb];omega)];rfl)
 show(if QC (GA (zs own.long.toNat))=true then win R (0+(lA eA pre (GA (zs own.long.toNat)) 0).fr) (zs own.long.toNat).length else [])::TC eA (pre++[GA (zs own.long.toNat)]) (lA eA pre (GA (zs own.long.toNat)) 0).st l (0+(lA eA pre (GA (zs own.long.toNat)) 0).tms.length) R=_
 have hlen:(lA eA pre (GA (zs own.long.toNat)) 0).tms.length=B.length+7:=by
  rw[e1];simp only[List.length_append,zs,List.length_replicate,List.length_cons,List.length_nil];omega
 rw[e3,e4,hlen,Nat.zero_add,Nat.zero_add,d9,if_pos (show QC (GA (zs own.long.toNat))=true from rfl)]
 have hw:win R (5+(VA (bB aft)).length) (zs own.long.toNat).length=irC own:=by
  unfold win;rw[hR,←List.drop_drop];have ol:(VA (bB aft)).length=(cC (aft.map irC)).length:=by rw[fa];simp [VA]
  rw[ol];show((((cC (aft.map irC)++irC own++cC (bef.map irC))++[122,122])++_).drop (cC (aft.map irC)).length).take (zs own.long.toNat).length=_
  rw[List.append_assoc,List.append_assoc,List.append_assoc,List.drop_left,List.take_append_of_le_length (by omega),List.take_of_length_le (by omega)]
 rw[hw]
end Go.Am
end
section
/- Devices of a chain,drawn. -/
open Go
set_option linter.all false
set_option maxRecDepth 100000
namespace Go.Am
variable {L:List Int} {a:Int} {h l:aA} {id:Nat} {K:jA}
attribute [-go_sem] OA
def sB:List UInt8:=[100,97,116,97]
structure DvG (d:TDev):Prop where
 n:d.name.length≤10
 lo : -1000≤d.long∧d.long≤1000
 id : -1000≤d.id∧d.id≤1000
 r:∃n:Int,d.regs=[⟨sB,n⟩]∧1≤n∧n≤4
 i:d.ins.length≤2
 c:∀x∈d.ins,x.code.length≤4∧x.reg.length≤10
 z:∃(m:Nat) (rest:List TIns),d.ins=⟨zs m,sB⟩::rest∧∀x∈rest,x.code.headD 0=49
theorem DvG.b {d:TDev}(D:DvG d):DevB d:=by
 obtain⟨n,e,_,_⟩:=D.r;exact⟨by have:=D.n;omega,by rw[e];simp,by have:=D.i;omega,fun r hr=>by rw[e]at hr;simp at hr;rw[hr];simp [sB],fun x hx=>by have:=D.c x hx;omega⟩
attribute [-go_sem] oG ZE LF FE gF kE HQ xJ IQ fI
theorem FZ {l:List Int}{lo hi:Int}(hl:0<l.length)(hl2:l.length<4611686018427387904)(h:∀ x∈l,lo≤x∧x≤hi)(a:Int):lo≤rF l L a∧rF l L a≤hi:=h _ (zjk hl hl2)
theorem z3O {o0 o1 o3:Obj}{sh:Sh}{xs:List PV}{fz n:Nat}:frz [o0,o1,.row sh xs fz,o3] 2 n=[o0,o1,.row sh xs (max fz n),o3]:=rfl
theorem cR {o0 o1 o2:Obj}{sh:Sh}{xs:List PV}{fz n:Nat}:frz [o0,o1,o2,.row sh xs fz] 3 n=[o0,o1,o2,.row sh xs (max fz n)]:=rfl
theorem win1 {x:PV}:win [x] 0 1=[x]:=rfl
theorem win2 {x y:PV}:win [x,y] 0 2=[x,y]:=rfl
theorem z4m {o0 o1 o2 o3:Obj}:[o0,o1,o2,o3][3]?=some o3:=rfl
theorem z4l {o0 o1 o2 o3:Obj}:[o0,o1,o2,o3][2]?=some o2:=rfl
attribute [local go_sem] z3O cR win1 win2 z4m z4l
theorem PJ {b:Nat}{X Y:Esc}(hX:∀ y∈X,b≤y.1)(hY:∀ y∈Y,b≤y.1):∀y∈X++Y,b≤y.1:=fun y hy=>by
 rcases List.mem_append.1 hy with e|e
 ·exact hX y e
 ·exact hY y e
theorem QJ {b i:Nat}{v:AV}(h:b≤i):∀y∈qC i v,b≤y.1:=fun y hy=>by
 unfold qC at hy;split at hy
 ·rw[List.mem_singleton.1 hy];exact h
 ·cases hy
def uvw:List (List UInt8):=[[117],[118],[119]]
set_option maxHeartbeats 4000000 in
theorem zaW (hid:id<h.length){b:Int}(hp:kB 100 b){ds:List TDev}(h1:1≤ds.length)(h3:ds.length≤3)(hd:∀ d∈ds,DvG d){P:jA}{y:List (Nat × AV)}{E:Ex→St→Prop}(hE:E=qA [.t 2] false h.length P)
 (hP:∀(ds':List TDev) (b':Int),b≤b'→b'≤b+10→ds'.length=ds.length→(∀d∈ds',DvG d)→P (pC ds') (h.set id (JA L b')) []) :
 NW (bA X) X.gl YN ⟨[(0,.ref id 0),(3,.own h.length ds.length 0 ds.length)]++y,h.set id (JA L b)++[.row (some 5) (ds.map tA) 0],[]⟩ E:=by
 subst hE;have hid':id≤h.length:=by omega
 have Q:=JZ (WF hp (Int.le_refl b) (by omega))
 have lml:(ds.map tA).length=ds.length:=List.length_map ..
 have done:∀(ds':List TDev) (b':Int),b≤b'→b'≤b+10→ds'.length=ds.length→(∀d∈ds',DvG d)→∀(M:List PV) (y:List (Nat×AV)),kA y 3 = .own h.length ds.length 0 ds.length→M=ds'.map tA→NW (bA X) X.gl XN ⟨y,h.set id (JA L b')++[.row (some 5) M 0],[]⟩ (qA [.t 2] false h.length P):=fun ds' b' q1 q2 q3 q4 M y hy hM=>by
  subst hM;have l2:(ds'.map tA).length=ds.length:=by rw[List.length_map,q3]
  have wf:win (ds'.map tA) 0 ds.length=ds'.map tA:=QE l2
  rw[HQ];simp only[xJ,hy];simp only[go_sem,l2,wf];exact hP ds' b' q1 q2 q3 q4
 rw[IQ];by_cases hf:FB L b 20=0
 ·obtain⟨j1,j2⟩:=HI L (b+1) ds.length (by omega) (by omega)
  obtain⟨j,hj⟩:=Int.eq_ofNat_of_zero_le j1;have hjl:j<ds.length:=by omega
  have hg:=XB tA hjl
  have D:=hd _ (List.getElem_mem hjl)
  have fp:∀y:TDev,tA y = .agg [.str y.name,eI y.long,eI y.id,.sl (some 2) (y.regs.map uA),.sl (some 2) (y.ins.map QA)]:=fun _=>rfl
  have hset:∀(n:List UInt8) (lo i:Int),(ds.map tA).set j (.agg [.str n,eI lo,eI i,.sl (some 2) (ds[j].regs.map uA),.sl (some 2) (ds[j].ins.map QA)])=(ds.set j ⟨n,lo,i,ds[j].regs,ds[j].ins⟩).map tA:=fun n lo i=>by rw[List.map_set];rfl
  have hmem:∀(n:List UInt8) (lo i:Int),n.length≤10→(-1000≤lo∧lo≤1000)→(-1000≤i∧i≤1000)→∀d∈ds.set j ⟨n,lo,i,ds[j].regs,ds[j].ins⟩,DvG d:=fun n lo i q1 q2 q3 d hm=>by
   rcases List.mem_or_eq_of_mem_set hm with e|e
   ·exact hd d e
   ·subst e;exact⟨q1,q2,q3,D.r,D.i,D.c,D.z⟩
  generalize hdj:ds[j]=d at *;rw[fp]at hg;have pm:=z5j (l:=[d.name,[],[117]]) (L:=L) (a:=b+1+1) (by simp) (by simp)
  have pl:(qF [d.name,[],[117]] L (b+1+1)).length≤10:=by
   simp only[List.mem_cons,List.not_mem_nil,or_false]at pm;rcases pm with e|e|e
   ·rw[e];exact D.n
   ·rw[e];decide
   ·rw[e];decide
  obtain⟨l1,l2⟩:=FZ (L:=L) (l:=[d.long,1,33]) (lo:=-1000) (hi:=1000) (by simp) (by simp) (by simp;exact D.lo) (b+1+1+1)
  obtain⟨k1,k2⟩:=FZ (L:=L) (l:=[d.id,4,-1]) (lo:=-1000) (hi:=1000) (by simp) (by simp) (by simp;exact D.id) (b+1+1+1+1)
  generalize hps:qF [d.name,[],[117]] L (b+1+1)=nm at *;generalize hlo:rF [d.long,1,33] L (b+1+1+1)=lo at *;generalize hii:rF [d.id,4,-1] L (b+1+1+1+1)=ii at *;have gs:∀v,((ds.map tA).set j v)[j]?=some v:=fun v=>List.getElem?_set_self (by omega)
  have ss:∀v w,((ds.map tA).set j v).set j w=(ds.map tA).set j w:=fun v w=>List.set_set ..
  have ls:∀v,((ds.map tA).set j v).length=ds.length:=fun v=>by rw[List.length_set,lml]
  simp (config:={maxSteps:=4000000}) only[fI,go_sem,hid,hid',Q,hf,hj,lml,hjl,hg,hps,hlo,hii,gs,ss,ls,splice,List.cons_append,List.nil_append];exact done (ds.set j ⟨nm,lo,ii,d.regs,d.ins⟩) (b+1+1+1+1+1) (by omega) (by omega) (by simp) (hmem nm lo ii pl ⟨l1,l2⟩ ⟨k1,k2⟩) _ _ rfl (hset nm lo ii)
 ·simp only[fI,go_sem,hid,hid',Q,hf,List.cons_append,List.nil_append]
  exact done ds (b+1) (by omega) (by omega) rfl hd _ _ rfl rfl
end Go.Am
end
section
/- Programs for a chain and for a device of it are right,plainly. -/
open Go
set_option linter.all false
set_option maxRecDepth 100000
namespace Go.Am
theorem aM {b:UInt8}(h:b=48∨b=49)(n:Nat):EA (List.replicate n b)=true:=by
 unfold EA;rw[List.all_eq_true];intro c hc;rw[List.eq_of_mem_replicate hc];rcases h with h|h <;> rw[h] <;> rfl
theorem zbe {b:List UInt8}(h1:1≤b.length)(h2:b.length≤2000)(hb:EA b=true):NA (mk8 b)=0:=by
 have hne:b≠[]:=fun e=>by rw[e]at h1;simp at h1
 have hs:OD (mk8 b)=0:=by
  unfold OD mk8;dsimp only;rw[if_neg hne,hb];have:¬2000<b.length:=by omega
  simp [this,EA]
 unfold NA;have ek:(mk8 b).k=8:=rfl
 rw[ek,hs];simp [mk8]
theorem zbd {b:List UInt8}(h1:1≤b.length)(h2:b.length≤2000)(hb:EA b=true):NA (GA b)=0:=by
 have hne:b≠[]:=fun e=>by rw[e]at h1;simp at h1
 have hs:OD (GA b)=0:=by
  unfold OD GA;dsimp only;rw[if_neg hne,hb];have:¬2000<b.length:=by omega
  simp [this,EA]
 unfold NA;have ek:(GA b).k=7:=rfl
 rw[ek,hs];simp [GA]
theorem zbf {m:Int}(h1:0≤m)(h2:m≤3):NA (mk9 m)=0:=by
 unfold NA mk9;dsimp only;rw[if_neg (by decide),if_pos rfl,if_neg (by omega),if_pos rfl]
def mkS (k:Int)(b:List UInt8):Cmd:=⟨k,0,0,b,[],[]⟩
theorem rP {k:Int}{b:List UInt8}(hk:3≤k∧k≤6)(h2:b.length≤2000)(hb:EA b=true):NA (mkS k b)=0:=by
 unfold NA mkS;dsimp only;have:¬2000<b.length:=by omega
 rw[if_neg (by omega),if_neg (by omega),if_neg (by omega),if_pos hk,hb]
 simp [this]
theorem z1H:∀ l:List Cmd,(∀ c∈l,NA c=0)→JC l=0
 | [],_=>rfl
 | c::l,h=>by
  unfold JC;rw[h c List.mem_cons_self];simpa using z1H l fun d hd=>h d (List.mem_cons_of_mem _ hd)
theorem zjD {n:Nat}(h1:1≤n)(h2:n≤2000){l:List Cmd}(hr:Rest n l):∀c∈l,NA c=0:=by
 induction hr with
 | nil=>intro c hc;cases hc
 | idle m a b _ ih=>
  intro c hc;rcases List.mem_cons.1 hc with e|e
  ·rw[e];exact zbf a b
  ·exact ih c e
 | scan b hb hb2 _ ih=>
  intro c hc;rcases List.mem_cons.1 hc with e|e
  ·rw[e];exact zbe (by omega) (by omega) hb2
  ·exact ih c e
theorem zjE {n ka kb:Nat}(h1:1≤n){l:List Cmd}(hr:Rest n l):∀(pre:List Cmd) (H T:List UInt8),PreS pre H T (zs ka) (zs kb)→(sA (nA eA pre 1 l)).length≤l.length*(ka+n+kb+5):=by
 induction hr with
 | nil=>intro _ _ _ _;simp [nA,sA]
 | @idle l m a b _ ih=>
  intro pre H T P;obtain⟨e1,e2,e4⟩:=z5e pre m;have ih:=ih (pre++[mk9 m]) H T (P.snoc (by simp [mk9]))
  have:(sA (nA eA pre 1 (mk9 m::l))).length=m.toNat+(sA (nA eA (pre++[mk9 m]) 1 l)).length:=by
   show(sA (lA eA pre (mk9 m) 1::nA eA (pre++[mk9 m]) (lA eA pre (mk9 m) 1).st l)).length=_
   rw[e4];show((lA eA pre (mk9 m) 1).tms++sA _).length=_
   rw[e1];simp [zs]
  rw[this,List.length_cons,Nat.add_mul];omega
 | @scan l b hb _ _ ih=>
  intro pre H T P;obtain⟨e1,e2,e3,e4⟩:=z5d P b (by omega)
  have ih:=ih (pre++[mk8 b]) H T (P.snoc (by simp [mk8]))
  have:(sA (nA eA pre 1 (mk8 b::l))).length=ka+n+kb+5+(sA (nA eA (pre++[mk8 b]) 1 l)).length:=by
   show(sA (lA eA pre (mk8 b) 1::nA eA (pre++[mk8 b]) (lA eA pre (mk8 b) 1).st l)).length=_
   rw[e4];show((lA eA pre (mk8 b) 1).tms++sA _).length=_
   rw[e1];simp only[List.length_append,zs,List.length_replicate,List.length_cons,List.length_nil,hb];omega
  rw[this,List.length_cons,Nat.add_mul];omega
theorem z5o {n ka kb ca:Nat}{H T:List UInt8}(h1:1≤n)(h2:n≤10)(hka:ka≤10)(hkb:kb≤10)(hH:H.length≤1000)(hT:T.length≤1000)(hc1:1≤ca)(hc2:ca≤1000){l:List Cmd}(hl:Rest n l)(hn:l.length≤20){pre:List Cmd}(P:PreS pre H T (zs ka) (zs kb))(hs:∀ c∈pre,(3≤c.k∧c.k≤6)∧NA c=0)(hp:pre.length≤10) :
 ZB eA (pre++GA (zs ca)::l)=0:=by
 have key:∀(q p:List Cmd) (m:List Cmd),(∀c∈q,(3≤c.k∧c.k≤6)∧NA c=0)→sA (nA eA p 0 (q++m))=sA (nA eA (p++q) 0 m):=by
  intro q;induction q with
  | nil=>intro p m _;simp
  | cons c q ih=>
   intro p m hq;have hc:=(hq c List.mem_cons_self).1
   have ep:lA eA p c 0=fC ⟨[],[],[],0,0⟩:=by
    unfold lA;rw[if_neg (by omega),if_neg (by omega),if_neg (by omega),if_neg (by omega)]
   have a1:=ih (p++[c]) m fun x hx=>hq x (List.mem_cons_of_mem _ hx)
   show sA (lA eA p c 0::nA eA (p++[c]) (lA eA p c 0).st (q++m))=_
   rw[ep];show []++sA (nA eA (p++[c]) 0 (q++m))=_
   rw[a1];simp
 have hzl:(zs ca).length=ca:=by simp [zs]
 obtain⟨e1,e2,e3,e4⟩:=z5c P (zs ca) (by omega)
 have rl:=zjE h1 hl (pre++[GA (zs ca)]) H T (P.snoc (by simp [GA]))
 have m:l.length*(ka+n+kb+5)≤20*35:=Nat.mul_le_mul hn (by omega)
 have s1:(sA (nA eA [] 0 (pre++GA (zs ca)::l))).length≤20000:=by
  rw[key pre [] _ hs,List.nil_append];show(sA (lA eA pre (GA (zs ca)) 0::nA eA (pre++[GA (zs ca)]) (lA eA pre (GA (zs ca)) 0).st l)).length≤_
  rw[e4];show((lA eA pre (GA (zs ca)) 0).tms++sA _).length≤_
  rw[e1];simp only[List.length_append,hzl,List.length_cons,List.length_nil];have:(zs (H.length+ca+T.length-1)).length=H.length+ca+T.length-1:=by simp [zs]
  omega
 have hc:JC (pre++GA (zs ca)::l)=0:=z1H _ fun c hc=>by
  rcases List.mem_append.1 hc with e|e
  ·exact(hs c e).2
  ·rcases List.mem_cons.1 e with e|e
   ·rw[e];exact zbd (by omega) (by omega) (aM (.inl rfl) _)
   ·exact zjD h1 (by omega) hl c e
 unfold ZB;rw[if_neg (by simp;omega),hc,if_neg (by simp),if_neg (by omega)]
def iC (H T h t:List UInt8):List Cmd:=[mkS 3 H,mkS 4 T,mkS 5 h,mkS 6 t]
theorem zjo (H T h t:List UInt8):PreS (iC H T h t) H T h t:=⟨rfl,rfl,rfl,rfl,rfl,rfl⟩
theorem zgj {d:TDev}{n:Int}(hr:d.regs=[⟨sB,n⟩]){m:Nat}{rest:List TIns}(hi:d.ins=⟨zs m,sB⟩::rest)(h49:∀ x∈rest,x.code.headD 0=49)(hl:∀ x∈d.ins,(x.code.length:Int)=d.long)(h2:2≤d.long):kD d (zs d.long.toNat)=zs n.toNat:=by
 have e0:=hl ⟨zs m,sB⟩ (by rw[hi];exact List.mem_cons_self)
 have em:m=d.long.toNat:=by
  have:(zs m).length=m:=by simp [zs]
  rw[←this];dsimp only at e0;omega
 subst em;have hne:zs d.long.toNat≠[]:=fun e=>by have:=congrArg List.length e;simp [zs]at this;omega
 have hno:∀x∈rest,x.code≠zs d.long.toNat:=fun x hx e=>by
  have:=h49 x hx;rw[e]at this;obtain⟨k,hk⟩:∃k,d.long.toNat=k+1:=⟨d.long.toNat-1,by omega⟩
  rw[hk]at this;have e0:(zs (k+1)).headD 0=48:=rfl
  rw[e0]at this;exact absurd this (by decide)
 have e:TB d (zs d.long.toNat)=⟨sB,n⟩:=by
  unfold TB wF;rw[if_neg hne,hi,List.foldl_cons,if_pos rfl,CX _ _ _ hno];show(SB d sB).getD ⟨[],0⟩=_
  unfold SB;rw[if_neg (by decide),if_neg (fun h=>absurd h.1 (by decide)),hr]
  rfl
 unfold kD;rw[e];rfl
theorem z1V:∀ {ds pre:List TDev},yD pre ds=0→∀ d∈ds,xD [] d=0
 | [],_,_,d,hd=>by cases hd
 | x::ds,pre,h,d,hd=>by
  unfold yD at h;by_cases h0:xD pre x≠0
  ·rw[if_pos h0]at h;exact absurd h h0
  rw[if_neg h0]at h;rcases List.mem_cons.1 hd with e|e
  ·subst e
   have h1:xD pre d=0:=by omega
   unfold xD at h1 ⊢;split at h1
   ·cases h1
   rename_i n1;split at h1
   ·cases h1
   rw[if_neg n1,if_neg (by simp)]
   exact h1
  ·exact z1V h d e
theorem z1U {ds:List TDev}(h:OC ds=0){d:TDev}(hd:d∈ds):OC [d]=0∧(∀x∈d.ins,(x.code.length:Int)=d.long)∧∀x∈d.ins,x.code.contains 48=true:=by
 have hf:yD [] ds=0:=by
  unfold OC at h;split at h
  ·cases h
  split at h
  ·cases h
  exact h
 have h1:=z1V hf d hd
 have hi:ZC d [] d.ins=0:=by
  unfold xD at h1;split at h1
  ·cases h1
  split at h1
  ·cases h1
  split at h1
  ·cases h1
  split at h1
  ·cases h1
  split at h1
  ·cases h1
  split at h1
  ·rename_i a;exact absurd h1 a
  exact h1
 refine⟨?_,fun x hx=>(LX hi x hx).1,z40 hi⟩
 unfold OC;rw[if_neg (by simp),if_neg (by simp)]
 unfold yD;rw[h1];rfl
end Go.Am
end
section
/- Programs run: the program: Run. -/
open Go
set_option linter.all false
set_option maxRecDepth 100000
namespace Go.Am
variable {h:aA} {K:jA}
attribute [-go_sem] OA splice
def ND (ds:List TDev)(l:List Cmd):Int:=orL [OC ds,(ZB eA l:Nat)]
theorem z6o (ds:List TDev)(hB:∀ d∈ds,DevB d)(h3:ds.length≤1000)(l:List Cmd)(hok:∀ c∈l,CmdOk c)(hl:l.length≤1000000):bA X eK [pC ds,ACs l] h K=K (AI (ND ds l)) h []:=by
 refine zA ?_;rw[zaD rfl];have q1:=fun h K=>z5T (h:=h) (K:=K) ds hB h3
 have q2:=fun h K=>z5S (h:=h) (K:=K) l hok hl
 have q3:=fun h K=>z5U (h:=h) (K:=K) [OC ds,(ZB eA l:Nat)] (by simp)
 simp only[AL,List.map_cons,List.map_nil]at q3;unfold ND;simp only[wQ,go_sem,↓q1,q1,↓q2,q2,↓q3,q3]
theorem z5G {ds:List TDev}{l:List Cmd}(h:ND ds l=0):OC ds=0∧ZB eA l=0:=by
 unfold ND at h;rw[orL2]at h;split at h
 ·rename_i q;exact absurd h q
 ·rename_i q;exact⟨by omega,by omega⟩
theorem z6h (ds:List TDev)(hB:∀ d∈ds,DevB d)(h3:ds.length≤1000)(l:List Cmd)(hok:∀ c∈l,CmdOk c)(hl:l.length≤1000000) :
 bA X kH [pC ds,ACs l] h K=K (.tup [WT (if ND ds l=0 then tF ds l else []),AI (ND ds l)]) h []:=by
 refine zA ?_;rw[za8 rfl];have q1:=fun h K=>z6o (h:=h) (K:=K) ds hB h3 l hok hl
 by_cases e:ND ds l=0
 ·obtain⟨e1,e2⟩:=z5G e
  have q2:=fun h K=>zkq (h:=h) (K:=K) ds hB e1 l e2
  rw[if_pos e];rw[e]at q1 ⊢;simp only[AM,go_sem,↓q1,q1,↓q2,q2]
 ·rw[if_neg e]
  simp only[AM,go_sem,↓q1,q1,e,List.map_nil];rfl
end Go.Am
end
section
/- Programs run: the program: Failed. -/
open Go
set_option linter.all false
set_option maxRecDepth 100000
namespace Go.Am
variable {h:aA} {K:jA}
attribute [-go_sem] OA splice
end Go.Am
end
section
/- Programs run: the reference: RanOf. -/
open Go
set_option linter.all false
set_option maxRecDepth 100000
namespace Go.Am
variable {h:aA} {K:jA}
attribute [-go_sem] OA splice
end Go.Am
end
section
/- Programs run: FailedScans. -/
open Go
set_option linter.all false
set_option maxRecDepth 100000
namespace Go.Am
variable {h:aA} {K:jA}
attribute [-go_sem] OA splice
end Go.Am
end
section
/- Maps from numbers tov numbers. -/
open Go
set_option linter.all false
namespace Go.Am
attribute [-go_sem] DB LB
end Go.Am
end
section
/- vector.Padded: a program for a chain out of one for a device alone. -/
open Go
set_option linter.all false
set_option maxRecDepth 100000
namespace Go.Am
variable {h:aA} {K:jA}
attribute [-go_sem] OA DB LB
theorem ownP1 {f:Nat}{F:AFun}{id fz n:Nat}{sh:Sh}{xs:List PV}(hf:X.fn f=some F)(hr:F.byref=false)(hl:F.nparams=1)(hh:h[id]?=some (.row sh xs fz))(hn:xs.length=n):bA X f [.own id n 0 n] h K=bA X f [.p (.sl sh xs)] (frz h id n) K:=by
 subst hn;exact rV (X:=X) (a:=[.own id xs.length 0 xs.length]) (vs:=[.sl sh xs]) hf hr (by
  have:win xs 0 xs.length=xs:=QE rfl
  simp [oA,pur,rd,hh,this]) rfl (by simp [hl]) EX
theorem ownP2 {f:Nat}{F:AFun}{id fz n:Nat}{sh:Sh}{xs:List PV}{v:PV}(hf:X.fn f=some F)(hr:F.byref=false)(hl:F.nparams=2)(hh:h[id]?=some (.row sh xs fz))(hn:xs.length=n):bA X f [.p v,.own id n 0 n] h K=bA X f [.p v,.p (.sl sh xs)] (frz h id n) K:=by
 subst hn;exact rV (X:=X) (a:=[.p v,.own id xs.length 0 xs.length]) (vs:=[v,.sl sh xs]) hf hr (by
  have:win xs 0 xs.length=xs:=QE rfl
  simp [oA,pur,rd,hh,this]) rfl (by simp [hl]) EX
theorem ownP3 {f:Nat}{F:AFun}{id fz n:Nat}{sh:Sh}{xs:List PV}{v u:PV}(hf:X.fn f=some F)(hr:F.byref=false)(hl:F.nparams=3)(hh:h[id]?=some (.row sh xs fz))(hn:xs.length=n):bA X f [.p v,.p u,.own id n 0 n] h K=bA X f [.p v,.p u,.p (.sl sh xs)] (frz h id n) K:=by
 subst hn;exact rV (X:=X) (a:=[.p v,.p u,.own id xs.length 0 xs.length]) (vs:=[v,u,.sl sh xs]) hf hr (by
  have:win xs 0 xs.length=xs:=QE rfl
  simp [oA,pur,rd,hh,this]) rfl (by simp [hl]) EX
def kPV (n:Int):PV:=.int .i64 n
def tAV (s:List UInt8):AV:=.p (.str s)
theorem lookC {hp:aA}{id:Nat}{m:List (Int × List UInt8)}{b:Int}(hh:hp[id]?=some (FA kPV tAV m)):DB (none,[0]) false (AS []) (.mp id) (AI b) hp=some (AS ((TA b m).getD [])):=by
 have:=pR (key:=kPV) (val:=tAV) (fun a b=>JN a b) hh (kk:=(none,[0])) (k:=b) KN (ok:=false) (z:=AS [])
 rw[cond_false]at this;refine this.trans ?_;cases TA b m <;> rfl
theorem updC {hp:aA}{id:Nat}{m:List (Int × List UInt8)}{b:Int}{v:List UInt8}(hh:hp[id]?=some (FA kPV tAV m)):LB (none,[0]) (.mp id) (AI b) (AS v) hp=some (.und,hp.set id (FA kPV tAV (vB b v m)),[]):=
 SX (key:=kPV) (val:=tAV) (fun a b=>JN a b) hh (kk:=(none,[0])) (k:=b) KN (v:=v) rfl
theorem updC2 {o:Obj}{m:List (Int × List UInt8)}{b:Int}{v:List UInt8}:LB (none,[0]) (.mp (h.length+1)) (AI b) (AS v) (h++[o,FA kPV tAV m])=some (.und,h++[o,FA kPV tAV (vB b v m)],[]):=by
 rw[updC (m:=m) (by simp)]
 congr 3
 simp
theorem map0 {o:Obj}:h++[o,.amap [] 0]=h++[o,FA kPV tAV []]:=rfl
theorem zkd (n:Int)(h0:0≤n)(h1:n≤1000000):bA X MA [AS [49],AI n] h K=K (AS (VA n.toNat)) h []:=by
 rw[z6e [49] n h0 (by simp;omega) h1,OZ];rfl
theorem z6k (ds:List TDev)(hl:ds.length≤100)(hB:∀ d∈ds,0≤d.long∧d.long≤1000):bA X AN [pC ds] h K=K (AS (VA (bB ds))) h []:=by
 refine zA ?_;rw[za7 rfl];have sb:∀k,k≤ds.length→bB (ds.take k)≤1000*k:=by
  intro k;induction k with
  | zero=>intro _;simp [bB]
  | succ k ih=>
   intro hk;have:=ih (by omega)
   have hlt:k<ds.length:=by omega
   have hb:=hB _ (List.getElem_mem hlt)
   rw[List.take_succ_eq_append_getElem hlt];unfold bB at *;rw[List.map_append,List.sum_append];simp only[List.map_cons,List.map_nil,List.sum_cons,List.sum_nil];omega
 simp only[sQ,go_sem,List.length_map];refine yB (fun k:Nat=>⟨[(3,AI (bB (ds.take k):Nat)),(6,pC ds),(7,AI ds.length),(8,AI k)],h,[]⟩) (fun k=>k≤ds.length) (fun k=>ds.length-k) 0 rfl (by omega) ?_
 intro k hk;rw[CF];rcases Nat.lt_or_ge k ds.length with hlt|hge
 ·have hlt':(k:Int)<(ds.length:Int):=by omega
  have hg:=XB tA hlt
  have fp:∀y:TDev,tA y = .agg [.str y.name,eI y.long,eI y.id,.sl (some 2) (y.regs.map uA),.sl (some 2) (y.ins.map QA)]:=fun _=>rfl
  have w2:IntKind.i64.wrap ((k:Int)+1)=((k+1:Nat):Int):=LA _ (by omega) (by omega)
  have hb:=hB _ (List.getElem_mem hlt)
  have s1:=sb k hk
  have e1:bB (ds.take (k+1))=bB (ds.take k)+ds[k].long.toNat:=by
   rw[List.take_succ_eq_append_getElem hlt];unfold bB;rw[List.map_append,List.sum_append];simp
  generalize hS:bB (ds.take k)=S at *;generalize ds[k]=d at *;rw[fp]at hg;have w3:IntKind.i64.wrap ((S:Int)+d.long)=((S+d.long.toNat:Nat):Int):=by rw[LA _ (by omega) (by omega)];omega
  simp only[aX,zM,go_sem,splice,hlt',hg,w2,w3];refine⟨k+1,?_,by omega,by omega⟩
  rw[e1]
 ·have ek:k=ds.length:=by omega
  subst ek;have s1:=sb ds.length (by omega)
  rw[List.take_length]at *;have ro:=fun h K=>zkd (h:=h) (K:=K) (bB ds:Nat) (by omega) (by omega)
  simp only[aX,zM,z2s,tQ,go_sem,Int.lt_irrefl,↓ro,ro,Int.toNat_natCast]
def bF (ds:List TDev)(n:List UInt8):Int:=nD (dC n) (ds.map tA)
theorem zkg (ds:List TDev)(hl:ds.length≤1000)(n:List UInt8):bA X sI [pC ds,.fn cK [.ref h.length 0]] (h++[.box [AS n]]) K=K (AI (bF ds n)) (h++[.box [AS n]]) []:=by
 have tl:CD cK [.ref h.length 0] (dC n) (ds.map tA) (h++[.box [AS n]]):=fun x hx K=>by
  obtain⟨y,_,rfl⟩:=List.mem_map.1 hx;refine zA ?_;rw[za6 rfl];simp only[rQ,go_sem,Nat.add_assoc,tA,dC]
 exact z0C (h:=h++[.box [AS n]]) (K:=K) (yO MW) tl (by simp;omega)
end Go.Am
end
section
/- vector.Padded,behind its map. -/
open Go
set_option linter.all false
set_option maxRecDepth 100000
namespace Go.Am
variable {h:aA} {K:jA}
attribute [-go_sem] OA DB LB
def pF (H T a t:List UInt8)(c:Cmd):Cmd:=
 if c.k=3 then { c with b:=H++c.b } else if c.k=5 then { c with b:=a++c.b } else if c.k=4 then { c with b:=c.b++T } else if c.k=6 then { c with b:=c.b++t } else c
def yC (H T a t:List UInt8)(l:List Cmd):List Cmd:=iC H T a t++l.map (pF H T a t)
structure MoreM (M:List (Int × List UInt8)) (H T a t:List UInt8):Prop where
 h3:TA 3 M=some H
 h4:TA 4 M=some T
 h5:TA 5 M=some a
 h6:TA 6 M=some t
def z42:List PV:=[.int .i64 3,.int .i64 4,.int .i64 5,.int .i64 6]
set_option maxHeartbeats 4000000 in
theorem zje {o:Obj}{M:List (Int × List UInt8)}{H T a t:List UInt8}(hM:MoreM M H T a t)(hn:H.length≤5000∧T.length≤5000∧a.length≤5000∧t.length≤5000)(l:List Cmd)(hl:l.length≤1000)(hb:∀ c∈l,c.b.length≤5000∧c.w.length≤5000∧c.m.length≤5000){P:jA}{E:Ex→St→Prop}(hE:E=qA [.t 6,.t 7] false h.length P)
 (hP:P (.tup [ACs (if ZB eA (yC H T a t l)=0 then yC H T a t l else []),AI (ZB eA (yC H T a t l):Nat)]) h []) :
 NW (bA X) X.gl bO ⟨[(2,ACs l),(11,.mp (h.length+1))],h++[o,FA kPV tAV M],[]⟩ E:=by
 subst hE;obtain⟨m3,m4,m5,m6⟩:=hM;have lk:∀(u:aA) (b:Int),DB (none,[0]) false (AS []) (.mp (h.length+1)) (AI b) (h++o::FA kPV tAV M::u)=some (AS ((TA b M).getD [])):=fun u b=>lookC (by simp)
 have hL:(yC H T a t l).length≤1000000:=by simp [yC,iC];omega
 have hok:∀c∈yC H T a t l,CmdOk c:=fun c hc=>by
  unfold yC at hc;rcases List.mem_append.1 hc with hc|hc
  ·simp only[iC,List.mem_cons,List.not_mem_nil,or_false]at hc
   rcases hc with e|e|e|e <;> rw[e] <;> exact⟨by simp only[mkS];omega,by simp [mkS],by simp [mkS]⟩
  ·obtain⟨d,hd,rfl⟩:=List.mem_map.1 hc
   obtain⟨q1,q2,q3⟩:=hb d hd;unfold pF;split
   ·exact⟨by simp only[List.length_append];omega,by dsimp only;omega,by dsimp only;omega⟩
   ·split
    ·exact⟨by simp only[List.length_append];omega,by dsimp only;omega,by dsimp only;omega⟩
    ·split
     ·exact⟨by simp only[List.length_append];omega,by dsimp only;omega,by dsimp only;omega⟩
     ·split
      ·exact⟨by simp only[List.length_append];omega,by dsimp only;omega,by dsimp only;omega⟩
      ·exact⟨by omega,by omega,by omega⟩
 have ck:=fun h K=>z5S (h:=h) (K:=K) (yC H T a t l) hok hL
 rw[ZW];simp only[yM,go_sem];refine yB (fun k:Nat=>⟨[(2,ACs l),(11,.mp (h.length+1)),(12,.own (h.length+2) k 0 k),(50,.p (.sl none z42)),(51,AI 4),(52,AI k)],h++[o,FA kPV tAV M,.row (some 6) (((iC H T a t).take k).map NB) 0],[]⟩) (fun k=>k≤4) (fun k=>4-k) 0 rfl (by omega) ?_
 intro k hk;rw[CF];rcases Nat.lt_or_ge k 4 with hlt|hge
 ·have hlt':(k:Int)<4:=by omega
  have w2:IntKind.i64.wrap ((k:Int)+1)=((k+1:Nat):Int):=LA _ (by omega) (by omega)
  have lml:(((iC H T a t).take k).map NB).length=k:=by simp [iC];omega
  have ms:k+1≤RA:=by unfold RA;omega
  obtain⟨kk,s,g1,g2,g3⟩:∃(kk:Int) (s:List UInt8),z42[k]?=some (.int .i64 kk)∧(TA kk M).getD []=s∧((iC H T a t).take (k+1)).map NB=((iC H T a t).take k).map NB++[.agg [eI kk,eI 0,eI 0,.str s,.str [],.str []]]:=by
   have:k=0∨k=1∨k=2∨k=3:=by omega
   rcases this with rfl|rfl|rfl|rfl
   ·exact⟨3,H,rfl,by rw[m3];rfl,rfl⟩
   ·exact⟨4,T,rfl,by rw[m4];rfl,rfl⟩
   ·exact⟨5,a,rfl,by rw[m5];rfl,rfl⟩
   ·exact⟨6,t,rfl,by rw[m6];rfl,rfl⟩
  simp only[XW,wM,go_sem,splice,hlt',g1,lk,g2,w2,lml,ms];exact⟨k+1,by rw[g3],by omega,by omega⟩
 ·have ek:k=4:=by omega
  subst ek;simp only[XW,wM,z2r,qQ,go_sem,List.length_map];refine yB (fun k:Nat=>⟨[(11,.mp (h.length+1)),(12,.own (h.length+2) (4+k) 0 (4+k)),(65,ACs l),(66,AI l.length),(67,AI k)],h++[o,FA kPV tAV M,.row (some 6) ((iC H T a t++(l.take k).map (pF H T a t)).map NB) 0],[]⟩) (fun k=>k≤l.length) (fun k=>l.length-k) 0 (by simp [iC]) (by omega) ?_
  intro k hk;rw[CF];have lml:((iC H T a t++(l.take k).map (pF H T a t)).map NB).length=4+k:=by simp [iC];omega
  rcases Nat.lt_or_ge k l.length with hlt|hge
  ·have hlt':(k:Int)<(l.length:Int):=by omega
   have w2:IntKind.i64.wrap ((k:Int)+1)=((k+1:Nat):Int):=LA _ (by omega) (by omega)
   have hg:=XB NB hlt
   have ms:4+k+1≤RA:=by unfold RA;omega
   have hbk:=(hb _ (List.getElem_mem hlt)).1
   have e1:(iC H T a t++(l.take (k+1)).map (pF H T a t)).map NB=(iC H T a t++(l.take k).map (pF H T a t)).map NB++[NB (pF H T a t l[k])]:=by
    rw[List.take_succ_eq_append_getElem hlt,List.map_append,List.map_append,List.map_append,List.map_append,List.append_assoc];rfl
   have ek:4+k+1=4+(k+1):=by omega
   generalize l[k]=c at *;obtain⟨k0,s0,cl0,b0,w0,q0⟩:=c;have fp:NB ⟨k0,s0,cl0,b0,w0,q0⟩ = .agg [eI k0,eI s0,eI cl0,.str b0,.str w0,.str q0]:=rfl
   rw[fp]at hg;have hbk:b0.length≤5000:=hbk
   have g3:H.length+b0.length≤CB:=by unfold CB;omega
   have g4:b0.length+T.length≤CB:=by unfold CB;omega
   have g5:a.length+b0.length≤CB:=by unfold CB;omega
   have g6:b0.length+t.length≤CB:=by unfold CB;omega
   by_cases c3:k0=3
   ·subst c3
    simp only[aH,KF,LJ,UG,MJ,VG,NJ,WG,go_sem,splice,hlt',hg,lk,m3,Option.getD_some,g3,w2,lml,ms];exact⟨k+1,by rw[e1,ek];rfl,by omega,by omega⟩
   by_cases c5:k0=5
   ·subst c5
    simp only[aH,KF,LJ,UG,MJ,VG,NJ,WG,go_sem,splice,hlt',hg,lk,m5,Option.getD_some,g5,w2,lml,ms];exact⟨k+1,by rw[e1,ek];rfl,by omega,by omega⟩
   by_cases c4:k0=4
   ·subst c4
    simp only[aH,KF,LJ,UG,MQ,HJ,MJ,VG,NJ,WG,go_sem,splice,hlt',hg,lk,m4,Option.getD_some,g4,w2,lml,ms];exact⟨k+1,by rw[e1,ek];rfl,by omega,by omega⟩
   by_cases c6:k0=6
   ·subst c6
    simp only[aH,KF,LJ,UG,MQ,HJ,MJ,VG,NJ,WG,go_sem,splice,hlt',hg,lk,m6,Option.getD_some,g6,w2,lml,ms];exact⟨k+1,by rw[e1,ek];rfl,by omega,by omega⟩
   have ep:pF H T a t ⟨k0,s0,cl0,b0,w0,q0⟩=⟨k0,s0,cl0,b0,w0,q0⟩:=by
    unfold pF;rw[if_neg c3,if_neg c5,if_neg c4,if_neg c6]
   rw[ep,fp]at e1;simp only[aH,KF,LJ,UG,MQ,HJ,MJ,VG,NJ,WG,go_sem,splice,hlt',hg,c3,c4,c5,c6,w2,lml,ms];exact⟨k+1,by rw[e1,ek],by omega,by omega⟩
  ·have ek:k=l.length:=by omega
   subst ek;rw[List.take_length]at lml ⊢;have eL:iC H T a t++l.map (pF H T a t)=yC H T a t l:=rfl
   rw[eL]at lml ⊢;have wf:win ((yC H T a t l).map NB) 0 (4+l.length)=(yC H T a t l).map NB:=QE lml
   have ckO:∀K,bA X sG [.own (h.length+2) (4+l.length) 0 (4+l.length)] (h++[o,FA kPV tAV M,.row (some 6) ((yC H T a t l).map NB) 0]) K=K (AI (ZB eA (yC H T a t l):Nat)) (h++[o,FA kPV tAV M,.row (some 6) ((yC H T a t l).map NB) (4+l.length)]) []:=fun K=>by
    rw[ownP1 (sh:=some 6) (xs:=(yC H T a t l).map NB) (fz:=0) rfl rfl rfl (by simp) lml,ck]
    congr 1
    unfold frz;have:(h++[o,FA kPV tAV M,Obj.row (some 6) ((yC H T a t l).map NB) 0])[h.length+2]?=some (Obj.row (some 6) ((yC H T a t l).map NB) 0):=by simp
    rw[this];simp
   by_cases hz:ZB eA (yC H T a t l)=0
   ·have hz2:((ZB eA (yC H T a t l):Nat):Int)=0:=by rw[hz];rfl
    rw[hz]at hP;rw[if_pos rfl]at hP;simp only[aH,KF,YW,xM,go_sem,Int.lt_irrefl,lml,wf,↓ckO,ckO,hz2];exact hP
   ·rw[if_neg hz]at hP
    generalize ZB eA (yC H T a t l)=F at *;have hz':¬((F:Nat):Int)=0:=by omega
    simp only[aH,KF,YW,xM,go_sem,Int.lt_irrefl,lml,wf,↓ckO,ckO,hz'];exact hP
end Go.Am
end
section
/- vector.Padded,whole. -/
open Go
set_option linter.all false
set_option maxRecDepth 100000
namespace Go.Am
variable {h:aA} {K:jA}
attribute [-go_sem] OA DB LB ZW yM
def uH (ds:List TDev)(k:Nat)(l:List Cmd):List Cmd:=yC (VA (bB (ds.drop (k+1)))) (VA (bB (ds.take k))) (zs (ds.length-1-k)) (zs k) l
def padR (ds:List TDev)(nm:List UInt8)(l:List Cmd):AV:=
 if ND ds l≠0 then .tup [ACs [],AI (ND ds l)]
 else if bF ds nm<0 then .tup [ACs [],AI 8]
 else .tup [ACs (if ZB eA (uH ds (bF ds nm).toNat l)=0 then uH ds (bF ds nm).toNat l else []),AI (ZB eA (uH ds (bF ds nm).toNat l):Nat)]
theorem zbw (ds:List TDev)(nm:List UInt8):bF ds nm<ds.length:=by
 unfold bF nD;split
 ·rename_i h;rw[List.length_map]at h;omega
 ·omega
theorem OL {ds:List TDev}{b:Nat}(h:∀ d∈ds,d.long≤b):bB ds≤b*ds.length:=by
 induction ds with
 | nil=>simp [bB]
 | cons d l ih=>
  have h1:=h d List.mem_cons_self
  have:=ih fun x hx=>h x (List.mem_cons_of_mem _ hx)
  unfold bB at *;rw[List.map_cons,List.sum_cons,List.length_cons,Nat.mul_add];omega
set_option maxHeartbeats 8000000 in
theorem zkb (ds:List TDev)(hB:∀ d∈ds,DevB d)(h3:ds.length≤20)(nm:List UInt8)(l:List Cmd)(hl:l.length≤1000)(hb:∀ c∈l,c.b.length≤5000∧c.w.length≤5000∧c.m.length≤5000) :
 bA X xI [pC ds,AS nm,ACs l] h K=K (padR ds nm l) h []:=by
 refine zA ?_;rw[za5 rfl];have rf:=fun h K=>z6o (h:=h) (K:=K) ds hB (by omega) l (fun c hc=>⟨by have:=(hb c hc).1;omega,by have:=(hb c hc).2.1;omega,by have:=(hb c hc).2.2;omega⟩) (by omega)
 have da:=fun K=>zkg (h:=h) (K:=K) ds (by omega) nm
 unfold padR;by_cases hr:ND ds l=0
 ·rw[if_neg (by simpa using hr)]
  obtain⟨hz,hp⟩:=z5G hr;have O:=(BQ hz).1
  have dl:=zbw ds nm
  by_cases hn:bF ds nm<0
  ·rw[if_pos hn]
   simp (config:={maxSteps:=40000000}) only[GJ];refine⟨_,_,_,⟨rfl,rfl,rfl⟩,?_⟩;simp (config:={maxSteps:=40000000}) only[go_sem,↓rf,rf,hr,↓da,da,hn];rfl
  ·rw[if_neg hn]
   obtain⟨k,hk⟩:=Int.eq_ofNat_of_zero_le (show 0≤bF ds nm by omega)
   rw[hk]at da dl ⊢;have hkl:k<ds.length:=by omega
   have w1:IntKind.i64.wrap ((k:Int)+1)=((k+1:Nat):Int):=LA _ (by omega) (by omega)
   have w2:IntKind.i64.wrap ((ds.length:Int)-1)=((ds.length-1:Nat):Int):=by rw[LA _ (by omega) (by omega)];omega
   have w3:IntKind.i64.wrap (((ds.length-1:Nat):Int)-(k:Int))=((ds.length-1-k:Nat):Int):=by rw[LA _ (by omega) (by omega)];omega
   have bd:∀d∈ds,0≤d.long∧d.long≤1000:=fun d hd=>by have:=O d hd;exact⟨by have:=this.lo;omega,by have:=this.hi;omega⟩
   have x1:win (ds.map tA) (k+1) (ds.length-(k+1))=(ds.drop (k+1)).map tA:=by
    unfold win;rw[←List.map_drop,List.take_of_length_le (by simp)]
   have x2:win (ds.map tA) 0 k=(ds.take k).map tA:=by unfold win;rw[List.drop_zero,List.map_take]
   have o1:=fun h K=>z6k (h:=h) (K:=K) (ds.drop (k+1)) (by simp;omega) (fun d hd=>bd d (List.mem_of_mem_drop hd))
   have o2:=fun h K=>z6k (h:=h) (K:=K) (ds.take k) (by simp;omega) (fun d hd=>bd d (List.mem_of_mem_take hd))
   have r1:=fun h K=>ZI (h:=h) (K:=K) ((ds.length-1-k:Nat):Int) (by omega) (by omega)
   have r2:=fun h K=>ZI (h:=h) (K:=K) (k:Int) (by omega) (by omega)
   rw[Int.toNat_natCast]at r1 r2;have sl1:=OL (ds:=ds.drop (k+1)) (b:=1000) (fun d hd=>(bd d (List.mem_of_mem_drop hd)).2)
   have sl2:=OL (ds:=ds.take k) (b:=1000) (fun d hd=>(bd d (List.mem_of_mem_take hd)).2)
   have q1:k+1≤ds.length:=by omega
   have q2:k≤ds.length:=by omega
   have bl:∀d∈ds,d.long≤(32:Nat):=fun d hd=>by have:=(O d hd).hi;omega
   have sm1:=OL (ds:=ds.drop (k+1)) (b:=32) (fun d hd=>bl d (List.mem_of_mem_drop hd))
   have sm2:=OL (ds:=ds.take k) (b:=32) (fun d hd=>bl d (List.mem_of_mem_take hd))
   rw[List.length_drop]at sm1;rw[List.length_take]at sm2;have lens:(VA (bB (ds.drop (k+1)))).length≤5000∧(VA (bB (ds.take k))).length≤5000∧(zs (ds.length-1-k)).length≤5000∧(zs k).length≤5000:=by
    refine⟨?_,?_,?_,?_⟩ <;> simp only[VA,zs,List.length_replicate] <;> omega
   have fin:=fun(o:Obj) (M:List (Int×List UInt8)) (hM:MoreM M (VA (bB (ds.drop (k+1)))) (VA (bB (ds.take k))) (zs (ds.length-1-k)) (zs k))=>zje (h:=h) (o:=o) hM lens l hl hb (P:=fun v1 h1 x1=>v1=AV.tup [ACs (if ZB eA (uH ds k l)=0 then uH ds k l else []),AI (ZB eA (uH ds k l):Nat)]∧h1=h∧x1=[]) rfl ⟨rfl,rfl,rfl⟩
   rw[Int.toNat_natCast];have nk:¬(k:Int)<0:=by omega
   generalize VA (bB (ds.drop (k+1)))=s1 at *;generalize VA (bB (ds.take k))=s2 at *;generalize zs (ds.length-1-k)=s3 at *;generalize zs k=s4 at *;simp (config:={maxSteps:=40000000}) only[GJ];refine⟨_,_,_,⟨rfl,rfl,rfl⟩,?_⟩;simp (config:={maxSteps:=40000000}) only[go_sem,↓rf,rf,hr,↓da,da,nk,w1,List.length_map,q1,q2,x1,x2,↓o1,o1,↓o2,o2,↓r1,r1,↓r2,r2,w2,w3,map0,updC2];repeat' apply And.intro
   all_goals exact fin _ _ ⟨rfl,rfl,rfl,rfl⟩
 ·rw[if_pos hr]
  simp (config:={maxSteps:=40000000}) only[GJ];refine⟨_,_,_,⟨rfl,rfl,rfl⟩,?_⟩;simp (config:={maxSteps:=40000000}) only[go_sem,↓rf,rf,hr];rfl
end Go.Am
end
section
/- Devices of a chain,drawn. -/
open Go
set_option linter.all false
set_option maxRecDepth 100000
namespace Go.Am
variable {L:List Int} {a:Int} {h l:aA} {id:Nat} {K:jA}
attribute [-go_sem] OA
attribute [-go_sem] oG ZE LF FE gF kE HQ xJ IQ fI
attribute [local go_sem] z3O cR win1 win2 z4m z4l
set_option maxHeartbeats 4000000 in
theorem zem (hp:kB 200 a):BF UM [] L a (fun v a2=>a≤a2∧a2≤a+60∧∃ds:List TDev,1≤ds.length∧ds.length≤3∧(∀d∈ds,DvG d)∧v=pC ds):=by
 refine BF.of fun h id hid=>?_
 rw[z9K rfl];have hid':id≤h.length:=by omega
 simp only[DP,go_sem];refine yB (fun t:Nat×Int×List TDev=>⟨[(0,.ref id 0),(3,.own h.length t.2.2.length 0 t.2.2.length),(8,.p (.sl none (uvw.map .str))),(9,AI 3),(10,AI t.1)],h.set id (JA L t.2.1)++[.row (some 5) (t.2.2.map tA) 0],[]⟩)
  (fun t=>(t.1≤3∧(1≤t.1→1≤t.2.2.length))∧(a≤t.2.1∧t.2.1≤a+10*t.1)∧t.2.2.length≤t.1∧∀d∈t.2.2,DvG d) (fun t=>3-t.1) (0,a,[]) rfl ⟨⟨by simp,by simp⟩,⟨by simp,by simp⟩,by simp,by simp⟩ ?_
 rintro⟨k,b,ds⟩ ⟨⟨i1,i2⟩,⟨i3,i4⟩,i5,i6⟩
 dsimp only at i1 i2 i3 i4 i5 i6 ⊢;rw[CF];have hlen:∀(b:Int) (t:aA),(h.set id (JA L b) ++ .row (some 5) (ds.map tA) 0::t).length=h.length+1+t.length:=fun b t=>by simp;omega
 rcases Nat.lt_or_ge k 3 with hlt|hge
 ·have P:=JZ (WF hp i3 (show b+14≤a+200 by omega))
  have hlt':(k:Int)<3:=by omega
  have w1:IntKind.i64.wrap ((k:Int)+1)=((k+1:Nat):Int):=LA _ (by omega) (by omega)
  have hk3:k<uvw.length:=hlt
  have hg:=XB PV.str hk3
  have cc:∀v:List UInt8,lB none 0 (PV.str v)=some (PV.str v):=fun _=>rfl
  have nl:uvw[k].length≤10:=by
   have:k=0∨k=1∨k=2:=by omega
   rcases this with rfl|rfl|rfl <;> simp [uvw]
  generalize uvw[k]=nm at *;by_cases hf:FB L b 3=0∧0<ds.length
  ·obtain⟨f1,f2⟩:=hf
   have f2':(0:Int)<(ds.length:Int):=by omega
   simp only[gF,kE,LF,FE,go_sem,hid,hid',P,hlt',hg,cc,f1,f2',w1];refine⟨(k+1,b+1,ds),rfl,⟨⟨by dsimp only;omega,fun _=>by dsimp only;omega⟩,⟨by dsimp only;omega,by dsimp only;omega⟩,by dsimp only;omega,i6⟩,by dsimp only;omega⟩
  ·obtain⟨m1,m2⟩:=nO (u:=2) (v:=4) L (b+1) (by omega) (by omega)
   obtain⟨j1,j2⟩:=FZ (L:=L) (l:=[0,0,5,257]) (lo:=0) (hi:=257) (by simp) (by simp) (by simp) (b+1+1)
   obtain⟨n1,n2⟩:=nO (u:=1) (v:=4) L (b+1+1+1) (by omega) (by omega)
   generalize hm:qD 2 4 L (b+1)=m at *;generalize hi:rF [0,0,5,257] L (b+1+1)=i at *;generalize hn:qD 1 4 L (b+1+1+1)=n at *;have rz:=fun h K=>ZI (h:=h) (K:=K) m (by omega) (by omega)
   have rz2:=fun h K=>ZI (h:=h) (K:=K) (m-1) (by omega) (by omega)
   have zl:(zs m.toNat).length≤4:=by simp [zs];omega
   have zl2:(zs (m-1).toNat).length≤3:=by simp [zs];omega
   have hzz:∃k:Nat,zs m.toNat=zs k:=⟨_,rfl⟩
   generalize zs m.toNat=z at *;generalize zs (m-1).toNat=z2 at *;have w3:IntKind.i64.wrap (m-1)=m-1:=LA _ (by omega) (by omega)
   have ml:1+z2.length≤CB:=by unfold CB;omega
   have dsl:(ds.map tA).length=ds.length:=List.length_map ..
   have ms:ds.length+1≤RA:=by unfold RA;omega
   have cond:FB L b 3=0∧¬(0:Int)<(ds.length:Int)∨¬FB L b 3=0:=by
    by_cases q:FB L b 3=0
    ·exact .inl ⟨q,fun c=>hf ⟨q,by omega⟩⟩
    ·exact .inr q
   have fin:∀(d:TDev) (b2:Int),b≤b2→b2≤b+10→DvG d→∀M:List PV,M=(ds++[d]).map tA→∃u:Nat×Int×List TDev,(⟨[(0,.ref id 0),(3,.own h.length (ds.length+1) 0 (ds.length+1)),(8,.p (.sl none (uvw.map .str))),(9,AI 3),(10,.p (.int .i64 ((k+1:Nat):Int)))],h.set id (JA L b2)++[.row (some 5) M 0],[]⟩:St)=⟨[(0,.ref id 0),(3,.own h.length u.2.2.length 0 u.2.2.length),(8,.p (.sl none (uvw.map .str))),(9,AI 3),(10,AI u.1)],h.set id (JA L u.2.1)++[.row (some 5) (u.2.2.map tA) 0],[]⟩∧((u.1≤3∧(1≤u.1→1≤u.2.2.length))∧(a≤u.2.1∧u.2.1≤a+10*u.1)∧u.2.2.length≤u.1∧∀d∈u.2.2,DvG d)∧3-u.1<3-k:=fun d b2 h1 h2 hd M hM=>by
    subst hM;refine⟨(k+1,b2,ds++[d]),by simp,⟨⟨by dsimp only;omega,fun _=>by simp⟩,⟨by dsimp only;omega,by dsimp only;omega⟩,by simp;omega,fun y hy=>?_⟩,by dsimp only;omega⟩
    rcases List.mem_append.1 hy with e|e
    ·exact i6 y e
    ·rw[List.mem_singleton.1 e];exact hd
   have D1:DvG ⟨nm,m,i,[⟨sB,n⟩],[⟨z,sB⟩]⟩:=⟨nl,by dsimp only;omega,by dsimp only;omega,⟨n,rfl,n1,n2⟩,by simp,fun x hx=>by simp at hx;rw[hx];exact⟨zl,by simp [sB]⟩,by obtain⟨q,hq⟩:=hzz;exact⟨q,[],by rw[hq],by simp⟩⟩
   have D2:DvG ⟨nm,m,i,[⟨sB,n⟩],[⟨z,sB⟩,⟨49::z2,nB⟩]⟩:=⟨nl,by dsimp only;omega,by dsimp only;omega,⟨n,rfl,n1,n2⟩,by simp,fun x hx=>by
    simp at hx;rcases hx with e|e
    ·rw[e];exact⟨zl,by simp [sB]⟩
    ·rw[e];exact⟨by simp;omega,by simp [nB]⟩,by obtain⟨q,hq⟩:=hzz;exact⟨q,[⟨49::z2,nB⟩],by rw[hq],fun x hx=>by simp at hx;rw[hx];rfl⟩⟩
   rcases cond with⟨f1,f2⟩|f1
   ·by_cases hz:i=0
    ·simp (config:={maxSteps:=4000000}) only[gF,kE,LF,FE,oG,ZE,go_sem,hid,hid',P,hlt',hg,cc,w1,hm,hi,hn,↓rz,rz,splice,f1,f2,eq_true hz,dsl,ms]
     rw[QL (b:=h.length+1) (by repeat first|exact QJ (by omega)|refine PJ ?_ ?_)]
     simp only[go_sem,hid'];refine fin ⟨nm,m,i,[⟨sB,n⟩],[⟨z,sB⟩]⟩ (b+1+1+1+1) (by omega) (by omega) ?_ _ ?_
     ·exact D1 
     ·rw[List.map_append];rfl
    ·by_cases hfl:FB L (b+1+1+1+1) 2=0
     ·simp (config:={maxSteps:=4000000}) only[gF,kE,LF,FE,oG,ZE,go_sem,hid,hid',P,hlt',hg,cc,w1,hm,hi,hn,↓rz,rz,splice,f1,f2,hz,hfl,w3,↓rz2,rz2,ml,dsl,ms]
      rw[QL (b:=h.length+1) (by repeat first|exact QJ (by omega)|refine PJ ?_ ?_)]
      simp only[go_sem,hid'];refine fin ⟨nm,m,i,[⟨sB,n⟩],[⟨z,sB⟩,⟨49::z2,nB⟩]⟩ (b+1+1+1+1+1) (by omega) (by omega) ?_ _ ?_
      ·exact D2 
      ·rw[List.map_append];rfl
     ·simp (config:={maxSteps:=4000000}) only[gF,kE,LF,FE,oG,ZE,go_sem,hid,hid',P,hlt',hg,cc,w1,hm,hi,hn,↓rz,rz,splice,f1,f2,hz,hfl,dsl,ms]
      rw[QL (b:=h.length+1) (by repeat first|exact QJ (by omega)|refine PJ ?_ ?_)]
      simp only[go_sem,hid'];refine fin ⟨nm,m,i,[⟨sB,n⟩],[⟨z,sB⟩]⟩ (b+1+1+1+1+1) (by omega) (by omega) ?_ _ ?_
      ·exact D1 
      ·rw[List.map_append];rfl
   ·by_cases hz:i=0
    ·simp (config:={maxSteps:=4000000}) only[gF,kE,LF,FE,oG,ZE,go_sem,hid,hid',P,hlt',hg,cc,w1,hm,hi,hn,↓rz,rz,splice,f1,eq_true hz,dsl,ms]
     rw[QL (b:=h.length+1) (by repeat first|exact QJ (by omega)|refine PJ ?_ ?_)]
     simp only[go_sem,hid'];refine fin ⟨nm,m,i,[⟨sB,n⟩],[⟨z,sB⟩]⟩ (b+1+1+1+1) (by omega) (by omega) ?_ _ ?_
     ·exact D1 
     ·rw[List.map_append];rfl
    ·by_cases hfl:FB L (b+1+1+1+1) 2=0
     ·simp (config:={maxSteps:=4000000}) only[gF,kE,LF,FE,oG,ZE,go_sem,hid,hid',P,hlt',hg,cc,w1,hm,hi,hn,↓rz,rz,splice,f1,hz,hfl,w3,↓rz2,rz2,ml,dsl,ms]
      rw[QL (b:=h.length+1) (by repeat first|exact QJ (by omega)|refine PJ ?_ ?_)]
      simp only[go_sem,hid'];refine fin ⟨nm,m,i,[⟨sB,n⟩],[⟨z,sB⟩,⟨49::z2,nB⟩]⟩ (b+1+1+1+1+1) (by omega) (by omega) ?_ _ ?_
      ·exact D2 
      ·rw[List.map_append];rfl
     ·simp (config:={maxSteps:=4000000}) only[gF,kE,LF,FE,oG,ZE,go_sem,hid,hid',P,hlt',hg,cc,w1,hm,hi,hn,↓rz,rz,splice,f1,hz,hfl,dsl,ms]
      rw[QL (b:=h.length+1) (by repeat first|exact QJ (by omega)|refine PJ ?_ ?_)]
      simp only[go_sem,hid'];refine fin ⟨nm,m,i,[⟨sB,n⟩],[⟨z,sB⟩]⟩ (b+1+1+1+1+1) (by omega) (by omega) ?_ _ ?_
      ·exact D1 
      ·rw[List.map_append];rfl
 ·have ek:k=3:=by omega
  subst ek;have hn1:1≤ds.length:=i2 (by omega)
  simp only[gF,kE,go_sem,hid'];refine zaW hid (WF hp i3 (by omega)) hn1 i5 i6 rfl ?_
  intro ds' b' q1 q2 q3 q4;exact⟨b',⟨by omega,by omega,ds',by omega,by omega,q4,rfl⟩,rfl,rfl⟩
end Go.Am
end
section
/- ready: a QB call,computed. -/
open Go
set_option linter.all false
namespace Go.Am
def orcP (f:Nat)(a:List AV):Option AV:=bif Nat.beq f PF then match a with
 | [.p (.int .i64 x),.p (.int .i64 y)]=>bif decide (0≤x)&&decide (x<16)&&decide (0≤y)&&decide (y<16) then some (.p (.str (eA x.toNat y.toNat))) else none
 | _=>none else none
theorem zgi:∀ f a v,orcP f a=some v→∀ h (K:jA),K v h []→bA X0 f a h K:=by
 intro f a v hv h K hK;unfold orcP at hv;cases hf:Nat.beq f PF with
 | false=>rw[hf]at hv;cases hv
 | true=>
  have hf':=Nat.eq_of_beq_eq_true hf
  rw[hf]at hv;subst hf';simp only[cond_true]at hv;split at hv
  ·rename_i x y
   cases hc:(decide (0≤x)&&decide (x<16)&&decide (0≤y)&&decide (y<16)) with
   | false=>rw[hc]at hv;cases hv
   | true=>
    rw[hc]at hv;simp only[cond_true,Option.some.injEq]at hv;simp only[Bool.and_eq_true,decide_eq_true_eq]at hc;obtain⟨a,rfl⟩:=Int.eq_ofNat_of_zero_le hc.1.1.1;obtain⟨b,rfl⟩:=Int.eq_ofNat_of_zero_le hc.1.2;have:=z4j (h:=h) (K:=K) zlO zlN a b (by omega) (by omega)
    rw[this];subst hv;exact hK
  ·cases hv
theorem zj1:PM X0 orcP 1000 60 pI [] []=some (AB true,[],[]):=by kernel_rfl
theorem zni:bA X0 pI [] [] fun v h x=>v=AB true∧h=[]∧x=[]:=(z7m zgi 1000 60 zj1 _).2 ⟨rfl,rfl,rfl⟩
theorem z6n {h:aA}{K:jA}:bA X pI [] h K=K (AB true) h []:=PX (by kernel_rfl) rfl
end Go.Am
end
section
/- What all laws of the keep package use. -/
open Go
set_option linter.all false
namespace Go.Am
variable {h:aA} {K:jA}
theorem zki (l:List Int)(hl:l.length≤1000):bA X oI [AL l] h K=K (AI (mK l)) h []:=by
 refine zA ?_;rw[z9I rfl];simp only[BP,go_sem];refine yB (fun k:Nat=>⟨[(5,AL l),(6,AI l.length),(7,AI k)],h,[]⟩) (fun k=>k≤l.length∧mK (l.drop k)=mK l) (fun k=>l.length-k) 0 rfl (by simp) ?_
 rintro k ⟨hk,hp⟩
 rcases Nat.lt_or_ge k l.length with hlt|hge
 ·have hg:=XB eI hlt
  have w2:IntKind.i64.wrap ((k:Int)+1)=((k+1:Nat):Int):=LA _ (by omega) (by omega)
  rw[List.drop_eq_getElem_cons hlt,mK]at hp;by_cases he:l[k]=0
  ·rw[if_pos he]at hp
   simp only[go_sem,hlt,hg,w2,he];exact⟨k+1,rfl,⟨by omega,hp⟩,by omega⟩
  ·rw[if_neg he]at hp
   simp only[go_sem,hlt,hg,w2,he];rw[hp]
 ·have e1:k=l.length:=by omega
  subst e1;simp only[go_sem,Nat.lt_irrefl];rw[List.drop_length]at hp;rw[←hp];rfl
end Go.Am
end
section
/- Shorted nets respond alike: in plain Lean. -/
set_option linter.all false
namespace Go.Am
end Go.Am
end
section
/- What a fault changes,and the first vector that shows it: in plain Lean. -/
set_option linter.all false
namespace Go.Am
end Go.Am
end
section
/- What is drawn: faults. -/
open Go
set_option linter.all false
namespace Go.Am
variable {L:List Int} {a:Int} {h l:aA} {id:Nat} {K:jA}
end Go.Am
end
section
/- Deleting faults: printed by program. -/
open Go
set_option linter.unusedSimpArgs false
namespace Go.Am
attribute [-go_sem] PV.cells splice
variable {h:aA} {K:jA}
attribute [-go_sem] AV.cells cut
attribute [go_sem] AV.cells cut
end Go.Am
end
section
/- What is drawn: lists of faults. -/
open Go
set_option linter.all false
namespace Go.Am
variable {L:List Int} {a:Int} {h l:aA} {id:Nat} {K:jA}
end Go.Am
end
section
/- Faults detected,asv the program computes it. -/
open Go
set_option linter.all false
namespace Go.Am
variable {h:aA} {K:jA}
theorem zjZ (l m:List (List UInt8))(hl:l.length≤1000000000):bA X iN [AStr l,AStr m] h K=K (AB (decide (l=m))) h []:=by
 refine zA ?_;rw[zaf rfl];by_cases hlen:l.length=m.length
 ·simp only[pM,go_sem,hlen]
  refine yB (fun k:Nat=>⟨[(0,AStr l),(1,AStr m),(12,AI m.length),(13,AI k)],h,[]⟩) (fun k=>k≤m.length∧l.take k=m.take k) (fun k=>m.length-k) 0 rfl (by simp) ?_
  rintro k ⟨hk,hp⟩
  rcases Nat.lt_or_ge k m.length with hlt|hge
  ·have hg1:=XB PV.str (show k<l.length by omega)
   have hg2:=XB PV.str hlt
   have w2:IntKind.i64.wrap ((k:Int)+1)=((k+1:Nat):Int):=LA _ (by omega) (by omega)
   by_cases he:l[k]=m[k]
   ·simp only[go_sem,hlt,hg1,hg2,w2,he]
    exact⟨k+1,rfl,⟨by omega,by rw[List.take_succ_eq_append_getElem (by omega),List.take_succ_eq_append_getElem hlt,hp,he]⟩,by omega⟩
   ·simp only[go_sem,hlt,hg1,hg2,w2,he]
    have:¬l=m:=fun h=>he (by simp only[h])
    simp [this]
  ·have e1:k=m.length:=by omega
   have e2:l=m:=by rw[←List.take_length (l:=l),←List.take_length (l:=m),hlen,←e1,hp]
   subst e1;simp only[go_sem,Nat.lt_irrefl];simp [e2]
 ·have e1:((l.length:Int)=m.length)=False:=by simp only[eq_iff_iff,iff_false];omega
  simp only[pM,go_sem,e1];have:¬l=m:=fun h=>hlen (by rw[h])
  simp [this]
end Go.Am
end
section
/- What is drawn: bits,commands. -/
open Go
set_option linter.all false
namespace Go.Am
variable {L:List Int} {a:Int} {h l:aA} {id:Nat} {K:jA}
attribute [-go_sem] OA
theorem z92 (a:Int):qF [[48],[49]] L a=[48]∨qF [[48],[49]] L a=[49]:=by
 have:=z5j (l:=[[48],[49]]) (L:=L) (a:=a) (by simp) (by simp)
 simpa using this
structure CmdB (m:Nat) (c:Cmd):Prop where
 k : -1152921504606846976≤c.k∧c.k≤1152921504606846976
 s : -1152921504606846976≤c.s∧c.s≤1152921504606846976
 cl : -1152921504606846976≤c.cl∧c.cl≤1152921504606846976
 b:c.b.length≤m
 w:c.w.length≤m
 m:c.m.length≤m
theorem CmdB.ok {m:Nat}{c:Cmd}(hm:m≤100000)(H:CmdB m c):CmdOk c:=⟨by have:=H.b;omega,by have:=H.w;omega,by have:=H.m;omega⟩
end Go.Am
end
section
/- PaddedShiftsSame returns true. -/
open Go
set_option linter.all false
set_option maxRecDepth 100000
namespace Go.Am
variable {L:List Int} {a:Int} {h:aA} {K:jA}
attribute [-go_sem] OA
theorem Rest.app {n:Nat}{l m:List Cmd}(hl:Rest n l)(hm:Rest n m):Rest n (l++m):=by
 induction hl with
 | nil=>exact hm
 | idle k a b _ ih=>exact .idle k a b ih
 | scan b a c _ ih=>exact .scan b a c ih
theorem z4i (n:Nat)(hn:n≤1000)(hp:kB 1200 a)(t:aA):∃s:List UInt8,EA s=true∧s.length=n∧∀K,bA X nI [AI n,.ref 1 0] (JA L a :: .box [.ref 0 0]::t) K=K (AS s) (JA L (a+n) :: .box [.ref 0 0]::t) []:=by
 have H:bA X nI [AI n,.ref 1 0] (JA L a :: .box [.ref 0 0]::t) fun v1 h1 x1=>∃s:List UInt8,EA s=true∧s.length=n∧v1=AS s∧h1=JA L (a+n) :: .box [.ref 0 0]::t∧x1=[]:=by
  rw[z9H rfl];simp only[zP,go_sem];refine yB (fun u:Nat×List UInt8=>⟨[(1,.ref 1 0),(4,AS u.2),(5,AI n),(6,AI u.1)],JA L (a+u.1) :: .box [.ref 0 0]::t,[]⟩) (fun u=>u.1≤n∧u.2.length=u.1∧EA u.2=true) (fun u=>n-u.1) (0,[]) (by simp) ⟨Nat.zero_le _,rfl,rfl⟩ ?_
  rintro⟨k,s⟩ ⟨hk,hs,hb⟩
  dsimp only at hk hs hb ⊢;rcases Nat.lt_or_ge k n with hlt|hge
  ·have w2:IntKind.i64.wrap ((k:Int)+1)=((k+1:Nat):Int):=LA _ (by omega) (by omega)
   have P:=WF (n:=0) hp (show a≤a+(k:Int) by omega) (by omega)
   have hlt':(k:Int)<(n:Int):=by omega
   have e:a+((k+1:Nat):Int)=a+(k:Int)+1:=by omega
   have hl:s.length+1≤CB:=by unfold CB;omega
   rcases z92 (L:=L) (a+(k:Int)) with e1|e1
   ·simp only[GQ,wJ,go_sem,hlt,hlt',P,w2,e1,hl]
    exact⟨(k+1,s++[48]),by dsimp only;rw[e],⟨by dsimp only;omega,by simp [hs],by unfold EA at *;rw[List.all_append,hb];rfl⟩,by dsimp only;omega⟩
   ·simp only[GQ,wJ,go_sem,hlt,hlt',P,w2,e1,hl]
    exact⟨(k+1,s++[49]),by dsimp only;rw[e],⟨by dsimp only;omega,by simp [hs],by unfold EA at *;rw[List.all_append,hb];rfl⟩,by dsimp only;omega⟩
  ·obtain rfl:k=n:=by omega
   simp only[GQ,wJ,z2k,AP,go_sem,Nat.lt_irrefl,Int.lt_irrefl];exact⟨s,hb,hs,rfl⟩
 obtain⟨v,h',x,⟨s,q1,q2,e1,e2,e3⟩,r⟩:=bA.one cU H;subst e1;subst e2;subst e3
 exact⟨s,q1,q2,r⟩
theorem zbx {ds:List TDev}(hn:(ds.map TDev.name).Nodup){k:Nat}(hk:k<ds.length):bF ds ds[k].name=(k:Int):=by
 unfold bF nD;have e:(ds.map tA).findIdx (dC ds[k].name)=k:=by
  rw[List.findIdx_eq (by simpa using hk)]
  refine⟨by rw[List.getElem_map];exact decide_eq_true rfl,fun j hj=>?_⟩
  rw[List.getElem_map];show decide (ds[j].name=ds[k].name)=false
  apply decide_eq_false
  intro q;have:=(List.getElem_inj (xs:=ds.map TDev.name) (i:=j) (j:=k) (h₀:=by simp;omega) (h₁:=by simpa using hk) hn).1 (by rw[List.getElem_map,List.getElem_map];exact q)
  omega
 rw[e,if_pos (by simpa using hk)]
theorem zkR {α:Type}{l:List α}{k:Nat}(hk:k<l.length):l=l.take k++l[k]::l.drop (k+1):=by
 rw[←List.drop_eq_getElem_cons hk,List.take_append_drop]
structure PadL (ds:List TDev) (k:Nat) (own:TDev) (x p:List Cmd):Prop where
 ox:∀c∈x,c.b.length≤5000∧c.w.length≤5000∧c.m.length≤5000
 op:∀c∈p,CmdOk c
 nx:x.length≤1000
 r1:ND ds x=0
 r2:ND [own] x=0
 r3:ND ds p=0
 e:padR ds own.name x = .tup [ACs p,AI 0]
 n:p.length=x.length+4
 res:tF ds p=[[],[],[],[]]++tF [own] x
theorem zjb {n:Nat}{H T a t:List UInt8}{l:List Cmd}(hr:Rest n l):l.map (pF H T a t)=l:=by
 induction hr with
 | nil=>rfl
 | idle m a b _ ih=>rw[List.map_cons,ih];rfl
 | scan b a c _ ih=>rw[List.map_cons,ih];rfl
theorem z56 {n:Nat}(hn:n≤10){l:List Cmd}(hr:Rest n l):∀c∈l,c.b.length≤5000∧c.w.length≤5000∧c.m.length≤5000:=by
 induction hr with
 | nil=>intro c hc;cases hc
 | idle m a b _ ih=>
  intro c hc;rcases List.mem_cons.1 hc with e|e
  ·rw[e];simp [mk9]
  ·exact ih c e
 | scan b a c _ ih=>
  intro c hc;rcases List.mem_cons.1 hc with e|e
  ·rw[e];exact⟨by simp only[mk8];omega,by simp [mk8],by simp [mk8]⟩
  ·exact ih c e
theorem zjc {ds:List TDev}(hz:OC ds=0)(h3:ds.length≤10){k:Nat}(hk:k<ds.length){n:Int}(hg:DvG ds[k])(hr:ds[k].regs=[⟨sB,n⟩])(n1:1≤n)(n4:n≤4){xs:List Cmd}(hx:Rest n.toNat xs)(hl:xs.length≤20) :
 PadL ds k ds[k] (GA (zs ds[k].long.toNat)::xs) (iC (VA (bB (ds.drop (k+1)))) (VA (bB (ds.take k))) (zs (ds.length-1-k)) (zs k)++GA (zs ds[k].long.toNat)::xs):=by
 obtain⟨O,nd,hne,_⟩:=BQ hz;obtain⟨o1,o2,o3⟩:=z1U hz (List.getElem_mem hk);obtain⟨m,rest,hi,h49⟩:=hg.z;have lo:=(O _ (List.getElem_mem hk)).lo
 have hi32:=(O _ (List.getElem_mem hk)).hi
 have hcap:=zgj hr hi h49 o2 lo
 have hsp:=zkR hk
 have la:(ds.drop (k+1)).length=ds.length-1-k:=by simp;omega
 have lb:(ds.take k).length=k:=by simp;omega
 have C:Chn (ds.take k) ds[k] (ds.drop (k+1)) n.toNat:=⟨fun d hd=>(O d (by rw[hsp];exact hd)).lo,fun d hd=>(z1U hz (by rw[hsp];exact hd)).2.2,by omega,hcap⟩
 have C1:Chn [] ds[k] [] n.toNat:=⟨fun d hd=>by rw[List.mem_singleton.1 hd];exact lo,fun d hd=>by rw[List.mem_singleton.1 hd];exact o3,by omega,hcap⟩
 have bl:∀d∈ds,d.long≤(32:Nat):=fun d hd=>by have:=(O d hd).hi;omega
 have sm1:=OL (ds:=ds.drop (k+1)) (b:=32) (fun d hd=>bl d (List.mem_of_mem_drop hd))
 have sm2:=OL (ds:=ds.take k) (b:=32) (fun d hd=>bl d (List.mem_of_mem_take hd))
 rw[la]at sm1;rw[lb]at sm2;have pl:uH ds k (GA (zs ds[k].long.toNat)::xs)=iC (VA (bB (ds.drop (k+1)))) (VA (bB (ds.take k))) (zs (ds.length-1-k)) (zs k)++GA (zs ds[k].long.toNat)::xs:=by
  unfold uH yC;rw[List.map_cons,zjb hx];rfl
 have h1l:(VA (bB (ds.drop (k+1)))).length≤1000:=by simp [VA];omega
 have h2l:(VA (bB (ds.take k))).length≤1000:=by simp [VA];omega
 have pS:=zjo (VA (bB (ds.drop (k+1)))) (VA (bB (ds.take k))) (zs (ds.length-1-k)) (zs k)
 have kS:∀c∈iC (VA (bB (ds.drop (k+1)))) (VA (bB (ds.take k))) (zs (ds.length-1-k)) (zs k),(3≤c.k∧c.k≤6)∧NA c=0:=fun c hc=>by
  simp only[iC,List.mem_cons,List.not_mem_nil,or_false]at hc;rcases hc with e|e|e|e <;> rw[e]
  ·exact⟨by simp [mkS],rP (by omega) (by omega) (aM (.inr rfl) _)⟩
  ·exact⟨by simp [mkS],rP (by omega) (by omega) (aM (.inr rfl) _)⟩
  ·exact⟨by simp [mkS],rP (by omega) (by simp [zs];omega) (aM (.inl rfl) _)⟩
  ·exact⟨by simp [mkS],rP (by omega) (by simp [zs];omega) (aM (.inl rfl) _)⟩
 have P1:=z5o (n:=n.toNat) (by omega) (by omega) (by omega) (by omega) h1l h2l (ca:=ds[k].long.toNat) (by omega) (by omega) hx hl pS kS (by simp [iC])
 have P2:=z5o (n:=n.toNat) (ka:=0) (kb:=0) (by omega) (by omega) (by omega) (by omega) (by simp) (by simp) (ca:=ds[k].long.toNat) (by omega) (by omega) hx hl (pre:=[]) z5n (by simp) (by simp)
 rw[List.nil_append]at P2;have R1:=z55 C hx (pre:=iC (VA (bB (ds.drop (k+1)))) (VA (bB (ds.take k))) (zs (ds.length-1-k)) (zs k)) (by rw[la,lb];exact pS) fun c hc=>(kS c hc).1
 have R2:=z55 C1 hx (pre:=[]) z5n (by simp)
 rw[←hsp]at R1;rw[List.map_nil,List.nil_append,List.nil_append,List.nil_append]at R2;have rz:∀(d:List TDev) (p:List Cmd),OC d=0→ZB eA p=0→ND d p=0:=fun d p h1 h2=>by unfold ND;rw[h1,h2];rfl
 refine⟨fun c hc=>?_,fun c hc=>?_,by simp <;> omega,rz _ _ hz P2,rz _ _ o1 P2,rz _ _ hz P1,?_,by simp [iC],?_⟩
 ·rcases List.mem_cons.1 hc with e|e
  ·rw[e];exact⟨by simp [GA,zs];omega,by simp [GA],by simp [GA]⟩
  ·exact z56 (by omega) hx c e
 ·rcases List.mem_append.1 hc with e|e
  ·simp only[iC,List.mem_cons,List.not_mem_nil,or_false]at e
   rcases e with e|e|e|e <;> rw[e]
   ·exact⟨by simp only[mkS];omega,by simp [mkS],by simp [mkS]⟩
   ·exact⟨by simp only[mkS];omega,by simp [mkS],by simp [mkS]⟩
   ·exact⟨by simp [mkS,zs];omega,by simp [mkS],by simp [mkS]⟩
   ·exact⟨by simp [mkS,zs];omega,by simp [mkS],by simp [mkS]⟩
  ·rcases List.mem_cons.1 e with e|e
   ·rw[e];exact⟨by simp [GA,zs];omega,by simp [GA],by simp [GA]⟩
   ·have:=z56 (by omega) hx c e
    exact⟨by omega,by omega,by omega⟩
 ·unfold padR
  rw[if_neg (by rw[rz _ _ hz P2];simp),zbx nd hk,if_neg (by omega),Int.toNat_natCast,pl,P1,if_pos rfl]
  rfl
 ·rw[R1,R2]
  rfl
attribute [-go_sem] OW kM HM dI FQ vJ DQ uJ
set_option maxHeartbeats 8000000 in
theorem law_PS (L:List Int){K:jA}:bA X YQ [AL L] [] K=K (AB true) [] []:=by
 refine zA ?_;rw[z9G rfl];have p0:kB 100000 0:=by unfold kB;omega
 obtain⟨_,a1,⟨b1,b2,ds,n1,n3,hd,rfl⟩,V1⟩:=(zem (L:=L) (a:=0) (WF p0 (by omega) (by omega))).hd (l:=[.box [.ref 0 0]])
 have hB:∀d∈ds,DevB d:=fun d hd'=>(hd d hd').b
 have C4:=fun h K=>zjY (h:=h) (K:=K) ds hB (by omega)
 by_cases hz:OC ds=0
 ·rw[hz]at C4
  have p1:kB 0 a1:=WF p0 (by omega) (by omega)
  obtain⟨k0,k1⟩:=HI L a1 ds.length (by omega) (by omega)
  obtain⟨k,hk⟩:=Int.eq_ofNat_of_zero_le k0;have hkl:k<ds.length:=by omega
  have hG:=hd _ (List.getElem_mem hkl)
  obtain⟨n,hr,r1,r4⟩:=hG.r;have hg:=XB tA hkl
  have fp:∀y:TDev,tA y = .agg [.str y.name,eI y.long,eI y.id,.sl (some 2) (y.regs.map uA),.sl (some 2) (y.ins.map QA)]:=fun _=>rfl
  have O:=(BQ hz).1 _ (List.getElem_mem hkl)
  have PL:=fun(xs:List Cmd) (hx:Rest n.toNat xs) (hl:xs.length≤20)=>zjc hz (by omega) hkl hG hr r1 r4 hx hl
  have lo:=O.lo
  have hi:=O.hi
  have hBo:∀d∈[ds[k]],DevB d:=fun d hd'=>by rw[List.mem_singleton.1 hd'];exact hG.b
  generalize ds[k]=own at *;obtain⟨nm,long,id,regs,ins⟩:=own;dsimp only at hr lo hi;subst hr;rw[fp]at hg;dsimp only at hg;have rz:=fun h K=>ZI (h:=h) (K:=K) long (by omega) (by omega)
  have p2:kB 0 (a1+1):=WF p0 (by omega) (by omega)
  have rb:0≤qD 0 4 L (a1+1)∧qD 0 4 L (a1+1)≤4:=nO L (a1+1) (by omega) (by omega)
  obtain⟨m,hm⟩:∃m:Nat,qD 0 4 L (a1+1)=m:=⟨(qD 0 4 L (a1+1)).toNat,by omega⟩
  have ez:qC 1 (.ref 0 0)=[]:=rfl
  simp only[jM,go_sem,↓V1,V1,↓C4,C4,p1,p2,List.length_map,hk,hkl,hg,↓rz,rz,hm,splice,ez];obtain⟨N,hN⟩:∃N:Nat,n=N:=⟨n.toNat,by omega⟩
  subst hN;rw[Int.toNat_natCast]at PL;dsimp only at PL;obtain⟨bx,hbx⟩:∃bx:Obj,bx = .box [.p (.str nm),.p (eI long),.p (eI id),.p (.sl (some 2) [uA ⟨sB,(N:Int)⟩]),.p (.sl (some 2) (ins.map QA))]:=⟨_,rfl⟩;rw[←hbx];refine yB (fun t:Nat×Int×List Cmd=>⟨[(3,.ref 1 0),(4,pC ds),(6,.ref 2 0),(7,.fn nI [.ref 1 0]),(8,.own 3 (t.2.2.length+1) 0 (t.2.2.length+1)),(39,AI m),(40,AI t.1)],[JA L t.2.1,.box [.ref 0 0],bx,.row (some 6) ((GA (zs long.toNat)::t.2.2).map NB) 0],[]⟩)
   (fun t=>t.1≤m∧(a1≤t.2.1∧t.2.1≤a1+2+1000*t.1)∧t.2.2.length≤2*t.1∧Rest N t.2.2) (fun t=>m-t.1) (0,a1+1+1,[]) rfl ⟨by simp,by dsimp only;omega,by simp,.nil⟩ ?_
  rintro⟨j,b,xs⟩ ⟨i1,⟨i2,i3⟩,i4,hx⟩
  dsimp only at i1 i2 i3 i4 hx ⊢;rw[CF];have lml:((GA (zs long.toNat)::xs).map NB).length=xs.length+1:=by simp
  rcases Nat.lt_or_ge j m with hlt|hge
  ·obtain⟨W,hW⟩:∃W,W=(GA (zs long.toNat)::xs).map NB:=⟨_,rfl⟩
   rw[←hW]at lml ⊢;have hlt':(j:Int)<(m:Int):=by omega
   have P:=JZ (WF p0 (show 0≤b by omega) (show b+14≤0+100000 by omega))
   have w2:IntKind.i64.wrap ((j:Int)+1)=((j+1:Nat):Int):=LA _ (by omega) (by omega)
   have ms:xs.length+1+1≤RA:=by unfold RA;omega
   have ms2:xs.length+1+1+1≤RA:=by unfold RA;omega
   have ldb:ldB none 3 (some bx)=some (.p (.sl (some 2) [uA ⟨sB,(N:Int)⟩])):=by rw[hbx];rfl
   have fr:uA ⟨sB,(N:Int)⟩ = .agg [.str sB,eI N]:=rfl
   rw[fr]at ldb;by_cases hf:FB L b 4=0
   ·have rb9:0≤qD 0 3 L (b+1)∧qD 0 3 L (b+1)≤3:=nO L (b+1) (by omega) (by omega)
    generalize hr9:qD 0 3 L (b+1)=r9 at *;obtain⟨s,s1,s2,VB⟩:=z4i (L:=L) (a:=b+1+1) N (by omega) (WF p0 (by omega) (by omega)) [bx,.row (some 6) (W++[PV.agg [eI 9,eI 0,eI r9,.str [],.str [],.str []]]) 0]
    have lml2:(W++[PV.agg [eI 9,eI 0,eI r9,.str [],.str [],.str []]]).length=xs.length+1+1:=by simp [lml]
    simp only[HM,dI,FQ,vJ,DQ,uJ,go_sem,hlt',P,hf,hr9,lml,ms,ldb,↓VB,VB,lml2,ms2,w2];refine⟨(j+1,b+1+1+N,xs++[mk9 r9,mk8 s]),?_,⟨by dsimp only;omega,⟨by dsimp only;omega,by dsimp only;omega⟩,by simp;omega,hx.app (.idle _ rb9.1 rb9.2 (.scan _ s2 s1 .nil))⟩,by dsimp only;omega⟩
    simp [mk9,mk8,NB,hW]
   ·obtain⟨s,s1,s2,VB⟩:=z4i (L:=L) (a:=b+1) N (by omega) (WF p0 (by omega) (by omega)) [bx,.row (some 6) W 0]
    simp only[HM,dI,FQ,vJ,DQ,uJ,go_sem,hlt',P,hf,lml,ms,ldb,↓VB,VB,w2];refine⟨(j+1,b+1+N,xs++[mk8 s]),?_,⟨by dsimp only;omega,⟨by dsimp only;omega,by dsimp only;omega⟩,by simp;omega,hx.app (.scan _ s2 s1 .nil)⟩,by dsimp only;omega⟩
    simp [mk8,NB,hW]
  ·have ej:¬(j:Int)<(m:Int):=by omega
   have Q:=PL xs hx (by omega)
   obtain⟨q1,q2,q3,q4,q5,q6,q7,q8,q9⟩:=Q;have okx:∀c∈GA (zs long.toNat)::xs,CmdOk c:=fun c hc=>by have:=q1 c hc;exact⟨by omega,by omega,by omega⟩
   have C1:=fun h K=>zkb (h:=h) (K:=K) ds hB (by omega) nm (GA (zs long.toNat)::xs) q3 q1
   rw[q7]at C1;have C2:=fun h K=>z6h (h:=h) (K:=K) [⟨nm,long,id,[⟨sB,(N:Int)⟩],ins⟩] hBo (by simp) (GA (zs long.toNat)::xs) okx (by omega)
   rw[q5,if_pos rfl]at C2;have C3:=fun h K=>z6h (h:=h) (K:=K) ds hB (by omega) _ q2 (by rw[q8];omega)
   rw[q6,if_pos rfl,q9]at C3;have rl:(tF [⟨nm,long,id,[⟨sB,(N:Int)⟩],ins⟩] (GA (zs long.toNat)::xs)).length=(GA (zs long.toNat)::xs).length:=PZ eA _ [] 0 0 _
   generalize tF [⟨nm,long,id,[⟨sB,(N:Int)⟩],ins⟩] (GA (zs long.toNat)::xs)=RV at *;generalize iC (VA (bB (List.drop (k+1) ds))) (VA (bB (List.take k ds))) (zs (ds.length-1-k)) (zs k)++GA (zs long.toNat)::xs=p at *;obtain⟨W,hW⟩:∃W,W=(GA (zs long.toNat)::xs).map NB:=⟨_,rfl⟩;have C1:∀h K,bA X xI [pC ds,AS nm,.p (.sl (some 6) W)] h K=K (.tup [ACs p,AI 0]) h []:=by rw[hW];exact C1
   have C2:∀h K,bA X kH [.p (.sl (some 5) [.agg [.str nm,eI long,eI id,.sl (some 2) [uA ⟨sB,(N:Int)⟩],.sl (some 2) (ins.map QA)]]),.p (.sl (some 6) W)] h K=K (.tup [WT RV,AI 0]) h []:=by rw[hW];exact C2
   have lb:([[],[],[],[]]++RV).length=xs.length+5:=by rw[List.length_append,rl];simp;omega
   have wb:win (([[],[],[],[]]++RV).map PV.str) 4 (xs.length+5-4)=RV.map PV.str:=by
    rw[List.map_append];unfold win;show((RV.map PV.str).take (xs.length+5-4))=_
    rw[List.take_of_length_le (by rw[List.length_map,rl,List.length_cons];omega)]
   generalize [[],[],[],[]]++RV=B at *;rw[←hW]at lml ⊢;have A3:=fun(K:jA)=>ownP3 (K:=K) (h:=[JA L b,.box [.ref 0 0],bx,.row (some 6) W 0]) (v:=.sl (some 5) (ds.map tA)) (u:=.str nm) (id:=3) (fz:=0) (sh:=some 6) (f:=xI) z7h rfl rfl rfl lml
   have A2:=fun(f:Nat) (K:jA)=>ownP2 (K:=K) (h:=[JA L b,.box [.ref 0 0],bx,.row (some 6) W f]) (v:=.sl (some 5) [.agg [.str nm,eI long,eI id,.sl (some 2) [uA ⟨sB,(N:Int)⟩],.sl (some 2) (ins.map QA)]]) (id:=3) (fz:=f) (sh:=some 6) (f:=kH) z7i rfl rfl rfl lml
   have ldn:ldB none 0 (some bx)=some (AS nm):=by rw[hbx];rfl
   have lda:ldB (some 5) 0 (some bx)=some (.p (.agg [.str nm,eI long,eI id,.sl (some 2) [uA ⟨sB,(N:Int)⟩],.sl (some 2) (ins.map QA)])):=by rw[hbx];rfl
   have E:=fun h K=>zki (h:=h) (K:=K) [0,0,0] (by simp)
   simp only[AL,List.map_cons,List.map_nil]at E;have ef:mK [0,0,0]=0:=rfl
   rw[ef]at E;have EQ:=fun h K=>zjZ (h:=h) (K:=K) RV RV (by rw[rl,List.length_cons];omega)
   have pl:p.length=xs.length+5:=by rw[q8];simp
   have b4:4≤xs.length+5:=by omega
   have w4:IntKind.i64.wrap (((xs.length+1:Nat):Int)+4)=((xs.length+5:Nat):Int):=by rw[LA _ (by omega) (by omega)];omega
   rw[HM];simp only[dI,go_sem,ej];rw[OW];simp only[kM,go_sem,ldn];rw[A3];simp only[cR,↓C1,C1,go_sem,lda];rw[A2];simp only[cR,↓C2,C2,↓C3,C3,go_sem,↓E,E,List.length_map,pl,lb,b4,w4,wb,↓EQ,EQ,z6n]
 ·have ez:qC 1 (.ref 0 0)=[]:=rfl
  generalize OC ds=e at *;simp only[jM,go_sem,ez,↓V1,V1,↓C4,C4,hz,z6n]
end Go.Am
end
section
/- From a law that is true here tov the model's calls at what came in. -/
open Go
namespace Go.Am
variable {P:Program}
theorem law_nil {X:Ctx}(HX:Fits P X){f:Nat}{F:AFun}(hF:X.fn f=some F)(H:∀ L:List Int,bA X f [XS L] [] fun v _ _=>v = .p (.bool true))(W:World)(hG:QD X.gl (imm [] [] W)) :
 Calls P f #[.slice none 0 0] W fun e W'=>e = .returned (.bool true)∧RowKit.Below W.heap.size W W':=by
 refine(z12 HX hF (H []) (W:=W) (vs:=[.slice none 0 0]) hG rfl (fun j y v hy hv=>?_)).mono fun e W' he=>?_
 ·cases j with
  | zero=>cases hy;cases hv;exact zaT W
  | succ j=>cases hy
 ·cases e with
  | returned r=>
   obtain⟨⟨v,h,x,μ,hk,hr⟩,hb⟩:=he;subst hk;exact⟨by rw[hr.p_bool],hb⟩
  | panicked _=>exact he.elim
  | outgrown=>exact he.elim
theorem law_ints {X:Ctx}(HX:Fits P X){f:Nat}{F:AFun}(hF:X.fn f=some F)(H:∀ L:List Int,bA X f [XS L] [] fun v _ _=>v = .p (.bool true)){W:World}(hG:QD X.gl (imm [] [] W)){a:Addr}{len cap:Nat}{zs:List Int}
 (hl:len≤cap) (hz:len≤zs.length) (hc:∀i,i<zs.length→W.cell? (a.add i)=some (.int .i64 (zs.getD i 0))) :
 Calls P f #[.slice (some a) len cap] W fun e W'=>e = .returned (.bool true)∧RowKit.Below W.heap.size W W':=by
 refine(z12 HX hF (H (zs.take len)) (W:=W) (vs:=[.slice (some a) len cap]) hG rfl (fun j y v hy hv=>?_)).mono fun e W' he=>?_
 ·cases j with
  | zero=>
   cases hy;cases hv
   rcases Nat.eq_zero_or_pos len with h0|h0
   ·subst h0
    exact .p _ _ (.nils _ _ _)
   ·exact zaS (by simpa [Addr.add] using World.cell?_spot (hc 0 (by omega))) hl hz hc
  | succ j=>cases hy
 ·cases e with
  | returned r=>
   obtain⟨⟨v,h,x,μ,hk,hr⟩,hb⟩:=he;subst hk;exact⟨by rw[hr.p_bool],hb⟩
  | panicked _=>exact he.elim
  | outgrown=>exact he.elim
end Go.Am
namespace Go.ChangeShapes
open Go.RowKit Go.WideShapes
end Go.ChangeShapes
end
section
/- The abstract machine,part L2: the kit's contracts asv rows. -/
set_option linter.unusedSimpArgs false
set_option linter.unusedVariables false
namespace Go.Am
variable {P:Program} {gl:Nat→Option PV}
open Go.Shelf
end Go.Am
end
