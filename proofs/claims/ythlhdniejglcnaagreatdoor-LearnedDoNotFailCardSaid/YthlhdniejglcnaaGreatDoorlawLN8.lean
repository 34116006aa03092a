/- Texts of the proof, laid together: SpTap1, SpBld, SpTap2, SpPath, PBits, SpWalk, SpLen, SpStrs, SpFind, SpLimD, SpLim, SpLotA, SpRecD, SpGenA, SpSome, SpGenL, SpRec, SpSortRec, SpCompact, SpGenR, PMerge, SpMrgA, SpSort, SpMrgB, SpMrgC, SpMrgD, PFin, SpTxt, SpFlt1, SpFlt2, SpVec1, SpVec2, SpFlt3, SpFlt4, SpFlt5, SpArg, SpFlt6, SpSortO, SpGenF, SpVec4, SpTap3, SpEsc, SpTap4, SpTap5, SpTap6, SpTap7, SpVec12, SpVec13, SpVec14. -/
import Derived.Test.YthlhdniejglcnaaGreatDoorlawLN7
set_option linter.all false
section
/- Devices on a chain: which register is selected: the program. -/
open Go
set_option linter.all false
set_option maxRecDepth 100000
namespace Go.Am
variable {h:aA} {K:kA}
attribute [-go_sem] SA
def DA (r:TReg):PV:=.agg [.str r.name,eI r.long]
def ZA (i:TIns):PV:=.agg [.str i.code,.str i.reg]
def JA (d:TDev):PV:=.agg [.str d.name,eI d.long,eI d.id,.sl (some 2) (d.regs.map DA),.sl (some 2) (d.ins.map ZA)]
abbrev iB (d:TDev):AV:=.p (JA d)
abbrev jD (ds:List TDev):AV:=.p (.sl (some 5) (ds.map JA))
def OB (d:TDev):List AV:=[AS d.name,AI d.long,AI d.id,.p (.sl (some 2) (d.regs.map DA)),.p (.sl (some 2) (d.ins.map ZA))]
theorem sV {l:List TReg}:fH (some 2) (l.map DA):=fun x hx=>by obtain⟨n,_,rfl⟩:=List.mem_map.1 hx;rfl
theorem z7U {l:List TIns}:fH (some 2) (l.map ZA):=fun x hx=>by obtain⟨n,_,rfl⟩:=List.mem_map.1 hx;rfl
theorem z5v {l:List TDev}:fH (some 5) (l.map JA):=fun x hx=>by obtain⟨n,_,rfl⟩:=List.mem_map.1 hx;rfl
def XC (n:List UInt8):PV→Bool
 | .agg (.str s::_)=>decide (s=n)
 | _=>false
theorem z7P {α:Type}(f:α→PV){p:PV→Bool}{q:α→Bool}(hpq:∀ x,p (f x)=q x)(l:List α) :
 (l.find? q=none∧FE p (l.map f) = -1)∨∃k,∃hk:k<l.length,l.find? q=some l[k]∧FE p (l.map f)=(k:Int):=by
 have e:(l.map f).findIdx p=l.findIdx q:=by
  rw[List.findIdx_map];congr 1
  funext x
  exact hpq x
 unfold FE;rw[e,List.length_map];by_cases h:l.findIdx q<l.length
 ·right
  refine⟨l.findIdx q,h,z03 (fun x hx=>?_) (List.getElem?_eq_getElem h) List.findIdx_getElem,if_pos h⟩
  obtain⟨j,hj,rfl⟩:=List.mem_take_iff_getElem.1 hx;have:=List.not_of_lt_findIdx (p:=q) (xs:=l) (i:=j) (by omega)
  simpa using this
 ·left
  refine⟨?_,if_neg h⟩;rw[List.find?_eq_none];intro x hx;have:l.findIdx q=l.length:=by have:=List.findIdx_le_length (p:=q) (xs:=l);omega
  rw[List.findIdx_eq_length]at this;simp [this x hx]
def CM (d:TDev)(n:List UInt8):AV:=match kC d n with
 | some r=>.tup [.p (DA r),AB true]
 | none=>.tup [.p (.agg [.str [],eI 0]),AB false]
set_option maxHeartbeats 2000000 in
theorem z3m (d:TDev)(n:List UInt8)(hl:d.regs.length≤1000000):bA X iJ [iB d,AS n] h K=K (CM d n) h []:=by
 refine xA ?_;rw[zev rfl];unfold CM kC tB sB;by_cases h1:n=[98,121,112,97,115,115]
 ·subst h1
  simp only[FG,go_sem,Nat.add_assoc,iB,JA,DA,if_true,splice]
 have tl:sE WO [.ref (h.length+1) 0] (XC n) (d.regs.map DA) (h++[.box (OB d),.box [AS n],.box [AS [],AI 0]]):=fun x hx K=>by
  obtain⟨r,_,rfl⟩:=List.mem_map.1 hx;refine xA ?_;rw[zew rfl];simp only[fS,go_sem,DA,XC]
 have ix:=fun K=>z3R (h:=h++[.box (OB d),.box [AS n],.box [AS [],AI 0]]) (K:=K) (XP sV) tl (by simp;omega)
 rw[if_neg h1];unfold OB at ix;by_cases h2:n=[105,100,99,111,100,101]
 ·subst h2
  have h1:¬([105,100,99,111,100,101]:List UInt8)=[98,121,112,97,115,115]:=by decide
  by_cases h3:d.id=0
  ·rw[if_neg (by simp [h3])]
   rcases z7P DA (p:=XC [105,100,99,111,100,101]) (q:=fun r=>r.name==[105,100,99,111,100,101]) (fun x=>by show decide (x.name=_)=(x.name==_);rw[Bool.eq_iff_iff];simp) d.regs with⟨e1,e2⟩|⟨k,hk,e1,e2⟩
   ·rw[e2]at ix
    rw[e1];simp only[FG,go_sem,Nat.add_assoc,iB,JA,h1,eq_true h3,↓ix,ix,splice]
   ·rw[e2]at ix
    rw[e1];have hg:=iC DA hk
    have k0:¬(k:Int)<0:=by omega
    have cx:nB (some 2) 0 (DA d.regs[k])=some (DA d.regs[k]):=rfl
    generalize d.regs[k]=r at *;have fp:∀y:TReg,DA y = .agg [.str y.name,eI y.long]:=fun _=>rfl
    rw[fp]at hg cx;simp only[FG,go_sem,Nat.add_assoc,iB,JA,h1,eq_true h3,↓ix,ix,hk,hg,k0,cx,fp,splice]
  ·rw[if_pos ⟨rfl,h3⟩]
   simp only[FG,go_sem,Nat.add_assoc,iB,JA,h1,h3,DA,splice]
 ·rw[if_neg (by simp [h2])]
  rcases z7P DA (p:=XC n) (q:=fun r=>r.name==n) (fun x=>by show decide (x.name=n)=(x.name==n);rw[Bool.eq_iff_iff];simp) d.regs with⟨e1,e2⟩|⟨k,hk,e1,e2⟩
  ·rw[e2]at ix
   rw[e1];simp only[FG,go_sem,Nat.add_assoc,iB,JA,h1,h2,↓ix,ix,splice]
  ·rw[e2]at ix
   rw[e1];have hg:=iC DA hk
   have k0:¬(k:Int)<0:=by omega
   have cx:nB (some 2) 0 (DA d.regs[k])=some (DA d.regs[k]):=rfl
   generalize d.regs[k]=r at *;have fp:∀y:TReg,DA y = .agg [.str y.name,eI y.long]:=fun _=>rfl
   rw[fp]at hg cx;simp only[FG,go_sem,Nat.add_assoc,iB,JA,h1,h2,↓ix,ix,hk,hg,k0,cx,fp,splice]
attribute [-go_sem] z0c GN
theorem zqh (d:TDev)(code:List UInt8)(hl:d.regs.length≤1000000)(hi:d.ins.length≤1000000):bA X ZO [iB d,AS code] h K=K (.p (DA ((kC d (dH d code)).getD ⟨[],0⟩))) h []:=by
 refine xA ?_;rw[zez rfl];have e3:=@z0c
 simp only[kS,go_sem,iB,JA,List.length_map];refine jB (fun k:Nat=>⟨[(1,AS code),(2,.ref h.length 0),(4,.ref (h.length+1) 0),(5,AS ((d.ins.take k).foldl (fun n x=>if x.code=code then x.reg else n) tB)),(11,.p (.sl (some 2) (d.ins.map ZA))),(12,AI d.ins.length),(13,AI k)],h++[.box (OB d),.box [AS [],AI 0]],[]⟩) (fun k=>k≤d.ins.length) (fun k=>d.ins.length-k) 0 rfl (by omega) ?_
 intro k hk;rcases Nat.lt_or_ge k d.ins.length with hlt|hge
 ·have hg:=iC ZA hlt
  have w2:IntKind.i64.wrap ((k:Int)+1)=((k+1:Nat):Int):=GA _ (by omega) (by omega)
  have ef:(d.ins.take (k+1)).foldl (fun n x=>if x.code=code then x.reg else n) tB=if d.ins[k].code=code then d.ins[k].reg else(d.ins.take k).foldl (fun n x=>if x.code=code then x.reg else n) tB:=by
   rw[List.take_succ_eq_append_getElem hlt,List.foldl_append];rfl
  have cx:nB (some 2) 0 (ZA d.ins[k])=some (ZA d.ins[k]):=rfl
  generalize (d.ins.take k).foldl (fun n x=>if x.code=code then x.reg else n) tB=nm at *
  generalize d.ins[k]=i at *;have fp:∀y:TIns,ZA y = .agg [.str y.code,.str y.reg]:=fun _=>rfl
  rw[fp]at hg cx;by_cases hc:i.code=code
  ·rw[if_pos hc]at ef
   simp only[go_sem,Nat.add_assoc,hlt,hg,cx,w2,hc,splice];exact⟨k+1,by rw[ef],by omega,by omega⟩
  ·rw[if_neg hc]at ef
   simp only[go_sem,Nat.add_assoc,hlt,hg,cx,w2,hc,splice];exact⟨k+1,by rw[ef],by omega,by omega⟩
 ·have ek:k=d.ins.length:=by omega
  subst ek;rw[List.take_length];have q:=fun h K=>z3m (h:=h) (K:=K) d (dH d code) hl
  unfold CM at q;simp only[go_sem,Nat.lt_irrefl];rw[e3];simp only[GN];have fd:iB d = .p (.agg [.str d.name,eI d.long,eI d.id,.sl (some 2) (d.regs.map DA),.sl (some 2) (d.ins.map ZA)]):=rfl
  have fs:dH d code=d.ins.foldl (fun n x=>if x.code=code then x.reg else n) tB:=rfl
  rw[fd]at q;rw[←fs];cases hr:kC d (dH d code) with
  | none=>
   rw[hr]at q;dsimp only at q;simp only[go_sem,Nat.add_assoc,OB,splice,↓q,q,Option.getD_none,DA]
  | some r=>
   rw[hr]at q;dsimp only at q;simp only[go_sem,Nat.add_assoc,OB,splice,↓q,q,Option.getD_some,DA]
abbrev SM:=List (List UInt8 × List UInt8)
def uB (s:List UInt8):AV:=AS s
def jC (d:TDev)(p:JC)(mi mo:Nat):List AV:=[AS d.name,AI d.long,AI d.id,.p (.sl (some 2) (d.regs.map DA)),.p (.sl (some 2) (d.ins.map ZA)),AS p.1,AS p.2,.mp mi,.mp mo]
theorem z94 (d:TDev)(p:JC)(mi mo:Nat){id:Nat}(hh:h[id]?=some (.box (jC d p mi mo)))(hl:d.regs.length≤1000000)(hi:d.ins.length≤1000000):bA X WK [.ref id 0] h K=K (.p (DA (yC d p.1))) h []:=by
 refine xA ?_;rw[zeu rfl];have hid:id<h.length:=by
  rcases Nat.lt_or_ge id h.length with h1|h1
  ·exact h1
  ·rw[List.getElem?_eq_none h1]at hh;cases hh
 have g:∀l:aA,(h++l)[id]?=some (.box (jC d p mi mo)):=fun l=>by rw[List.getElem?_append_left hid];exact hh
 obtain⟨i,s⟩:=p;unfold yC;dsimp only;have q1:=fun h K=>z3m (h:=h) (K:=K) d sB hl
 have q2:=fun h K=>zqh (h:=h) (K:=K) d i hl hi
 unfold CM sB at q1;unfold jC at g hh;have fd:iB d = .p (.agg [.str d.name,eI d.long,eI d.id,.sl (some 2) (d.regs.map DA),.sl (some 2) (d.ins.map ZA)]):=rfl
 rw[fd]at q1 q2;unfold sB;by_cases hc:i=[]
 ·subst hc
  rw[if_pos rfl];cases hr:kC d [105,100,99,111,100,101]with
  | none=>
   rw[hr]at q1;dsimp only at q1;simp only[vK,go_sem,Nat.add_assoc,hid,g,hh,splice,↓q1,q1,DA,tB]
  | some r=>
   rw[hr]at q1;dsimp only at q1;simp only[vK,go_sem,Nat.add_assoc,hid,g,hh,splice,↓q1,q1,DA]
 ·rw[if_neg hc]
  generalize (kC d (dH d i)).getD ⟨[],0⟩=r at *;have fp:∀y:TReg,DA y = .agg [.str y.name,eI y.long]:=fun _=>rfl
  rw[fp]at q2;simp only[vK,go_sem,Nat.add_assoc,hid,g,hh,hc,splice,↓q2,q2,fp]
end Go.Am
end
section
/- A builder of strings. -/
open Go
set_option linter.all false
namespace Go.Am
variable {h:aA} {K:kA}
theorem zoR {b:Nat}:bB b h .nili=some .nili:=by simp only[bB]
attribute [local go_sem] zoR
def QD (u:Bool)(id n:Nat):Obj:=.box [bif u then .ref id 0 else .bt 0 bldT id 0,.bt 1 mH (id+1) n]
theorem PX (id n:Nat):QD true id n = .box [.ref id 0,.bt 1 mH (id+1) n]:=rfl
theorem zdd (id n:Nat):QD false id n = .box [.bt 0 bldT id 0,.bt 1 mH (id+1) n]:=rfl
theorem zq2 {o:Obj}{id:Nat}(hh:h[id]?=some o):h.set id o=h:=by
 apply List.ext_getElem?
 intro j;by_cases e:id=j
 ·subst e;rw[List.getElem?_set_self (WG hh),hh]
 ·rw[List.getElem?_set_ne e]
theorem zpG (u:Bool)(id n:Nat)(hh:h[id]?=some (QD u id n)):bA X KO [.ref id 0] h K=K (.tup []) (h.set id (QD true id n)) []:=by
 refine xA ?_;rw[zee rfl];cases u with
 | true=>
  rw[zq2 hh];rw[PX]at hh;simp only[BN,go_sem,hh]
 | false=>
  rw[zdd]at hh;rw[PX];simp only[bldT]at hh;simp only[BN,go_sem,hh]
theorem zq1 {h:aA}{i j:Nat}{a b:Obj}(e:i≠j):(h.set i a).set j b=(h.set j b).set i a:=List.set_comm a b e
def xI (h:aA)(u:Bool)(id:Nat)(s:List UInt8):Prop:=h[id]?=some (QD u id s.length)∧h[id+1]?=some (.row none (vA s) 0)
def LH (h:aA)(id:Nat)(s:List UInt8):aA:=(h.set id (QD true id s.length)).set (id+1) (.row none (vA s) 0)
theorem CF (s:List UInt8):(vA s).length=s.length:=by simp [vA]
theorem zdk (s t:List UInt8):vA s++vA t=vA (s++t):=by simp [vA]
theorem z3h {u:Bool}{id:Nat}{s t:List UInt8}(H:xI h u id s)(hm:s.length+t.length≤200000000000):bA X lG [.ref id 0,AS t] h K=K (.tup [AI t.length,.nili]) (LH h id (s++t)) []:=by
 refine xA ?_;rw[zec rfl];have l:=WG H.1
 have l2:=WG H.2
 have e:=fun K=>zpG (K:=K) u id s.length H.1
 have g1:(h.set id (QD true id s.length))[id]?=some (.box [.ref id 0,.bt 1 mH (id+1) s.length]):=by rw[List.getElem?_set_self l,PX]
 have g2:(h.set id (QD true id s.length))[id+1]?=some (.row none (vA s) 0):=by rw[List.getElem?_set_ne (by omega)];exact H.2
 have g3:∀o,((h.set id (QD true id s.length)).set (id+1) o)[id]?=some (.box [.ref id 0,.bt 1 mH (id+1) s.length]):=fun o=>by rw[List.getElem?_set_ne (by omega)];exact g1
 have hl:s.length+t.length≤NA:=by unfold NA;omega
 simp only[mH]at g1 g3;simp only[NR,go_sem,e,g1,g2,g3,CF,hl];rw[List.take_of_length_le (by simp)]
 unfold LH;rw[zq1 (i:=id+1) (j:=id) (by omega),List.set_set,zdk,List.length_append]
 rfl
def vG (h:aA)(id:Nat)(s:List UInt8):aA:=if s=[] then h else h.set (id+1) (.row none (vA s) (s.length+1))
theorem VJ (s:List UInt8):iF (vA s)=some s:=by
 induction s with
 | nil=>rfl
 | cons a r ih=>
  have h1:(0:Int)≤(a.toNat:Int)∧(a.toNat:Int)<256:=⟨by omega,by have:=a.toNat_lt;omega⟩
  have e:vA (a::r) = .int .u8 a.toNat::vA r:=rfl
  rw[e];unfold iF;rw[if_pos h1,ih];simp
theorem z3d {u:Bool}{id:Nat}{s:List UInt8}(H:xI h u id s)(hm:s.length≤200000000000):bA X fJ [.ref id 0] h K=K (AS s) (vG h id s) []:=by
 refine xA ?_;rw[zeb rfl];have l:=WG H.1
 have l2:=WG H.2
 have g1:=H.1
 have g2:=H.2
 unfold QD at g1;have hl:s.length≤NA:=by unfold NA;omega
 unfold vG;by_cases h0:s=[]
 ·subst h0
  simp only[mH,List.length_nil]at g1;simp only[AN,go_sem,g1,g2,CF,hl];exact if_pos rfl ▸ trivial
 ·have h0':¬s.length=0:=by simpa using h0
  have h1:1≤s.length:=by omega
  simp only[mH]at g1;have e0:(0:Int)≤(s.length:Int):=by omega
  simp only[AN,go_sem,g1,g2,CF,hl,h0',h1,VJ,e0,Int.toNat_natCast,h0]
end Go.Am
end
section
/- Devices on a chain: what is captured;clones: the program. -/
open Go
set_option linter.all false
set_option maxRecDepth 100000
namespace Go.Am
variable {h:aA} {K:kA}
attribute [-go_sem] SA
theorem zpz (l:List TReg)(hl:l.length≤1000000):bA X GO [.p (.sl (some 2) (l.map DA))] h K=K (.p (.sl (some 2) (l.map DA))) h []:=by
 refine xA ?_;rw[zdS rfl];simp only[BR];cases l with
 | nil=>
  refine⟨_,_,_,⟨rfl,rfl,rfl⟩,?_⟩;simp only[List.map_nil,List.length_nil,go_sem];trivial
 | cons x r=>
  refine⟨_,_,_,⟨rfl,rfl,rfl⟩,?_⟩;have hm:r.length+1≤NA:=by simp only[List.length_cons]at hl;unfold NA;omega
  simp only[List.map_cons,List.length_cons,go_sem,hm];rw[YF (by simp)]
theorem zpy (l:List TIns)(hl:l.length≤1000000):bA X FO [.p (.sl (some 2) (l.map ZA))] h K=K (.p (.sl (some 2) (l.map ZA))) h []:=by
 refine xA ?_;rw[zdR rfl];simp only[AR];cases l with
 | nil=>
  refine⟨_,_,_,⟨rfl,rfl,rfl⟩,?_⟩;simp only[List.map_nil,List.length_nil,go_sem];trivial
 | cons x r=>
  refine⟨_,_,_,⟨rfl,rfl,rfl⟩,?_⟩;have hm:r.length+1≤NA:=by simp only[List.length_cons]at hl;unfold NA;omega
  simp only[List.map_cons,List.length_cons,go_sem,hm];rw[YF (by simp)]
theorem zj5 {id:Int}(h0:0≤id)(h1:id≤4294967295){k:Nat}(hk:k<32):MH .i64 (rJ .i64 id (k:Int)) 1=(((id.toNat >>> k)%2:Nat):Int):=by
 obtain⟨n,rfl⟩:∃n:Nat,id=n:=⟨id.toNat,by omega⟩
 have e:rJ .i64 (n:Int) (k:Int)=((n / 2^k:Nat):Int):=by
  unfold rJ;have:min ((k:Int)).toNat IntKind.i64.bits=k:=by simp only[IntKind.bits,Int.toNat_natCast];omega
  rw[this,show((2:Int)^k)=((2^k:Nat):Int) by simp]
  exact(Int.ofNat_fdiv n (2^k)).symm
 have hn:n / 2^k≤n:=Nat.div_le_self _ _
 rw[e,Int.toNat_natCast,Nat.shiftRight_eq_div_pow];generalize n / 2^k=m at *;unfold MH;have b1:BitVec.ofInt IntKind.i64.bits (m:Int)=BitVec.ofNat 64 m:=by
  show BitVec.ofInt 64 (m:Int)=_
  simp
 have b2:BitVec.ofInt IntKind.i64.bits (1:Int)=BitVec.ofNat 64 1:=rfl
 have e2:(BitVec.ofInt IntKind.i64.bits (m:Int) &&& BitVec.ofInt IntKind.i64.bits 1).toNat=m%2:=by
  rw[b1,b2];show(BitVec.ofNat 64 m &&& BitVec.ofNat 64 1).toNat=_
  rw[BitVec.toNat_and,BitVec.toNat_ofNat,BitVec.toNat_ofNat,Nat.mod_eq_of_lt (by omega),Nat.mod_eq_of_lt (by omega),Nat.and_one_is_mod]
 rw[e2];exact GA _ (by omega) (by omega)
theorem zj4 {id:Int}{k:Nat}(hk:k<32):(rD id)[k]?=some (UInt8.ofNat (48+(id.toNat >>> k)%2)):=by
 unfold rD;simp [hk]
theorem z7O {id:Int}:(rD id).length=32:=by simp [rD]
def InM (d:TDev)(m:SM):Prop:=∀r∈d.regs,oB r.name m=some (zs r.long.toNat)
theorem z8h {hp:aA}{id:Nat}{m:SM}{k:List UInt8}(hh:hp[id]?=some (RA PV.str uB m)):XB (none,[2]) false (.p (.str [])) (.mp id) (AS k) hp=some (AS ((oB k m).getD [])):=by
 have:=z0J (key:=PV.str) (val:=uB) z7Y hh (kk:=(none,[2])) (k:=k) z7Z (ok:=false) (z:=AS []);rw[this];cases oB k m <;> rfl
theorem z36 {hp:aA}{id:Nat}{m:SM}{k v:List UInt8}(hh:hp[id]?=some (RA PV.str uB m)):rC (none,[2]) (.mp id) (AS k) (AS v) hp=some (.und,hp.set id (RA PV.str uB (GB k v m)),[]):=
 z8p (key:=PV.str) (val:=uB) z7Y hh (kk:=(none,[2])) (k:=k) z7Z (v:=v) rfl
attribute [-go_sem] XB
set_option maxHeartbeats 2000000 in
theorem zpE (d:TDev)(D:DevOk d)(p:JC)(mi mo:Nat){id:Nat}(hh:h[id]?=some (.box (jC d p mi mo))){m:SM}(hm:h[mi]?=some (RA PV.str uB m))(hI:InM d m)(hl:d.regs.length≤1000000)(hi:d.ins.length≤1000000) :
 bA X UO [.ref id 0] h K=K (AS (GI d p.1)) h []:=by
 refine xA ?_;rw[zet rfl];have hid:id<h.length:=by
  rcases Nat.lt_or_ge id h.length with h1|h1
  ·exact h1
  ·rw[List.getElem?_eq_none h1]at hh;cases hh
 have him:mi<h.length:=by
  rcases Nat.lt_or_ge mi h.length with h1|h1
  ·exact h1
  ·rw[List.getElem?_eq_none h1]at hm;cases hm
 have g:∀l:aA,(h++l)[id]?=some (.box (jC d p mi mo)):=fun l=>by rw[List.getElem?_append_left hid];exact hh
 have q:=fun h (hh:h[id]?=some (.box (jC d p mi mo))) K=>z94 (h:=h) (K:=K) d p mi mo hh hl hi
 have q0:=q h hh
 have sc:=z9J D p.1
 have lk:∀l:aA,∀k:List UInt8,XB (none,[2]) false (.p (.str [])) (.mp mi) (AS k) (h++l)=some (AS ((oB k m).getD [])):=fun l k=>z8h (by rw[List.getElem?_append_left him];exact hm)
 unfold GI;generalize yC d p.1=r at *;have fp:∀y:TReg,DA y = .agg [.str y.name,eI y.long]:=fun _=>rfl
 unfold tB sB at *;rw[fp]at q0;dsimp only;by_cases h1:r.name=[98,121,112,97,115,115]
 ·rw[if_pos h1]
  simp only[uK,go_sem,Nat.add_assoc,↓q0,q0,h1,splice]
 rw[if_neg h1];by_cases h2:r.name=[105,100,99,111,100,101]
 ·rw[if_pos h2]
  have n1:¬([105,100,99,111,100,101]:List UInt8)=[98,121,112,97,115,115]:=by decide
  simp only[uK,go_sem,Nat.add_assoc,↓q0,q0,h2,n1,splice];refine jB (fun k:Nat=>⟨[(0,.ref id 0),(4,.own (h.length+1) k 0 k),(21,AI k)],h++[.box [AS [105,100,99,111,100,101],AI r.long],.row none (vA ((rD d.id).take k)) 0],[]⟩) (fun k=>k≤32) (fun k=>32-k) 0 rfl (by omega) ?_
  intro k hk;have hlk:(vA ((rD d.id).take k)).length=k:=by simp [vA,z7O];omega
  rcases Nat.lt_or_ge k 32 with hlt|hge
  ·have hlt':(k:Int)<32:=by omega
   have k0:¬(k:Int)<0:=by omega
   have w2:IntKind.i64.wrap ((k:Int)+1)=((k+1:Nat):Int):=GA _ (by omega) (by omega)
   have ib:=zj5 D.i0 D.i1 hlt
   have hg:=zj4 (id:=d.id) hlt
   have hx:(d.id.toNat >>> k)%2<2:=Nat.mod_lt _ (by omega)
   generalize (d.id.toNat >>> k)%2=b at *;have w3:IntKind.i64.wrap (48+(b:Int))=((48+b:Nat):Int):=by rw[GA _ (by omega) (by omega)];omega
   have w4:IntKind.u8.wrap ((48+b:Nat):Int)=((48+b:Nat):Int):=by simp [IntKind.wrap,IntKind.bits,IntKind.signed];omega
   have gd:∀l:aA,ldB none 2 (h++l)[id]?=some (AI d.id):=fun l=>by rw[g l];rfl
   have e1:vA ((rD d.id).take (k+1))=vA ((rD d.id).take k)++[.int .u8 ((48+b:Nat):Int)]:=by
    rw[List.take_add_one,hg];simp only[Option.toList,vA,List.map_append,List.map_cons,List.map_nil];rw[UInt8.toNat_ofNat'];congr 4
    omega
   have ms:k+1≤NA:=by unfold NA;omega
   have f1:id≤h.length+1:=by omega
   simp only[go_sem,Nat.add_assoc,hlt',k0,gd,ib,w2,w3,w4,hlk,ms,f1];refine⟨k+1,?_,by omega,by omega⟩
   rw[e1]
  ·have ek:k=32:=by omega
   subst ek;have et:(rD d.id).take 32=rD d.id:=List.take_of_length_le (by rw[z7O];omega)
   rw[et]at hlk ⊢;have tb:iF (vA (rD d.id))=some (rD d.id):=VJ _
   have wf:win (vA (rD d.id)) 0 32=vA (rD d.id):=YF hlk
   simp only[go_sem,Nat.lt_irrefl,Nat.add_assoc,hlk,wf,tb]
 ·rw[if_neg h2]
  have hr:r∈d.regs:=by
   rcases sc with c|c|c
   ·exact absurd c h1
   ·exact absurd c h2
   ·exact c
  have hg:=hI r hr
  have lk':=fun l=>lk l r.name
  rw[hg,Option.getD_some]at lk';have gd:∀l:aA,ldB none 7 (h++l)[id]?=some (.mp mi):=fun l=>by rw[g l];rfl
  simp only[uK,go_sem,Nat.add_assoc,↓q0,q0,h1,h2,gd,lk',splice]
end Go.Am
end
section
/- The shortest way between two states of a test access port: a search over a queue. -/
open Go
set_option linter.all false
namespace Go.Am
variable {h:aA} {K:kA}
attribute [-go_sem] XB rC rL sL
def nxtT:List (List Nat):=[[1,0],[1,2],[3,9],[4,5],[4,5],[6,8],[6,7],[4,8],[1,2],[10,0],[11,12],[11,12],[13,15],[13,14],[11,15],[1,2]]
def nxt (s t:Nat):Nat:=(nxtT.getD s []).getD t 0
theorem zl3 {s t:Nat}(hs:s<16)(ht:t<2):([AI 1,AI 0,AI 1,AI 2,AI 3,AI 9,AI 4,AI 5,AI 4,AI 5,AI 6,AI 8,AI 6,AI 7,AI 4,AI 8,AI 1,AI 2,AI 10,AI 0,AI 11,AI 12,AI 11,AI 12,AI 13,AI 15,AI 13,AI 14,AI 11,AI 15,AI 1,AI 2]:List AV)[s*2+t*1]?=some (AI (nxt s t)):=by
 have hs':s=0∨s=1∨s=2∨s=3∨s=4∨s=5∨s=6∨s=7∨s=8∨s=9∨s=10∨s=11∨s=12∨s=13∨s=14∨s=15:=by omega
 have ht':t=0∨t=1:=by omega
 rcases hs' with rfl|rfl|rfl|rfl|rfl|rfl|rfl|rfl|rfl|rfl|rfl|rfl|rfl|rfl|rfl|rfl <;> rcases ht' with rfl|rfl <;> rfl
theorem z7F {Y:Ctx}(hY:Y.fn uF=some zI)(s t:Nat)(hs:s<16)(ht:t<2):bA Y uF [AI s,AI t] h K=K (AI (nxt s t)) h []:=by
 refine xA ?_;rw[yA hY rfl (show rA h [AI s,AI t]=some ([AI s,AI t],h) from rfl) rfl,z5F]
 show eS _ _ _ _ _ _ (qA [.t 4] false _ _)
 have g:=zl3 hs ht
 simp only[eS,go_sem,hs,ht,g]
abbrev BD:=List (Int × List UInt8)
def GD (n:Int):PV:=.int .i64 n
def OD (s:List UInt8):AV:=.p (.str s)
def EI (t:Nat):List UInt8:=[UInt8.ofNat (48+t)]
def qI (at_ t:Nat)(s:BD × List Nat):BD×List Nat:=
 if(oB (nxt at_ t:Int) s.1).isSome then s else(GB (nxt at_ t:Int) ((oB (at_:Int) s.1).getD []++EI t) s.1,s.2++[nxt at_ t])
def gH (at_:Nat):Nat→BD×List Nat→BD×List Nat
 | 0,s=>s
 | t+1,s=>qI at_ t (gH at_ t s)
def popS (s:BD × List Nat):BD×List Nat:=match s.2 with
 | []=>s
 | a::r=>gH a 2 (s.1,r)
def bfs (a:Nat):Nat→BD×List Nat
 | 0=>([((a:Int),[])],[a])
 | k+1=>popS (bfs a k)
def eA (a b:Nat):List UInt8:=(oB (b:Int) (bfs a 16).1).getD []
def fL (s:BD × List Nat):Bool:=decide (s.1.length≤16)&&decide (s.2.length≤16)&&s.2.all (fun x=>decide (x<16))&&s.1.all (fun e=>decide (e.2.length≤16))
theorem z4B:(List.range 16).all (fun a=>(List.range 16).all (fun k=>fL (bfs a k) && !(bfs a k).2.isEmpty)&&fL (bfs a 16)&&(bfs a 16).2.isEmpty)=true:=by kernel_rfl
theorem zcI {a k:Nat}(ha:a<16)(hk:k<16):fL (bfs a k)=true∧(bfs a k).2≠[]:=by
 have h1:=List.all_eq_true.1 z4B a (List.mem_range.2 ha)
 simp only[Bool.and_eq_true]at h1;have h2:=List.all_eq_true.1 h1.1.1 k (List.mem_range.2 hk)
 simp only[Bool.and_eq_true,Bool.not_eq_true',List.isEmpty_eq_false_iff]at h2;exact h2
theorem zcH {a:Nat}(ha:a<16):fL (bfs a 16)=true∧(bfs a 16).2=[]:=by
 have h1:=List.all_eq_true.1 z4B a (List.mem_range.2 ha)
 simp only[Bool.and_eq_true,List.isEmpty_iff]at h1;exact⟨h1.1.2,h1.2⟩
theorem zje {s:BD × List Nat}(hf:fL s=true):s.1.length≤16∧s.2.length≤16∧(∀x∈s.2,x<16)∧∀e∈s.1,e.2.length≤16:=by
 unfold fL at hf;simp only[Bool.and_eq_true,decide_eq_true_eq,List.all_eq_true]at hf;exact⟨hf.1.1.1,hf.1.1.2,hf.1.2,hf.2⟩
theorem z8g {hp:aA}{id:Nat}{m:BD}{b:Int}(hh:hp[id]?=some (RA GD OD m)):XB (none,[0]) false (.p (.str [])) (.mp id) (AI b) hp=some (.p (.str ((oB b m).getD []))):=by
 have:=z0J (key:=GD) (val:=OD) (fun a b=>z0F a b) hh (kk:=(none,[0])) (k:=b) z0G (ok:=false) (z:=.p (.str []))
 rw[cond_false]at this;refine this.trans ?_;cases oB b m <;> rfl
theorem lookQ {hp:aA}{id:Nat}{m:BD}{b:Int}(hh:hp[id]?=some (RA GD OD m)):XB (none,[0]) true (.p (.str [])) (.mp id) (AI b) hp=some (.tup [.p (.str ((oB b m).getD [])),AB (oB b m).isSome]):=by
 have:=z0J (key:=GD) (val:=OD) (fun a b=>z0F a b) hh (kk:=(none,[0])) (k:=b) z0G (ok:=true) (z:=.p (.str []))
 rw[cond_true]at this;refine this.trans ?_;cases oB b m <;> rfl
theorem updP {hp:aA}{id:Nat}{m:BD}{b:Int}{v:List UInt8}(hh:hp[id]?=some (RA GD OD m)):rC (none,[0]) (.mp id) (AI b) (.p (.str v)) hp=some (.und,hp.set id (RA GD OD (GB b v m)),[]):=
 z8p (key:=GD) (val:=OD) (fun a b=>z0F a b) hh (kk:=(none,[0])) (k:=b) z0G (v:=v) rfl
structure Que (R:aA) (i:Nat) (xs:List Nat) (off:Nat) (q:List Nat):Prop where
 get:R[i]?=some (.row none (xs.map fun n:Nat=>eI n) 0)
 le:off≤xs.length
 eq:xs.drop off=q
theorem zl1 {hp:aA}{id:Nat}{xs:List Nat}{off:Nat}{n:Int}{k:AV→aA→Esc→Prop}(hh:hp[id]?=some (.row none (xs.map fun n:Nat=>eI n) 0))(ho:off≤xs.length)(hm:xs.length≤1000000)
 (k1:k (.own id (xs.length+1) off (xs.length-off+1)) (hp.set id (.row none (xs.map (fun n:Nat=>eI n)++[eI n]) 0)) [])
 (k2:k (.own hp.length (xs.length-off+1) 0 (xs.length-off+1)) (hp++[.row none ((xs.drop off).map (fun n:Nat=>eI n)++[eI n]) 0]) []) :
 nqK (some none) [.own id xs.length off (xs.length-off),.p (.sl none [eI n])] hp k:=by
 have hx:xs.length-off+1≤NA:=by unfold NA;omega
 have hr:rds hp (.p (.sl none [eI n]))=some (none,[eI n]):=rfl
 have hw:win (xs.map fun n:Nat=>eI n) off (xs.length-off)=(xs.drop off).map fun n:Nat=>eI n:=by
  unfold win;rw[←List.map_drop];exact List.take_of_length_le (by simp)
 unfold nqK OI appq;simp only[hr,if_true,hh,List.length_map,List.length_cons,List.length_nil,Nat.zero_add];rw[if_pos ⟨trivial,trivial,by omega,hx,Nat.zero_le _⟩,hw]
 refine⟨by simp,fun y hy=>?_⟩
 simp only[List.mem_cons,List.not_mem_nil,or_false]at hy;rcases hy with rfl|rfl
 ·exact k1
 ·exact k2
theorem z8l {α β:Type}[DecidableEq α]{k:α}{v:β}:∀{l:List (α×β)} {e:α×β},e∈GB k v l→e∈l∨e=(k,v)
 | [],e,h=>by simp [GB]at h;exact .inr h
 | x::r,e,h=>by
  unfold GB at h;split at h
  ·rcases List.mem_cons.1 h with h|h
   ·exact .inr h
   ·exact .inl (List.mem_cons_of_mem _ h)
  ·rcases List.mem_cons.1 h with h|h
   ·exact .inl (h ▸ List.mem_cons_self)
   ·rcases z8l h with h|h
    ·exact .inl (List.mem_cons_of_mem _ h)
    ·exact .inr h
theorem z7J {α β:Type}[DecidableEq α]{k:α}{v:β}:∀{l:List (α×β)},oB k l=some v→(k,v)∈l
 | [],h=>by cases h
 | x::r,h=>by
  unfold oB at h;split at h
  ·rename_i he;cases h;subst he;simp
  ·exact List.mem_cons_of_mem _ (z7J h)
theorem zar {n:Nat}{w:BD}(hw:∀ e∈w,e.2.length≤n)(k:Int):((oB k w).getD []).length≤n:=by
 cases hg:oB k w with
 | none=>simp
 | some v=>exact hw _ (z7J hg)
theorem zrz {n at_ t:Nat}{s:BD × List Nat}(hw:∀ e∈s.1,e.2.length≤n):∀e∈(qI at_ t s).1,e.2.length≤n+1:=by
 unfold qI;split
 ·intro e he;have:=hw e he;omega
 ·intro e he
  rcases z8l he with h|h
  ·have:=hw e h;omega
  ·subst h
   have:=zar hw (at_:Int);simp [EI];omega
theorem zaj {n at_:Nat}{s:BD × List Nat}(hw:∀ e∈s.1,e.2.length≤n):∀(t:Nat),∀e∈(gH at_ t s).1,e.2.length≤n+t
 | 0=>hw
 | t+1=>zrz (zaj hw t)
set_option maxHeartbeats 1000000 in
theorem z7E {Y:Ctx}(hY1:Y.fn mG=some aK)(hY2:Y.fn uF=some zI)(a b:Nat)(ha:a<16)(hb:b<16):bA Y mG [AI a,AI b] h K=K (.p (.str (eA a b))) h []:=by
 refine xA ?_;rw[iN hY1 rfl (show rA h [AI a,AI b]=some ([AI a,AI b],h) from rfl) rfl]
 simp only[z5G];show ∃v h' x,_∧FN _ _ _ _ _ _ _ _ (qA [.t 4] false _ _)
 simp only[FN];refine⟨_,_,_,⟨rfl,rfl,rfl⟩,?_⟩;have em:RA GD OD [((a:Int),([]:List UInt8))] = .amap [⟨.int .i64 a,.p (.str []),0⟩] 1:=rfl
 have u0:=fun(hp:aA) (hh:hp[h.length]?=some (RA GD OD []))=>updP (b:=(a:Int)) (v:=[]) hh
 have e0:GB (a:Int) [] ([]:BD)=[((a:Int),[])]:=rfl
 have em0:RA GD OD ([]:BD) = .amap [] 0:=rfl
 rw[e0]at u0;simp only[em0]at u0;simp only[go_sem,u0];refine jB (fun t:Nat×aA×Nat×List Nat×Nat×Option Nat=>⟨[(1,AI b),(5,.mp h.length),(6,.own (h.length+(t.2.2.1+1)) t.2.2.2.1.length t.2.2.2.2.1 (t.2.2.2.1.length-t.2.2.2.2.1))]++(match t.2.2.2.2.2 with|none=>[]|some q=>[(7,AI q),(25,AI 2),(26,AB false)]),h++RA GD OD (bfs a t.1).1::t.2.1,[]⟩)
  (fun t=>t.1≤16∧Que t.2.1 t.2.2.1 t.2.2.2.1 t.2.2.2.2.1 (bfs a t.1).2∧t.2.2.2.1.length≤1+2*t.1) (fun t=>16-t.1) (0,[.row none [eI a] 0],0,[a],0,none) (by simp [bfs]) ⟨by simp,⟨rfl,by simp,rfl⟩,by simp⟩ ?_
 rintro⟨k,R,i,xs,off,oq⟩ ⟨h1,hq,h2⟩
 dsimp only at h1 hq h2 ⊢;have hqg:=hq.get
 have hle:=hq.le
 have heq:=hq.eq
 have hln:xs.length-off=(bfs a k).2.length:=by rw[←heq];simp
 by_cases hk:k<16
 ·obtain⟨hf,hne⟩:=zcI ha hk
  obtain⟨f1,f2,f3,f4⟩:=zje hf;have hpos:0<xs.length-off:=by rw[hln];exact List.length_pos_iff.2 hne
  have hoff:off<xs.length:=by omega
  obtain⟨q0,qr,hqe⟩:∃q0 qr,(bfs a k).2=q0::qr:=by
   cases hb2:(bfs a k).2 with
   | nil=>exact absurd hb2 hne
   | cons x y=>exact⟨x,y,rfl⟩
  have hx0:xs[off]?=some q0:=by
   have:(xs.drop off)[0]?=some q0:=by rw[heq,hqe];rfl
   rwa [List.getElem?_drop,Nat.add_zero]at this
  have hdr:xs.drop (off+1)=qr:=by
   rw[←List.drop_drop,heq,hqe];rfl
  have hq0:q0<16:=f3 q0 (by rw[hqe];simp)
  have hgq:(xs.map fun n:Nat=>eI n)[off]?=some (eI q0):=by rw[List.getElem?_map,hx0];rfl
  have hpi:(0:Int)<((xs.length-off:Nat):Int):=by omega
  have hl1:1≤xs.length-off:=by omega
  have hbn:bfs a (k+1)=gH q0 2 ((bfs a k).1,qr):=by show popS _=_;unfold popS;rw[hqe]
  have e3:xs.length-off-1=xs.length-(off+1):=by omega
  have hcond:off+(xs.length-off)≤xs.length:=by omega
  have hNL:∀(e:List (Nat×AV)),MA (some [1,5,6,7,25]) e=MA (some [1,5,6,7,25]) e:=fun _=>rfl
  rcases oq with _|oq
  all_goals
  simp only[List.append_nil,List.cons_append,List.nil_append,go_sem,List.getElem?_cons_succ,hqg,hpi,hpos,hgq,hl1,hcond];all_goals
  clear u0 em em0 e0;generalize hw0:((bfs a k).1,qr)=s0 at *;have es1:(bfs a k).1=s0.1:=by rw[←hw0]
  have es2:qr=s0.2:=by rw[←hw0]
  rw[es1,e3];refine jB (fun t:Nat×aA×Nat×List Nat×Nat=>⟨[(1,AI b),(5,.mp h.length),(6,.own (h.length+(t.2.2.1+1)) t.2.2.2.1.length t.2.2.2.2 (t.2.2.2.1.length-t.2.2.2.2)),(7,AI q0),(25,AI t.1)],h++RA GD OD (gH q0 t.1 s0).1::t.2.1,[]⟩)
   (fun t=>t.1≤2∧Que t.2.1 t.2.2.1 t.2.2.2.1 t.2.2.2.2 (gH q0 t.1 s0).2∧t.2.2.2.1.length≤1+2*k+t.1) (fun t=>2-t.1) (0,R,i,xs,off+1) rfl ⟨by simp,⟨hqg,hoff,by rw[hdr,es2];rfl⟩,by simp;omega⟩ ?_
  rintro⟨j,R',i',ys,of'⟩ ⟨j1,jq,j2⟩
  dsimp only at j1 jq j2 ⊢;have jg:=jq.get
  have jle:=jq.le
  have jeq:=jq.eq
  by_cases hj:j<2
  ·have hji:(j:Int)<2:=by omega
   have qn:=fun h K=>z7F (h:=h) (K:=K) hY2 q0 j hq0 hj
   have hvis:gH q0 (j+1) s0=qI q0 j (gH q0 j s0):=rfl
   generalize hsj:gH q0 j s0=s at *;have lq:=fun(hp:aA) (hh:hp[h.length]?=some (RA GD OD s.1))=>lookQ (b:=(nxt q0 j:Int)) hh
   have lp:=fun(hp:aA) (hh:hp[h.length]?=some (RA GD OD s.1))=>z8g (b:=(q0:Int)) hh
   have up:=fun(hp:aA) (v:List UInt8) (hh:hp[h.length]?=some (RA GD OD s.1))=>updP (b:=(nxt q0 j:Int)) (v:=v) hh
   have w1:IntKind.i64.wrap ((j:Int)+1)=((j+1:Nat):Int):=GA _ (by omega) (by omega)
   cases hs:(oB (nxt q0 j:Int) s.1).isSome with
   | true=>
    have hv:qI q0 j s=s:=by unfold qI;rw[if_pos hs]
    rw[hv]at hvis;simp only[go_sem,hji,↓qn,qn,lq,hs,w1];exact⟨(j+1,R',i',ys,of'),by dsimp only;rw[hvis],⟨by dsimp only;omega,by dsimp only;rw[hvis];exact jq,by dsimp only;omega⟩,by dsimp only;omega⟩
   | false=>
    have hv:qI q0 j s=(GB (nxt q0 j:Int) ((oB (q0:Int) s.1).getD []++EI j) s.1,s.2++[nxt q0 j]):=by unfold qI;rw[hs];rfl
    rw[hv]at hvis;have w2:IntKind.i64.wrap (48+(j:Int))=((48+j:Nat):Int):=GA _ (by omega) (by omega)
    have w3:IntKind.i32.wrap ((48+j:Nat):Int)=((48+j:Nat):Int):=by
     have:j=0∨j=1:=by omega
     rcases this with rfl|rfl <;> rfl
    have w4:(0:Int)≤((48+j:Nat):Int)∧((48+j:Nat):Int)<128:=by omega
    have hln2:=zar (zaj (n:=16) (at_:=q0) (s:=s0) (by rw[←es1];exact f4) j) (q0:Int)
    rw[hsj]at hln2;have w5:((oB (q0:Int) s.1).getD []).length+(EI j).length≤PA:=by have:(EI j).length=1:=rfl;unfold PA;omega
    have w6:[UInt8.ofNat ((48+j:Nat):Int).toNat]=EI j:=rfl
    simp only[go_sem,hji,↓qn,qn,lq,hs,lp,up,w1,w2,w3,w4,w5,w6];have hh1:(h++RA GD OD (GB (nxt q0 j:Int) ((oB (q0:Int) s.1).getD []++EI j) s.1)::R')[h.length+(i'+1)]?=some (.row none (ys.map fun n:Nat=>eI n) 0):=by
     rw[List.getElem?_append_right (by omega)];simpa using jg
    have hi':i'<R'.length:=IA jg
    refine zl1 hh1 jle (by omega) ?_ ?_
    ·refine⟨(j+1,R'.set i' (.row none (ys.map (fun n:Nat=>eI n)++[eI (nxt q0 j)]) 0),i',ys++[nxt q0 j],of'),?_,⟨by dsimp only;omega,⟨?_,?_,?_⟩,?_⟩,by dsimp only;omega⟩
     ·dsimp only
      rw[hvis,List.set_append_right _ _ (by omega)]
      simp only[List.length_append,List.length_cons,List.length_nil,Nat.add_sub_cancel_left,List.set_cons_succ];rw[show ys.length+1-of'=ys.length-of'+1 by omega]
     ·dsimp only
      rw[List.getElem?_set_self hi'];simp
     ·simp;omega
     ·dsimp only
      rw[hvis,List.drop_append_of_le_length jle,jeq]
     ·simp;omega
    ·refine⟨(j+1,R'++[.row none ((ys.drop of').map (fun n:Nat=>eI n)++[eI (nxt q0 j)]) 0],R'.length,ys.drop of'++[nxt q0 j],0),?_,⟨by dsimp only;omega,⟨?_,?_,?_⟩,?_⟩,by dsimp only;omega⟩
     ·dsimp only
      rw[hvis];simp
     ·simp
     ·simp
     ·dsimp only
      rw[hvis,jeq,List.drop_zero]
     ·simp;omega
  ·have hj2:j=2:=by omega
   subst hj2;simp only[go_sem];refine⟨(k+1,R',i',ys,of',some q0),?_,⟨by dsimp only;omega,by dsimp only;rw[hbn];exact jq,by dsimp only;omega⟩,by dsimp only;omega⟩
   dsimp only;rw[hbn]
 ·have hk16:k=16:=by omega
  subst hk16;obtain⟨_,hne⟩:=zcH ha;have hz:xs.length-off=0:=by rw[hln,hne];rfl
  have lk:=fun(hp:aA) (hh:hp[h.length]?=some (RA GD OD (bfs a 16).1))=>z8g (b:=(b:Int)) hh
  have hpv:(oB (b:Int) (bfs a 16).1).getD []=eA a b:=rfl
  rcases oq with _|oq <;> simp only[List.append_nil,List.cons_append,List.nil_append,go_sem,hz,lk,hpv]
end Go.Am
end
section
/- Numbers asv sets of bits;rows of a test asv numbers. -/
set_option linter.all false
namespace Go.Am
theorem zdb {s:List UInt8}(k:Nat)(h:zA s=true):zA (s.take k)=true:=by
 unfold zA at *;rw[List.all_eq_true]at *;exact fun x hx=>h x (List.mem_of_mem_take hx)
theorem zcZ {s:List UInt8}{k:Nat}(hk:k<s.length)(h:zA s=true):s[k]=48∨s[k]=49:=by
 unfold zA at h;have:=List.all_eq_true.1 h _ (List.getElem_mem hk);unfold pJ at this;simpa [List.contains_cons] using this
end Go.Am
end
section
/- Walks over the states,and the ways that the reference looks for. -/
open Go
set_option linter.all false
namespace Go.Am
variable {h:aA} {K:kA}
attribute [-go_sem] XB rC rL sL
attribute [-go_sem] SH
def aftL:List PV:=[eI 1,eI 0,eI 1,eI 2,eI 3,eI 9,eI 4,eI 5,eI 4,eI 5,eI 6,eI 8,eI 6,eI 7,eI 4,eI 8,eI 1,eI 2,eI 10,eI 0,eI 11,eI 12,eI 11,eI 12,eI 13,eI 15,eI 13,eI 14,eI 11,eI 15,eI 1,eI 2]
theorem zj7 {s:Nat}(hs:s<16):SH 16 (some 2) (.p (.agg aftL)) (AI s)=some (.p (.agg [eI (stp s 0),eI (stp s 1)])):=by
 have hs':s=0∨s=1∨s=2∨s=3∨s=4∨s=5∨s=6∨s=7∨s=8∨s=9∨s=10∨s=11∨s=12∨s=13∨s=14∨s=15:=by omega
 rcases hs' with rfl|rfl|rfl|rfl|rfl|rfl|rfl|rfl|rfl|rfl|rfl|rfl|rfl|rfl|rfl|rfl <;> rfl
theorem zj6 {s t:Nat}(ht:t<2):SH 2 none (.p (.agg [eI (stp s 0),eI (stp s 1)])) (AI t)=some (AI (stp s t)):=by
 have ht':t=0∨t=1:=by omega
 rcases ht' with rfl|rfl <;> rfl
theorem zpD (s t:Nat)(hs:s<16)(ht:t<2):bA X sO [AI s,AI t] h K=K (AI (stp s t)) h []:=by
 refine xA ?_;rw[zd9 rfl];have g:=zj7 hs
 have g2:=zj6 (s:=s) ht
 unfold aftL at g;simp only[nR,go_sem,g,g2]
abbrev AIs (l:List Nat):AV:=.p (.sl none (l.map fun n:Nat=>eI n))
theorem FV (s:Nat)(l:List UInt8)(hs:s<16)(hb:zA l=true)(hl:l.length≤1000000):bA X rO [AI s,AS l] h K=K (AIs (aE s l)) h []:=by
 refine xA ?_;rw[zd8 rfl];have hmx:l.length≤NA:=by unfold NA;omega
 simp only[mR,go_sem,hmx];refine jB (fun k:Nat=>⟨[(0,AI (WA s (l.take k))),(5,.own h.length k 0 k),(9,.own (h.length+1) l.length 0 l.length),(10,AI l.length),(11,AI k)],h++[.row none ((aE s (l.take k)).map fun n:Nat=>eI n) 0,.row none (vA l) 0],[]⟩) (fun k=>k≤l.length) (fun k=>l.length-k) 0 rfl (by omega) ?_
 intro k hk;rcases Nat.lt_or_ge k l.length with hlt|hge
 ·have g:(vA l)[k]?=some (.int .u8 (l[k].toNat:Int)):=by unfold vA;rw[List.getElem?_map,List.getElem?_eq_getElem hlt];rfl
  have w2:IntKind.i64.wrap ((k:Int)+1)=((k+1:Nat):Int):=GA _ (by omega) (by omega)
  have bt:=zcZ hlt hb
  have e1:IntKind.u8.wrap ((l[k].toNat:Int)-48)=((l[k].toNat-48:Nat):Int):=by
   rcases bt with e|e <;> rw[e] <;> rfl
  have hsm:l[k].toNat-48<2:=by rcases bt with e|e <;> rw[e] <;> decide
  have e2:IntKind.i64.wrap ((l[k].toNat-48:Nat):Int)=((l[k].toNat-48:Nat):Int):=GA _ (by omega) (by omega)
  have he:=z5O hs (zdb k hb)
  have hlen:((aE s (l.take k)).map fun n:Nat=>eI n).length=k:=by simp [WM];omega
  have hmx2:k+1≤NA:=by unfold NA;omega
  have hbl:(vA l).length=l.length:=by simp [vA]
  simp only[go_sem,hlt,g,e1,e2,zpD _ _ he hsm,w2,hlen,hmx2,hbl];refine⟨k+1,?_,by omega,by omega⟩
  rw[List.take_succ_eq_append_getElem hlt,z38,z5P];simp [stW]
 ·have ek:k=l.length:=by omega
  subst ek;have hlen:((aE s l).map fun n:Nat=>eI n).length=l.length:=by simp [WM]
  simp only[go_sem,Nat.lt_irrefl,List.take_length,hlen];exact congrArg (fun l=>AV.p (.sl none l)) (List.take_of_length_le (by simp [WM]))
def MD (h:aA):Nat→aA
 | 0=>h
 | k+1=>MD h k++[.row none ((UA (k+1)).map PV.str) 0]
theorem z2V (h:aA):∀k,(MD h k).take h.length=h
 | 0=>List.take_length
 | k+1=>by
  have:h.length≤(MD h k).length:=by have:=congrArg List.length (z2V h k);simp at this;omega
  rw[MD,List.take_append_of_le_length this,z2V h k]
theorem z2U (h:aA):∀k,(MD h k).length=h.length+k
 | 0=>rfl
 | k+1=>by rw[MD,List.length_append,z2U h k];rfl
def flS (l:List (List UInt8)):List (List UInt8):=l.flatMap fun s=>[s++[48],s++[49]]
theorem zjf (l:List (List UInt8)):(flS l).length=2*l.length:=by
 unfold flS;induction l with
 | nil=>rfl
 | cons a r ih=>simp [ih];omega
theorem zjg (l:List (List UInt8))(s:List UInt8):flS (l++[s])=flS l++[s++[48],s++[49]]:=by simp [flS]
theorem zpl (k:Nat):UA (k+1)=flS (UA k):=rfl
def rowV (h:aA):Nat→AV
 | 0=>.p (.sl none [.str []])
 | k+1=>.own (h.length+k) (2^(k+1)) 0 (2^(k+1))
set_option maxHeartbeats 1000000 in
theorem zp7 (a b:Nat)(ha:a<16)(w:List UInt8)(hw:WJ a b 9 0=some w):bA X VD [AI a,AI b] h K=K (AS w) h []:=by
 obtain⟨kw,hk8,hfw,hno⟩:=zao hw;have hit:∀{k i:Nat} {s:List UInt8},k≤kw→(∀x∈(UA k).take i,(WA a x==b)=false)→(UA k)[i]?=some s→(WA a s==b)=true→s=w:=by
  intro k i s hk h1 h2 h3;have:=z03 (p:=fun s=>WA a s==b) h1 h2 h3
  rcases Nat.lt_or_ge k kw with h4|h4
  ·rw[hno k h4]at this;cases this
  ·obtain rfl:k=kw:=by omega
   rw[hfw]at this;exact(Option.some.inj this).symm
 have miss:∀{k i:Nat},k≤kw→(∀x∈(UA k).take i,(WA a x==b)=false)→(UA k).length≤i→k+1≤kw:=by
  intro k i hk h1 h2;rcases Nat.lt_or_ge k kw with h4|h4
  ·omega
  ·obtain rfl:k=kw:=by omega
   rw[List.take_of_length_le h2]at h1;rw[zjb (p:=fun s=>WA a s==b) h1]at hfw;cases hfw
 refine xA ?_;rw[zd7 rfl];simp only[lR,go_sem];refine jB (fun k:Nat=>⟨[(0,AI a),(1,AI b),(5,rowV h k)],MD h k,[]⟩) (fun k=>k≤kw) (fun k=>kw-k) 0 rfl (by omega) ?_
 intro k hk;have hp2:(2:Nat)^k≤2^8:=Nat.pow_le_pow_right (by omega) (by omega)
 have hp3:(2:Nat)^8=256:=rfl
 cases k with
 | zero=>
  dsimp only[rowV,MD];simp only[go_sem];refine jB (fun i:Nat=>⟨[(0,AI a),(1,AI b),(6,.own (h.length+0) (2*i) 0 (2*i)),(12,.p (.sl none [.str []])),(13,AI (2^0:Nat)),(14,AI i)],h++[.row none ((flS ((UA 0).take i)).map PV.str) 0],[]⟩) (fun i=>i≤2^0∧∀x∈(UA 0).take i,(WA a x==b)=false) (fun i=>2^0-i) 0 rfl ⟨Nat.zero_le _,by simp⟩ ?_
  rintro i ⟨hi,hn⟩
  rcases Nat.lt_or_ge i (2^0) with hlt|hge
  ·have hlt':i<(UA 0).length:=by rw[MJ];exact hlt
   have hg:=iC PV.str hlt'
   obtain⟨hbs,hls⟩:=vV (List.getElem_mem hlt');have hgs:(UA 0)[i]?=some (UA 0)[i]:=List.getElem?_eq_getElem hlt'
   have cx:nB none 0 (PV.str (UA 0)[i])=some (PV.str (UA 0)[i]):=rfl
   have w2:IntKind.i64.wrap ((i:Int)+1)=((i+1:Nat):Int):=GA _ (by omega) (by omega)
   have htk:(UA 0).take (i+1)=(UA 0).take i++[(UA 0)[i]]:=List.take_succ_eq_append_getElem hlt'
   generalize hse:(UA 0)[i]=s at *;have hcond:(WA a s==b)=decide ((WA a s:Int)=(b:Int)):=by
    rw[Bool.eq_iff_iff,beq_iff_eq,decide_eq_true_iff];omega
   obtain rfl:s=[]:=List.eq_nil_of_length_eq_zero hls;obtain rfl:i=0:=by simpa using hlt
   have hmx:(2*0)+2≤NA:=by unfold NA;omega
   have hfl:((flS ((UA 0).take 0)).map PV.str).length=2*0:=rfl
   have hgz:[PV.str []][0]?=some (PV.str []):=rfl
   rcases hb:decide ((a:Int)=(b:Int)) with _|_
   ·have hne:¬((a:Int)=(b:Int)):=of_decide_eq_false hb
    have h01:(0:Int)<((2^0:Nat):Int):=by decide
    have w1:IntKind.i64.wrap 1=((1:Nat):Int):=rfl
    have hst:1≤PA:=by decide
    have hmx2:2≤NA:=by decide
    have hf0:(flS []).length=0:=rfl
    simp only[go_sem,hgz,cx,w1,FV a [] ha rfl (Nat.zero_le _),aE,hne,h01,hst,hf0,hmx2];refine⟨1,rfl,⟨Nat.le_refl _,?_⟩,by decide⟩
    intro x hx;obtain rfl:x=[]:=by simpa [UA] using hx
    exact decide_eq_false (fun e=>hne (congrArg Nat.cast e))
   ·have heq:(a:Int)=(b:Int):=of_decide_eq_true hb
    have h01:(0:Int)<((2^0:Nat):Int):=by decide
    simp only[go_sem,hgz,cx,FV a [] ha rfl (Nat.zero_le _),aE,eq_true heq,h01];exact congrArg AS (hit (k:=0) (i:=0) (s:=[]) hk hn rfl (by rw[hcond];exact hb))
  ·obtain rfl:i=1:=by omega
   have h11:¬((1:Int)<((2^0:Nat):Int)):=by decide
   have c1:((1:Nat):Int)=1:=rfl
   simp only[go_sem,c1,h11];exact⟨1,rfl,miss (k:=0) (i:=1) hk hn (by simp [UA]),by have:=miss (k:=0) (i:=1) hk hn (by simp [UA]);omega⟩
 | succ k=>
  dsimp only[rowV,MD];have hlen:(MD h k).length=h.length+k:=z2U h k
  rw[←hlen];simp only[go_sem];refine jB (fun i:Nat=>⟨[(0,AI a),(1,AI b),(6,.own ((MD h k).length+1) (2*i) 0 (2*i)),(12,.own (MD h k).length (2^(k+1)) 0 (2^(k+1))),(13,AI (2^(k+1):Nat)),(14,AI i)],(MD h k)++[.row none ((UA (k+1)).map PV.str) 0,.row none ((flS ((UA (k+1)).take i)).map PV.str) 0],[]⟩) (fun i=>i≤2^(k+1)∧∀x∈(UA (k+1)).take i,(WA a x==b)=false) (fun i=>2^(k+1)-i) 0 rfl ⟨Nat.zero_le _,by simp⟩ ?_
  rintro i ⟨hi,hn⟩
  rcases Nat.lt_or_ge i (2^(k+1)) with hlt|hge
  ·have hlt':i<(UA (k+1)).length:=by rw[MJ];exact hlt
   have hg:=iC PV.str hlt'
   obtain⟨hbs,hls⟩:=vV (List.getElem_mem hlt');have hgs:(UA (k+1))[i]?=some (UA (k+1))[i]:=List.getElem?_eq_getElem hlt'
   have cx:nB none 0 (PV.str (UA (k+1))[i])=some (PV.str (UA (k+1))[i]):=rfl
   have w2:IntKind.i64.wrap ((i:Int)+1)=((i+1:Nat):Int):=GA _ (by omega) (by omega)
   have htk:(UA (k+1)).take (i+1)=(UA (k+1)).take i++[(UA (k+1))[i]]:=List.take_succ_eq_append_getElem hlt'
   generalize hse:(UA (k+1))[i]=s at *;have hcond:(WA a s==b)=decide ((WA a s:Int)=(b:Int)):=by
    rw[Bool.eq_iff_iff,beq_iff_eq,decide_eq_true_iff];omega
   have hwl:((aE a s).map fun n:Nat=>eI n).length=k+1:=by simp [WM,hls]
   have hwg:((aE a s).map fun n:Nat=>eI n)[k]?=some (eI (WA a s)):=by
    have:=zr2 a s (by omega)
    rw[hls,Nat.add_sub_cancel]at this;rw[List.getElem?_map,this];rfl
   have hpos:(0:Int)<((k+1:Nat):Int):=by omega
   have w3:IntKind.i64.wrap (((k+1:Nat):Int)-1)=(k:Int):=by
    rw[show((k+1:Nat):Int)-1=(k:Int) by omega];exact GA _ (by omega) (by omega)
   have hmx:(2*i)+2≤NA:=by unfold NA;omega
   have hfl:((flS ((UA (k+1)).take i)).map PV.str).length=2*i:=by simp [zjf,List.length_take,MJ];omega
   have hrl:(UA (k+1)).length=2^(k+1):=MJ _
   have hst:s.length+1≤PA:=by rw[hls];unfold PA;omega
   rcases hb:decide ((WA a s:Int)=(b:Int)) with _|_
   ·have hne:¬((WA a s:Int)=(b:Int)):=of_decide_eq_false hb
    simp only[go_sem,hlt,hg,cx,w2,FV a s ha hbs (by omega),hwl,hwg,hpos,w3,hfl,hmx,hne,hrl,hst]
    refine⟨i+1,?_,⟨by omega,?_⟩,by omega⟩
    ·rw[htk,zjg,List.map_append];rfl
    ·intro x hx
     rw[htk]at hx;rcases List.mem_append.1 hx with hx|hx
     ·exact hn x hx
     ·obtain rfl:x=s:=by simpa using hx
      rw[hcond];exact hb
   ·have heq:(WA a s:Int)=(b:Int):=of_decide_eq_true hb
    simp only[go_sem,hlt,hg,cx,w2,FV a s ha hbs (by omega),hwl,hwg,hpos,w3,eq_true heq,hrl]
    exact⟨congrArg AS (hit hk hn hgs (by rw[hcond];exact hb)),by rw[List.take_append_of_le_length (by rw[z2U];omega),z2V]⟩
  ·obtain rfl:i=2^(k+1):=by omega
   have hm:=miss hk hn (by rw[MJ];exact Nat.le_refl _)
   simp only[go_sem,Int.lt_irrefl];have e1:2*2^(k+1)=2^(k+1+1):=by rw[Nat.pow_succ 2 (k+1)];omega
   have e2:(UA (k+1)).take (2^(k+1))=UA (k+1):=List.take_of_length_le (by rw[MJ];exact Nat.le_refl _)
   have e3:MD h k++[Obj.row none ((UA (k+1)).map PV.str) 0,Obj.row none ((flS (UA (k+1))).map PV.str) 0]=MD h (k+1+1):=by
    rw[←zpl,MD,MD,List.append_assoc];rfl
   refine⟨k+2,?_,hm,by omega⟩
   rw[e1,e2,e3,hlen];rfl
theorem zr6:(frS.all fun a=>toS.all fun b=>decide (WJ a b 9 0=some (eA a b)))=true:=by kernel_rfl
theorem zaq {a b:Nat}(ha:a∈frS)(hb:b∈toS):WJ a b 9 0=some (eA a b):=
 of_decide_eq_true (List.all_eq_true.1 (List.all_eq_true.1 zr6 a ha) b hb)
theorem z7l {a:Nat}(ha:a∈frS):a<16:=of_decide_eq_true (List.all_eq_true.1 (show(frS.all fun a=>decide (a<16))=true from rfl) a ha)
theorem SB {a b:Nat}(ha:a∈frS)(hb:b∈toS):zA (eA a b)=true∧(eA a b).length≤8∧WA a (eA a b)=b:=by
 obtain⟨kw,h1,h2,_⟩:=zao (zaq ha hb);have hm:=vV (List.mem_of_find?_eq_some h2)
 have he:=List.find?_some h2
 exact⟨hm.1,by omega,by simpa using he⟩
theorem GV {a b:Nat}(ha:a∈frS)(hb:b∈toS):bA X VD [AI a,AI b] h K=K (AS (eA a b)) h []:=zp7 a b (z7l ha) _ (zaq ha hb)
theorem z91 {n:Nat}(hn:n<16):bA X hJ [AI n] h K=K (AB true) h []:=by
 refine xA ?_;have h1:(0:Int)≤n:=by omega
 have h2:(n:Int)≤15:=by omega
 have h3:¬((n:Int)<0):=by omega
 have h4:¬((n:Int)>15):=by omega
 rw[zes rfl];simp only[dS,go_sem,GC,h3,h4]
theorem zp6 {a b:Nat}(ha:a<16)(hb:b<16):bA X VK [AI a,AI b] h K=K (.tup [AS (eA a b),AI 0]) h []:=by
 refine xA ?_;rw[zem rfl];simp only[WR,go_sem,z91 ha,z91 hb,z7E zax zaw a b ha hb]
theorem zai:(frS.all fun a=>toS.all fun b=>decide ((mC a (eA a b)).count 11=0)&&decide ((mC a (eA a b)).count 4=0))=true:=by kernel_rfl
theorem GP:PathOk eA where
 bits a ha b hb:=(SB ha hb).1
 len a ha b hb:=(SB ha hb).2.1
 ends a ha b hb:=(SB ha hb).2.2
 no11 a ha b hb:=by
  have:=List.all_eq_true.1 (List.all_eq_true.1 zai a ha) b hb;simp only[Bool.and_eq_true,decide_eq_true_eq]at this;exact this.1
 no4 a ha b hb:=by
  have:=List.all_eq_true.1 (List.all_eq_true.1 zai a ha) b hb;simp only[Bool.and_eq_true,decide_eq_true_eq]at this;exact this.2
end Go.Am
end
section
/- Lengths of numbers in bits,and comparisons of plain values. -/
open Go
namespace Go.Am
variable {h:aA} {K:kA}
set_option maxRecDepth 20000
theorem zq6 {l:List Int}:fH none (l.map eI):=fun x hx=>by obtain⟨n,_,rfl⟩:=List.mem_map.1 hx;rfl
end Go.Am
end
section
/- Lists of strings sorted,left out: printed by program. -/
open Go
set_option linter.unusedSimpArgs false
namespace Go.Am
attribute [-go_sem] PV.cells splice
variable {h:aA} {K:kA}
end Go.Am
end
section
/- Finding values in lists: printed by program. -/
open Go
set_option linter.unusedSimpArgs false
namespace Go.Am
attribute [-go_sem] PV.cells
variable {h:aA} {K:kA}
end Go.Am
end
section
/- Limits: what they are,what is wrong with them. -/
open Go
namespace Go.Am
variable {h:aA} {K:kA}
end Go.Am
end
section
/- What is wrong with limits,both ways: printed by program. -/
open Go
set_option linter.unusedSimpArgs false
namespace Go.Am
variable {h:aA} {K:kA}
end Go.Am
end
section
/- Package lot on measured values,and what the reference says of them. -/
open Go
namespace Go.Am
variable {h:aA} {K:kA}
structure Meas (l:List Int):Prop where
 len:l.length≤5000
 bd:∀n∈l,-100000≤n∧n≤100000
theorem Meas.sum {l:List Int}(hm:Meas l)(k:Nat) : -500000000≤(l.take k).sum∧(l.take k).sum≤500000000:=by
 have:=zrc hm.bd hm.len (by omega) k
 omega
end Go.Am
end
section
/- Records: what they are,what is wrong with them. -/
open Go
set_option linter.unusedSimpArgs false
namespace Go.Am
variable {h:aA} {K:kA}
theorem zpi {b:Nat}{P:kA}{vs:List AV}{h:aA}:wD true b P (some vs) h []=P (lB vs) (h.take (max b (lB vs).top)) []:=by
 simp [wD,EB,NB]
attribute [go_sem] zpi
structure Rec where
 unit:List UInt8
 time:Int
 site:List UInt8
 res:List Int
end Go.Am
end
section
/- What is drawn: numbers,measured values. -/
open Go
namespace Go.Am
variable {L:List Int} {a:Int}
theorem z7B (hp:aB 14 a)(u v:Int)(huv:u≤v)(hu : -1000000000000≤u)(hv:v≤1000000000000):∃k a2:Int,a≤a2∧a2≤a+2 ∧ -1099511627776≤k∧k≤1099511627776 ∧
 Gen GH [AI u,AI v] L a a2 (AI k):=by
 have w1:IntKind.i64.wrap (u-1)=u-1:=GA _ (by omega) (by omega)
 have w2:IntKind.i64.wrap (v+1)=v+1:=GA _ (by omega) (by omega)
 by_cases hf:CB L a 12=0
 ·have hm:=UU (L:=L) (a:=a+1) (l:=[u-1,v+1,u,v,-1099511627776,1099511627776]) (by simp) (by simp)
  simp only[List.mem_cons,List.not_mem_nil,or_false]at hm;refine⟨NC [u-1,v+1,u,v,-1099511627776,1099511627776] L (a+1),a+1+1,by omega,by omega,by omega,by omega,Gen.of fun h id hid=>?_⟩
  rw[z4M rfl];simp only[vN,go_sem,hid,rM hp,hf,w1,w2]
 ·have hm:=LP L (a+1) huv (by omega)
  refine⟨XD u v L (a+1),a+1+1,by omega,by omega,by omega,by omega,Gen.of fun h id hid=>?_⟩
  rw[z4M rfl];simp only[vN,go_sem,hid,rM hp,hf,w1,w2,huv,show -1152921504606846976≤u by omega,show v≤1152921504606846976 by omega]
end Go.Am
end
section
/- Strings that are drawn. -/
open Go
set_option linter.unusedSimpArgs false
namespace Go.Am
variable {L:List Int} {a:Int} {h l:aA} {id:Nat} {K:kA}
def isS:PV→Bool
 | .str _=>true
 | _=>false
def unS:PV→List UInt8
 | .str s=>s
 | _=>[]
def KD (l:List (List UInt8))(L:List Int)(a:Int):List UInt8:=l.getD (CB L a l.length).toNat []
theorem IP {l:List (List UInt8)}{L:List Int}{a:Int}(hl:0<l.length)(hl2:l.length<4611686018427387904):KD l L a∈l:=by
 obtain⟨b1,b2⟩:=vJ L a l.length (by omega) (by omega)
 unfold KD;have:(CB L a l.length).toNat<l.length:=by omega
 simp only[List.getD,List.getElem?_eq_getElem this,Option.getD_some];exact List.getElem_mem _
theorem zru {xs:List PV}(h:xs.all isS=true):xs=(xs.map unS).map PV.str:=by
 induction xs with
 | nil=>rfl
 | cons x r ih=>
  simp only[List.all_cons,Bool.and_eq_true]at h;simp only[List.map_cons];rw[←ih h.2];cases x <;> first|rfl|cases h.1
theorem z7D (hp:aB 0 a)(xs:List PV)(hx:xs.all isS=true)(hl:0<xs.length)(hl2:xs.length<4611686018427387904) :
 Gen DE [.p (.sl none xs)] L a (a+1) (AS (KD (xs.map unS) L a)):=by
 refine Gen.of fun h id hid=>?_
 rw[zd1 rfl];obtain⟨b1,b2⟩:=vJ L a xs.length (by omega) (by omega)
 have e4:=z0N (k:=.i64) b1
 have e5:xs[(CB L a xs.length).toNat]?=some (.str (KD (xs.map unS) L a)):=by
  have hm:=zru hx
  generalize hq:xs.map unS=q at *;subst hm;simp only[List.length_map]at *;rw[iC PV.str (show(CB L a q.length).toNat<q.length by omega)]
  simp [KD,List.getD,show(CB L a q.length).toNat<q.length by omega]
 simp only[gR,go_sem,JM hid hp,e4,e5]
theorem z9z (hid:id<h.length)(hp:aB 0 a){xs:List PV}(hx:xs.all isS=true)(hl:0<xs.length)(hl2:xs.length<4611686018427387904) :
 bA X DE [.ref id 0,.p (.sl none xs)] (h.set id (OA L a)) K=K (AS (KD (xs.map unS) L a)) (h.set id (OA L (a+1))) []:=(z7D hp xs hx hl hl2).set hid
theorem z9y (hid:id<h.length)(hp:aB 0 a){xs:List PV}(hx:xs.all isS=true)(hl:0<xs.length)(hl2:xs.length<4611686018427387904) :
 bA X DE [.ref id 0,.p (.sl none xs)] (h.set id (OA L a)++l) K=K (AS (KD (xs.map unS) L a)) (h.set id (OA L (a+1))++l) []:=(z7D hp xs hx hl hl2).app hid
attribute [go_sem ↓] z9z z9y
attribute [go_sem] z9z z9y isS unS
end Go.Am
end
section
/- What is drawn: strings,limits. -/
open Go
set_option linter.unusedSimpArgs false
namespace Go.Am
variable {L:List Int} {a:Int} {h l:aA} {id:Nat} {K:kA}
end Go.Am
end
section
/- Records: what is wrong with them,both ways. -/
open Go
set_option linter.unusedSimpArgs false
namespace Go.Am
variable {h:aA} {K:kA}
def orL:List Int→Int
 | []=>0
 | x::r=>if x≠0 then x else orL r
end Go.Am
end
section
/- Sorting records: printed by program. -/
open Go
set_option linter.unusedSimpArgs false
namespace Go.Am
attribute [-go_sem] PV.cells splice
variable {h:aA} {K:kA}
end Go.Am
end
section
/- Leaving out what is FQ: printed by program. -/
open Go
set_option linter.unusedSimpArgs false
namespace Go.Am
attribute [-go_sem] PV.cells splice
variable {h:aA} {K:kA}
end Go.Am
end
section
/- What is drawn: records. -/
open Go
set_option linter.unusedSimpArgs false
namespace Go.Am
variable {L:List Int} {a:Int} {h l:aA} {id:Nat} {K:kA}
theorem z5e {b:Nat}{x:Esc}(hx:∀ y∈x,b≤y.1):∀k,EB k x b=b:=by
 have hb:ED x b=b:=by
  unfold ED;induction x with
  | nil=>rfl
  | cons y r ih=>
   simp only[List.foldl_cons];rw[if_neg (by have:=hx y (by simp);omega)]
   exact ih (fun z hz=>hx z (by simp [hz]))
 intro k;induction k with
 | zero=>rfl
 | succ k ih=>unfold EB;rw[hb,ih]
theorem UM {b:Nat}{x0 x:Esc}{e:List (Nat × AV)}{h:aA}(hx:∀ y∈x,b≤y.1):pE b x0 ⟨e,h,x⟩=⟨EF b e,h.take b,x0⟩:=by
 unfold pE;simp only[z5e hx];have hc:NB x b=true:=by
  unfold NB;rw[List.all_eq_true];intro y hy;simp [hx y hy]
 have hf:x.filter (fun y=>decide (y.1<b))=[]:=by
  rw[List.filter_eq_nil_iff];intro y hy;have:=hx y hy;simp;omega
 rw[if_pos hc,hf,List.nil_append]
theorem zrr {b i t:Nat}{x0:Esc}{e:List (Nat × AV)}{h:aA}(hi:i<b):pE b x0 ⟨e,h,[(i,t)]⟩=⟨EF (max b t) e,h.take (max b t),(i,t)::x0⟩:=by
 unfold pE;have hb:EB [(i,t)].length [(i,t)] b=max b t:=by simp [EB,ED,hi]
 simp only[hb];have hc:NB [(i,t)] (max b t)=true:=by simp [NB];omega
 have hf:[(i,t)].filter (fun y=>decide (y.1<max b t))=[(i,t)]:=by simp;omega
 rw[if_pos hc,hf];rfl
end Go.Am
end
section
/- Merging two ordered lists: by sorting and leaving out what is FQ,and by looking each one up. Plain lists. -/
namespace Go.Am
variable {α:Type}
structure Ordr (c:α→α→Int):Prop where
 neg:∀a b,c b a = - c a b
 trans:∀a b d,c a b≤0→c b d≤0→c a d≤0
theorem Ordr.refl {c:α→α→Int}(o:Ordr c)(a:α):c a a=0:=by have:=o.neg a a;omega
variable {c:α→α→Int} {q:α→α→Bool} {a b:List α}
end Go.Am
end
section
/- Records FQ;copies;bins. -/
open Go
set_option linter.unusedSimpArgs false
namespace Go.Am
variable {h:aA} {K:kA}
def z3o (a b:Rec):Bool:=decide (a.unit=b.unit)&&(decide (a.time=b.time)&&(decide (a.site=b.site)&&decide (a.res=b.res)))
theorem zqk (a b:Rec):z3o a b=true↔a=b:=by
 cases a;cases b
 simp [z3o]
theorem zpj {b:Nat}{P:kA}{vs:List AV}{h:aA}{x:Esc}(hx:∀ y∈x,b≤y.1){v:AV}(h1:bB b h (lB vs)=some v)(h2:v.top≤b):wD false b P (some vs) h x=P v (h.take b) []:=by
 have e:max b v.top=b:=by omega
 have c:NB x b=true:=by
  unfold NB;rw[List.all_eq_true];intro y hy;simp [hx y hy]
 have f:x.filter (fun y=>decide (y.1<b))=[]:=by
  rw[List.filter_eq_nil_iff];intro y hy;have:=hx y hy;simp;omega
 simp only[wD,h1,e,z5e hx,c,if_true,f];exact propext ⟨fun h=>h.2,fun h=>⟨h2,h⟩⟩
theorem z9m (l:List Int)(hl:l.length≤1000):bA X EH [AL l] h K=K (AI (orL l)) h []:=by
 refine xA ?_;rw[zdm rfl];simp only[UQ,go_sem];refine jB (fun k:Nat=>⟨[(5,AL l),(6,AI l.length),(7,AI k)],h,[]⟩) (fun k=>k≤l.length∧orL (l.drop k)=orL l) (fun k=>l.length-k) 0 rfl ⟨by omega,rfl⟩ ?_
 rintro k ⟨hk,hp⟩
 rcases Nat.lt_or_ge k l.length with hlt|hge
 ·have g2:=iC eI hlt
  have w2:IntKind.i64.wrap ((k:Int)+1)=((k+1:Nat):Int):=GA _ (by omega) (by omega)
  rw[List.drop_eq_getElem_cons hlt,orL]at hp;by_cases hz:l[k]=0
  ·rw[if_neg (by simp [hz])]at hp
   simp only[go_sem,hlt,g2,hz,w2];exact⟨k+1,rfl,⟨by omega,hp⟩,by omega⟩
  ·rw[if_pos hz]at hp
   simp only[go_sem,hlt,g2,hz];rw[hp]
 ·have ek:k=l.length:=by omega
  subst ek;rw[List.drop_length]at hp;simp only[go_sem,Nat.lt_irrefl];rw[←hp];rfl
end Go.Am
end
section
/- Sorting numbers: printed by program. -/
open Go
set_option linter.unusedSimpArgs false
namespace Go.Am
attribute [-go_sem] PV.cells splice
variable {h:aA} {K:kA}
end Go.Am
end
section
/- Bins,both ways;lists joined;records sorted. -/
open Go
set_option linter.unusedSimpArgs false
namespace Go.Am
variable {h:aA} {K:kA}
end Go.Am
end
section
/- Lists of records joined,compared,merged. -/
open Go
set_option linter.unusedSimpArgs false
namespace Go.Am
variable {h:aA} {K:kA}
instance:DecidableEq Rec:=fun a b=>decidable_of_iff (z3o a b=true) (zqk a b)
end Go.Am
end
section
/- Records merged asv the reference does it. -/
open Go
set_option linter.unusedSimpArgs false
namespace Go.Am
variable {h:aA} {K:kA}
end Go.Am
end
section
/- Retests: which record of a unit counts. Plain lists;both ways yield the same. -/
set_option linter.all false
namespace Go.Am
end Go.Am
end
section
/- Lists of strings. -/
open Go
set_option linter.all false
namespace Go.Am
variable {h:aA} {K:kA}
end Go.Am
end
section
/- Tests and faults: what is wrong with them,both ways. -/
open Go
set_option linter.all false
namespace Go.Am
variable {h:aA} {K:kA}
theorem z3g (s cs:List UInt8)(hs:s.length≤1000000)(hc:cs.length≤1000)(ha:cs.all (fun b=>decide (b.toNat<128))=true):bA X gJ [AS s,AS cs] h K=K (AS (zF s cs)) h []:=by
 refine bT (X:=X) (by kernel_rfl) ?_
 first|rw[show X.ex2=RF GRL PRL from rfl]|skip
 show RF GRL PRL gJ [AS s,AS cs] h=some (AS (zF s cs),h,[])
 exact z0I (vs:=[.str s,.str cs]) (by kernel_rfl) (s:=trimS) (by kernel_rfl) rfl (by simp only[trimS];rw[if_pos ⟨hs,hc,ha⟩])
theorem RJ (s:List UInt8)(hs:s.length≤1000000):bA X CE [AS s] h K=K (AB (zA s)) h []:=by
 refine xA ?_;rw[zdl rfl];have e:=fun h K=>z3g (h:=h) (K:=K) s [48,49] hs (by simp) (by decide)
 have b:decide (zF s [48,49]=[])=zA s:=zae s
 simp only[TQ,go_sem,e,b]
theorem DV (s:List UInt8)(hs:s.length≤1000000):bA X MG [AS s] h K=K (AB (zA s)) h []:=by
 refine xA ?_;rw[zdG rfl];have e:=fun h K=>zpN (h:=h) (K:=K) s [48,49] (by omega)
 have b:(s.all fun c=>[48,49].contains c)=zA s:=rfl
 simp only[sR,go_sem,e,b]
end Go.Am
end
section
/- Faults: what is wrong with them,both ways. -/
open Go
set_option linter.all false
namespace Go.Am
variable {h:aA} {K:kA}
theorem zaT {v:AV}(l:List Int)(hv:Shows none v (l.map eI) h)(x:Int)(hl:l.length≤1000000):bA X RK [v,AI x] h K=K (AI (if l.findIdx (fun y=>decide (y=x))<l.length then(l.findIdx (fun y=>decide (y=x)):Int) else -1)) h []:=by
 refine xA ?_;rw[zea];have vl:=hv.len
 rw[List.length_map]at vl;simp only[MR,go_sem,vl];refine jB (fun k:Nat=>⟨[(0,v),(1,AI x),(7,AI l.length),(8,AI k)],h,[]⟩) (fun k=>k≤l.length∧∀y∈l.take k,decide (y=x)=false) (fun k=>l.length-k) 0 rfl (by simp) ?_
 rintro k ⟨hk,hn⟩
 rcases Nat.lt_or_ge k l.length with hlt|hge
 ·obtain⟨a,ha,hb⟩:=hv.get k (by simpa using hlt)
  rw[List.getElem_map]at hb;have w2:IntKind.i64.wrap ((k:Int)+1)=((k+1:Nat):Int):=GA _ (by omega) (by omega)
  by_cases hpk:x=l[k]
  ·have hf:l.findIdx (fun y=>decide (y=x))=k:=by
    rw[List.findIdx_eq hlt];refine⟨by simp [hpk],fun j hj=>?_⟩
    have:=hn l[j] (by rw[List.mem_take_iff_getElem];exact⟨j,by omega,rfl⟩)
    simpa using this
   simp only[go_sem,hlt,ha,hb,hpk.symm,w2];simp only[hf,hlt,if_true]
  ·simp only[go_sem,hlt,ha,hb,hpk,w2]
   refine⟨k+1,rfl,⟨by omega,fun y hy=>?_⟩,by omega⟩
   rw[List.take_succ_eq_append_getElem hlt,List.mem_append,List.mem_singleton]at hy;rcases hy with hy|hy
   ·exact hn y hy
   ·rw[hy];simp;exact fun e=>hpk e.symm
 ·have e1:k=l.length:=by omega
  subst e1;simp only[go_sem,Nat.lt_irrefl];rw[List.take_length]at hn;have:¬l.findIdx (fun y=>decide (y=x))<l.length:=by
   rw[Nat.not_lt,Nat.le_iff_lt_or_eq];right
   exact(List.findIdx_eq_length.2 (fun y hy=>by simp [hn y hy])).symm
  rw[if_neg this]
theorem zaE {v:AV}(l:List Int)(hv:∀ h':aA,h'=h→Shows none v (l.map eI) h')(x:Int)(hl:l.length≤1000000):bA X OG [v,AI x] h K=K (AB (l.contains x)) h []:=by
 refine xA ?_;rw[zdW];have e:=fun K=>zaT (h:=h) (K:=K) l (hv h rfl) x hl
 have hd:decide (0≤(if l.findIdx (fun y=>decide (y=x))<l.length then(l.findIdx (fun y=>decide (y=x)):Int) else -1))=l.contains x:=by
  rw[Bool.eq_iff_iff,decide_eq_true_eq,List.contains_iff_mem];constructor
  ·intro hq
   split at hq
   ·rename_i hlt
    have:=List.findIdx_getElem (w:=hlt);simp only[decide_eq_true_eq]at this;exact this ▸ List.getElem_mem hlt
   ·omega
  ·intro hm
   rw[if_pos (List.findIdx_lt_length_of_exists ⟨x,hm,by simp⟩)];omega
 simp only[HR,go_sem,e,hd]
theorem zp2 (l:List Int)(x:Int)(hl:l.length≤1000000):bA X OG [AL l,AI x] h K=K (AB (l.contains x)) h []:=zaE l (fun h' _=>XP zq6) x hl
end Go.Am
end
section
/- Commands: what is wrong with them,on both sides. -/
open Go
set_option linter.all false
namespace Go.Am
variable {h:aA} {K:kA}
abbrev dB (c:Cmd):PV:=.agg [.int .i64 c.k,.int .i64 c.s,.int .i64 c.cl,.str c.b,.str c.w,.str c.m]
abbrev ACm (c:Cmd):AV:=.p (dB c)
structure CmdOk (c:Cmd):Prop where
 b:c.b.length≤100000
 w:c.w.length≤100000
 m:c.m.length≤100000
theorem z3l (n:Int):bA X dL [AI n] h K=K (AB (MB n)) h []:=by
 refine xA ?_;rw[zeG rfl];unfold MB;by_cases h0:n=0
 ·subst h0;simp only[xH,go_sem]
 by_cases h1:n=1
 ·subst h1;simp only[xH,go_sem]
 by_cases h2:n=6
 ·subst h2;simp only[xH,go_sem]
 by_cases h3:n=13
 ·subst h3;simp only[xH,go_sem]
 have e:(n==0||n==1||n==6||n==13)=false:=by simp [h0,h1,h2,h3]
 rw[e];simp only[xH,go_sem,h0,h1,h2,h3]
theorem z97 (n:Int):bA X NK [AI n] h K=K (AB (MB n)) h []:=by
 refine xA ?_;rw[zdP rfl];have e:([0,1,6,13]:List Int).contains n=MB n:=by
  unfold MB;simp only[List.contains_cons,List.contains_nil,Bool.or_false,Bool.or_assoc]
 have k:∀(h':aA) (K':kA),bA X OG [.p (.sl none [eI 0,eI 1,eI 6,eI 13]),AI n] h' K'=K' (AB (([0,1,6,13]:List Int).contains n)) h' []:=fun h' K'=>zp2 (h:=h') (K:=K') [0,1,6,13] n (by decide)
 simp only[yR,go_sem,k,e]
theorem yF (n:Int):bA X nG [AI n] h K=K (AB (decide (n=7)||decide (n=8))) h []:=by
 refine xA ?_;rw[ze5 rfl];by_cases h0:n=7
 ·subst h0;simp only[xK,go_sem]
 by_cases h1:n=8
 ·subst h1;simp only[xK,go_sem]
 simp only[xK,go_sem,h0,h1]
theorem cH (n:Int):bA X jJ [AI n] h K=K (AB (decide (1≤n)&&decide (n≤6))) h []:=by
 refine xA ?_;rw[ze6 rfl];by_cases h0:n<1
 ·have:¬(1≤n):=by omega
  simp only[yK,go_sem,GC,h0,this]
 ·have:1≤n:=by omega
  by_cases h1:6<n
  ·have h2:¬(n≤6):=by omega
   simp only[yK,go_sem,GC,h0,this,h1,h2]
  ·have h2:n≤6:=by omega
   simp only[yK,go_sem,GC,h0,this,h1,h2]
theorem zpZ (c:Cmd)(hc:CmdOk c):bA X aL [ACm c] h K=K (AI (xC c:Nat)) h []:=by
 refine xA ?_;rw[zeD rfl];have b1:=hc.b;have b2:=hc.w;have b3:=hc.m
 have k1:=fun(h':aA) (K':kA)=>RJ (h:=h') (K:=K') c.b (show c.b.length≤1000000 by omega)
 have k2:=fun(h':aA) (K':kA)=>RJ (h:=h') (K:=K') c.w (show c.w.length≤1000000 by omega)
 have k3:=fun(h':aA) (K':kA)=>RJ (h:=h') (K:=K') c.m (show c.m.length≤1000000 by omega)
 obtain⟨k,s,cl,b,w,m⟩:=c;simp only at b1 b2 b3 k1 k2 k3;have h0:=k1;have h0':=k2;have h0'':=k3
 unfold xC;by_cases h1:b=[]
 ·simp only[zE,go_sem,h1]
 rcases hb:zA b with _|_
 ·simp only[zE,go_sem,h1,k1,hb]
 by_cases h2:2000<b.length
 ·have h2':(2000:Int)<(b.length:Int):=by omega
  simp only[zE,go_sem,h1,k1,hb,h2,h2']
 have h2':¬(2000:Int)<(b.length:Int):=by omega
 by_cases h3:w=[]
 ·subst h3
  have hbn:zA []=true:=rfl
  rcases hm:zA m with _|_
  ·simp only[zE,go_sem,h1,k1,hb,h2,h2',k2,hbn,k3,hm]
  ·by_cases h4:m=[]
   ·subst h4
    simp only[zE,go_sem,h1,k1,hb,h2,h2',k2,hbn]
   ·simp only[zE,go_sem,h1,k1,hb,h2,h2',k2,hbn,k3,hm,h4]
 by_cases h4:w.length=b.length
 ·have h4':(w.length:Int)=(b.length:Int):=by omega
  by_cases h5:m.length=b.length
  ·have h5':(m.length:Int)=(b.length:Int):=by omega
   rcases hw:zA w with _|_
   ·simp only[zE,go_sem,h1,k1,hb,h2',h3,h4',h5',k2,hw]
    simp [h1,hb,h2,h3,h4,h5,hw]
   ·rcases hm:zA m with _|_
    ·simp only[zE,go_sem,h1,k1,hb,h2',h3,h4',h5',k2,hw,k3,hm]
     simp [h1,hb,h2,h3,h4,h5,hw,hm]
    ·simp only[zE,go_sem,h1,k1,hb,h2',h3,h4',h5',k2,hw,k3,hm]
     simp [h1,hb,h2,h3,h4,h5,hw,hm]
  ·have h5':¬(m.length:Int)=(b.length:Int):=by omega
   simp only[zE,go_sem,h1,k1,hb,h2',h3,h4',h5'];simp [h1,hb,h2,h3,h4,h5]
 ·have h4':¬(w.length:Int)=(b.length:Int):=by omega
  simp only[zE,go_sem,h1,k1,hb,h2',h3,h4'];simp [h1,hb,h2,h3,h4]
theorem zqa (c:Cmd)(hc:CmdOk c):bA X MK [ACm c] h K=K (AI (xC c:Nat)) h []:=by
 refine xA ?_;rw[zdO rfl];have b1:=hc.b;have b2:=hc.w;have b3:=hc.m
 have k1:=fun(h':aA) (K':kA)=>DV (h:=h') (K:=K') c.b (show c.b.length≤1000000 by omega)
 have k2:=fun(h':aA) (K':kA)=>DV (h:=h') (K:=K') c.w (show c.w.length≤1000000 by omega)
 have k3:=fun(h':aA) (K':kA)=>DV (h:=h') (K:=K') c.m (show c.m.length≤1000000 by omega)
 obtain⟨k,s,cl,b,w,m⟩:=c;simp only at b1 b2 b3 k1 k2 k3;have h0:=k1;have h0':=k2;have h0'':=k3
 unfold xC;by_cases h1:b=[]
 ·simp only[vE,go_sem,h1]
 rcases hb:zA b with _|_
 ·simp only[vE,go_sem,h1,k1,hb]
 by_cases h2:2000<b.length
 ·have h2':(2000:Int)<(b.length:Int):=by omega
  simp only[vE,go_sem,h1,k1,hb,h2,h2']
 have h2':¬(2000:Int)<(b.length:Int):=by omega
 by_cases h3:w=[]
 ·subst h3
  have hbn:zA []=true:=rfl
  rcases hm:zA m with _|_
  ·simp only[vE,go_sem,h1,k1,hb,h2,h2',k2,hbn,k3,hm]
  ·by_cases h4:m=[]
   ·subst h4
    simp only[vE,go_sem,h1,k1,hb,h2,h2',k2,hbn]
   ·simp only[vE,go_sem,h1,k1,hb,h2,h2',k2,hbn,k3,hm,h4]
 by_cases h4:w.length=b.length
 ·have h4':(w.length:Int)=(b.length:Int):=by omega
  by_cases h5:m.length=b.length
  ·have h5':(m.length:Int)=(b.length:Int):=by omega
   rcases hw:zA w with _|_
   ·simp only[vE,go_sem,h1,k1,hb,h2',h3,h4',h5',k2,hw]
    simp [h1,hb,h2,h3,h4,h5,hw]
   ·rcases hm:zA m with _|_
    ·simp only[vE,go_sem,h1,k1,hb,h2',h3,h4',h5',k2,hw,k3,hm]
     simp [h1,hb,h2,h3,h4,h5,hw,hm]
    ·simp only[vE,go_sem,h1,k1,hb,h2',h3,h4',h5',k2,hw,k3,hm]
     simp [h1,hb,h2,h3,h4,h5,hw,hm]
  ·have h5':¬(m.length:Int)=(b.length:Int):=by omega
   simp only[vE,go_sem,h1,k1,hb,h2',h3,h4',h5'];simp [h1,hb,h2,h3,h4,h5]
 ·have h4':¬(w.length:Int)=(b.length:Int):=by omega
  simp only[vE,go_sem,h1,k1,hb,h2',h3,h4'];simp [h1,hb,h2,h3,h4]
end Go.Am
end
section
/- A command's fault on both sides. -/
open Go
set_option linter.all false
namespace Go.Am
variable {h:aA} {K:kA}
theorem eqs6 {k s cl k' s' cl':Int}{b w m b' w' m':List UInt8}:eqs [.int .i64 k,.int .i64 s,.int .i64 cl,.str b,.str w,.str m] [.int .i64 k',.int .i64 s',.int .i64 cl',.str b',.str w',.str m']=some (decide ((⟨k,s,cl,b,w,m⟩:Cmd)=⟨k',s',cl',b',w',m'⟩)):=by
 by_cases e1:k=k' <;> by_cases e2:s=s' <;> by_cases e3:cl=cl' <;> by_cases e4:b=b' <;> by_cases e5:w=w' <;> by_cases e6:m=m' <;> simp [eqs,PV.eq1,e1,e2,e3,e4,e5,e6]
def kL (c:Cmd):Nat:=
 if c.k=1∨c.k=2∨c.k=10 then(if !MB c.s then 1 else 0)
 else if c.k=9 then(if c.cl<0∨20000<c.cl then 1 else 0)
 else if c.k=7∨c.k=8 then xC c
 else(if !zA c.b then 9 else if 2000<c.b.length then 2 else 0)
def dN (c:Cmd):Cmd:=
 if c.k=1∨c.k=2∨c.k=10 then { c with s:=0 }
 else if c.k=9 then { c with cl:=0 }
 else if c.k=7∨c.k=8 then { c with b:=[],w:=[],m:=[] }
 else { c with b:=[] }
theorem zeX {c:Cmd}(h:1≤c.k∧c.k≤10):FA c=if kL c≠0 then kL c else if dN c=⟨c.k,0,0,[],[],[]⟩ then 0 else 3:=by
 obtain⟨k,s,cl,b,w,m⟩:=c;unfold FA kL dN;dsimp only at h ⊢;by_cases h1:k=1∨k=2∨k=10
 ·simp only[if_pos h1]
  rcases MB s with _|_ <;> simp [Cmd.mk.injEq]
 simp only[if_neg h1];by_cases h2:k=9
 ·simp only[if_pos h2]
  by_cases h3:cl<0∨20000<cl <;> simp [h3,Cmd.mk.injEq]
 simp only[if_neg h2];by_cases h3:k=7∨k=8
 ·simp only[if_pos h3]
  by_cases h4:xC ⟨k,s,cl,b,w,m⟩=0 <;> simp [h4,Cmd.mk.injEq]
 simp only[if_neg h3];rw[if_pos (by omega)]
 rcases zA b with _|_
 ·simp
 ·by_cases h4:2000<b.length <;> simp [h4,Cmd.mk.injEq]
theorem z5f {c:Cmd}(h:¬ (1≤c.k∧c.k≤10)):FA c=4:=by
 unfold FA;rw[if_neg (by omega),if_neg (by omega),if_neg (by omega),if_neg (by omega)]
theorem uD (n:Nat):n+1+1=n+2:=rfl
set_option maxHeartbeats 4000000 in
theorem zpM (c:Cmd)(hc:CmdOk c):bA X YK [ACm c] h K=K (.tup [ACm (dN c),AI (kL c:Nat)]) h []:=by
 refine xA ?_;rw[ze7 rfl];have b1:=hc.b;have b2:=hc.w;have b3:=hc.m
 have k1:=fun(h':aA) (K':kA)=>RJ (h:=h') (K:=K') c.b (show c.b.length≤1000000 by omega)
 have k2:=fun(h':aA) (K':kA)=>zpZ (h:=h') (K:=K') c hc
 obtain⟨k,s,cl,b,w,m⟩:=c;simp only at b1 b2 b3 k1 k2;unfold kL dN;dsimp only;by_cases h1:k=1
 ·rcases hs:MB s with _|_ <;> (simp only[yE,go_sem,uD,h1,z3l,hs];simp [h1,hs])
 by_cases h2:k=2
 ·rcases hs:MB s with _|_ <;> (simp only[yE,go_sem,uD,h1,h2,z3l,hs];simp [h1,h2,hs])
 by_cases h3:k=10
 ·rcases hs:MB s with _|_ <;> (simp only[yE,go_sem,uD,h1,h2,h3,z3l,hs];simp [h1,h2,h3,hs])
 by_cases h4:k=9
 ·by_cases g1:cl<0
  ·(simp only[yE,go_sem,uD,h1,h2,h3,h4,GC,g1];simp [h1,h2,h3,h4,g1])
  ·by_cases g2:20000<cl
   ·(simp only[yE,go_sem,uD,h1,h2,h3,h4,GC,g1,g2];simp [h1,h2,h3,h4,g1,g2])
   ·(simp only[yE,go_sem,uD,h1,h2,h3,h4,GC,g1,g2];simp [h1,h2,h3,h4,g1,g2])
 by_cases h5:k=7
 ·subst h5
  (simp only[yE,go_sem,uD,yF,k2];simp [uD])
 by_cases h6:k=8
 ·subst h6
  (simp only[yE,go_sem,uD,yF,k2];simp [uD])
 rcases hb:zA b with _|_
 ·(simp only[yE,go_sem,uD,h1,h2,h3,h4,h5,h6,yF,k1,hb];simp [h1,h2,h3,h4,h5,h6,hb])
 ·by_cases h7:2000<b.length
  ·have h7':(2000:Int)<(b.length:Int):=by omega
   (simp only[yE,go_sem,uD,h1,h2,h3,h4,h5,h6,yF,k1,hb,h7,h7'];simp [h1,h2,h3,h4,h5,h6,hb,h7])
  ·have h7':¬(2000:Int)<(b.length:Int):=by omega
   (simp only[yE,go_sem,uD,h1,h2,h3,h4,h5,h6,yF,k1,hb,h7,h7'];simp [h1,h2,h3,h4,h5,h6,hb,h7])
end Go.Am
end
section
/- Lists of faults: what is wrong with them,both ways. -/
open Go
set_option linter.all false
namespace Go.Am
variable {h:aA} {K:kA}
end Go.Am
end
section
/- Rows of a test asv numbers. -/
open Go
set_option linter.all false
namespace Go.Am
variable {h:aA} {K:kA}
end Go.Am
end
section
/- Faults on rows: what the program makes of them. -/
open Go
set_option linter.all false
namespace Go.Am
variable {h:aA} {K:kA}
end Go.Am
end
section
/- Rows that are handed tov a function: it sees their values. -/
open Go
namespace Go.Am
end Go.Am
end
section
/- Responses,asv the program computes them. -/
open Go
set_option linter.all false
namespace Go.Am
variable {h:aA} {K:kA}
end Go.Am
end
section
/- Sorting the middle of a row: printed by program. -/
open Go
set_option linter.unusedSimpArgs false
namespace Go.Am
attribute [-go_sem] PV.cells splice
variable {h:aA} {K:kA}
end Go.Am
end
section
/- What is drawn: orders,tests. -/
open Go
set_option linter.all false
namespace Go.Am
variable {L:List Int} {a:Int} {h l:aA} {id:Nat} {K:kA}
def GenK (f:Nat)(args:List AV)(L:List Int)(a:Int)(sh:Sh)(Q:List PV→Int→Prop):Prop:=∀(h:aA) (id:Nat),h[id]?=some (OA L a)→∃xs a2,Q xs a2∧∀K:kA,bA X f (.ref id 0::args) h K=K (.own h.length xs.length 0 xs.length) (h.set id (OA L a2)++[.row sh xs 0]) []
theorem GenK.of {f:Nat}{args:List AV}{L:List Int}{a:Int}{sh:Sh}{Q:List PV→Int→Prop}(H:∀ (h:aA) (id:Nat),id<h.length→bA X f (.ref id 0::args) (h.set id (OA L a)) fun v1 h1 x1=>∃ xs a2,Q xs a2∧v1 = .own h.length xs.length 0 xs.length∧h1=h.set id (OA L a2)++[.row sh xs 0]∧x1=[]):GenK f args L a sh Q:=by
 intro h id hh;have hid:=WG hh
 have k:=H h id hid
 rw[zq3 hh]at k;obtain⟨v,h',x,⟨xs,a2,q,e0,e1,e2⟩,r⟩:=bA.one z4j k;subst e0;subst e1;subst e2
 exact⟨xs,a2,q,r⟩
theorem EV (s:List UInt8)(c:Int)(h0:0≤c)(hc:s.length*c.toNat≤1000000)(h1:c≤1000000):bA X PB [AS s,AI c] h K=K (AS (gI s c.toNat)) h []:=by
 refine bT (X:=X) (by kernel_rfl) ?_
 first|rw[show X.ex2=RF GRL PRL from rfl]|skip
 show RF GRL PRL PB [AS s,AI c] h=some (AS (gI s c.toNat),h,[])
 exact z0I (vs:=[.str s,.int .i64 c]) (by kernel_rfl) (s:=DM) (by kernel_rfl) rfl (by simp only[DM];rw[if_pos ⟨h0,hc,h1⟩])
end Go.Am
end
section
/- The reference: what is expected,the part of a command. -/
open Go
set_option linter.all false
namespace Go.Am
variable {h:aA} {K:kA}
theorem OP (c:UInt8):∀n,gI [c] n=List.replicate n c
 | 0=>rfl
 | n+1=>by rw[gI,OP c n];rfl
theorem z3f (n:Int)(h0:0≤n)(h1:n≤1000000):bA X PB [AS [120],AI n] h K=K (AS (xsL n.toNat)) h []:=by
 rw[EV [120] n h0 (by simp;omega) h1,OP];rfl
theorem uG (n:Int)(h0:0≤n)(h1:n≤1000000):bA X PB [AS [48],AI n] h K=K (AS (zs n.toNat)) h []:=by
 rw[EV [48] n h0 (by simp;omega) h1,OP];rfl
def DC (c:Cmd)(i:Nat):List UInt8:=(List.range c.b.length).map fun j=>if j<i then VC c j else 120
theorem ziI (c:Cmd):DC c 0=xsL c.b.length:=by
 unfold DC xsL;apply List.ext_getElem
 ·simp
 ·intro i h1 h2;simp
theorem z0r (c:Cmd)(i:Nat):(DC c i).length=c.b.length:=by simp [DC]
theorem z0q (c:Cmd):DC c c.m.length=fC c:=by
 unfold DC fC;apply List.map_congr_left
 intro j _;split
 ·rfl
 ·rename_i h
  unfold VC;rw[List.getElem?_eq_none (by omega)];rfl
theorem ziK (c:Cmd)(i:Nat)(hi:i<c.b.length):DC c (i+1)=(DC c i).set i (VC c i):=by
 apply List.ext_getElem
 ·simp [DC]
 ·intro j h1 h2
  simp only[DC,List.length_map,List.length_range]at h1;rw[List.getElem_set];simp only[DC,List.getElem_map,List.getElem_range];by_cases hj:i=j
  ·subst hj;simp
  ·rw[if_neg hj]
   by_cases h3:j<i
   ·rw[if_pos h3,if_pos (by omega)]
   ·rw[if_neg h3,if_neg (by omega)]
theorem ziJ (c:Cmd)(i:Nat)(hn:c.m[i]?≠some 49):DC c (i+1)=DC c i:=by
 unfold DC;apply List.map_congr_left
 intro j _;by_cases hj:j=i
 ·subst hj
  simp [VC,hn]
 ·by_cases h3:j<i
  ·rw[if_pos h3,if_pos (by omega)]
  ·rw[if_neg h3,if_neg (by omega)]
theorem zpJ (c:Cmd)(hl:c.b.length≤100000)(hm:c.m.length≤c.b.length)(hw:c.m.length≤c.w.length):bA X KK [ACm c] h K=K (AS (fC c)) h []:=by
 refine xA ?_;rw[zdK rfl];have hmx:c.b.length≤NA:=by unfold NA;omega
 have hx:(xsL c.b.length).length=c.b.length:=by simp [xsL]
 have r1:=fun(h':aA) (K':kA)=>z3f (h:=h') (K:=K') (c.b.length:Int) (by omega) (by omega)
 simp only[Int.toNat_natCast]at r1;simp only[uR,go_sem,r1,hx,hmx];refine jB (fun i:Nat=>⟨[(1,.ref h.length 0),(3,.own (h.length+1) c.b.length 0 c.b.length),(12,AI c.m.length),(13,AI i)],h++[.box [AI c.k,AI c.s,AI c.cl,AS c.b,AS c.w,AS c.m],.row none (vA (DC c i)) 0],[]⟩) (fun i=>i≤c.m.length) (fun i=>c.m.length-i) 0 (by rw[ziI];rfl) (by omega) ?_
 intro i hi;have hbl:(vA (DC c i)).length=c.b.length:=by simp [vA,z0r]
 rcases Nat.lt_or_ge i c.m.length with hlt|hge
 ·have hlt':(i:Int)<(c.m.length:Int):=by omega
  have hg:c.m[i]?=some c.m[i]:=List.getElem?_eq_getElem hlt
  have hgw:c.w[i]?=some (c.w[i]'(by omega)):=List.getElem?_eq_getElem (by omega)
  have w2:IntKind.i64.wrap ((i:Int)+1)=((i+1:Nat):Int):=GA _ (by omega) (by omega)
  by_cases h49:c.m[i]=49
  ·have hb':i<c.b.length:=by omega
   have hgb:(vA (DC c i))[i]?=some (.int .u8 ((DC c i)[i]'(by rw[z0r];omega)).toNat):=by
    unfold vA;rw[List.getElem?_map,List.getElem?_eq_getElem (by rw[z0r];omega)];rfl
   have t1:=fun(y:Int) (h1:aA)=>zq5 (sh:=none) (x:=.int .u8 ((c.w[i]'(by omega)).toNat:Int)) (y:=.int .u8 y) rfl rfl (h.length+1) i 0 (vA (DC c i)) h1
   have e49:((49:UInt8).toNat:Int)=49:=rfl
   simp only[go_sem,hlt,hlt',hg,h49,w2,hgw,hbl,hb',hgb,t1,e49];refine⟨i+1,?_,by omega,by omega⟩
   have e1:VC c i=c.w[i]'(by omega):=by unfold VC;rw[hg,h49,hgw];rfl
   have e2:vA (DC c (i+1))=(vA (DC c i)).set i (.int .u8 ((c.w[i]'(by omega)).toNat:Int)):=by
    rw[ziK c i hb',e1];unfold vA;rw[List.map_set]
   rw[e2]
  ·have h49':¬((c.m[i].toNat:Int)=49):=fun e=>h49 (UInt8.toNat_inj.1 (by rw[show(49:UInt8).toNat=49 from rfl];omega))
   simp only[go_sem,hlt,hlt',hg,h49',w2];refine⟨i+1,?_,by omega,by omega⟩
   rw[ziJ c i (by rw[hg];exact fun e=>h49 (Option.some.inj e))]
 ·obtain rfl:i=c.m.length:=by omega
  have hw0:win (vA (DC c c.m.length)) 0 c.b.length=vA (DC c c.m.length):=by
   unfold win;rw[List.drop_zero];exact List.take_of_length_le (by omega)
  have hbe:(vA (fC c)).length=c.b.length:=by rw[←z0q];exact hbl
  have hwe:win (vA (fC c)) 0 c.b.length=vA (fC c):=by rw[←z0q];exact hw0
  simp only[go_sem,Nat.lt_irrefl,Int.lt_irrefl,hbl,hw0,VJ,z0q,hbe,hwe]
abbrev WD (p:Part):PV:=.agg [.str p.tms,.str p.tdi,.str p.want,.int .i64 (p.fr:Int),.int .i64 (p.st:Int)]
theorem zk8 (l:List Cmd)(k:Int):OH (l.map dB) k=dB (mA l k):=by
 unfold OH mA;rw[←List.map_reverse,List.find?_map];have:((fun c=>PQ c==k) ∘ dB)=fun c:Cmd=>c.k==k:=rfl
 rw[this];cases (l.reverse.find? fun c=>c.k==k) with
 | none=>rfl
 | some c=>rfl
theorem zjH (l:List Cmd):(l.map dB).all qJ=true:=by
 rw[List.all_map];exact List.all_eq_true.2 fun x _=>rfl
abbrev ACs (l:List Cmd):AV:=.p (.sl (some 6) (l.map dB))
theorem z3k (l:List Cmd)(i:Nat)(k:Int)(hi:i≤l.length)(hl:l.length≤1000000):bA X NG [ACs l,AI i,AI k] h K=K (ACm (mA (l.take i) k)) h []:=by
 have e:MM [.sl (some 6) (l.map dB),.int .i64 (i:Int),.int .i64 k]=some (ACm (mA (l.take i) k)):=by
  show(if 0≤(i:Int)∧(i:Int)≤((l.map dB).length:Int)∧(l.map dB).length≤1000000∧(l.map dB).all qJ=true then some (AV.p (OH ((l.map dB).take (i:Int).toNat) k)) else none)=_
  rw[if_pos ⟨by omega,by simp;omega,by simpa using hl,zjH l⟩,Int.toNat_natCast,←List.map_take,zk8]
 refine bT (X:=X) (by kernel_rfl) ?_
 first|rw[show X.ex2=RF GRL PRL from rfl]|skip
 exact z0I (vs:=[.sl (some 6) (l.map dB),.int .i64 (i:Int),.int .i64 k]) (by kernel_rfl) (s:=MM) (by kernel_rfl) rfl e
structure SetOk (pre:List Cmd):Prop where
 s1:MB (mA pre 1).s=true
 s2:MB (mA pre 2).s=true
 b1:∀k,3≤k→k≤6→zA (mA pre k).b=true∧(mA pre k).b.length≤2000
attribute [-go_sem] SA EG
variable {Kx:Ex→St→Prop}
theorem pk3 {T D W:List UInt8}{fr st:Int}{z1 z2 z3 z4 z5 c1 c2 c3 c4 c5 c6:AV}(hD:D.length≤T.length)(hW:W.length≤T.length)(hT:T.length≤1000000) :
 EG (bA X) X.gl (.ref h.length 0) (.ref (h.length+2) 0) (h++[.box [z1,z2,z3,z4,z5],.box [c1,c2,c3,c4,c5,c6],.box [AS T,AS D,AS W,AI fr,AI st]]) [] Kx =
  Kx .ret ⟨[(6,.ref h.length 0)],h++[.box [AS T,AS (D++zs (T.length-D.length)),AS (W++xsL (T.length-W.length)),AI fr,AI st],.box [c1,c2,c3,c4,c5,c6],.box [AS T,AS (D++zs (T.length-D.length)),AS (W++xsL (T.length-W.length)),AI fr,AI st]],[]⟩:=by
 have hz:∀n,(zs n).length=n:=fun n=>by simp [zs]
 have hx:∀n,(xsL n).length=n:=fun n=>by simp [xsL]
 have w3:IntKind.i64.wrap ((T.length:Int)-(D.length:Int))=((T.length-D.length:Nat):Int):=by
  rw[show(T.length:Int)-(D.length:Int)=((T.length-D.length:Nat):Int) by omega];exact GA _ (by omega) (by omega)
 have w4:IntKind.i64.wrap ((T.length:Int)-(W.length:Int))=((T.length-W.length:Nat):Int):=by
  rw[show(T.length:Int)-(W.length:Int)=((T.length-W.length:Nat):Int) by omega];exact GA _ (by omega) (by omega)
 have r4:=fun(h':aA) (K':kA)=>uG (h:=h') (K:=K') ((T.length-D.length:Nat):Int) (by omega) (by omega)
 have r5:=fun(h':aA) (K':kA)=>z3f (h:=h') (K:=K') ((T.length-W.length:Nat):Int) (by omega) (by omega)
 simp only[Int.toNat_natCast]at r4 r5;have lD2:D.length+(zs (T.length-D.length)).length≤PA:=by rw[hz];unfold PA;omega
 have lW2:W.length+(xsL (T.length-W.length)).length≤PA:=by rw[hx];unfold PA;omega
 generalize zs (T.length-D.length)=Z at r4 lD2 ⊢;generalize xsL (T.length-W.length)=Z2 at r5 lW2 ⊢;simp only[EG,go_sem,splice,w3,w4,r4,r5,lD2,lW2]
set_option maxHeartbeats 4000000 in
theorem zpP (l:List Cmd)(i:Nat)(c:Cmd)(hi:l[i]?=some c)(h10:c.k=10)(hs:MB c.s=true)(state:Nat)(hst:state∈stb) :
 bA X kG [ACs l,AI i,AI state] h K=K (.p (WD (nA eA (l.take i) c state))) h []:=by
 refine xA ?_;rw[gN rfl];obtain⟨n1,n2⟩:=AC hs;have hg:(l.map dB)[i]?=some (dB c):=by rw[List.getElem?_map,hi];rfl
 have hilt:i<l.length:=by
  rcases Nat.lt_or_ge i l.length with h|h
  ·exact h
  ·rw[List.getElem?_eq_none h]at hi;cases hi
 rw[XH eA h10];obtain⟨k,s,cl,b,w,m⟩:=c;dsimp only at h10 hs n1 n2 hg ⊢;obtain⟨n,rfl⟩:∃n:Nat,s=n:=⟨s.toNat,n2.symm⟩;simp only[Int.toNat_natCast]at n1 ⊢;have p1:=fun(h':aA) (K':kA)=>GV (h:=h') (K:=K') (TB hst) (iD n1)
 have pl:=(SB (TB hst) (iD n1)).2.1
 subst h10;generalize eA state n=w at p1 pl ⊢;have e1:WD ⟨w,zs w.length,xsL w.length,0,n⟩=WD (IB ⟨w,[],[],0,n⟩):=by rw[z86]
 rw[e1];unfold IB WD;dsimp only;have P3:=fun(z1 z2 z3 z4 z5 c1 c2 c3 c4 c5 c6:AV) (Kx:Ex→St→Prop)=>pk3 (h:=h) (Kx:=Kx) (T:=w) (D:=[]) (W:=[]) (fr:=0) (st:=n) (z1:=z1) (z2:=z2) (z3:=z3) (z4:=z4) (z5:=z5) (c1:=c1) (c2:=c2) (c3:=c3) (c4:=c4) (c5:=c5) (c6:=c6) (Nat.zero_le _) (Nat.zero_le _) (by omega)
 simp only[uH,go_sem,uD,hg,hilt,p1,P3]
end Go.Am
end
section
/- A new chain: the program. -/
open Go
set_option linter.all false
set_option maxRecDepth 100000
namespace Go.Am
variable {h:aA} {K:kA}
attribute [-go_sem] SA XB rC
structure PortS where
 d:TDev
 p:JC
 mi:SM
 mo:SM
def dvH (b:Nat):List PortS→List Obj
 | []=>[]
 | q::r=>.box (OB q.d)::RA PV.str uB q.mi::RA PV.str uB q.mo :: .box (jC q.d q.p (b+1) (b+2))::dvH (b+4) r
theorem KF:∀ (l:List PortS) (b:Nat),(dvH b l).length=4*l.length
 | [],_=>rfl
 | q::r,b=>by simp only[dvH,List.length_cons,KF r];omega
theorem z5B (q:PortS):∀(l:List PortS) (b:Nat),dvH b (l++[q])=dvH b l++[.box (OB q.d),RA PV.str uB q.mi,RA PV.str uB q.mo,.box (jC q.d q.p (b+4*l.length+1) (b+4*l.length+2))]
 | [],b=>rfl
 | a::r,b=>by
  have e:b+4+4*r.length=b+4*(a::r).length:=by simp only[List.length_cons];omega
  simp only[List.cons_append,dvH,z5B q r (b+4),e]
theorem z58 {q:PortS}:∀{l:List PortS} {b i:Nat},l[i]?=some q→(dvH b l)[4*i+3]?=some (.box (jC q.d q.p (b+4*i+1) (b+4*i+2)))
 | [],b,i,h=>by simp at h
 | a::r,b,0,h=>by simp at h;subst h;rfl
 | a::r,b,i+1,h=>by
  have e1:4*(i+1)+3=(4*i+3)+4:=by omega
  have e2:b+4*(i+1)=b+4+4*i:=by omega
  rw[e1,e2];exact z58 (l:=r) (b:=b+4) (i:=i) (by simpa using h)
theorem z56 {q:PortS}:∀{l:List PortS} {b i:Nat},l[i]?=some q→(dvH b l)[4*i+1]?=some (RA PV.str uB q.mi)
 | [],b,i,h=>by simp at h
 | a::r,b,0,h=>by simp at h;subst h;rfl
 | a::r,b,i+1,h=>by
  have e1:4*(i+1)+1=(4*i+1)+4:=by omega
  rw[e1];exact z56 (l:=r) (b:=b+4) (i:=i) (by simpa using h)
theorem z57 {q:PortS}:∀{l:List PortS} {b i:Nat},l[i]?=some q→(dvH b l)[4*i+2]?=some (RA PV.str uB q.mo)
 | [],b,i,h=>by simp at h
 | a::r,b,0,h=>by simp at h;subst h;rfl
 | a::r,b,i+1,h=>by
  have e1:4*(i+1)+2=(4*i+2)+4:=by omega
  rw[e1];exact z57 (l:=r) (b:=b+4) (i:=i) (by simpa using h)
theorem z5A {q:PortS}{p:JC}:∀{l:List PortS} {b i:Nat},l[i]?=some q→(dvH b l).set (4*i+3) (.box (jC q.d p (b+4*i+1) (b+4*i+2)))=dvH b (l.set i { q with p:=p })
 | [],b,i,h=>by simp at h
 | a::r,b,0,h=>by simp at h;subst h;rfl
 | a::r,b,i+1,h=>by
  have e1:4*(i+1)+3=(4*i+3)+4:=by omega
  have e2:b+4*(i+1)=b+4+4*i:=by omega
  rw[e1,e2];have:=z5A (p:=p) (l:=r) (b:=b+4) (i:=i) (by simpa using h)
  simp only[dvH,List.set_cons_succ,this]
theorem z59 {q:PortS}{m:SM}:∀{l:List PortS} {b i:Nat},l[i]?=some q→(dvH b l).set (4*i+2) (RA PV.str uB m)=dvH b (l.set i { q with mo:=m })
 | [],b,i,h=>by simp at h
 | a::r,b,0,h=>by simp at h;subst h;rfl
 | a::r,b,i+1,h=>by
  have e1:4*(i+1)+2=(4*i+2)+4:=by omega
  rw[e1];have:=z59 (m:=m) (l:=r) (b:=b+4) (i:=i) (by simpa using h)
  simp only[dvH,List.set_cons_succ,this]
def vD (b n:Nat):List AV:=(List.range n).map fun i=>.ref (b+4*i+3) 0
theorem z8K {b n:Nat}:(vD b n).length=n:=by simp [vD]
theorem zoP {b n:Nat}:vD b (n+1)=vD b n++[.ref (b+4*n+3) 0]:=by simp [vD,List.range_succ]
theorem zoO {b n i:Nat}(hi:i<n):(vD b n)[i]?=some (.ref (b+4*i+3) 0):=by simp [vD,hi]
def CH (h:aA)(st:Int)(l:List PortS)(t:aA):aA:=h++(.arow none (vD (h.length+2) l.length) :: .box [AI st,.bt 3 0 h.length l.length]::(dvH (h.length+2) l++t))
def sD (d:TDev):List TReg→SM→SM
 | [],m=>m
 | r::rs,m=>sD d rs (GB r.name (zs r.long.toNat) m)
theorem VS {k j:List UInt8}{v:List UInt8}:∀(m:SM),oB j (GB k v m)=if j=k then some v else oB j m
 | []=>by
  unfold GB oB;by_cases h:j=k
  ·simp [h]
  ·simp [h,oB]
 | e::r=>by
  unfold GB;by_cases h1:k=e.1
  ·rw[if_pos h1]
   unfold oB;by_cases h2:j=k
   ·simp [h2]
   ·have:¬j=e.1:=fun q=>h2 (by rw[q,h1])
    simp [h2,this]
  ·rw[if_neg h1]
   unfold oB;by_cases h2:j=e.1
   ·have:¬j=k:=fun q=>h1 (by rw[←q,h2])
    simp [h2,this];intro q;exact absurd q.symm h1
   ·rw[if_neg h2,if_neg h2]
    exact VS r
theorem z7Q (d:TDev):∀(rs:List TReg) (m:SM) (k:List UInt8),(∀r∈rs,r.name≠k)→oB k (sD d rs m)=oB k m
 | [],m,k,_=>rfl
 | r::rs,m,k,h=>by
  unfold sD;rw[z7Q d rs _ k fun x hx=>h x (List.mem_cons_of_mem _ hx),VS,if_neg fun e=>h r List.mem_cons_self e.symm]
theorem z7R (d:TDev):∀(rs:List TReg) (m:SM),(rs.map TReg.name).Nodup→∀r∈rs,oB r.name (sD d rs m)=some (zs r.long.toNat)
 | [],m,_,r,hr=>by cases hr
 | a::rs,m,h,r,hr=>by
  rw[List.map_cons,List.nodup_cons]at h;unfold sD;rcases List.mem_cons.1 hr with e|e
  ·subst e
   rw[z7Q d rs _ r.name fun x hx e=>h.1 (e ▸ List.mem_map_of_mem hx),VS,if_pos rfl]
  ·exact z7R d rs _ h.2 r e
def vF (d:TDev):PortS:=⟨d,([],[48]),sD d d.regs [],sD d d.regs []⟩
def KG (h:aA):Nat→Esc
 | 0=>[]
 | n+1=>(h.length,h.length+(2+4*(n+1)))::KG h n
end Go.Am
end
section
/- What a scope leaves behind when rows made in it are named by one map. -/
open Go
set_option linter.all false
namespace Go.Am
theorem z4J (mid:Nat):∀(X:Esc) (m:Nat),(∀y∈X,y.1=mid)→mid<m→m≤ED X m∧(∀y∈X,y.2≤ED X m)∧∀B,m≤B→(∀y∈X,y.2≤B)→ED X m≤B
 | [],m,_,_=>⟨Nat.le_refl _,fun _ h=>(by cases h),fun B h _=>h⟩
 | y::r,m,hX,hm=>by
  have e:ED (y::r) m=ED r (max m y.2):=by
   unfold ED;rw[List.foldl_cons,if_pos (by rw[hX y (by simp)];exact hm)]
  obtain⟨h1,h2,h3⟩:=z4J mid r (max m y.2) (fun z hz=>hX z (by simp [hz])) (by omega)
  rw[e];refine⟨by omega,fun z hz=>?_,fun B hB hy=>h3 B (by have:=hy y (by simp);omega) fun z hz=>hy z (by simp [hz])⟩
  rcases List.mem_cons.1 hz with e|hz
  ·rw[e];omega
  ·exact h2 z hz
theorem z5d (mid:Nat):∀(k:Nat) (X:Esc) (m:Nat),(∀y∈X,y.1=mid)→mid<m→m≤EB k X m∧(k≠0→∀y∈X,y.2≤EB k X m)∧∀B,m≤B→(∀y∈X,y.2≤B)→EB k X m≤B
 | 0,X,m,_,_=>⟨Nat.le_refl _,fun h=>absurd rfl h,fun B h _=>h⟩
 | k+1,X,m,hX,hm=>by
  obtain⟨b1,b2,b3⟩:=z4J mid X m hX hm;obtain⟨c1,_,c3⟩:=z5d mid k X (ED X m) hX (by omega)
  show m≤EB k X (ED X m)∧(_→∀y∈X,y.2≤EB k X (ED X m))∧∀B,m≤B→(∀y∈X,y.2≤B)→EB k X (ED X m)≤B
  exact⟨by omega,fun _ y hy=>by have:=b2 y hy;omega,fun B hB hy=>c3 B (b3 B hB hy) hy⟩
theorem zeU {X:Esc}{mid b L:Nat}(hX:∀ y∈X,y.1=mid∧y.2≤L)(hm:mid<b)(hb:b≤L):∃n,EB X.length X b=n∧b≤n∧n≤L∧(∀y∈X,y.2≤n)∧NB X n=true∧X.filter (fun y=>decide (y.1<n))=X:=by
 obtain⟨c1,c2,c3⟩:=z5d mid X.length X b (fun y hy=>(hX y hy).1) hm
 have c3':=c3 L hb fun y hy=>(hX y hy).2
 have c2':∀y∈X,y.2≤EB X.length X b:=by
  cases X with
  | nil=>intro y hy;cases hy
  | cons z r=>exact c2 (by simp)
 refine⟨_,rfl,c1,c3',c2',?_,?_⟩
 ·unfold NB
  rw[List.all_eq_true];intro y hy;have:=c2' y hy;simp [this]
 ·rw[List.filter_eq_self]
  intro y hy;have:=(hX y hy).1;simp only[decide_eq_true_eq];omega
end Go.Am
end
section
/- A new chain: the program,walked. -/
open Go
set_option linter.all false
set_option maxRecDepth 100000
namespace Go.Am
variable {h:aA} {K:kA}
attribute [-go_sem] SA XB rC
theorem uI {st:Int}{l:List PortS}{t:aA}:(CH h st l t).length=h.length+(2+4*l.length)+t.length:=by
 unfold CH;simp only[List.length_append,List.length_cons,KF];omega
theorem XV {st:Int}{l:List PortS}{t u:aA}:CH h st l t++u=CH h st l (t++u):=by unfold CH;simp
theorem CH_0 {st:Int}{l:List PortS}{t:aA}:(CH h st l t)[h.length]?=some (.arow none (vD (h.length+2) l.length)):=by unfold CH;rw[z40];rfl
theorem CH_1 {st:Int}{l:List PortS}{t:aA}:(CH h st l t)[h.length+1]?=some (.box [AI st,.bt 3 0 h.length l.length]):=by unfold CH;rw[PD];rfl
theorem CH_t {st:Int}{l:List PortS}{t:aA}{n:Nat}:(CH h st l t)[h.length+(2+4*l.length)+n]?=t[n]?:=by
 unfold CH;have e:h.length+(2+4*l.length)+n=h.length+(2+(4*l.length+n)):=by omega
 rw[e,PD];have e2:2+(4*l.length+n)=(4*l.length+n)+1+1:=by omega
 rw[e2,List.getElem?_cons_succ,List.getElem?_cons_succ];have:=PD (dvH (h.length+2) l) t n;rw[KF]at this;exact this
theorem YV {st:Int}{l:List PortS}{t:aA}{n:Nat}{o:Obj}:(CH h st l t).set (h.length+(2+4*l.length)+n) o=CH h st l (t.set n o):=by
 unfold CH;have e:h.length+(2+4*l.length)+n=h.length+(2+(4*l.length+n)):=by omega
 rw[e,cG];have e2:2+(4*l.length+n)=(4*l.length+n)+1+1:=by omega
 rw[e2,List.set_cons_succ,List.set_cons_succ];have:=cG (dvH (h.length+2) l) t n o;rw[KF]at this;rw[this]
theorem z3M {st:Int}{l:List PortS}{t:aA}{n:Nat}:(CH h st l t).take (h.length+(2+4*l.length)+n)=CH h st l (t.take n):=by
 unfold CH;have e:h.length+(2+4*l.length)+n=h.length+(2+(4*l.length+n)):=by omega
 rw[e,BI];have e2:2+(4*l.length+n)=(4*l.length+n)+1+1:=by omega
 rw[e2,List.take_succ_cons,List.take_succ_cons];have:=BI (dvH (h.length+2) l) t n;rw[KF]at this;rw[this]
theorem zry {k v:List UInt8}:∀(m:SM),(oB k (GB k v m)).getD []=v:=fun m=>by rw[VS,if_pos rfl];rfl
attribute [-go_sem] YN wH
theorem zlu {g:aA}{d:TDev}{pid mi mo:Nat}(D:DevOk d)(k:Nat)(m:SM)(hk:k<d.regs.length)
 (h1:g[pid]?=some (.box (jC d ([],[48]) mi mo))) (h2:g[mi]?=some (RA PV.str uB m)) (h3:g[mo]?=some (RA PV.str uB m)) (hne:mi≠mo) (hn1:pid≠mi) (hn2:pid≠mo) {v5 v18 v19 v20:AV} {x:Esc} {Kx:Ex→St→Prop} :
 (wH (bA X) X.gl [(5,v5),(8,.ref pid 0),(18,v18),(19,v19),(20,v20),(38,.p (.sl (some 2) (d.regs.map DA))),(39,AI d.regs.length),(40,AI k)] g x Kx).1 =
  Kx .normal ⟨[(5,v5),(8,.ref pid 0),(18,v18),(19,v19),(20,v20),(38,.p (.sl (some 2) (d.regs.map DA))),(39,AI d.regs.length),(40,AI ((k+1:Nat):Int))],((g.set mi (RA PV.str uB (GB d.regs[k].name (zs d.regs[k].long.toNat) m))).set mo (RA PV.str uB (GB d.regs[k].name (zs d.regs[k].long.toNat) m)))++[.box [AS d.regs[k].name,AI d.regs[k].long]],x⟩:=by
 have hg:=iC DA hk
 have w2:IntKind.i64.wrap ((k:Int)+1)=((k+1:Nat):Int):=GA _ (by have:=D.rn;omega) (by have:=D.rn;omega)
 have hrl:=D.rl _ (List.getElem_mem hk)
 have cx:nB (some 2) 0 (DA d.regs[k])=some (DA d.regs[k]):=rfl
 have fp:∀y:TReg,DA y = .agg [.str y.name,eI y.long]:=fun _=>rfl
 have hlt:(k:Int)<(d.regs.length:Int):=by omega
 generalize d.regs[k]=r at *;rw[fp]at hg cx;have lp:pid<g.length:=by rcases Nat.lt_or_ge pid g.length with q|q;exact q;rw[List.getElem?_eq_none q]at h1;cases h1
 have li:mi<g.length:=by rcases Nat.lt_or_ge mi g.length with q|q;exact q;rw[List.getElem?_eq_none q]at h2;cases h2
 have lo:mo<g.length:=by rcases Nat.lt_or_ge mo g.length with q|q;exact q;rw[List.getElem?_eq_none q]at h3;cases h3
 have a1:∀l:aA,(g++l)[pid]?=some (.box (jC d ([],[48]) mi mo)):=fun l=>by rw[List.getElem?_append_left lp];exact h1
 have rz:=fun h K=>uG (h:=h) (K:=K) r.long (by omega) (by omega)
 generalize hz:zs r.long.toNat=z at *;have hm1:∀l:aA,rC (none,[2]) (.mp mi) (AS r.name) (AS z) (g++l)=some (.und,(g.set mi (RA PV.str uB (GB r.name z m)))++l,[]):=fun l=>by
  rw[z36 (by rw[List.getElem?_append_left li];exact h2),List.set_append_left _ _ li]
 have b1:∀l:aA,(g.set mi (RA PV.str uB (GB r.name z m))++l)[pid]?=some (.box (jC d ([],[48]) mi mo)):=fun l=>by
  rw[List.getElem?_append_left (by simpa using lp),List.getElem?_set_ne (Ne.symm hn1)];exact h1
 have lk:∀l:aA,XB (none,[2]) false (.p (.str [])) (.mp mi) (AS r.name) (g.set mi (RA PV.str uB (GB r.name z m))++l)=some (AS z):=fun l=>by
  rw[z8h (m:=GB r.name z m) (by rw[List.getElem?_append_left (by simpa using li),List.getElem?_set_self li]),zry]
 have hm2:∀l:aA,rC (none,[2]) (.mp mo) (AS r.name) (AS z) (g.set mi (RA PV.str uB (GB r.name z m))++l)=some (.und,((g.set mi (RA PV.str uB (GB r.name z m))).set mo (RA PV.str uB (GB r.name z m)))++l,[]):=fun l=>by
  rw[z36 (m:=m) (by rw[List.getElem?_append_left (by simpa using lo),List.getElem?_set_ne hne];exact h3),List.set_append_left _ _ (by simpa using lo)]
 have p7:∀y:JC,ldB none 7 (some (.box (jC d y mi mo)))=some (.mp mi):=fun _=>rfl
 have p8:∀y:JC,ldB none 8 (some (.box (jC d y mi mo)))=some (.mp mo):=fun _=>rfl
 have i1:mi≠g.length:=by omega
 have i2:mo≠g.length:=by omega
 simp only[wH,go_sem,hlt,hg,cx,fp,w2,a1,p7,p8,↓rz,rz,hm1,b1,lk,hm2,splice]
end Go.Am
end
section
/- A new chain: the program,walked tov its end. -/
open Go
set_option linter.all false
set_option maxRecDepth 100000
namespace Go.Am
variable {h:aA} {K:kA}
attribute [-go_sem] SA XB rC
attribute [-go_sem] YN wH ZZ CN z0a DN DS sK z0b EN
def BB (ds:List TDev)(k:Nat):List PortS:=(ds.take k).map vF
theorem z8v {ds:List TDev}{k:Nat}(hk:k≤ds.length):(BB ds k).length=k:=by simp [BB];omega
theorem zlq {ds:List TDev}{k:Nat}(hk:k<ds.length):BB ds (k+1)=BB ds k++[vF ds[k]]:=by
 unfold BB;rw[List.take_succ_eq_append_getElem hk,List.map_append];rfl
theorem zaB {st:Int}{l:List PortS}{q:PortS}:CH h st (l++[q]) []=h++(.arow none (vD (h.length+2) (l.length+1)) :: .box [AI st,.bt 3 0 h.length (l.length+1)]::(dvH (h.length+2) l++[.box (OB q.d),RA PV.str uB q.mi,RA PV.str uB q.mo,.box (jC q.d q.p (h.length+2+4*l.length+1) (h.length+2+4*l.length+2))])):=by
 unfold CH;rw[z5B,List.length_append];simp
theorem z7S (d:TDev)(r:TReg):∀(rs:List TReg) (m:SM),sD d (rs++[r]) m=GB r.name (zs r.long.toNat) (sD d rs m)
 | [],m=>rfl
 | a::rs,m=>z7S d r rs _
theorem zlt {st:Int}{l:List PortS}{d:TDev}(D:DevOk d){a b c:PV}{x:Esc}{Kx:Ex→St→Prop}
 (hK:Kx .normal ⟨[(5,.ref (h.length+1) 0),(8,.ref (h.length+(2+4*l.length)+3) 0),(18,.p a),(19,.p b),(20,.p c),(38,.p (.sl (some 2) (d.regs.map DA))),(39,AI d.regs.length),(40,AI d.regs.length),(41,AB false)],CH h st l [.box (OB d),RA PV.str uB (sD d d.regs []),RA PV.str uB (sD d d.regs []),.box (jC d ([],[48]) (h.length+(2+4*l.length)+1) (h.length+(2+4*l.length)+2))],x⟩) :
 QA (bA X) X.gl (.scope BJ) (tC 2 Kx) [(5,.ref (h.length+1) 0),(8,.ref (h.length+(2+4*l.length)+3) 0),(18,.p a),(19,.p b),(20,.p c),(38,.p (.sl (some 2) (d.regs.map DA))),(39,AI d.regs.length),(40,AI 0)] (CH h st l [.box (OB d),RA PV.str uB [],RA PV.str uB [],.box (jC d ([],[48]) (h.length+(2+4*l.length)+1) (h.length+(2+4*l.length)+2))]) x:=by
 obtain⟨P,hP⟩:∃P,P=h.length+(2+4*l.length):=⟨_,rfl⟩;rw[←hP]at hK ⊢;have gl:∀t:aA,(CH h st l t).length=P+t.length:=fun t=>by rw[uI,hP]
 have gg:∀(t:aA) (n:Nat),(CH h st l t)[P+n]?=t[n]?:=fun t n=>by rw[hP];exact CH_t
 have gs:∀(t:aA) (n:Nat) (o:Obj),(CH h st l t).set (P+n) o=CH h st l (t.set n o):=fun t n o=>by rw[hP];exact YV
 have gk:∀(t:aA) (n:Nat),(CH h st l t).take (P+n)=CH h st l (t.take n):=fun t n=>by rw[hP];exact z3M
 refine jB (fun j:Nat=>⟨[(5,.ref (h.length+1) 0),(8,.ref (P+3) 0),(18,.p a),(19,.p b),(20,.p c),(38,.p (.sl (some 2) (d.regs.map DA))),(39,AI d.regs.length),(40,AI j)],
  CH h st l [.box (OB d),RA PV.str uB (sD d (d.regs.take j) []),RA PV.str uB (sD d (d.regs.take j) []),.box (jC d ([],[48]) (P+1) (P+2))],x⟩) (fun j=>j≤d.regs.length) (fun j=>d.regs.length-j) 0 rfl (by omega) ?_
 intro j hj;have hP1:h.length+1≤P+4:=by omega
 have hP2:h.length≤P+2:=by omega
 rw[kH];rcases Nat.lt_or_ge j d.regs.length with hlt|hge
 ·rw[YN,zlu (pid:=P+3) (mi:=P+1) (mo:=P+2) D j (sD d (d.regs.take j) []) hlt (by rw[gg];rfl) (by rw[gg];rfl) (by rw[gg];rfl) (by omega) (by omega) (by omega)]
  have em:sD d (d.regs.take (j+1)) []=GB d.regs[j].name (zs d.regs[j].long.toNat) (sD d (d.regs.take j) []):=by
   rw[List.take_succ_eq_append_getElem hlt,z7S]
  rw[←em,gs,gs,XV];simp only[go_sem,gl,gk,hP1,hP2,List.length_cons,List.length_nil];exact⟨j+1,rfl,by omega,by omega⟩
 ·have ej:j=d.regs.length:=by omega
  subst ej;rw[List.take_length];rw[YN];simp only[wH,go_sem,Nat.lt_irrefl,gl,gk,hP1,hP2,List.length_cons,List.length_nil];exact hK
def CR (h:aA)(a b:Obj)(l:List PortS)(t:aA):aA:=h++(a::b::(dvH (h.length+2) l++t))
theorem CH_R {st:Int}{l:List PortS}{t:aA}:CH h st l t=CR h (.arow none (vD (h.length+2) l.length)) (.box [AI st,.bt 3 0 h.length l.length]) l t:=rfl
theorem CR_1 {a b:Obj}{l:List PortS}{t:aA}:(CR h a b l t)[h.length+1]?=some b:=by unfold CR;rw[PD];rfl
theorem CR_s0 {a b o:Obj}{l:List PortS}{t:aA}:(CR h a b l t).set h.length o=CR h o b l t:=by unfold CR;rw[z41];rfl
theorem z3N {a b o:Obj}{l:List PortS}{t:aA}:(CR h a b l t).set (h.length+1) o=CR h a o l t:=by unfold CR;rw[cG];rfl
theorem zaD {a b:Obj}{l:List PortS}{t:aA}{n:Nat}:(CR h a b l t).take (h.length+(2+4*l.length)+n)=CR h a b l (t.take n):=by
 unfold CR;have e:h.length+(2+4*l.length)+n=h.length+(2+(4*l.length+n)):=by omega
 rw[e,BI];have e2:2+(4*l.length+n)=(4*l.length+n)+1+1:=by omega
 rw[e2,List.take_succ_cons,List.take_succ_cons];have:=BI (dvH (h.length+2) l) t n;rw[KF]at this;rw[this]
theorem zaC {l:List PortS}{d:TDev}{P:Nat}(hP:P=h.length+(2+4*l.length)):CR h (.arow none (vD (h.length+2) l.length++[.ref (P+3) 0])) (.box [AI 0,.bt 3 0 h.length (l.length+1)]) l [.box (OB d),RA PV.str uB (sD d d.regs []),RA PV.str uB (sD d d.regs []),.box (jC d ([],[48]) (P+1) (P+2))]=CH h 0 (l++[vF d]) []:=by
 subst hP;have e1:h.length+(2+4*l.length)+3=h.length+2+4*l.length+3:=by omega
 have e2:h.length+(2+4*l.length)+1=h.length+2+4*l.length+1:=by omega
 have e3:h.length+(2+4*l.length)+2=h.length+2+4*l.length+2:=by omega
 rw[zaB,e1,e2,e3,zoP];rfl
theorem zpk {L:Nat}{P:kA}{x:Esc}(hx:∀ y∈x,y.1=h.length∧y.2≤L)(hL:(h.length,L)∈x){H:aA}(hH:H.length=L)(h2:h.length+2≤L)(k:P (.tup [.ref (h.length+1) 0,AI 0]) H x):wD false h.length P (some [.ref (h.length+1) 0,AI 0]) H x:=by
 have ht:(AV.tup [.ref (h.length+1) 0,AI 0]).top=h.length+2:=by simp [AV.top,AV.tops]
 have hmx:max h.length (h.length+2)=h.length+2:=by omega
 subst hH;obtain⟨n,c0,c1,c2,c3,c4,c5⟩:=zeU (b:=h.length+2) (mid:=h.length) (L:=H.length) hx (by omega) h2
 have en:n=H.length:=by have:=c3 _ hL;dsimp only at this;omega
 subst en;have e:∀m,bB m H (lB [.ref (h.length+1) 0,AI 0])=some (.tup [.ref (h.length+1) 0,AI 0]):=fun m=>by
  simp only[go_sem]
 unfold wD;dsimp only;rw[e];dsimp only;rw[ht,hmx,c0,c4,if_pos rfl,e];dsimp only;rw[c5,ht,List.take_length];exact⟨c1,k⟩
theorem z0l:∀ {n:Nat} {y:Nat × Nat},y∈KG h n→y.1=h.length∧y.2≤h.length+(2+4*n)
 | 0,y,hy=>by cases hy
 | n+1,y,hy=>by
  rcases List.mem_cons.1 hy with e|e
  ·rw[e];exact⟨rfl,Nat.le_refl _⟩
  ·have:=z0l e;omega
set_option maxHeartbeats 2000000 in
theorem s_New (ds:List TDev)(hd:∀ d∈ds,DevOk d)(h0:ds≠[])(h20:ds.length≤20)(hck:∀ h K,bA X JH [jD ds] h K=K (AI 0) h []) :
 bA X OO [jD ds] h K=K (.tup [.ref (h.length+1) 0,AI 0]) (CH h 0 (BB ds ds.length) []) (KG h ds.length):=by
 refine xA ?_;rw[zel rfl];simp only[VR,go_sem,↓hck,hck,List.length_map];refine jB (fun k:Nat=>⟨[(5,.ref (h.length+1) 0),(18,jD ds),(19,AI ds.length),(20,AI k)],CH h 0 (BB ds k) [],KG h k⟩) (fun k=>k≤ds.length) (fun k=>ds.length-k) 0 ?_ (by omega) ?_
 ·simp [CH,BB,dvH,vD,KG]
 intro k hk;have lk:=z8v hk
 have gl:∀t:aA,(CH h 0 (BB ds k) t).length=h.length+(2+4*k)+t.length:=fun t=>by rw[uI,lk]
 rw[kH];rcases Nat.lt_or_ge k ds.length with hlt|hge
 ·have D:=hd _ (List.getElem_mem hlt)
  have sn:=zlq hlt
  have hg:=iC JA hlt
  have w2:IntKind.i64.wrap ((k:Int)+1)=((k+1:Nat):Int):=GA _ (by omega) (by omega)
  have cx:nB (some 5) 0 (JA ds[k])=some (JA ds[k]):=rfl
  generalize ds[k]=d at *;have fp:∀y:TDev,JA y = .agg [.str y.name,eI y.long,eI y.id,.sl (some 2) (y.regs.map DA),.sl (some 2) (y.ins.map ZA)]:=fun _=>rfl
  rw[fp]at hg cx;have c1:=fun h K=>zpz (h:=h) (K:=K) d.regs (by have:=D.rn;omega)
  have c2:=fun h K=>zpy (h:=h) (K:=K) d.ins (by have:=D.im;omega)
  have nin:=@zlt h 0 (BB ds k) d D
  have put:=@zaC h (BB ds k) d
  have ap:∀t u:aA,CH h 0 (BB ds k) t++u=CH h 0 (BB ds k) (t++u):=fun t u=>XV
  have gg0:∀(t:aA) (n:Nat),(CH h 0 (BB ds k) t)[h.length+(2+4*(BB ds k).length)+n]?=t[n]?:=fun t n=>CH_t
  have gs0:∀(t:aA) (n:Nat) (o:Obj),(CH h 0 (BB ds k) t).set (h.length+(2+4*(BB ds k).length)+n) o=CH h 0 (BB ds k) (t.set n o):=fun t n o=>YV
  rw[lk]at nin put gg0 gs0;generalize hP:h.length+(2+4*k)=P at *;have gg1:∀(t:aA),(CH h 0 (BB ds k) t)[P]?=t[0]?:=fun t=>gg0 t 0
  have gs1:∀(t:aA) (o:Obj),(CH h 0 (BB ds k) t).set P o=CH h 0 (BB ds k) (t.set 0 o):=fun t o=>gs0 t 0 o
  rw[DS];simp only[sK,go_sem,hlt,hg,cx,fp,gl,ap,gg0,gs0,gg1,gs1,↓c1,c1,↓c2,c2,splice,List.length_nil,List.length_cons,List.nil_append,List.cons_append];refine nin ?_;have g0:∀t:aA,(CH h 0 (BB ds k) t)[h.length]?=some (.arow none (vD (h.length+2) k)):=fun t=>by rw[CH_0,lk]
  have g1:∀t:aA,(CH h 0 (BB ds k) t)[h.length+1]?=some (.box [AI 0,.bt 3 0 h.length k]):=fun t=>by rw[CH_1,lk]
  have rl:(vD (h.length+2) k).length=k:=z8K
  have ms:k+1≤NA:=by unfold NA;omega
  have f1:h.length<P+3+1:=by omega
  have s0:∀(t:aA) (o:Obj),(CH h 0 (BB ds k) t).set h.length o=CR h o (.box [AI 0,.bt 3 0 h.length k]) (BB ds k) t:=fun t o=>by rw[CH_R,CR_s0,lk]
  have r1:∀(t:aA) (a:Obj),(CR h a (.box [AI 0,.bt 3 0 h.length k]) (BB ds k) t)[h.length+1]?=some (.box [AI 0,.bt 3 0 h.length k]):=fun t a=>CR_1
  have s1:∀(t:aA) (a b o:Obj),(CR h a b (BB ds k) t).set (h.length+1) o=CR h a o (BB ds k) t:=fun t a b o=>z3N
  have tk:∀(a b:Obj) (t:aA) (n:Nat),(CR h a b (BB ds k) t).take (P+n)=CR h a b (BB ds k) (t.take n):=fun a b t n=>by
   have:=@zaD h a b (BB ds k) t n;rw[lk,hP]at this;exact this
  simp only[go_sem,ZZ];simp only[CN,go_sem,g0,g1,gl,ap,gg0,rl,ms,f1,s0,r1,s1,List.length_nil,List.length_cons,List.nil_append,List.cons_append];rw[if_pos (by omega)]
  have es:AE (h.length+1) [AI 0,.bt 3 0 h.length k] (.bt 3 0 h.length (k+1))=[]:=by
   simp [AE,UC,YG,AV.top,AV.tops]
  rw[es,List.nil_append];have tr:∀(x0:Esc) (e:List (Nat×AV)) (H:aA),pE P x0 ⟨e,H,[(h.length,P+3+1)]⟩=⟨EF (P+4) e,H.take (P+4),(h.length,P+4)::x0⟩:=fun x0 e H=>by
   rw[zrr (by omega)]
   have e1:max P (P+3+1)=P+4:=by omega
   rw[e1]
  have f2:h.length+2≤P+4:=by omega
  have f3:h.length+1+1≤P+4:=by omega
  rw[z0a];simp only[DN,go_sem,w2,tr,tk,f2,f3,put rfl];refine⟨k+1,?_,by omega,by omega⟩
  rw[sn];have e4:KG h (k+1)=(h.length,P+4)::KG h k:=by
   show(h.length,h.length+(2+4*(k+1)))::KG h k=_
   rw[←hP];congr 2
  rw[e4]
 ·have ek:k=ds.length:=by omega
  subst ek;rw[DS];have hl:h.length+1+1≤(CH h 0 (BB ds ds.length) []).length:=by rw[gl];simp;omega
  simp only[sK,go_sem,Nat.lt_irrefl,hl,z0b,EN];have dl:0<ds.length:=List.length_pos_iff.2 h0
  refine zpk (L:=h.length+(2+4*ds.length)) (fun y hy=>z0l hy) ?_ (by rw[gl];simp) (by omega) ⟨rfl,rfl,rfl⟩
  obtain⟨n,hn⟩:∃n,ds.length=n+1:=⟨ds.length-1,by omega⟩
  rw[hn];exact List.mem_cons_self
end Go.Am
end
section
/- What a state does tov a device: the program. -/
open Go
set_option linter.all false
set_option maxRecDepth 100000
namespace Go.Am
variable {h:aA} {K:kA}
attribute [-go_sem] SA XB rC
def actH (H:aA)(st:Nat)(d:TDev)(p:JC)(b:UInt8)(id mi mo:Nat)(m:SM):aA:=
 if st=8 then(if(yC d p.1).name≠tB∧(yC d p.1).name≠sB then H.set mo (RA PV.str uB (GB (yC d p.1).name p.2 m)) else H)
 else if st=0∨st=3∨st=4∨st=11∨st=10∨st=15 then H.set id (.box (jC d (TC st d p b).1 mi mo)) else H
theorem z0A {H:aA}{i:Nat}{o:Obj}(h1:H[i]?=some o):i<H.length:=by
 rcases Nat.lt_or_ge i H.length with q|q
 ·exact q
 ·rw[List.getElem?_eq_none q]at h1;cases h1
theorem TJ {H:aA}{i:Nat}{o:Obj}:(H.set i o).take H.length=H.set i o:=List.take_of_length_le (by simp)
attribute [-go_sem] XZ qF YZ wE
set_option maxHeartbeats 4000000 in
theorem s_act {H:aA}{c id mi mo a n:Nat}{st:Nat}(d:TDev)(D:DevOk d)(p:JC)(P:PortOk p)(hst:st<16)(b:UInt8)(hb:aC b)
 (hc:H[c]?=some (.box [AI st,.bt 3 0 a n])) (hh:H[id]?=some (.box (jC d p mi mo))) {m m2:SM} (hm:H[mi]?=some (RA PV.str uB m)) (hI:InM d m) (ho:H[mo]?=some (RA PV.str uB m2)) :
 bA X MO [.ref c 0,.ref id 0,.p (.int .u8 b.toNat)] H K=K (.p (.int .u8 (TC st d p b).2.toNat)) (actH H st d p b id mi mo m2) []:=by
 refine xA ?_;rw[zei rfl];have lc:=z0A hc
 have li:=z0A hh
 have lm:=z0A ho
 have hl:d.regs.length≤1000000:=by have:=D.rn;omega
 have hi:d.ins.length≤1000000:=by have:=D.im;omega
 have q1:=fun K=>z94 (h:=H) (K:=K) d p mi mo hh hl hi
 have q2:=fun K=>zpE (h:=H) (K:=K) d D p mi mo hh hm hI hl hi
 have e1:=@XZ
 have e2:=@YZ
 have c0:ldB none 0 H[c]?=some (AI st):=by rw[hc];rfl
 have g5:ldB none 5 H[id]?=some (AS p.1):=by rw[hh];rfl
 have g6:ldB none 6 H[id]?=some (AS p.2):=by rw[hh];rfl
 have g8:ldB none 8 H[id]?=some (.mp mo):=by rw[hh];rfl
 have g1:ldB none 1 H[id]?=some (AI d.long):=by rw[hh];rfl
 have w5:∀s:List UInt8,stB none id 5 (AS s) H H[id]? (some [AS s])=some (.und,H.set id (.box (jC d (s,p.2) mi mo)),[]):=fun s=>by rw[hh];rfl
 have w6:∀s:List UInt8,stB none id 6 (AS s) H H[id]? (some [AS s])=some (.und,H.set id (.box (jC d (p.1,s) mi mo)),[]):=fun s=>by rw[hh];rfl
 have hmu:rC (none,[2]) (.mp mo) (AS (yC d p.1).name) (AS p.2) H=some (.und,H.set mo (RA PV.str uB (GB (yC d p.1).name p.2 m2)),[]):=z36 ho
 have fp:∀y:TReg,DA y = .agg [.str y.name,eI y.long]:=fun _=>rfl
 rw[fp]at q1;unfold actH;have fin:∀{a b:UInt8} {A B:aA},a=b→A=B→(AV.p (.int .u8 (a.toNat:Int))=AV.p (.int .u8 (b.toNat:Int))∧A=B∧([]:Esc)=[]):=fun h1 h2=>⟨by rw[h1],h2,rfl⟩
 by_cases s0:st=0
 ·subst s0
  rw[if_neg (by decide),if_pos (by decide)]
  simp only[VE,go_sem,c0,w5,e2,wE,TJ];simp [TC]
 have s0':¬(st:Int)=0:=by omega
 by_cases s3:st=3
 ·subst s3
  rw[if_neg (by decide),if_pos (by decide)]
  simp only[VE,go_sem,c0,w6,e2,wE,TJ,s0',↓q2,q2];simp [TC]
 have s3':¬(st:Int)=3:=by omega
 have mS:∀n:Nat,n≤2000000→n≤PA:=fun n h=>by unfold PA;omega
 by_cases s4:st=4∨st=11
 ·rw[if_neg (by omega),if_pos (by omega)]
  have hne:=P.ne
  have hn:=P.n
  have ea:TC st d p b=((p.1,p.2.tail++[b]),p.2.headD 0):=by unfold TC;rw[if_neg s0,if_neg s3,if_pos s4]
  rw[ea];obtain⟨p1,p2⟩:=p;cases p2 with
  | nil=>exact absurd rfl hne
  | cons x r=>
   have hr:r.length+1≤PA:=mS _ (by simp at hn;omega)
   dsimp only at w6 g6;simp only[List.tail_cons,List.headD_cons];have wb:IntKind.i32.wrap (b.toNat:Int)=(b.toNat:Int):=by rcases hb with rfl|rfl <;> rfl
   have b1:(b.toNat:Int)<128:=by rcases hb with rfl|rfl <;> decide
   have b2:UInt8.ofNat b.toNat=b:=by simp
   have b0:0≤(b.toNat:Int):=by omega
   have b3:((b.toNat:Int)).toNat=b.toNat:=by omega
   have wn:win (x::r) 1 (r.length+1-1)=r:=by simp [win]
   by_cases h4:st=4
   ·subst h4
    simp only[VE,go_sem,c0,e1,qF,e2,wE,g6,w6,TJ,s0',s3',wb,b1,b2,b0,b3,wn,hr]
   ·have h4':¬(st:Int)=4:=by omega
    have h11:(st:Int)=11:=by omega
    simp only[VE,go_sem,c0,e1,qF,e2,wE,g6,w6,TJ,s0',s3',h4',h11,wb,b1,b2,b0,b3,wn,hr]
 have s4':¬(st:Int)=4:=by omega
 have s11':¬(st:Int)=11:=by omega
 by_cases s8:st=8
 ·subst s8
  rw[if_pos rfl];have ea:TC 8 d p b=(p,b):=rfl
  rw[ea];by_cases n1:(yC d p.1).name=tB
  ·rw[if_neg (by simp [n1])]
   unfold tB at n1;simp only[VE,go_sem,c0,e1,qF,e2,wE,s0',s3',s4',s11',↓q1,q1,n1]
  ·by_cases n2:(yC d p.1).name=sB
   ·rw[if_neg (by simp [n2])]
    unfold sB at n2;unfold tB at n1;simp only[VE,go_sem,c0,e1,qF,e2,wE,s0',s3',s4',s11',↓q1,q1,eq_false n1,eq_true n2]
   ·rw[if_pos ⟨n1,n2⟩]
    unfold sB at n2;unfold tB at n1;simp only[VE,go_sem,c0,e1,qF,e2,wE,s0',s3',s4',s11',↓q1,q1,n1,n2,g8,g6,hmu,TJ]
 have s8':¬(st:Int)=8:=by omega
 rw[if_neg s8];by_cases s10:st=10
 ·subst s10
  rw[if_pos (by decide)]
  have w1:IntKind.i64.wrap (d.long-1)=d.long-1:=GA _ (by have:=D.lo;omega) (by have:=D.hi;omega)
  have rz:=fun h K=>uG (h:=h) (K:=K) (d.long-1) (by have:=D.lo;omega) (by have:=D.hi;omega)
  have ln:(zs (d.long-1).toNat).length+1≤PA:=mS _ (by have:=D.hi;simp [zs];omega)
  have ln2:1+(zs (d.long-1).toNat).length≤PA:=by omega
  have ea:TC 10 d p b=((p.1,49::zs (d.long-1).toNat),b):=rfl
  rw[ea];simp only[VE,go_sem,c0,e1,qF,e2,wE,g1,w6,TJ,s0',s3',s4',s11',s8',w1,↓rz,rz,ln,ln2]
 have s10':¬(st:Int)=10:=by omega
 by_cases s15:st=15
 ·subst s15
  rw[if_pos (by decide)]
  have ea:TC 15 d p b=((p.2,p.2),b):=rfl
  rw[ea];simp only[VE,go_sem,c0,e1,qF,e2,wE,g6,w5,TJ,s0',s3',s4',s11',s8',s10']
 have s15':¬(st:Int)=15:=by omega
 rw[if_neg (by omega)]
 have ea:TC st d p b=(p,b):=by unfold TC;rw[if_neg s0,if_neg s3,if_neg s4,if_neg s10,if_neg s15]
 rw[ea];simp only[VE,go_sem,c0,e1,qF,e2,wE,s0',s3',s4',s11',s8',s10',s15']
end Go.Am
end
section
/- A chain is clocked: the program. -/
open Go
set_option linter.all false
set_option maxRecDepth 100000
namespace Go.Am
variable {h:aA} {K:kA}
attribute [-go_sem] SA XB rC
def PortS.act (st:Nat)(q:PortS)(b:UInt8):PortS×UInt8:=
 (⟨q.d,(TC st q.d q.p b).1,q.mi,if st=8∧(yC q.d q.p.1).name≠tB∧(yC q.d q.p.1).name≠sB then GB (yC q.d q.p.1).name q.p.2 q.mo else q.mo⟩,(TC st q.d q.p b).2)
structure PSOk (q:PortS):Prop where
 D:DevOk q.d
 P:PortOk q.p
 I:InM q.d q.mi
theorem CH_p {st:Int}{l:List PortS}{t:aA}{i:Nat}{q:PortS}(hi:l[i]?=some q):(CH h st l t)[h.length+2+4*i+3]?=some (.box (jC q.d q.p (h.length+2+4*i+1) (h.length+2+4*i+2))):=by
 unfold CH;have lt:i<l.length:=by rcases Nat.lt_or_ge i l.length with c|c;exact c;rw[List.getElem?_eq_none c]at hi;cases hi
 have e:h.length+2+4*i+3=h.length+((4*i+3)+1+1):=by omega
 rw[e,PD,List.getElem?_cons_succ,List.getElem?_cons_succ,List.getElem?_append_left (by rw[KF];omega),z58 hi]
theorem CH_mi {st:Int}{l:List PortS}{t:aA}{i:Nat}{q:PortS}(hi:l[i]?=some q):(CH h st l t)[h.length+2+4*i+1]?=some (RA PV.str uB q.mi):=by
 unfold CH;have lt:i<l.length:=by rcases Nat.lt_or_ge i l.length with c|c;exact c;rw[List.getElem?_eq_none c]at hi;cases hi
 have e:h.length+2+4*i+1=h.length+((4*i+1)+1+1):=by omega
 rw[e,PD,List.getElem?_cons_succ,List.getElem?_cons_succ,List.getElem?_append_left (by rw[KF];omega),z56 hi]
theorem CH_mo {st:Int}{l:List PortS}{t:aA}{i:Nat}{q:PortS}(hi:l[i]?=some q):(CH h st l t)[h.length+2+4*i+2]?=some (RA PV.str uB q.mo):=by
 unfold CH;have lt:i<l.length:=by rcases Nat.lt_or_ge i l.length with c|c;exact c;rw[List.getElem?_eq_none c]at hi;cases hi
 have e:h.length+2+4*i+2=h.length+((4*i+2)+1+1):=by omega
 rw[e,PD,List.getElem?_cons_succ,List.getElem?_cons_succ,List.getElem?_append_left (by rw[KF];omega),z57 hi]
theorem CH_sp {st:Int}{l:List PortS}{t:aA}{i:Nat}{q:PortS}{p:JC}(hi:l[i]?=some q):(CH h st l t).set (h.length+2+4*i+3) (.box (jC q.d p (h.length+2+4*i+1) (h.length+2+4*i+2)))=CH h st (l.set i { q with p:=p }) t:=by
 unfold CH;have lt:i<l.length:=by rcases Nat.lt_or_ge i l.length with c|c;exact c;rw[List.getElem?_eq_none c]at hi;cases hi
 have e:h.length+2+4*i+3=h.length+((4*i+3)+1+1):=by omega
 have e2:=z5A (p:=p) (b:=h.length+2) hi
 rw[e,cG,List.set_cons_succ,List.set_cons_succ,List.set_append_left _ _ (by rw[KF];omega),e2,List.length_set]
theorem CH_so {st:Int}{l:List PortS}{t:aA}{i:Nat}{q:PortS}{m:SM}(hi:l[i]?=some q):(CH h st l t).set (h.length+2+4*i+2) (RA PV.str uB m)=CH h st (l.set i { q with mo:=m }) t:=by
 unfold CH;have lt:i<l.length:=by rcases Nat.lt_or_ge i l.length with c|c;exact c;rw[List.getElem?_eq_none c]at hi;cases hi
 have e:h.length+2+4*i+2=h.length+((4*i+2)+1+1):=by omega
 have e2:=z59 (m:=m) (b:=h.length+2) hi
 rw[e,cG,List.set_cons_succ,List.set_cons_succ,List.set_append_left _ _ (by rw[KF];omega),e2,List.length_set]
theorem z9M {α:Type}{l:List α}{i:Nat}{a:α}(h:l[i]?=some a):l.set i a=l:=by
 apply List.ext_getElem?
 intro j;rw[List.getElem?_set];by_cases e:i=j
 ·subst e
  rw[if_pos rfl];rcases Nat.lt_or_ge i l.length with c|c
  ·rw[if_pos c,h]
  ·rw[List.getElem?_eq_none c]at h;cases h
 ·rw[if_neg e]
theorem zcl {st:Nat}{l:List PortS}{t:aA}{i:Nat}{q:PortS}{b:UInt8}(hi:l[i]?=some q) :
 actH (CH h st l t) st q.d q.p b (h.length+2+4*i+3) (h.length+2+4*i+1) (h.length+2+4*i+2) q.mo=CH h st (l.set i (q.act st b).1) t:=by
 unfold actH PortS.act;by_cases h8:st=8
 ·subst h8
  rw[if_pos rfl];have e:(TC 8 q.d q.p b).1=q.p:=rfl
  rw[e];by_cases hn:(yC q.d q.p.1).name≠tB∧(yC q.d q.p.1).name≠sB
  ·rw[if_pos hn,if_pos ⟨rfl,hn⟩,CH_so hi]
  ·rw[if_neg hn,if_neg (show ¬((8:Nat)=8∧(yC q.d q.p.1).name≠tB∧(yC q.d q.p.1).name≠sB) from fun c=>hn c.2)]
   exact congrArg (fun l=>CH h _ l t) (z9M hi).symm
 ·rw[if_neg h8,if_neg (show ¬(st=8∧(yC q.d q.p.1).name≠tB∧(yC q.d q.p.1).name≠sB) from fun c=>h8 c.1)]
  by_cases hs:st=0∨st=3∨st=4∨st=11∨st=10∨st=15
  ·rw[if_pos hs,CH_sp hi]
  ·rw[if_neg hs]
   have e:(TC st q.d q.p b).1=q.p:=by
    unfold TC;rw[if_neg (by omega),if_neg (by omega),if_neg (by omega),if_neg (by omega),if_neg (by omega)]
   rw[e];exact congrArg (fun l=>CH h _ l t) (z9M hi).symm
theorem LX {st:Nat}{q:PortS}{b:UInt8}(Q:PSOk q)(hb:aC b):PSOk (q.act st b).1∧aC (q.act st b).2:=by
 obtain⟨a1,a2⟩:=z4m Q.D Q.P st hb;exact⟨⟨Q.D,a1,Q.I⟩,a2⟩
def KC (st:Nat):List PortS→UInt8→List PortS×UInt8
 | q::r,b=>let y:=q.act st b;let z:=KC st r y.2; (y.1::z.1,z.2)
 | [],b=>([],b)
theorem z4n (st:Nat):∀(l:List PortS) (b:UInt8),(KC st l b).2=(tE st (l.map PortS.d) (l.map PortS.p) b).2∧(KC st l b).1.map PortS.p=(tE st (l.map PortS.d) (l.map PortS.p) b).1∧(KC st l b).1.map PortS.d=l.map PortS.d
 | [],b=>⟨rfl,rfl,rfl⟩
 | q::r,b=>by
  obtain⟨a1,a2,a3⟩:=z4n st r (q.act st b).2;exact⟨a1,by simp only[KC,tE,List.map_cons,a2];rfl,by simp only[KC,List.map_cons,a3];rfl⟩
theorem z4p (st:Nat):∀(l:List PortS) (b:UInt8),(∀q∈l,PSOk q)→aC b→(∀q∈(KC st l b).1,PSOk q)∧aC (KC st l b).2
 | [],b,_,hb=>⟨by simp [KC],hb⟩
 | q::r,b,hl,hb=>by
  obtain⟨a1,a2⟩:=LX (st:=st) (hl q List.mem_cons_self) hb;obtain⟨b1,b2⟩:=z4p st r _ (fun x hx=>hl x (List.mem_cons_of_mem _ hx)) a2
  refine⟨fun x hx=>?_,b2⟩
  rcases List.mem_cons.1 hx with e|e
  ·rw[e];exact a1
  ·exact b1 x e
theorem z4o (st:Nat):∀(l:List PortS) (b:UInt8),(KC st l b).1.length=l.length
 | [],_=>rfl
 | q::r,b=>by simp [KC,z4o st r]
theorem zl4:∀ s<16,∀ t<2,nxt s t=stp s t:=by decide
theorem zqg (s t:Nat)(hs:s<16)(ht:t<2):bA X uF [AI s,AI t] h K=K (AI (stp s t)) h []:=by
 rw[z7F (Y:=X) rfl s t hs ht,zl4 s hs t ht]
def clkO (st:Nat)(b:UInt8):Int:=if st=4∨st=11 then(b.toNat:Int)-48 else -1
attribute [-go_sem] WN WI XN XI
set_option maxHeartbeats 2000000 in
theorem zqf (tl:aA)(l:List PortS)(hl:∀ q∈l,PSOk q)(h20:l.length≤1000)(st:Nat)(hst:st<16)(tms tdi:UInt8)(h1:aC tms)(h2:aC tdi) :
 bA X NO [.ref (h.length+1) 0,AI ((tms.toNat-48:Nat):Int),AI ((tdi.toNat-48:Nat):Int)] (CH h st l tl) K=K (AI (clkO st (KC st l tdi).2)) (CH h (stW st tms) (KC st l tdi).1 tl) []:=by
 refine xA ?_;rw[zej rfl];have w1:IntKind.i64.wrap (48+((tdi.toNat-48:Nat):Int))=((tdi.toNat:Nat):Int):=by rcases h2 with rfl|rfl <;> rfl
 have w2:IntKind.u8.wrap (tdi.toNat:Int)=(tdi.toNat:Int):=by rcases h2 with rfl|rfl <;> rfl
 have c1:(CH h st l tl)[h.length+1]?=some (.box [AI st,.bt 3 0 h.length l.length]):=CH_1
 have c1':ldB none 1 (CH h st l tl)[h.length+1]?=some (.bt 3 0 h.length l.length):=by rw[c1];rfl
 simp only[SR,go_sem,w1,w2,c1'];refine jB (fun t:List PortS×List PortS×UInt8=>⟨[(0,.ref (h.length+1) 0),(1,AI ((tms.toNat-48:Nat):Int)),(7,.p (.int .u8 t.2.2.toNat)),(17,.bt 3 0 h.length l.length),(18,AI l.length),(19,AI t.1.length)],CH h st (t.1++t.2.1) tl,[]⟩)
  (fun t=>(KC st l tdi=(t.1++(KC st t.2.1 t.2.2).1,(KC st t.2.1 t.2.2).2)∧t.1.length+t.2.1.length=l.length)∧(∀q∈t.1++t.2.1,PSOk q)∧aC t.2.2) (fun t=>t.2.1.length) ([],l,tdi) rfl ⟨⟨rfl,by simp⟩,by simpa using hl,h2⟩ ?_
 rintro⟨dn,rs,b⟩ ⟨⟨i1,i2⟩,i3,i4⟩
 dsimp only at i1 i2 i3 i4 ⊢;have ll:(dn++rs).length=l.length:=by simpa using i2
 cases rs with
 | cons q rs=>
  have hq:(dn++q::rs)[dn.length]?=some q:=by simp
  have Q:=i3 q (by simp)
  have hlt:dn.length<l.length:=by simp at i2;omega
  have hlt':(dn.length:Int)<(l.length:Int):=by omega
  have hs:(dn++q::rs).set dn.length (q.act st b).1=(dn++[(q.act st b).1])++rs:=by simp
  have w3:IntKind.i64.wrap ((dn.length:Int)+1)=((dn.length+1:Nat):Int):=GA _ (by omega) (by omega)
  have ac:=fun K=>s_act (H:=CH h st (dn++q::rs) tl) (K:=K) (c:=h.length+1) (a:=h.length) (n:=(dn++q::rs).length) q.d Q.D q.p Q.P hst b i4 CH_1 (CH_p hq) (CH_mi hq) Q.I (CH_mo hq)
  rw[zcl hq,hs]at ac;have c0:(CH h st (dn++q::rs) tl)[h.length]?=some (.arow none (vD (h.length+2) l.length)):=by rw[CH_0,ll]
  have rl:(vD (h.length+2) l.length).length=l.length:=z8K
  have rg:(vD (h.length+2) l.length)[dn.length]?=some (.ref (h.length+2+4*dn.length+3) 0):=zoO hlt
  have eo:(TC st q.d q.p b).2=(q.act st b).2:=rfl
  rw[eo]at ac;have sh1:jA none=1:=rfl
  simp only[go_sem,Nat.mul_one,hlt',hlt,c0,rl,rg,↓ac,ac,w3];refine⟨(dn++[(q.act st b).1],rs,(q.act st b).2),by simp,⟨⟨?_,?_⟩,fun y hy=>?_,(LX Q i4).2⟩,by simp⟩
  ·rw[i1];simp [KC]
  ·simp at i2 ⊢;omega
  ·simp only[List.append_assoc,List.mem_append,List.mem_cons,List.not_mem_nil,or_false]at hy
   rcases hy with e|e|e
   ·exact i3 y (by simp [e])
   ·rw[e];exact(LX Q i4).1
   ·exact i3 y (by simp [e])
 | nil=>
  have hlen:dn.length=l.length:=by simpa using i2
  rw[List.append_nil]at ll i3 ⊢;have e1:(KC st l tdi).1=dn:=by rw[i1];simp [KC]
  have e2:(KC st l tdi).2=b:=by rw[i1];rfl
  rw[e1,e2];have n1:¬(dn.length:Int)<(l.length:Int):=by omega
  have c1:(CH h st dn tl)[h.length+1]?=some (.box [AI st,.bt 3 0 h.length dn.length]):=CH_1
  have c2:ldB none 0 (CH h st dn tl)[h.length+1]?=some (AI st):=by rw[c1];rfl
  have t2:tms.toNat-48<2:=by rcases h1 with rfl|rfl <;> decide
  have nx:=fun K=>zqg (h:=CH h st dn tl) (K:=K) st (tms.toNat-48) hst t2
  have s1:∀v:Int,stB none (h.length+1) 0 (AI v) (CH h st dn tl) (CH h st dn tl)[h.length+1]? (some [AI v])=some (.und,CH h v dn tl,[]):=fun v=>by
   rw[c1];show some (AV.und,(CH h st dn tl).set (h.length+1) _,_)=_
   rw[CH_R,z3N];rfl
  have tk:∀v:Int,(CH h v dn tl).take (CH h st l tl).length=CH h v dn tl:=fun v=>List.take_of_length_le (by rw[uI,uI];omega)
  have f1:h.length+1+1≤(CH h st l tl).length:=by rw[uI];omega
  have es:stW st tms=stp st (tms.toNat-48):=rfl
  have w3:IntKind.u8.wrap ((b.toNat:Int)-48)=(b.toNat:Int)-48:=by rcases i4 with rfl|rfl <;> rfl
  have w4:IntKind.i64.wrap ((b.toNat:Int)-48)=(b.toNat:Int)-48:=by rcases i4 with rfl|rfl <;> rfl
  unfold clkO;by_cases s4:st=4
  ·rw[if_pos (by omega)]
   have s4':(st:Int)=4:=by omega
   simp only[go_sem,n1,XN,XI,WN,WI,c2,w3,w4,↓nx,nx,s1,tk,es,eq_true s4']
  ·have s4':¬(st:Int)=4:=by omega
   by_cases s11:st=11
   ·have s11':(st:Int)=11:=by omega
    rw[if_pos (by omega)]
    simp only[go_sem,n1,XN,XI,WN,WI,c2,w3,w4,↓nx,nx,s1,tk,es,s4',eq_true s11']
   ·have s11':¬(st:Int)=11:=by omega
    rw[if_neg (by omega)]
    simp only[go_sem,n1,XN,XI,WN,WI,c2,w3,w4,↓nx,nx,s1,tk,es,s4',s11']
end Go.Am
end
section
/- The program: a run in the heap;a clock. -/
open Go
set_option linter.all false
namespace Go.Am
variable {h l:aA} {K:kA} {r:Run}
attribute [-go_sem] SA splice
def rc (s:Sett)(st ck ni nd:Int)(a b c d e:AV)(w:Bool):List AV:=
 [AI s.e1.k,AI s.e1.s,AI s.e1.cl,AS s.e1.b,AS s.e1.w,AS s.e1.m,AI s.e2.k,AI s.e2.s,AI s.e2.cl,AS s.e2.b,AS s.e2.w,AS s.e2.m,
  AI s.h1.k,AI s.h1.s,AI s.h1.cl,AS s.h1.b,AS s.h1.w,AS s.h1.m,AI s.t1.k,AI s.t1.s,AI s.t1.cl,AS s.t1.b,AS s.t1.w,AS s.t1.m,
  AI s.h2.k,AI s.h2.s,AI s.h2.cl,AS s.h2.b,AS s.h2.w,AS s.h2.m,AI s.t2.k,AI s.t2.s,AI s.t2.cl,AS s.t2.b,AS s.t2.w,AS s.t2.m,
  AI st,AI ck,AI ni,AI nd,a,b,c,d,e,AB w]
section
variable {s:Sett} {st ck ni nd x:Int} {a b c d e o:AV} {w:Bool}
theorem fV:(rc s st ck ni nd a b c d e w).length=46:=(rfl)
theorem eV:YG (rc s st ck ni nd a b c d e w)=false:=(rfl)
theorem rc_1:(rc s st ck ni nd a b c d e w)[1]?=some (AI s.e1.s):=(rfl)
theorem rc_7:(rc s st ck ni nd a b c d e w)[7]?=some (AI s.e2.s):=(rfl)
theorem ZU:(rc s st ck ni nd a b c d e w)[15]?=some (AS s.h1.b):=(rfl)
theorem aV:(rc s st ck ni nd a b c d e w)[21]?=some (AS s.t1.b):=(rfl)
theorem bV:(rc s st ck ni nd a b c d e w)[27]?=some (AS s.h2.b):=(rfl)
theorem cV:(rc s st ck ni nd a b c d e w)[33]?=some (AS s.t2.b):=(rfl)
theorem uM:(rc s st ck ni nd a b c d e w)[36]?=some (AI st):=(rfl)
theorem fI:(rc s st ck ni nd a b c d e w)[37]?=some (AI ck):=(rfl)
theorem vM:(rc s st ck ni nd a b c d e w)[38]?=some (AI ni):=(rfl)
theorem wM:(rc s st ck ni nd a b c d e w)[39]?=some (AI nd):=(rfl)
theorem xM:(rc s st ck ni nd a b c d e w)[40]?=some a:=(rfl)
theorem yM:(rc s st ck ni nd a b c d e w)[41]?=some b:=(rfl)
theorem zM:(rc s st ck ni nd a b c d e w)[42]?=some c:=(rfl)
theorem AM:(rc s st ck ni nd a b c d e w)[43]?=some d:=(rfl)
theorem BM:(rc s st ck ni nd a b c d e w)[44]?=some e:=(rfl)
theorem dV:(rc s st ck ni nd a b c d e w)[45]?=some (AB w):=(rfl)
theorem iV:splice (rc s st ck ni nd a b c d e w) 36 [AI x]=rc s x ck ni nd a b c d e w:=(rfl)
theorem jV:splice (rc s st ck ni nd a b c d e w) 37 [AI x]=rc s st x ni nd a b c d e w:=(rfl)
theorem kV:splice (rc s st ck ni nd a b c d e w) 38 [AI x]=rc s st ck x nd a b c d e w:=(rfl)
theorem lV:splice (rc s st ck ni nd a b c d e w) 39 [AI x]=rc s st ck ni x a b c d e w:=(rfl)
theorem nV:splice (rc s st ck ni nd a b c d e w) 40 [o]=rc s st ck ni nd o b c d e w:=(rfl)
theorem oV:splice (rc s st ck ni nd a b c d e w) 41 [o]=rc s st ck ni nd a o c d e w:=(rfl)
theorem pV:splice (rc s st ck ni nd a b c d e w) 42 [o]=rc s st ck ni nd a b o d e w:=(rfl)
theorem qV:splice (rc s st ck ni nd a b c d e w) 43 [o]=rc s st ck ni nd a b c o e w:=(rfl)
theorem rV:splice (rc s st ck ni nd a b c d e w) 44 [o]=rc s st ck ni nd a b c d o w:=(rfl)
variable {q:Cmd}
end
abbrev eN (n:Nat):PV:=eI n
def rh (h:aA)(r:Run)(l:aA):aA:=h ++ .row none (r.sts.map eN) 0 :: .row none (r.frs.map eN) 0 :: .row none (vA r.tms) 0 :: .row none (vA r.tdi) 0 :: .row none (vA r.want) 0 ::
 .box (rc r.se r.st r.ck r.ni r.nd (.own h.length r.sts.length 0 r.sts.length) (.own (h.length+1) r.frs.length 0 r.frs.length) (.own (h.length+2) r.tms.length 0 r.tms.length) (.own (h.length+3) r.tdi.length 0 r.tdi.length) (.own (h.length+4) r.want.length 0 r.want.length) r.wr)::l
structure RunOk (r:Run):Prop where
 t:r.tms.length≤r.ck
 i:r.tdi.length≤r.ck
 w:r.want.length≤r.ck
theorem OJ {L:List (UInt8 × UInt8 × UInt8)}(R:RunOk r):RunOk (r.clk L):=by
 unfold Run.clk;have:=R.t;have:=R.i;have:=R.w
 split <;> (refine⟨?_,?_,?_⟩ <;> simp <;> omega)
attribute [local go_sem] fV eV rc_1 rc_7 ZU aV bV cV uM fI vM wM xM yM zM AM BM dV iV jV kV lV nV oV pV qV rV
set_option maxHeartbeats 2000000 in
theorem HV (R:RunOk r)(hck:r.ck≤1000000000)(a b c:UInt8):bA X QG [.ref (h.length+5) 0,.p (.int .u8 a.toNat),.p (.int .u8 b.toNat),.p (.int .u8 c.toNat)] (rh h r l) K=K (.tup []) (rh h (r.clk [(a,b,c)]) l) []:=by
 refine xA ?_;rw[zeA rfl];have hr:=R.t;have:=R.i;have:=R.w
 have w1:IntKind.i64.wrap ((r.ck:Int)+1)=((r.ck+1:Nat):Int):=GA _ (by omega) (by omega)
 obtain⟨se,st,ck,ni,nd,sts,frs,tms,tdi,want,wr⟩:=r;dsimp only at *;unfold rh Run.clk;have m1:tms.length+1≤NA:=by unfold NA;omega
 have m2:tdi.length+1≤NA:=by unfold NA;omega
 have m3:want.length+1≤NA:=by unfold NA;omega
 have e2:∀k n o m,k<5→UC (h.length+5) (.own (h.length+k) n o m)=[]:=fun k n o m hk=>by unfold UC;rw[z32,if_neg (by omega)]
 have e3:=fun n o m=>e2 2 n o m (by decide)
 have e4:=fun n o m=>e2 3 n o m (by decide)
 have e5:=fun n o m=>e2 4 n o m (by decide)
 cases wr with
 | false=>simp only[SN,go_sem,w1]
 | true=>
  simp only[SN,go_sem,w1,CF,m1,m2,m3,e3,e4,e5,List.take_length];simp [vA]
end Go.Am
end
section
/- The program: a walk. -/
open Go
set_option linter.all false
namespace Go.Am
variable {h l l2:aA} {K:kA} {r:Run} {n:Nat} {o:Obj}
attribute [-go_sem] SA splice
attribute [local go_sem] fV eV rc_1 rc_7 ZU aV bV cV uM fI vM wM xM yM zM AM BM dV iV jV kV lV nV oV pV qV rV
theorem iI:(rh h r l).length=h.length+(l.length+6):=by unfold rh;simp
theorem FM:rh h r l++l2=rh h r (l++l2):=by unfold rh;simp
theorem JJ:(rh h r l)[h.length+(n+6)]?=l[n]?:=by unfold rh;rw[PD];rfl
theorem KJ:(rh h r l).set (h.length+(n+6)) o=rh h r (l.set n o):=by unfold rh;rw[cG];rfl
theorem LJ:(rh h r l).take (h.length+(n+6))=rh h r (l.take n):=by unfold rh;rw[BI];rfl
theorem GM:(rh h r l).take h.length=h:=by unfold rh;rw[cK]
theorem IJ:(rh h r l)[h.length+5]?=some (.box (rc r.se r.st r.ck r.ni r.nd (.own h.length r.sts.length 0 r.sts.length) (.own (h.length+1) r.frs.length 0 r.frs.length) (.own (h.length+2) r.tms.length 0 r.tms.length) (.own (h.length+3) r.tdi.length 0 r.tdi.length) (.own (h.length+4) r.want.length 0 r.want.length) r.wr)):=by unfold rh;rw[PD];rfl
section
variable {s:Sett} {x y z:Nat}
theorem RP:(rh h r l).set (h.length+5) (.box (rc s x r.ck y z (.own h.length r.sts.length 0 r.sts.length) (.own (h.length+1) r.frs.length 0 r.frs.length) (.own (h.length+2) r.tms.length 0 r.tms.length) (.own (h.length+3) r.tdi.length 0 r.tdi.length) (.own (h.length+4) r.want.length 0 r.want.length) r.wr))=rh h { r with se:=s,st:=x,ni:=y,nd:=z } l:=by unfold rh;rw[cG];rfl
end
attribute [local go_sem] iI FM JJ KJ LJ GM IJ RP
theorem LQ:r.clk []=r:=by unfold Run.clk;split <;> simp
theorem MQ {L:List (UInt8 × UInt8 × UInt8)}{x:UInt8 × UInt8 × UInt8}:(r.clk L).clk [x]=r.clk (L++[x]):=by
 unfold Run.clk;cases hw:r.wr <;> simp [hw,Nat.add_assoc]
theorem pN {L:List (UInt8 × UInt8 × UInt8)}:(r.clk L).ck=r.ck+L.length:=(bD r L).2.2.2.2.2.1
theorem PJ {tov:Nat}(R:RunOk r):RunOk (r.go eA tov):=by
 have Q:=OJ (L:=(eA r.st tov).map fun c=>(c,48,120)) R
 exact⟨Q.t,Q.i,Q.w⟩
theorem nJ {tov:Nat}:(r.go eA tov).ck=r.ck+(eA r.st tov).length:=(RB eA r tov).2.2.2.2.2.1
set_option maxHeartbeats 2000000 in
theorem KM (R:RunOk r)(hck:r.ck≤900000000)(hf:r.st∈frS){tov:Nat}(ht:tov∈toS):bA X OF [.ref (h.length+5) 0,AI tov] (rh h r l) K=K (.tup []) (rh h (r.go eA tov) l) []:=by
 refine xA ?_;rw[zeC rfl];have to16:tov<16:=by simp only[toS,List.mem_cons,List.not_mem_nil,or_false]at ht;omega
 have hp:=fun(h':aA) (K':kA)=>zp6 (h:=h') (K:=K') (z7l hf) to16
 obtain⟨pb,pl,_⟩:=SB hf ht;have hgo:r.go eA tov={ r.clk ((eA r.st tov).map fun c=>(c,48,120)) with st:=tov }:=rfl
 rw[hgo];simp only[rS,go_sem,hp];generalize eA r.st tov=w at pl ⊢;refine jB (fun k:Nat=>⟨[(0,.ref (h.length+5) 0),(1,AI tov),(4,AS w),(17,AI w.length),(18,AI k)],rh h (r.clk ((w.take k).map fun c=>(c,48,120))) l,[]⟩) (fun k=>k≤w.length) (fun k=>w.length-k) 0 (by rw[List.take_zero,List.map_nil,LQ];rfl) (by omega) ?_
 intro k hk;have hc:=fun(a:UInt8) (K':kA)=>HV (h:=h) (l:=l) (K:=K') (OJ (L:=(w.take k).map fun c=>(c,48,120)) R) (by rw[pN];simp;omega) a 48 120
 rcases Nat.lt_or_ge k w.length with hlt|hge
 ·have w2:IntKind.i64.wrap ((k:Int)+1)=((k+1:Nat):Int):=GA _ (by omega) (by omega)
  have hg:w[k]?=some w[k]:=List.getElem?_eq_getElem hlt
  have hlt':(k:Int)<(w.length:Int):=by omega
  have hc':=fun(K':kA)=>hc w[k] K'
  simp only[show(((48:UInt8).toNat:Nat):Int)=48 from rfl,show(((120:UInt8).toNat:Nat):Int)=120 from rfl]at hc'
  simp only[go_sem,hlt,hlt',hg,w2,hc'];refine⟨k+1,?_,by omega,by omega⟩
  rw[MQ,List.take_succ_eq_append_getElem hlt,List.map_append];rfl
 ·obtain rfl:k=w.length:=by omega
  have hs:=(bD r ((w.map fun c=>((c,48,120):UInt8×UInt8×UInt8)))).1
  simp only[go_sem,Nat.lt_irrefl,Int.lt_irrefl,List.take_length]
end Go.Am
end
section
/- The program: a scan. -/
open Go
set_option linter.all false
namespace Go.Am
variable {h l l2:aA} {K:kA} {r:Run} {n:Nat} {o:Obj}
attribute [-go_sem] SA splice
attribute [local go_sem] fV eV rc_1 rc_7 ZU aV bV cV uM fI vM wM xM yM zM AM BM dV iV jV kV lV nV oV pV qV rV
attribute [local go_sem] iI FM JJ KJ LJ GM IJ RP
def YJ (r:Run):Prop:=r.ni≤r.ck∧r.nd≤r.ck
theorem HM {tov:Nat}(N:YJ r):YJ (r.go eA tov):=by
 obtain⟨_,_,_,_,_,c,a,b⟩:=RB eA r tov;obtain⟨x,y⟩:=N;exact⟨by rw[a,c];omega,by rw[b,c];omega⟩
structure SetR (s:Sett):Prop where
 s1:MB s.e1.s=true
 s2:MB s.e2.s=true
 h1:s.h1.b.length≤2000
 t1:s.t1.b.length≤2000
 h2:s.h2.b.length≤2000
 t2:s.t2.b.length≤2000
theorem z9E {c:Cmd}{hd al:List UInt8}{k:Nat}(hk:k<al.length):(TA c hd al)[k]?=some (if k=al.length-1 then 49 else 48,al[k],if hd.length≤k then(if k-hd.length<c.m.length then VC c (k-hd.length) else 120) else 120):=by
 unfold TA;rw[List.getElem?_map,List.getElem?_range hk,Option.map_some,List.getElem?_eq_getElem hk];rfl
theorem z3q {c:Cmd}(h7:c.k=7):r.scn eA c=Run.go eA { Run.clk { r.go eA 11 with ni:=(r.go eA 11).ni+(r.se.h1.b++c.b++r.se.t1.b).length } (TA c r.se.h1.b (r.se.h1.b++c.b++r.se.t1.b)) with st:=12 } r.se.e1.s.toNat∧r.scnF eA c=(r.go eA 11).ck+r.se.h1.b.length:=by
 unfold Run.scn Run.scnF;simp [h7]
set_option maxHeartbeats 4000000 in
theorem zqb (R:RunOk r)(N:YJ r)(hck:r.ck≤800000000)(hst:r.st∈stb)(S:SetR r.se)(c:Cmd)(h7:c.k=7)(hs:xC c=0):bA X RG [.ref (h.length+5) 0,ACm c] (rh h r l) K=K (AI (r.scnF eA c:Nat)) (rh h (r.scn eA c) l) []:=by
 refine xA ?_;rw[z4O rfl,(z3q h7).1,(z3q h7).2];have hw1:=fun(l:aA) (K':kA)=>KM (h:=h) (l:=l) (K:=K') R (by omega) (TB hst) (show 11∈toS by decide)
 simp only[show(((11:Nat)):Int)=11 from rfl]at hw1
 have R1:=PJ (tov:=11) R
 have c1:(r.go eA 11).ck≤800000008:=by have:=(SB (TB hst) (show 11∈toS by decide)).2.1;rw[nJ];omega
 have N1:=HM (tov:=11) N
 generalize r.go eA 11=r1 at *;obtain⟨q1,q2,q3,q4,q5,q6⟩:=IE hs;obtain⟨n1,n2⟩:=AC S.s1;have hh:=S.h1;have ht:=S.t1
 generalize hhd:r.se.h1.b=hd at *;generalize htl:r.se.t1.b=tl at *;generalize hen:r.se.e1.s=en at *;obtain⟨en',rfl⟩:∃n:Nat,en=n:=⟨en.toNat,n2.symm⟩;simp only[Int.toNat_natCast]at n1 n2 ⊢;obtain⟨k,s,cl,b,w,m⟩:=c;dsimp only at h7 q1 q3 q6 ⊢;subst h7;have hbp:=List.length_pos_iff.2 q1
 have x1:hd.length+b.length≤PA:=by unfold PA;omega
 have x2:hd.length+(b.length+tl.length)≤PA:=by unfold PA;omega
 have x3:hd.length+b.length+tl.length≤PA:=by unfold PA;omega
 obtain⟨hn,hd'⟩:=N1;obtain⟨al,hal⟩:∃al,al=hd++b++tl:=⟨_,rfl⟩;have hall:al.length=hd.length+b.length+tl.length:=by rw[hal];simp;omega
 have hal2:=hal
 rw[List.append_assoc]at hal2;have w1:IntKind.i64.wrap ((r1.ni:Int)+(al.length:Int))=((r1.ni+al.length:Nat):Int):=GA _ (by omega) (by omega)
 have w2:IntKind.i64.wrap ((r1.ck:Int)+(hd.length:Int))=((r1.ck+hd.length:Nat):Int):=GA _ (by omega) (by omega)
 simp only[TN,go_sem,hw1,hhd,htl,hen,x1,x2,x3,←hal,←hal2,w1,w2];have R2:RunOk { r1 with ni:=r1.ni+al.length }:=⟨R1.t,R1.i,R1.w⟩
 have c2:{ r1 with ni:=r1.ni+al.length:Run }.ck=r1.ck:=rfl
 show QA (bA X) X.gl _ _ _ (rh h { r1 with ni:=r1.ni+al.length } _) []
 generalize { r1 with ni:=r1.ni+al.length:Run }=r2 at R2 c2 ⊢
 generalize hq:(⟨7,s,cl,b,w,m⟩:Cmd)=c at *;have hcm:c.m=m:=by rw[←hq]
 have hcw:c.w=w:=by rw[←hq]
 have hml:m.length≤b.length∧m.length≤w.length:=by
  rcases q6 with⟨e1,e2⟩|⟨e1,e2⟩
  ·rw[e2];exact⟨Nat.zero_le _,Nat.zero_le _⟩
  ·omega
 have hal0:0<al.length:=by omega
 refine jB (fun k:Nat=>⟨[(0,.ref (h.length+5) 0),(3,.ref (h.length+(l.length+6)) 0),(5,AS hd),(7,AI en'),(9,AI 12),(10,AS al),(11,AI (r1.ck+hd.length:Nat)),(93,AI al.length),(94,AI k)],
  rh h (r2.clk ((TA c hd al).take k)) (l++[.box [AI 7,AI s,AI cl,AS b,AS w,AS m]]),[]⟩) (fun k=>k≤al.length) (fun k=>al.length-k) 0 (by rw[List.take_zero,LQ];rfl) (by omega) ?_
 intro k hk;have hlen:(TA c hd al).length=al.length:=VP c hd al
 have R3:=OJ (L:=(TA c hd al).take k) R2
 have c3:(r2.clk ((TA c hd al).take k)).ck≤900000000:=by rw[pN,c2,List.length_take];omega
 rcases Nat.lt_or_ge k al.length with hlt|hge
 ·have w3:IntKind.i64.wrap ((k:Int)+1)=((k+1:Nat):Int):=GA _ (by omega) (by omega)
  have w4:IntKind.i64.wrap ((al.length:Int)-1)=((al.length-1:Nat):Int):=by
   rw[show(al.length:Int)-1=((al.length-1:Nat):Int) by omega];exact GA _ (by omega) (by omega)
  have hlt':(k:Int)<(al.length:Int):=by omega
  have hg:al[k]?=some al[k]:=List.getElem?_eq_getElem hlt
  have hcl:=fun(t v:UInt8) (K':kA)=>HV (h:=h) (l:=l++[.box [AI 7,AI s,AI cl,AS b,AS w,AS m]]) (K:=K') R3 (by omega) t al[k] v
  have hsg:=z9E (c:=c) (hd:=hd) hlt
  have hstep:∀t v:UInt8,(TA c hd al)[k]?=some (t,al[k],v)→(r2.clk ((TA c hd al).take k)).clk [(t,al[k],v)]=r2.clk ((TA c hd al).take (k+1)):=fun t v e=>by
   rw[MQ,List.take_succ,e];rfl
  have e48:(((48:UInt8).toNat:Nat):Int)=48:=rfl
  have e49:(((49:UInt8).toNat:Nat):Int)=49:=rfl
  have e120:(((120:UInt8).toNat:Nat):Int)=120:=rfl
  generalize r2.clk ((TA c hd al).take k)=r3 at R3 c3 hcl hstep ⊢
  -- what is expected
  by_cases hk0:hd.length≤k
  ·have w5:IntKind.i64.wrap ((k:Int)-(hd.length:Int))=((k-hd.length:Nat):Int):=by
    rw[show(k:Int)-(hd.length:Int)=((k-hd.length:Nat):Int) by omega];exact GA _ (by omega) (by omega)
   have z0:(0:Int)≤((k-hd.length:Nat):Int):=by omega
   rw[if_pos hk0]at hsg;by_cases hm:k-hd.length<m.length
   ·have hm':((k-hd.length:Nat):Int)<(m.length:Int):=by omega
    rw[hcm,if_pos hm]at hsg;have hgm:m[k-hd.length]?=some m[k-hd.length]:=List.getElem?_eq_getElem hm
    have hgw:w[k-hd.length]?=some (w[k-hd.length]'(by omega)):=List.getElem?_eq_getElem (by omega)
    by_cases h49:m[k-hd.length]=49
    ·have hx:VC c (k-hd.length)=w[k-hd.length]'(by omega):=by unfold VC;rw[hcm,hgm,h49,if_pos rfl,hcw,hgw];rfl
     rw[hx]at hsg;by_cases hl1:k=al.length-1
     ·have hl2:((k:Int)=((al.length-1:Nat):Int))=True:=eq_true (by omega)
      have hcl1:=fun K'=>hcl 49 (w[k-hd.length]'(by omega)) K'
      rw[if_pos hl1]at hsg;rw[e49]at hcl1;simp only[go_sem,hlt,hlt',hg,w3,w4,w5,z0,hm,hm',hgm,hgw,h49,e49,hl2,hcl1];exact⟨k+1,by rw[hstep _ _ hsg],by omega,by omega⟩
     ·have hl2:((k:Int)=((al.length-1:Nat):Int))=False:=eq_false (by omega)
      have hcl1:=fun K'=>hcl 48 (w[k-hd.length]'(by omega)) K'
      rw[if_neg hl1]at hsg;rw[e48]at hcl1;simp only[go_sem,hlt,hlt',hg,w3,w4,w5,z0,hm,hm',hgm,hgw,h49,e49,hl2,hcl1];exact⟨k+1,by rw[hstep _ _ hsg],by omega,by omega⟩
    ·have hx:VC c (k-hd.length)=120:=by unfold VC;rw[hcm,hgm,if_neg (fun e=>h49 (Option.some.inj e))]
     rw[hx]at hsg;have h49':¬((m[k-hd.length].toNat:Int)=49):=fun e=>h49 (UInt8.toNat_inj.1 (by rw[show(49:UInt8).toNat=49 from rfl];omega))
     by_cases hl1:k=al.length-1
     ·have hl2:((k:Int)=((al.length-1:Nat):Int))=True:=eq_true (by omega)
      have hcl1:=fun K'=>hcl 49 120 K'
      rw[if_pos hl1]at hsg;rw[e49]at hcl1;rw[e120]at hcl1;simp only[go_sem,hlt,hlt',hg,w3,w4,w5,z0,hm,hm',hgm,h49',hl2,hcl1];exact⟨k+1,by rw[hstep _ _ hsg],by omega,by omega⟩
     ·have hl2:((k:Int)=((al.length-1:Nat):Int))=False:=eq_false (by omega)
      have hcl1:=fun K'=>hcl 48 120 K'
      rw[if_neg hl1]at hsg;rw[e48]at hcl1;rw[e120]at hcl1;simp only[go_sem,hlt,hlt',hg,w3,w4,w5,z0,hm,hm',hgm,h49',hl2,hcl1];exact⟨k+1,by rw[hstep _ _ hsg],by omega,by omega⟩
   ·have hm':¬((k-hd.length:Nat):Int)<(m.length:Int):=by omega
    rw[hcm,if_neg hm]at hsg;by_cases hl1:k=al.length-1
    ·have hl2:((k:Int)=((al.length-1:Nat):Int))=True:=eq_true (by omega)
     have hcl1:=fun K'=>hcl 49 120 K'
     rw[if_pos hl1]at hsg;rw[e49]at hcl1;rw[e120]at hcl1;simp only[go_sem,hlt,hlt',hg,w3,w4,w5,z0,hm,hm',hl2,hcl1];exact⟨k+1,by rw[hstep _ _ hsg],by omega,by omega⟩
    ·have hl2:((k:Int)=((al.length-1:Nat):Int))=False:=eq_false (by omega)
     have hcl1:=fun K'=>hcl 48 120 K'
     rw[if_neg hl1]at hsg;rw[e48]at hcl1;rw[e120]at hcl1;simp only[go_sem,hlt,hlt',hg,w3,w4,w5,z0,hm,hm',hl2,hcl1];exact⟨k+1,by rw[hstep _ _ hsg],by omega,by omega⟩
  ·have w5:IntKind.i64.wrap ((k:Int)-(hd.length:Int))=(k:Int)-(hd.length:Int):=GA _ (by omega) (by omega)
   have z0:¬(0:Int)≤(k:Int)-(hd.length:Int):=by omega
   rw[if_neg hk0]at hsg;by_cases hl1:k=al.length-1
   ·have hl2:((k:Int)=((al.length-1:Nat):Int))=True:=eq_true (by omega)
    have hcl1:=fun K'=>hcl 49 120 K'
    rw[if_pos hl1]at hsg;rw[e49]at hcl1;rw[e120]at hcl1;simp only[go_sem,hlt,hlt',hg,w3,w4,w5,z0,hl2,hcl1];exact⟨k+1,by rw[hstep _ _ hsg],by omega,by omega⟩
   ·have hl2:((k:Int)=((al.length-1:Nat):Int))=False:=eq_false (by omega)
    have hcl1:=fun K'=>hcl 48 120 K'
    rw[if_neg hl1]at hsg;rw[e48]at hcl1;rw[e120]at hcl1;simp only[go_sem,hlt,hlt',hg,w3,w4,w5,z0,hl2,hcl1];exact⟨k+1,by rw[hstep _ _ hsg],by omega,by omega⟩
 ·obtain rfl:k=al.length:=by omega
  have e1:(TA c hd al).take al.length=TA c hd al:=by rw[←hlen];exact List.take_length
  rw[e1]at R3 c3;simp only[go_sem,Nat.lt_irrefl,Int.lt_irrefl,e1];generalize r2.clk (TA c hd al)=r3 at R3 c3 ⊢;have hw2:=fun(l:aA) (K':kA)=>KM (h:=h) (l:=l) (K:=K') (r:={ r3 with st:=12 }) ⟨R3.t,R3.i,R3.w⟩ c3 (show 12∈frS by decide) (iD n1)
  have hp:=fun l=>RP (h:=h) (l:=l) (r:=r3) (s:=r3.se) (x:=12) (y:=r3.ni) (z:=r3.nd)
  simp only[show((12:Nat):Int)=12 from rfl]at hp
  simp only[go_sem,hp,hw2]
theorem z3p {c:Cmd}(h7:c.k=8):r.scn eA c=Run.go eA { Run.clk { r.go eA 4 with nd:=(r.go eA 4).nd+(r.se.h2.b++c.b++r.se.t2.b).length } (TA c r.se.h2.b (r.se.h2.b++c.b++r.se.t2.b)) with st:=5 } r.se.e2.s.toNat∧r.scnF eA c=(r.go eA 4).ck+r.se.h2.b.length:=by
 unfold Run.scn Run.scnF;simp [h7]
set_option maxHeartbeats 4000000 in
theorem zpY (R:RunOk r)(N:YJ r)(hck:r.ck≤800000000)(hst:r.st∈stb)(S:SetR r.se)(c:Cmd)(h7:c.k=8)(hs:xC c=0):bA X RG [.ref (h.length+5) 0,ACm c] (rh h r l) K=K (AI (r.scnF eA c:Nat)) (rh h (r.scn eA c) l) []:=by
 refine xA ?_;rw[z4O rfl,(z3p h7).1,(z3p h7).2];have hw1:=fun(l:aA) (K':kA)=>KM (h:=h) (l:=l) (K:=K') R (by omega) (TB hst) (show 4∈toS by decide)
 simp only[show(((4:Nat)):Int)=4 from rfl]at hw1
 have R1:=PJ (tov:=4) R
 have c1:(r.go eA 4).ck≤800000008:=by have:=(SB (TB hst) (show 4∈toS by decide)).2.1;rw[nJ];omega
 have N1:=HM (tov:=4) N
 generalize r.go eA 4=r1 at *;obtain⟨q1,q2,q3,q4,q5,q6⟩:=IE hs;obtain⟨n1,n2⟩:=AC S.s2;have hh:=S.h2;have ht:=S.t2
 generalize hhd:r.se.h2.b=hd at *;generalize htl:r.se.t2.b=tl at *;generalize hen:r.se.e2.s=en at *;obtain⟨en',rfl⟩:∃n:Nat,en=n:=⟨en.toNat,n2.symm⟩;simp only[Int.toNat_natCast]at n1 n2 ⊢;obtain⟨k,s,cl,b,w,m⟩:=c;dsimp only at h7 q1 q3 q6 ⊢;subst h7;have hbp:=List.length_pos_iff.2 q1
 have x1:hd.length+b.length≤PA:=by unfold PA;omega
 have x2:hd.length+(b.length+tl.length)≤PA:=by unfold PA;omega
 have x3:hd.length+b.length+tl.length≤PA:=by unfold PA;omega
 obtain⟨hn,hd'⟩:=N1;obtain⟨al,hal⟩:∃al,al=hd++b++tl:=⟨_,rfl⟩;have hall:al.length=hd.length+b.length+tl.length:=by rw[hal];simp;omega
 have hal2:=hal
 rw[List.append_assoc]at hal2;have w1:IntKind.i64.wrap ((r1.nd:Int)+(al.length:Int))=((r1.nd+al.length:Nat):Int):=GA _ (by omega) (by omega)
 have w2:IntKind.i64.wrap ((r1.ck:Int)+(hd.length:Int))=((r1.ck+hd.length:Nat):Int):=GA _ (by omega) (by omega)
 simp only[TN,go_sem,hw1,hhd,htl,hen,x1,x2,x3,←hal,←hal2,w1,w2];have R2:RunOk { r1 with nd:=r1.nd+al.length }:=⟨R1.t,R1.i,R1.w⟩
 have c2:{ r1 with nd:=r1.nd+al.length:Run }.ck=r1.ck:=rfl
 show QA (bA X) X.gl _ _ _ (rh h { r1 with nd:=r1.nd+al.length } _) []
 generalize { r1 with nd:=r1.nd+al.length:Run }=r2 at R2 c2 ⊢
 generalize hq:(⟨8,s,cl,b,w,m⟩:Cmd)=c at *;have hcm:c.m=m:=by rw[←hq]
 have hcw:c.w=w:=by rw[←hq]
 have hml:m.length≤b.length∧m.length≤w.length:=by
  rcases q6 with⟨e1,e2⟩|⟨e1,e2⟩
  ·rw[e2];exact⟨Nat.zero_le _,Nat.zero_le _⟩
  ·omega
 have hal0:0<al.length:=by omega
 refine jB (fun k:Nat=>⟨[(0,.ref (h.length+5) 0),(3,.ref (h.length+(l.length+6)) 0),(5,AS hd),(7,AI en'),(9,AI 5),(10,AS al),(11,AI (r1.ck+hd.length:Nat)),(93,AI al.length),(94,AI k)],
  rh h (r2.clk ((TA c hd al).take k)) (l++[.box [AI 8,AI s,AI cl,AS b,AS w,AS m]]),[]⟩) (fun k=>k≤al.length) (fun k=>al.length-k) 0 (by rw[List.take_zero,LQ];rfl) (by omega) ?_
 intro k hk;have hlen:(TA c hd al).length=al.length:=VP c hd al
 have R3:=OJ (L:=(TA c hd al).take k) R2
 have c3:(r2.clk ((TA c hd al).take k)).ck≤900000000:=by rw[pN,c2,List.length_take];omega
 rcases Nat.lt_or_ge k al.length with hlt|hge
 ·have w3:IntKind.i64.wrap ((k:Int)+1)=((k+1:Nat):Int):=GA _ (by omega) (by omega)
  have w4:IntKind.i64.wrap ((al.length:Int)-1)=((al.length-1:Nat):Int):=by
   rw[show(al.length:Int)-1=((al.length-1:Nat):Int) by omega];exact GA _ (by omega) (by omega)
  have hlt':(k:Int)<(al.length:Int):=by omega
  have hg:al[k]?=some al[k]:=List.getElem?_eq_getElem hlt
  have hcl:=fun(t v:UInt8) (K':kA)=>HV (h:=h) (l:=l++[.box [AI 8,AI s,AI cl,AS b,AS w,AS m]]) (K:=K') R3 (by omega) t al[k] v
  have hsg:=z9E (c:=c) (hd:=hd) hlt
  have hstep:∀t v:UInt8,(TA c hd al)[k]?=some (t,al[k],v)→(r2.clk ((TA c hd al).take k)).clk [(t,al[k],v)]=r2.clk ((TA c hd al).take (k+1)):=fun t v e=>by
   rw[MQ,List.take_succ,e];rfl
  have e48:(((48:UInt8).toNat:Nat):Int)=48:=rfl
  have e49:(((49:UInt8).toNat:Nat):Int)=49:=rfl
  have e120:(((120:UInt8).toNat:Nat):Int)=120:=rfl
  generalize r2.clk ((TA c hd al).take k)=r3 at R3 c3 hcl hstep ⊢
  -- what is expected
  by_cases hk0:hd.length≤k
  ·have w5:IntKind.i64.wrap ((k:Int)-(hd.length:Int))=((k-hd.length:Nat):Int):=by
    rw[show(k:Int)-(hd.length:Int)=((k-hd.length:Nat):Int) by omega];exact GA _ (by omega) (by omega)
   have z0:(0:Int)≤((k-hd.length:Nat):Int):=by omega
   rw[if_pos hk0]at hsg;by_cases hm:k-hd.length<m.length
   ·have hm':((k-hd.length:Nat):Int)<(m.length:Int):=by omega
    rw[hcm,if_pos hm]at hsg;have hgm:m[k-hd.length]?=some m[k-hd.length]:=List.getElem?_eq_getElem hm
    have hgw:w[k-hd.length]?=some (w[k-hd.length]'(by omega)):=List.getElem?_eq_getElem (by omega)
    by_cases h49:m[k-hd.length]=49
    ·have hx:VC c (k-hd.length)=w[k-hd.length]'(by omega):=by unfold VC;rw[hcm,hgm,h49,if_pos rfl,hcw,hgw];rfl
     rw[hx]at hsg;by_cases hl1:k=al.length-1
     ·have hl2:((k:Int)=((al.length-1:Nat):Int))=True:=eq_true (by omega)
      have hcl1:=fun K'=>hcl 49 (w[k-hd.length]'(by omega)) K'
      rw[if_pos hl1]at hsg;rw[e49]at hcl1;simp only[go_sem,hlt,hlt',hg,w3,w4,w5,z0,hm,hm',hgm,hgw,h49,e49,hl2,hcl1];exact⟨k+1,by rw[hstep _ _ hsg],by omega,by omega⟩
     ·have hl2:((k:Int)=((al.length-1:Nat):Int))=False:=eq_false (by omega)
      have hcl1:=fun K'=>hcl 48 (w[k-hd.length]'(by omega)) K'
      rw[if_neg hl1]at hsg;rw[e48]at hcl1;simp only[go_sem,hlt,hlt',hg,w3,w4,w5,z0,hm,hm',hgm,hgw,h49,e49,hl2,hcl1];exact⟨k+1,by rw[hstep _ _ hsg],by omega,by omega⟩
    ·have hx:VC c (k-hd.length)=120:=by unfold VC;rw[hcm,hgm,if_neg (fun e=>h49 (Option.some.inj e))]
     rw[hx]at hsg;have h49':¬((m[k-hd.length].toNat:Int)=49):=fun e=>h49 (UInt8.toNat_inj.1 (by rw[show(49:UInt8).toNat=49 from rfl];omega))
     by_cases hl1:k=al.length-1
     ·have hl2:((k:Int)=((al.length-1:Nat):Int))=True:=eq_true (by omega)
      have hcl1:=fun K'=>hcl 49 120 K'
      rw[if_pos hl1]at hsg;rw[e49]at hcl1;rw[e120]at hcl1;simp only[go_sem,hlt,hlt',hg,w3,w4,w5,z0,hm,hm',hgm,h49',hl2,hcl1];exact⟨k+1,by rw[hstep _ _ hsg],by omega,by omega⟩
     ·have hl2:((k:Int)=((al.length-1:Nat):Int))=False:=eq_false (by omega)
      have hcl1:=fun K'=>hcl 48 120 K'
      rw[if_neg hl1]at hsg;rw[e48]at hcl1;rw[e120]at hcl1;simp only[go_sem,hlt,hlt',hg,w3,w4,w5,z0,hm,hm',hgm,h49',hl2,hcl1];exact⟨k+1,by rw[hstep _ _ hsg],by omega,by omega⟩
   ·have hm':¬((k-hd.length:Nat):Int)<(m.length:Int):=by omega
    rw[hcm,if_neg hm]at hsg;by_cases hl1:k=al.length-1
    ·have hl2:((k:Int)=((al.length-1:Nat):Int))=True:=eq_true (by omega)
     have hcl1:=fun K'=>hcl 49 120 K'
     rw[if_pos hl1]at hsg;rw[e49]at hcl1;rw[e120]at hcl1;simp only[go_sem,hlt,hlt',hg,w3,w4,w5,z0,hm,hm',hl2,hcl1];exact⟨k+1,by rw[hstep _ _ hsg],by omega,by omega⟩
    ·have hl2:((k:Int)=((al.length-1:Nat):Int))=False:=eq_false (by omega)
     have hcl1:=fun K'=>hcl 48 120 K'
     rw[if_neg hl1]at hsg;rw[e48]at hcl1;rw[e120]at hcl1;simp only[go_sem,hlt,hlt',hg,w3,w4,w5,z0,hm,hm',hl2,hcl1];exact⟨k+1,by rw[hstep _ _ hsg],by omega,by omega⟩
  ·have w5:IntKind.i64.wrap ((k:Int)-(hd.length:Int))=(k:Int)-(hd.length:Int):=GA _ (by omega) (by omega)
   have z0:¬(0:Int)≤(k:Int)-(hd.length:Int):=by omega
   rw[if_neg hk0]at hsg;by_cases hl1:k=al.length-1
   ·have hl2:((k:Int)=((al.length-1:Nat):Int))=True:=eq_true (by omega)
    have hcl1:=fun K'=>hcl 49 120 K'
    rw[if_pos hl1]at hsg;rw[e49]at hcl1;rw[e120]at hcl1;simp only[go_sem,hlt,hlt',hg,w3,w4,w5,z0,hl2,hcl1];exact⟨k+1,by rw[hstep _ _ hsg],by omega,by omega⟩
   ·have hl2:((k:Int)=((al.length-1:Nat):Int))=False:=eq_false (by omega)
    have hcl1:=fun K'=>hcl 48 120 K'
    rw[if_neg hl1]at hsg;rw[e48]at hcl1;rw[e120]at hcl1;simp only[go_sem,hlt,hlt',hg,w3,w4,w5,z0,hl2,hcl1];exact⟨k+1,by rw[hstep _ _ hsg],by omega,by omega⟩
 ·obtain rfl:k=al.length:=by omega
  have e1:(TA c hd al).take al.length=TA c hd al:=by rw[←hlen];exact List.take_length
  rw[e1]at R3 c3;simp only[go_sem,Nat.lt_irrefl,Int.lt_irrefl,e1];generalize r2.clk (TA c hd al)=r3 at R3 c3 ⊢;have hw2:=fun(l:aA) (K':kA)=>KM (h:=h) (l:=l) (K:=K') (r:={ r3 with st:=5 }) ⟨R3.t,R3.i,R3.w⟩ c3 (show 5∈frS by decide) (iD n1)
  have hp:=fun l=>RP (h:=h) (l:=l) (r:=r3) (s:=r3.se) (x:=5) (y:=r3.ni) (z:=r3.nd)
  simp only[show((5:Nat):Int)=5 from rfl]at hp
  simp only[go_sem,hp,hw2]
end Go.Am
end
