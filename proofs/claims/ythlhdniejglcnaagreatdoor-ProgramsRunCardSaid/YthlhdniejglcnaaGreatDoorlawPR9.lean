/- Texts of the proof, laid together: SpTap9, SpTap10, SpTaq1, SpTaq2, PTxt, PNum, PFltR, SpLines, SpNum, SpNums, SpQNum, SpTaq3, SpTaq4, SpTaq5, SpTaq6, SpTaq7, SpTaq8, SpTaq9, SpSig, SpRnV1, SpRnV2, SpRnV4, SpRnV5, SpRnV3, SpRnV6, SpTag0, SpTag1. -/
import Derived.Test.YthlhdniejglcnaaGreatDoorlawPR8
set_option linter.all false
set_option maxRecDepth 100000
open Go
section
namespace Go.Am
variable {h:aA} {K:kA}
attribute [-go_sem] YA
theorem zbL (s:List UInt8)(hs:s.length≤1000000):bA X xL [AS s,AS [48]] h K=K (AB (s.contains 48)) h []:=by
 refine rA ?_;rw[zft rfl];have IX:∀(hh:aA) (K:kA),bA X VP [AS s,AS [48]] hh K=K (AI (dD s 48)) hh []:=fun hh K=>by
  refine rA ?_;rw[zfu rfl];have q:=fun h K=>zpe (h:=h) (K:=K) s 48 hs
  simp only[jT,go_sem,↓q,q]
 have e:=z3a s 48
 have e2:decide (0≤dD s 48)=s.contains 48:=by
  cases hc:s.contains 48 with
  | true=>
   rw[hc]at e;have:¬dD s 48<0:=by simpa using e
   exact decide_eq_true (by omega)
  | false=>
   rw[hc]at e;have:dD s 48<0:=by simpa using e
   exact decide_eq_false (by omega)
 simp only[iT,go_sem,↓IX,IX,e2]
theorem z0r {n:List UInt8}{l:List TReg}:(l.map uA).any (WC n)=l.any fun x=>decide (x.name=n):=by rw[List.any_map];rfl
theorem z7s {n:List UInt8}{l:List TIns}:(l.map VA).any (WC n)=l.any fun x=>decide (x.code=n):=by rw[List.any_map];rfl
theorem z7r {n:List UInt8}{l:List TDev}:(l.map BA).any (WC n)=l.any fun x=>decide (x.name=n):=by rw[List.any_map];rfl
set_option maxHeartbeats 2000000 in
theorem zoX (d:TDev)(B:DevB d):bA X iQ [ZA d] h K=K (AI (QD [] d.regs)) h []:=by
 refine rA ?_;rw[zfB rfl];have hl:=B.rs
 obtain⟨T,hT⟩:∃T,T=QD [] d.regs:=⟨_,rfl⟩;rw[←hT];simp only[AT,go_sem,ZA,BA,List.length_map];refine XA (fun k:Nat=>⟨[(1,.ref h.length 0),(6,.p (.sl (some 2) (d.regs.map uA))),(7,AI d.regs.length),(8,AI k)],h++[.box (sB d)],[]⟩) (fun k=>k≤d.regs.length∧QD (d.regs.take k) (d.regs.drop k)=T) (fun k=>d.regs.length-k) 0 rfl ⟨by omega,hT.symm⟩ ?_
 rintro k ⟨hk,hp⟩
 rcases Nat.lt_or_ge k d.regs.length with hlt|hge
 ·have hg:=BB uA hlt
  have w2:IntKind.i64.wrap ((k:Int)+1)=((k+1:Nat):Int):=zA _ (by omega) (by omega)
  have cx:aB (some 2) 0 (uA d.regs[k])=some (uA d.regs[k]):=rfl
  have fp:∀y:TReg,uA y = .agg [.str y.name,eI y.long]:=fun _=>rfl
  have nl:=B.rn _ (List.getElem_mem hlt)
  have tk:=List.take_succ_eq_append_getElem hlt
  have hw:win (d.regs.map uA) 0 k=(d.regs.take k).map uA:=by simp [win,List.map_take]
  have hk2:k≤d.regs.length:=hk
  have lt:(d.regs.take k).length≤1000:=by rw[List.length_take];omega
  have d3:ldB none 3 (some (.box (sB d)))=some (.p (.sl (some 2) (d.regs.map uA))):=rfl
  rw[List.drop_eq_getElem_cons hlt]at hp;unfold QD at hp;rw[←tk]at hp;generalize hrr:d.regs[k]=r at *;generalize d.regs.take k=pre at *;rw[fp]at hg cx;have ky:=fun h K=>zbw (h:=h) (K:=K) r.name (by omega)
  have tl:sE jQ [.ref (h.length+1) 0] (WC r.name) (pre.map uA) (h++[.box (sB d),.box [AS r.name,AI r.long]]):=fun x hx K=>by
   obtain⟨y,_,rfl⟩:=List.mem_map.1 hx;refine rA ?_;rw[zfC rfl];simp only[CT,go_sem,Nat.add_assoc,uA,WC]
  have ct:=fun K=>ZX (h:=h++[.box (sB d),.box [AS r.name,AI r.long]]) (K:=K) tl pX (by simp;omega)
  rw[z0r]at ct;cases kb:OC r.name with
  | false=>
   have e:dC pre r=5:=by unfold dC;rw[if_pos kb]
   rw[e,if_pos (by decide)]at hp
   rw[←hp];simp only[JH,pG,go_sem,Nat.add_assoc,hlt,hg,cx,fp,↓ky,ky,kb,splice]
  | true=>
   by_cases n1:r.name=[98,121,112,97,115,115]
   ·have e:dC pre r=6:=by unfold dC yB bB;rw[if_neg (by simp [kb]),if_pos (.inl n1)]
    rw[e,if_pos (by decide)]at hp
    rw[←hp];simp only[JH,pG,go_sem,Nat.add_assoc,hlt,hg,cx,fp,↓ky,ky,kb,eq_true n1,splice]
   by_cases n2:r.name=[105,100,99,111,100,101]
   ·have e:dC pre r=6:=by unfold dC yB bB;rw[if_neg (by simp [kb]),if_pos (.inr (.inl n2))]
    rw[e,if_pos (by decide)]at hp
    rw[←hp];simp only[JH,pG,go_sem,Nat.add_assoc,hlt,hg,cx,fp,↓ky,ky,kb,n1,eq_true n2,splice]
   cases ha:(pre.any fun x=>decide (x.name=r.name)) with
   | true=>
    have e:dC pre r=6:=by unfold dC yB bB;rw[if_neg (by simp [kb]),if_pos (.inr (.inr ha))]
    rw[e,if_pos (by decide)]at hp
    rw[←hp];rw[ha]at ct;simp only[JH,pG,go_sem,Nat.add_assoc,hlt,hg,cx,fp,↓ky,ky,kb,n1,n2,d3,hw,hk2,↓ct,ct,splice]
   | false=>
    have e0:¬(r.name=[98,121,112,97,115,115]∨r.name=[105,100,99,111,100,101]∨(pre.any fun x=>decide (x.name=r.name))=true):=by rw[ha];simp [n1,n2]
    rw[ha]at ct;by_cases o1:r.long<1∨1000<r.long
    ·have e:dC pre r=1:=by unfold dC yB bB;rw[if_neg (by simp [kb]),if_neg e0,if_pos o1]
     rw[e,if_pos (by decide)]at hp
     rw[←hp];have o2:(decide (r.long<1)||decide (1000<r.long))=true:=by simpa using o1
     simp only[JH,pG,go_sem,Nat.add_assoc,hlt,hg,cx,fp,↓ky,ky,kb,n1,n2,d3,hw,hk2,↓ct,ct,splice,LC,o2]
    ·have e:dC pre r=0:=by unfold dC yB bB;rw[if_neg (by simp [kb]),if_neg e0,if_neg o1]
     rw[e,if_neg (by decide)]at hp
     have o2:(decide (r.long<1)||decide (1000<r.long))=false:=by simpa using o1
     simp only[JH,pG,go_sem,Nat.add_assoc,hlt,hg,cx,fp,↓ky,ky,kb,n1,n2,d3,hw,hk2,↓ct,ct,splice,LC,o2,w2];exact⟨k+1,rfl,⟨by omega,hp⟩,by omega⟩
 ·have ek:k=d.regs.length:=by omega
  subst ek;rw[List.drop_length]at hp;rw[←hp];simp only[JH,pG,go_sem,Nat.lt_irrefl,z8E,BT,QD]
set_option maxHeartbeats 4000000 in
theorem zoJ (d:TDev)(B:DevB d):bA X dQ [ZA d] h K=K (AI (oE d [] d.ins)) h []:=by
 refine rA ?_;rw[zf4 rfl];have hl:=B.is
 obtain⟨T,hT⟩:∃T,T=oE d [] d.ins:=⟨_,rfl⟩;rw[←hT];simp only[tT,go_sem,ZA,BA,List.length_map];refine XA (fun k:Nat=>⟨[(1,.ref h.length 0),(8,.p (.sl (some 2) (d.ins.map VA))),(9,AI d.ins.length),(10,AI k)],h++[.box (sB d)],[]⟩) (fun k=>k≤d.ins.length∧oE d (d.ins.take k) (d.ins.drop k)=T) (fun k=>d.ins.length-k) 0 rfl ⟨by omega,hT.symm⟩ ?_
 rintro k ⟨hk,hp⟩
 rcases Nat.lt_or_ge k d.ins.length with hlt|hge
 ·have hg:=BB VA hlt
  have w2:IntKind.i64.wrap ((k:Int)+1)=((k+1:Nat):Int):=zA _ (by omega) (by omega)
  have cx:aB (some 2) 0 (VA d.ins[k])=some (VA d.ins[k]):=rfl
  have fp:∀y:TIns,VA y = .agg [.str y.code,.str y.reg]:=fun _=>rfl
  obtain⟨nl1,nl2⟩:=B.ic _ (List.getElem_mem hlt);have tk:=List.take_succ_eq_append_getElem hlt
  have hw:win (d.ins.map VA) 0 k=(d.ins.take k).map VA:=by simp [win,List.map_take]
  have hk2:k≤d.ins.length:=hk
  have lt:(d.ins.take k).length≤1000:=by rw[List.length_take];omega
  have d1:ldB none 1 (some (.box (sB d)))=some (AI d.long):=rfl
  have d4:ldB none 4 (some (.box (sB d)))=some (.p (.sl (some 2) (d.ins.map VA))):=rfl
  have d5:ldB (some 5) 0 (some (.box (sB d)))=some (ZA d):=rfl
  rw[List.drop_eq_getElem_cons hlt]at hp;unfold oE at hp;rw[←tk]at hp;generalize hrr:d.ins[k]=r at *;generalize d.ins.take k=pre at *;rw[fp]at hg cx;have bt:=fun h K=>bK (h:=h) (K:=K) r.code (by omega)
  have sc:=fun h K=>zbL (h:=h) (K:=K) r.code (by omega)
  have rg:=fun h K=>z5U (h:=h) (K:=K) d r.reg (by have:=B.rs;omega)
  have tl:sE eQ [.ref (h.length+1) 0] (WC r.code) (pre.map VA) (h++[.box (sB d),.box [AS r.code,AS r.reg]]):=fun x hx K=>by
   obtain⟨y,_,rfl⟩:=List.mem_map.1 hx;refine rA ?_;rw[zf5 rfl];simp only[vT,go_sem,Nat.add_assoc,VA,WC]
  have ct:=fun K=>z6B (h:=h++[.box (sB d),.box [AS r.code,AS r.reg]]) (K:=K) tl z9X (by simp;omega)
  rw[z7s]at ct;by_cases n1:(r.code.length:Int)=d.long
  case neg=>
   have e:VB d pre r=3:=by unfold VB;rw[if_pos n1]
   rw[e,if_pos (by decide)]at hp
   rw[←hp];simp only[HH,oG,go_sem,Nat.add_assoc,hlt,hg,cx,fp,splice,d1,n1]
  cases n2:EA r.code with
  | false=>
   have e:VB d pre r=9:=by unfold VB;rw[if_neg (by simp [n1]),if_pos n2]
   rw[e,if_pos (by decide)]at hp
   rw[←hp];rw[n2]at bt;simp only[HH,oG,go_sem,Nat.add_assoc,hlt,hg,cx,fp,splice,d1,eq_true n1,↓bt,bt]
  | true=>
   rw[n2]at bt;cases n3:r.code.contains 48 with
   | false=>
    have e:VB d pre r=16:=by unfold VB;rw[if_neg (by simp [n1]),if_neg (by simp [n2]),if_pos n3]
    rw[e,if_pos (by decide)]at hp
    rw[←hp];rw[n3]at sc;simp only[HH,oG,go_sem,Nat.add_assoc,hlt,hg,cx,fp,splice,d1,eq_true n1,↓bt,bt,↓sc,sc]
   | true=>
    rw[n3]at sc;cases n4:(pre.any fun y=>decide (y.code=r.code)) with
    | true=>
     have e:VB d pre r=6:=by unfold VB;rw[if_neg (by simp [n1]),if_neg (by simp [n2]),if_neg (by rw[n3];simp),if_pos n4]
     rw[e,if_pos (by decide)]at hp
     rw[←hp];rw[n4]at ct;simp only[HH,oG,go_sem,Nat.add_assoc,hlt,hg,cx,fp,splice,d1,eq_true n1,↓bt,bt,↓sc,sc,d4,hw,hk2,↓ct,ct]
    | false=>
     rw[n4]at ct;cases n5:WB d r.reg with
     | none=>
      have e:VB d pre r=8:=by unfold VB;rw[if_neg (by simp [n1]),if_neg (by simp [n2]),if_neg (by rw[n3];simp),if_neg (by rw[n4];simp),if_pos (by rw[n5];rfl)]
      rw[e,if_pos (by decide)]at hp
      rw[←hp];unfold uN at rg;rw[n5]at rg;dsimp only at rg;simp only[HH,oG,go_sem,Nat.add_assoc,hlt,hg,cx,fp,splice,d1,eq_true n1,↓bt,bt,↓sc,sc,d4,d5,hw,hk2,↓ct,ct,↓rg,rg]
     | some g=>
      have e:VB d pre r=0:=by unfold VB;rw[if_neg (by simp [n1]),if_neg (by simp [n2]),if_neg (by rw[n3];simp),if_neg (by rw[n4];simp),if_neg (by rw[n5];simp)]
      rw[e,if_neg (by decide)]at hp
      unfold uN at rg;rw[n5]at rg;dsimp only at rg;have fr:∀y:TReg,uA y = .agg [.str y.name,eI y.long]:=fun _=>rfl
      rw[fr]at rg;simp only[HH,oG,go_sem,Nat.add_assoc,hlt,hg,cx,fp,splice,d1,eq_true n1,↓bt,bt,↓sc,sc,d4,d5,hw,hk2,↓ct,ct,↓rg,rg,w2];exact⟨k+1,rfl,⟨by omega,hp⟩,by omega⟩
 ·have ek:k=d.ins.length:=by omega
  subst ek;rw[List.drop_length]at hp;rw[←hp];simp only[HH,oG,go_sem,Nat.lt_irrefl,z8B,uT,oE]
end Go.Am
end
section
namespace Go.Am
variable {h:aA} {K:kA}
attribute [-go_sem] YA
theorem orL2 (a b:Int):orL [a,b]=if a≠0 then a else b:=by
 unfold orL orL;by_cases h:a=0
 ·by_cases h2:b=0
  ·simp [h,h2,orL]
  ·simp [h,h2]
 ·simp [h]
set_option maxHeartbeats 4000000 in
theorem zoG (pre:List TDev)(hpre:pre.length≤1000)(d:TDev)(B:DevB d):bA X bQ [ZA d,IB pre] h K=K (AI (OF pre d)) h []:=by
 refine rA ?_;rw[zf2 rfl];have ky:=fun h K=>zbw (h:=h) (K:=K) d.name (by have:=B.n;omega)
 have tl:sE cQ [.ref h.length 0] (WC d.name) (pre.map BA) (h++[.box [AS d.name,AI d.long,AI d.id,.p (.sl (some 2) (d.regs.map uA)),.p (.sl (some 2) (d.ins.map VA))]]):=fun x hx K=>by
  obtain⟨y,_,rfl⟩:=List.mem_map.1 hx;refine rA ?_;rw[zf3 rfl];simp only[rT,go_sem,Nat.add_assoc,BA,WC]
 have ct:=fun K=>z6A (h:=h++[.box [AS d.name,AI d.long,AI d.id,.p (.sl (some 2) (d.regs.map uA)),.p (.sl (some 2) (d.ins.map VA))]]) (K:=K) tl z8r (by simp;omega)
 rw[z7r]at ct;have rf:=fun h K=>zoX (h:=h) (K:=K) d B
 have nf:=fun h K=>zoJ (h:=h) (K:=K) d B
 have fa:ZA d = .p (.agg [.str d.name,eI d.long,eI d.id,.sl (some 2) (d.regs.map uA),.sl (some 2) (d.ins.map VA)]):=rfl
 rw[fa]at rf nf;have fst:=fun h K=>zbt (h:=h) (K:=K) [QD [] d.regs,oE d [] d.ins] (by simp)
 rw[orL2]at fst;simp only[AL,List.map_cons,List.map_nil]at fst;unfold OF;cases kb:OC d.name with
 | false=>
  rw[if_pos rfl];simp only[xE,go_sem,ZA,BA,↓ky,ky,kb]
 | true=>
  rw[if_neg (by simp)]
  cases ha:(pre.any fun x=>decide (x.name=d.name)) with
  | true=>
   rw[if_pos rfl];rw[ha]at ct;simp only[xE,go_sem,ZA,BA,↓ky,ky,kb,↓ct,ct]
  | false=>
   rw[if_neg (by simp)]
   rw[ha]at ct;by_cases o1:d.long<2∨32<d.long
   ·rw[if_pos (.inl o1)]
    have o2:(decide (d.long<2)||decide (32<d.long))=true:=by simpa using o1
    simp only[xE,go_sem,ZA,BA,↓ky,ky,kb,↓ct,ct,LC,o2]
   have o2:(decide (d.long<2)||decide (32<d.long))=false:=by simpa using o1
   by_cases p1:d.id<0∨4294967295<d.id
   ·rw[if_pos (.inr p1)]
    have p2:(decide (d.id<0)||decide (4294967295<d.id))=true:=by simpa using p1
    simp only[xE,go_sem,ZA,BA,↓ky,ky,kb,↓ct,ct,LC,o2,p2]
   have p2:(decide (d.id<0)||decide (4294967295<d.id))=false:=by simpa using p1
   rw[if_neg (by omega)]
   have t2:¬(2:Int)=0:=by decide
   by_cases q1:d.id≠0∧d.id.tmod 2=0
   ·rw[if_pos q1]
    obtain⟨q2,q3⟩:=q1;simp only[xE,go_sem,ZA,BA,↓ky,ky,kb,↓ct,ct,LC,o2,p2,q2,t2,eq_true q3]
   rw[if_neg q1];have rest:∀(b:Bool),(10:Int)<d.regs.length∨(100:Int)<d.ins.length∨¬((10:Int)<d.regs.length∨(100:Int)<d.ins.length):=fun _=>by omega
   by_cases z:d.id=0
   ·by_cases g1:(10:Int)<d.regs.length
    ·rw[if_pos (.inl g1)]
     simp only[xE,go_sem,ZA,BA,↓ky,ky,kb,↓ct,ct,LC,o2,p2,eq_true z,g1,List.length_map]
    by_cases g2:(100:Int)<d.ins.length
    ·rw[if_pos (.inr g2)]
     simp only[xE,go_sem,ZA,BA,↓ky,ky,kb,↓ct,ct,LC,o2,p2,eq_true z,g1,g2,List.length_map]
    rw[if_neg (by omega)]
    simp only[xE,go_sem,ZA,BA,↓ky,ky,kb,↓ct,ct,LC,o2,p2,eq_true z,g1,g2,List.length_map,↓rf,rf,↓nf,nf,↓fst,fst]
   ·have q3:¬d.id.tmod 2=0:=fun e=>q1 ⟨z,e⟩
    by_cases g1:(10:Int)<d.regs.length
    ·rw[if_pos (.inl g1)]
     simp only[xE,go_sem,ZA,BA,↓ky,ky,kb,↓ct,ct,LC,o2,p2,z,t2,q3,g1,List.length_map]
    by_cases g2:(100:Int)<d.ins.length
    ·rw[if_pos (.inr g2)]
     simp only[xE,go_sem,ZA,BA,↓ky,ky,kb,↓ct,ct,LC,o2,p2,z,t2,q3,g1,g2,List.length_map]
    rw[if_neg (by omega)]
    simp only[xE,go_sem,ZA,BA,↓ky,ky,kb,↓ct,ct,LC,o2,p2,z,t2,q3,g1,g2,List.length_map,↓rf,rf,↓nf,nf,↓fst,fst]
theorem zbp (ds:List TDev)(hB:∀ d∈ds,DevB d)(hl:ds.length≤1000):bA X SH [IB ds] h K=K (AI (YE ds)) h []:=by
 refine rA ?_;rw[zfy rfl];unfold YE;by_cases z:ds.length=0
 ·have z':(ds.length:Int)=0:=by omega
  rw[if_pos z];simp only[PK,go_sem,List.length_map,eq_true z']
 have z':¬(ds.length:Int)=0:=by omega
 rw[if_neg z];by_cases g:20<ds.length
 ·have g':(20:Int)<ds.length:=by omega
  rw[if_pos g];simp only[PK,go_sem,List.length_map,z',g']
 have g':¬(20:Int)<ds.length:=by omega
 rw[if_neg g];obtain⟨T,hT⟩:∃T,T=wF [] ds:=⟨_,rfl⟩;rw[←hT];simp only[PK,go_sem,List.length_map,z',g'];refine XA (fun k:Nat=>⟨[(0,IB ds),(14,IB ds),(15,AI ds.length),(16,AI k)],h,[]⟩) (fun k=>k≤ds.length∧wF (ds.take k) (ds.drop k)=T) (fun k=>ds.length-k) 0 rfl ⟨by omega,hT.symm⟩ ?_
 rintro k ⟨hk,hp⟩
 rcases Nat.lt_or_ge k ds.length with hlt|hge
 ·have hg:=BB BA hlt
  have w2:IntKind.i64.wrap ((k:Int)+1)=((k+1:Nat):Int):=zA _ (by omega) (by omega)
  have cx:aB (some 5) 0 (BA ds[k])=some (BA ds[k]):=rfl
  have fp:∀y:TDev,BA y = .agg [.str y.name,eI y.long,eI y.id,.sl (some 2) (y.regs.map uA),.sl (some 2) (y.ins.map VA)]:=fun _=>rfl
  have tk:=List.take_succ_eq_append_getElem hlt
  have hw:win (ds.map BA) 0 k=(ds.take k).map BA:=by simp [win,List.map_take]
  have lt:(ds.take k).length≤1000:=by rw[List.length_take];omega
  have B:=hB _ (List.getElem_mem hlt)
  rw[List.drop_eq_getElem_cons hlt]at hp;unfold wF at hp;rw[←tk]at hp;generalize hrr:ds[k]=d at *;generalize ds.take k=pre at *;have df:=fun h K=>zoG (h:=h) (K:=K) pre lt d B
  have fa:ZA d = .p (.agg [.str d.name,eI d.long,eI d.id,.sl (some 2) (d.regs.map uA),.sl (some 2) (d.ins.map VA)]):=rfl
  rw[fa]at df;rw[fp]at hg cx;by_cases e:OF pre d=0
  ·rw[e,if_neg (by decide)]at hp
   rw[e]at df;simp only[ZT,QK,go_sem,hlt,hk,hg,cx,fp,hw,splice,↓df,df,w2];exact⟨k+1,rfl,⟨by omega,hp⟩,by omega⟩
  ·rw[if_pos e]at hp
   rw[←hp];simp only[ZT,QK,go_sem,hlt,hk,hg,cx,fp,hw,splice,↓df,df,e]
 ·have ek:k=ds.length:=by omega
  subst ek;rw[List.drop_length]at hp;rw[←hp];simp only[ZT,QK,go_sem,Nat.lt_irrefl,z8A,nT,wF]
end Go.Am
end
section
namespace Go.Am
variable {h:aA} {K:kA}
attribute [-go_sem] YA
attribute [-go_sem] z2v JK z2w KK z2x LK
def cG (d:TDev)(code n:List UInt8)(k:Nat):List UInt8:=(d.ins.take k).foldl (fun n x=>if x.code=code then x.reg else n) n
theorem so_k5 (d:TDev)(n code:List UInt8)(hl:d.regs.length≤1000000){b:Nat}(hb:b=h.length){P:kA}(hP:P (.p (uA (match d.regs.find? fun r=>r.name==n with | some r=>r | none=>if n=bB then ⟨n,32⟩ else ⟨n,1⟩))) h []) :
 (KK (bA X) X.gl [(2,.ref h.length 0),(4,.ref (h.length+1) 0),(5,AS n)] (h++[.box (sB d),.box [AS [],AI 0]]) [] (mA [.cell 4 (some 2)] false b P)).1:=by
 subst hb;have e4:=@z2v
 have dc:ldB none 3 (some (.box (sB d)))=some (.p (.sl (some 2) (d.regs.map uA))):=rfl
 simp only[KK,go_sem,dc,List.length_map];refine XA (fun k:Nat=>⟨[(4,.ref (h.length+1) 0),(5,AS n),(32,.p (.sl (some 2) (d.regs.map uA))),(33,AI d.regs.length),(34,AI k)],h++[.box (sB d),.box [AS [],AI 0]],[]⟩) (fun k=>k≤d.regs.length∧∀x∈d.regs.take k,(x.name==n)=false) (fun k=>d.regs.length-k) 0 rfl ⟨by omega,by simp⟩ ?_
 rintro k ⟨hk,hn⟩
 rcases Nat.lt_or_ge k d.regs.length with hlt|hge
 ·have hg:=BB uA hlt
  have w2:IntKind.i64.wrap ((k:Int)+1)=((k+1:Nat):Int):=zA _ (by omega) (by omega)
  have cx:aB (some 2) 0 (uA d.regs[k])=some (uA d.regs[k]):=rfl
  have fp:∀y:TReg,uA y = .agg [.str y.name,eI y.long]:=fun _=>rfl
  have ge:d.regs[k]?=some d.regs[k]:=List.getElem?_eq_getElem hlt
  have tk:=List.take_succ_eq_append_getElem hlt
  generalize d.regs[k]=r at *;by_cases hr:r.name=n
  ·have hf:d.regs.find? (fun r=>r.name==n)=some r:=mU hn ge (by simp [hr])
   rw[hf]at hP;dsimp only at hP;rw[fp]at hg cx hP;simp only[go_sem,Nat.add_assoc,hlt,hg,cx,w2,eq_true hr,splice];exact hP
  ·rw[fp]at hg cx
   simp only[go_sem,Nat.add_assoc,hlt,hg,cx,w2,hr,splice];refine⟨k+1,rfl,⟨by omega,fun x hx=>?_⟩,by omega⟩
   rw[tk,List.mem_append,List.mem_singleton]at hx;rcases hx with hx|hx
   ·exact hn x hx
   ·rw[hx];simpa using hr
 ·have ek:k=d.regs.length:=by omega
  subst ek;rw[List.take_length]at hn;rw[z9g hn]at hP;dsimp only at hP;unfold bB at hP;by_cases hi:n=[105,100,99,111,100,101]
  ·rw[if_pos hi]at hP
   simp only[go_sem,Nat.lt_irrefl,e4,JK,eq_true hi,splice];exact hP
  ·rw[if_neg hi]at hP
   simp only[go_sem,Nat.lt_irrefl,e4,JK,hi,splice];exact hP
theorem so_k6 (d:TDev)(n0 code:List UInt8)(hl:d.regs.length≤1000000)(hi:d.ins.length≤1000000){b:Nat}(hb:b=h.length){P:kA}(hP:P (.p (uA (match d.regs.find? fun r=>r.name==cG d code n0 d.ins.length with | some r=>r | none=>if cG d code n0 d.ins.length=bB then ⟨cG d code n0 d.ins.length,32⟩ else ⟨cG d code n0 d.ins.length,1⟩))) h []){y:List (Nat × AV)} :
 (LK (bA X) X.gl ([(1,AS code),(2,.ref h.length 0),(4,.ref (h.length+1) 0),(5,AS n0)]++y) (h++[.box (sB d),.box [AS [],AI 0]]) [] (mA [.cell 4 (some 2)] false b P)).1:=by
 have e5:=@z2w
 have dc:ldB none 4 (some (.box (sB d)))=some (.p (.sl (some 2) (d.ins.map VA))):=rfl
 simp only[LK,go_sem,dc,List.length_map,List.cons_append,List.nil_append];refine XA (fun k:Nat=>⟨[(1,AS code),(2,.ref h.length 0),(4,.ref (h.length+1) 0),(5,AS (cG d code n0 k)),(18,.p (.sl (some 2) (d.ins.map VA))),(19,AI d.ins.length),(20,AI k)],h++[.box (sB d),.box [AS [],AI 0]],[]⟩) (fun k=>k≤d.ins.length) (fun k=>d.ins.length-k) 0 rfl (by omega) ?_
 intro k hk;rcases Nat.lt_or_ge k d.ins.length with hlt|hge
 ·have hg:=BB VA hlt
  have w2:IntKind.i64.wrap ((k:Int)+1)=((k+1:Nat):Int):=zA _ (by omega) (by omega)
  have ef:cG d code n0 (k+1)=if d.ins[k].code=code then d.ins[k].reg else cG d code n0 k:=by
   unfold cG;rw[List.take_succ_eq_append_getElem hlt,List.foldl_append];rfl
  have cx:aB (some 2) 0 (VA d.ins[k])=some (VA d.ins[k]):=rfl
  generalize cG d code n0 k=nm at *;generalize d.ins[k]=i at *;have fp:∀y:TIns,VA y = .agg [.str y.code,.str y.reg]:=fun _=>rfl
  rw[fp]at hg cx;by_cases hc:i.code=code
  ·rw[if_pos hc]at ef
   simp only[go_sem,Nat.add_assoc,hlt,hg,cx,w2,hc,splice];exact⟨k+1,by rw[ef],by omega,by omega⟩
  ·rw[if_neg hc]at ef
   simp only[go_sem,Nat.add_assoc,hlt,hg,cx,w2,hc,splice];exact⟨k+1,by rw[ef],by omega,by omega⟩
 ·have ek:k=d.ins.length:=by omega
  subst ek;simp only[go_sem,Nat.lt_irrefl];rw[e5];exact so_k5 d _ code hl hb hP
theorem zb5 (d:TDev)(code:List UInt8)(hl:d.regs.length≤1000000)(hi:d.ins.length≤1000000):bA X kL [ZA d,AS code] h K=K (.p (uA (rR d code))) h []:=by
 refine rA ?_;rw[zeF rfl];have e6:=@z2x
 have ob:CJ (ZA d) h=some (.ref h.length 0,h++[.box (sB d)],[]):=rfl
 have d2:ldB none 2 (some (.box (sB d)))=some (AI d.id):=rfl
 have es:∀n0,cG d code n0 d.ins.length=d.ins.foldl (fun n x=>if x.code=code then x.reg else n) n0:=fun n0=>by unfold cG;rw[List.take_length]
 have k6:=fun n0 y P hP=>so_k6 (h:=h) d n0 code hl hi (b:=h.length) rfl (P:=P) hP (y:=y)
 simp only[es]at k6;unfold rR;dsimp only;by_cases hc:code=[]
 ·by_cases h0:d.id=0
  ·rw[if_neg (by simp [h0])]
   have n0:(!decide (d.id=0))=false:=by simp [h0]
   simp only[IK,go_sem,ZA,BA,eq_true hc,n0];rw[e6];refine k6 _ _ _ ?_;exact⟨rfl,rfl,rfl⟩
  ·rw[if_pos ⟨hc,h0⟩]
   simp only[IK,go_sem,ZA,BA,eq_true hc,eq_false h0];rw[e6];refine k6 _ [] _ ?_;exact⟨rfl,rfl,rfl⟩
 ·rw[if_neg (by simp [hc])]
  simp only[IK,go_sem,ZA,BA,hc];rw[e6];refine k6 _ _ _ ?_;exact⟨rfl,rfl,rfl⟩
abbrev PM:=List ((List UInt8 × List UInt8) × List UInt8)
def prP (s:List UInt8 × List UInt8):PV:=.agg [.str s.1,.str s.2]
theorem BQ:GI prP:=fun a b=>by
 obtain⟨a1,a2⟩:=a;obtain⟨b1,b2⟩:=b;have e:decide ((a1,a2)=(b1,b2))=(decide (a1=b1)&&(decide (a2=b2)&&true)):=by rw[Bool.eq_iff_iff];simp
 rw[e];rfl
theorem CQ {s:List UInt8 × List UInt8}:VC (some 2,[2,2]) (.p (prP s))=some (prP s):=by simp [prP,VC,PV.key,PV.shp,PV.sc,PV.cells,PV.kind]
def QB (h:aA)(ds:List TDev)(st:Int)(n m:Nat):Obj:=.box [IB ds,AI st,.own h.length n 0 n,.own (h.length+3) m 0 m,.mp (h.length+1),.mp (h.length+2)]
def QH (h:aA)(ds:List TDev)(st:Int)(cs ss:List (List UInt8))(mi mo:PM)(t:aA):aA:=
 h++(.row none (cs.map .str) 0::LA prP UA mi::LA prP UA mo :: .row none (ss.map .str) 0::QB h ds st cs.length ss.length::t)
section
variable {ds:List TDev} {st:Int} {cs ss:List (List UInt8)} {mi mo:PM} {t u:aA} {o:Obj}
theorem kK:(QH h ds st cs ss mi mo t).length=h.length+5+t.length:=by unfold QH;simp;omega
theorem DR:QH h ds st cs ss mi mo t++u=QH h ds st cs ss mi mo (t++u):=by unfold QH;simp
theorem QH_0:(QH h ds st cs ss mi mo t)[h.length]?=some (.row none (cs.map .str) 0):=by unfold QH;rw[z0s];rfl
theorem QH_1:(QH h ds st cs ss mi mo t)[h.length+1]?=some (LA prP UA mi):=by unfold QH;rw[bD];rfl
theorem QH_2:(QH h ds st cs ss mi mo t)[h.length+2]?=some (LA prP UA mo):=by unfold QH;rw[bD];rfl
theorem QH_3:(QH h ds st cs ss mi mo t)[h.length+3]?=some (.row none (ss.map .str) 0):=by unfold QH;rw[bD];rfl
theorem jK:(QH h ds st cs ss mi mo t)[h.length+4]?=some (QB h ds st cs.length ss.length):=by unfold QH;rw[bD];rfl
theorem lK {n:Nat}:(QH h ds st cs ss mi mo t)[h.length+5+n]?=t[n]?:=by
 unfold QH;rw[show h.length+5+n=h.length+(n+1+1+1+1+1) by omega,bD];rfl
theorem ON {n:Nat}:(QH h ds st cs ss mi mo t).set (h.length+5+n) o=QH h ds st cs ss mi mo (t.set n o):=by
 unfold QH;rw[show h.length+5+n=h.length+(n+1+1+1+1+1) by omega,DD];rfl
theorem PN {n:Nat}:(QH h ds st cs ss mi mo t).take (h.length+5+n)=QH h ds st cs ss mi mo (t.take n):=by
 unfold QH;rw[show h.length+5+n=h.length+(n+1+1+1+1+1) by omega,qH];rfl
theorem QH_s0 {k:Nat}{s:List UInt8}:(QH h ds st cs ss mi mo t).set h.length (.row none ((cs.map .str).set k (.str s)) 0)=QH h ds st (cs.set k s) ss mi mo t:=by
 unfold QH;rw[z0t,List.map_set,List.length_set];rfl
theorem z6S {m:PM}:(QH h ds st cs ss mi mo t).set (h.length+1) (LA prP UA m)=QH h ds st cs ss m mo t:=by unfold QH;rw[DD];rfl
theorem aY {m:PM}:(QH h ds st cs ss mi mo t).set (h.length+2) (LA prP UA m)=QH h ds st cs ss mi m t:=by unfold QH;rw[DD];rfl
theorem z6T {k:Nat}{s:List UInt8}:(QH h ds st cs ss mi mo t).set (h.length+3) (.row none ((ss.map .str).set k (.str s)) 0)=QH h ds st cs (ss.set k s) mi mo t:=by
 unfold QH;rw[DD,List.map_set,List.length_set];rfl
theorem QH_s4 {s:Int}:(QH h ds st cs ss mi mo t).set (h.length+4) (QB h ds s cs.length ss.length)=QH h ds s cs ss mi mo t:=by unfold QH;rw[DD];rfl
end
def KD (n:List UInt8):List TReg→PM→PM
 | [],m=>m
 | r::rs,m=>KD n rs (rB (n,r.name) (zs r.long.toNat) m)
def zC:List TDev→PM→PM
 | [],m=>m
 | d::ds,m=>zC ds (KD d.name d.regs m)
theorem z2X {k j:List UInt8 × List UInt8}{v:List UInt8}:∀(m:PM),RA j (rB k v m)=if j=k then some v else RA j m
 | []=>by
  unfold rB RA;by_cases h:j=k
  ·simp [h]
  ·simp [h,RA]
 | e::r=>by
  unfold rB;by_cases h1:k=e.1
  ·rw[if_pos h1]
   unfold RA;by_cases h2:j=k
   ·simp [h2]
   ·have:¬j=e.1:=fun q=>h2 (by rw[q,h1])
    simp [h2,this]
  ·rw[if_neg h1]
   unfold RA;by_cases h2:j=e.1
   ·have:¬j=k:=fun q=>h1 (by rw[←q,h2])
    simp [h2,this];intro q;exact absurd q.symm h1
   ·rw[if_neg h2,if_neg h2]
    exact z2X r
theorem z3c (n:List UInt8):∀(rs:List TReg) (m:PM) (k:List UInt8×List UInt8),(∀r∈rs,(n,r.name)≠k)→RA k (KD n rs m)=RA k m
 | [],m,k,_=>rfl
 | r::rs,m,k,h=>by
  unfold KD;rw[z3c n rs _ k fun x hx=>h x (List.mem_cons_of_mem _ hx),z2X,if_neg fun e=>h r List.mem_cons_self e.symm]
theorem z9U (n:List UInt8):∀(rs:List TReg) (m:PM),(rs.map TReg.name).Nodup→∀r∈rs,RA (n,r.name) (KD n rs m)=some (zs r.long.toNat)
 | [],m,_,r,hr=>by cases hr
 | a::rs,m,h,r,hr=>by
  rw[List.map_cons,List.nodup_cons]at h;unfold KD;rcases List.mem_cons.1 hr with e|e
  ·subst e
   rw[z3c n rs _ (n,r.name) fun x hx e=>h.1 ((Prod.mk.inj e).2 ▸ List.mem_map_of_mem hx),z2X,if_pos rfl]
  ·exact z9U n rs _ h.2 r e
theorem z9R:∀ (ds:List TDev) (m:PM) (k:List UInt8 × List UInt8),(∀ d∈ds,d.name≠k.1)→RA k (zC ds m)=RA k m
 | [],m,k,_=>rfl
 | d::ds,m,k,h=>by
  unfold zC;rw[z9R ds _ k fun x hx=>h x (List.mem_cons_of_mem _ hx),z3c d.name d.regs m k fun r _ e=>h d List.mem_cons_self (congrArg Prod.fst e)]
def InQ (ds:List TDev)(m:PM):Prop:=∀d∈ds,∀r∈d.regs,RA (d.name,r.name) m=some (zs r.long.toNat)
theorem z9S:∀ (ds:List TDev) (m:PM),(ds.map TDev.name).Nodup→(∀ d∈ds,DevOk d)→InQ ds (zC ds m)
 | [],m,_,_,d,hd,_,_=>by cases hd
 | a::ds,m,h,hok,d,hd,r,hr=>by
  rw[List.map_cons,List.nodup_cons]at h;unfold zC;rcases List.mem_cons.1 hd with e|e
  ·subst e
   rw[z9R ds _ (d.name,r.name) fun x hx e=>h.1 (by have q:=List.mem_map_of_mem (f:=TDev.name) hx;rw[e]at q;exact q)]
   exact z9U d.name d.regs m (hok d List.mem_cons_self).nd r hr
  ·exact z9S ds _ h.2 (fun x hx=>hok x (List.mem_cons_of_mem _ hx)) d e r hr
theorem z9V (n:List UInt8)(r:TReg):∀(rs:List TReg) (m:PM),KD n (rs++[r]) m=rB (n,r.name) (zs r.long.toNat) (KD n rs m)
 | [],m=>rfl
 | a::rs,m=>z9V n r rs _
theorem z9T (d:TDev):∀(ds:List TDev) (m:PM),zC (ds++[d]) m=KD d.name d.regs (zC ds m)
 | [],m=>rfl
 | a::ds,m=>z9T d ds _
end Go.Am
end
section
namespace Go.Am
variable {h:aA} {K:kA}
attribute [-go_sem] YA NB mC cH aH
attribute [-go_sem] TT AK z2o nO UT BK z2p oO
theorem z8S (s:List UInt8)(id:Nat):uC id (UA s)=[]:=by simp [uC,UA,AV.top]
theorem np_in {ds:List TDev}{cs ss:List (List UInt8)}{m:PM}{d:TDev}(D:DevOk d){b c:PV}{x:Esc}{Kx:Ex→St→Prop}
 (hK:Kx .normal ⟨[(3,.ref (h.length+4) 0),(5,.ref (h.length+5) 0),(17,IB ds),(18,.p b),(19,.p c),(33,.p (.sl (some 2) (d.regs.map uA))),(34,AI d.regs.length),(35,AI d.regs.length),(36,AB false)],QH h ds 0 cs ss (KD d.name d.regs m) (KD d.name d.regs m) [.box (sB d)],x⟩) :
 NA (bA X) X.gl (.scope HJ) (tC 2 Kx) [(3,.ref (h.length+4) 0),(5,.ref (h.length+5) 0),(17,IB ds),(18,.p b),(19,.p c),(33,.p (.sl (some 2) (d.regs.map uA))),(34,AI d.regs.length),(35,AI 0)] (QH h ds 0 cs ss m m [.box (sB d)]) x:=by
 refine XA (fun j:Nat=>⟨[(3,.ref (h.length+4) 0),(5,.ref (h.length+5) 0),(17,IB ds),(18,.p b),(19,.p c),(33,.p (.sl (some 2) (d.regs.map uA))),(34,AI d.regs.length),(35,AI j)],
  QH h ds 0 cs ss (KD d.name (d.regs.take j) m) (KD d.name (d.regs.take j) m) [.box (sB d)],x⟩) (fun j=>j≤d.regs.length) (fun j=>d.regs.length-j) 0 rfl (by omega) ?_
 intro j hj;rw[GF];have dn:=D.rn
 have ql:∀mi mo t,(QH h ds 0 cs ss mi mo t).length=h.length+5+t.length:=fun mi mo t=>kK
 have qa:∀mi mo t u,QH h ds 0 cs ss mi mo t++u=QH h ds 0 cs ss mi mo (t++u):=fun mi mo t u=>DR
 have q4:∀mi mo t,(QH h ds 0 cs ss mi mo t)[h.length+4]?=some (QB h ds 0 cs.length ss.length):=fun mi mo t=>jK
 have b4:ldB none 4 (some (QB h ds 0 cs.length ss.length))=some (.mp (h.length+1)):=rfl
 have b5:ldB none 5 (some (QB h ds 0 cs.length ss.length))=some (.mp (h.length+2)):=rfl
 have qt0:∀mi mo t,(QH h ds 0 cs ss mi mo t)[h.length+5]?=t[0]?:=fun mi mo t=>lK (n:=0)
 have qt:∀mi mo t n,(QH h ds 0 cs ss mi mo t)[h.length+5+n]?=t[n]?:=fun mi mo t n=>lK
 have qs:∀mi mo t n o,(QH h ds 0 cs ss mi mo t).set (h.length+5+n) o=QH h ds 0 cs ss mi mo (t.set n o):=fun mi mo t n o=>ON
 have qk:∀mi mo t n,(QH h ds 0 cs ss mi mo t).take (h.length+5+n)=QH h ds 0 cs ss mi mo (t.take n):=fun mi mo t n=>PN
 have dn0:ldB none 0 (some (.box (sB d)))=some (AS d.name):=rfl
 have f1:h.length+4≤h.length+5:=by omega
 have f2:h.length+4+1≤h.length+5+1:=by omega
 rcases Nat.lt_or_ge j d.regs.length with hlt|hge
 ·have hg:=BB uA hlt
  have hlt':(j:Int)<(d.regs.length:Int):=by omega
  have w2:IntKind.i64.wrap ((j:Int)+1)=((j+1:Nat):Int):=zA _ (by omega) (by omega)
  have hrl:=D.rl _ (List.getElem_mem hlt)
  have cx:aB (some 2) 0 (uA d.regs[j])=some (uA d.regs[j]):=rfl
  have fp:∀y:TReg,uA y = .agg [.str y.name,eI y.long]:=fun _=>rfl
  have em:KD d.name (d.regs.take (j+1)) m=rB (d.name,d.regs[j].name) (zs d.regs[j].long.toNat) (KD d.name (d.regs.take j) m):=by
   rw[List.take_succ_eq_append_getElem hlt,z9V]
  generalize KD d.name (d.regs.take j) m=mj at *;generalize d.regs[j]=r at *;rw[fp]at hg cx;have rz:=fun h K=>BF (h:=h) (K:=K) r.long (by omega) (by omega)
  generalize hz:zs r.long.toNat=z at *;have kp:AV.p (.agg [.str d.name,.str r.name]) = .p (prP (d.name,r.name)):=rfl
  have m1:∀mo t,cH (some 2,[2,2]) (.p (.str [])) (.mp (h.length+1)) (.p (.agg [.str d.name,.str r.name])) (QH h ds 0 cs ss mj mo t)=some (.tup [UA ((RA (d.name,r.name) mj).getD []),AI (iF (d.name,r.name) mj)],QH h ds 0 cs ss (aF (d.name,r.name) [] mj) mo t,[]):=fun mo t=>by
   rw[kp,show AV.p (PV.str [])=UA [] from rfl,zaq (key:=prP) (val:=UA) BQ QH_1 CQ,z6S]
  have m2:∀mo t,aH (.mp (h.length+1)) (AI (iF (d.name,r.name) mj)) (AS z) (QH h ds 0 cs ss (aF (d.name,r.name) [] mj) mo t)=some (.und,QH h ds 0 cs ss (rB (d.name,r.name) z mj) mo t,[]):=fun mo t=>by
   have:=z8T (key:=prP) (val:=UA) (k:=(d.name,r.name)) (l:=mj) (v0:=[]) (v:=z) (h:=QH h ds 0 cs ss (aF (d.name,r.name) [] mj) mo t) (id:=h.length+1) QH_1 rfl;rw[z6S,z8S]at this;exact this
  have m3:∀mi t,cH (some 2,[2,2]) (.p (.str [])) (.mp (h.length+2)) (.p (.agg [.str d.name,.str r.name])) (QH h ds 0 cs ss mi mj t)=some (.tup [UA ((RA (d.name,r.name) mj).getD []),AI (iF (d.name,r.name) mj)],QH h ds 0 cs ss mi (aF (d.name,r.name) [] mj) t,[]):=fun mi t=>by
   rw[kp,show AV.p (PV.str [])=UA [] from rfl,zaq (key:=prP) (val:=UA) BQ QH_2 CQ,aY]
  have m4:∀mi t,aH (.mp (h.length+2)) (AI (iF (d.name,r.name) mj)) (AS z) (QH h ds 0 cs ss mi (aF (d.name,r.name) [] mj) t)=some (.und,QH h ds 0 cs ss mi (rB (d.name,r.name) z mj) t,[]):=fun mi t=>by
   have:=z8T (key:=prP) (val:=UA) (k:=(d.name,r.name)) (l:=mj) (v0:=[]) (v:=z) (h:=QH h ds 0 cs ss mi (aF (d.name,r.name) [] mj) t) (id:=h.length+2) QH_2 rfl;rw[aY,z8S]at this;exact this
  simp only[TT,AK,go_sem,hlt',hlt,hg,cx,fp,w2,ql,qa,q4,b4,b5,qt0,qt,qs,qk,dn0,f1,f2,↓rz,rz,m1,m2,m3,m4,splice,List.length_cons,List.length_nil,List.nil_append,List.cons_append];refine⟨j+1,?_,by omega,by omega⟩
  rw[em]
 ·have ej:j=d.regs.length:=by omega
  subst ej;rw[List.take_length];simp only[TT,AK,go_sem,Nat.lt_irrefl,ql,qk,f1,f2,List.length_cons,List.length_nil];exact hK
theorem zo6 (ds:List TDev)(hd:∀ d∈ds,DevOk d)(h20:ds.length≤1000) :
 bA X yP [IB ds] h K=K (.ref (h.length+4) 0) (QH h ds 0 (List.replicate ds.length []) (List.replicate ds.length [48]) (zC ds []) (zC ds []) []) []:=by
 refine rA ?_;rw[zeA rfl];have ms:ds.length≤GA:=by unfold GA;omega
 have n0:¬(ds.length:Int)<0:=by omega
 simp only[rS,go_sem,List.length_map,ms,n0];refine XA (fun k:Nat=>⟨[(3,.ref (h.length+4) 0),(17,IB ds),(18,AI ds.length),(19,AI k)],QH h ds 0 (List.replicate ds.length []) (List.replicate k [48]) (zC (ds.take k) []) (zC (ds.take k) []) [],[]⟩) (fun k=>k≤ds.length) (fun k=>ds.length-k) 0 ?_ (by omega) ?_
 ·simp [QH,QB,zC,LA,pD]
 intro k hk;rw[GF];rcases Nat.lt_or_ge k ds.length with hlt|hge
 ·have D:=hd _ (List.getElem_mem hlt)
  have hlt':(k:Int)<(ds.length:Int):=by omega
  have hg:=BB BA hlt
  have w2:IntKind.i64.wrap ((k:Int)+1)=((k+1:Nat):Int):=zA _ (by omega) (by omega)
  have cx:aB (some 5) 0 (BA ds[k])=some (BA ds[k]):=rfl
  have eq:zC (ds.take (k+1)) []=KD ds[k].name ds[k].regs (zC (ds.take k) []):=by rw[List.take_succ_eq_append_getElem hlt,z9T]
  have er:List.replicate (k+1) ([48]:List UInt8)=List.replicate k [48]++[[48]]:=by rw[List.replicate_succ']
  have rl:(List.replicate k ([48]:List UInt8)).length=k:=List.length_replicate
  generalize zC (ds.take k) []=m at *;generalize List.replicate k ([48]:List UInt8)=ss at *;generalize List.replicate ds.length ([]:List UInt8)=cs at *;generalize ds[k]=d at *;have fp:∀y:TDev,BA y = .agg [.str y.name,eI y.long,eI y.id,.sl (some 2) (y.regs.map uA),.sl (some 2) (y.ins.map VA)]:=fun _=>rfl
  rw[fp]at hg cx;have ni:=@np_in h ds cs (ss++[[48]]) m d D
  have ql:∀t,(QH h ds 0 cs ss m m t).length=h.length+5+t.length:=fun t=>kK
  have qa:∀t u,QH h ds 0 cs ss m m t++u=QH h ds 0 cs ss m m (t++u):=fun t u=>DR
  have qt0:∀ss t,(QH h ds 0 cs ss m m t)[h.length+5]?=t[0]?:=fun ss t=>lK (n:=0)
  have qs0:∀t o,(QH h ds 0 cs ss m m t).set (h.length+5) o=QH h ds 0 cs ss m m (t.set 0 o):=fun t o=>ON (n:=0)
  have q3:∀t,(QH h ds 0 cs ss m m t)[h.length+3]?=some (.row none (ss.map .str) 0):=fun t=>QH_3
  have q4:∀t,(QH h ds 0 cs ss m m t)[h.length+4]?=some (QB h ds 0 cs.length ss.length):=fun t=>jK
  have b3:ldB none 3 (some (QB h ds 0 cs.length ss.length))=some (.own (h.length+3) k 0 k):=by rw[rl];rfl
  have ml:(ss.map PV.str).length=k:=by rw[List.length_map,rl]
  have ms1:k+1≤GA:=by unfold GA;omega
  obtain⟨H1,hH1⟩:∃H1:aA,(QH h ds 0 cs ss m m [.box (sB d)]).set (h.length+3) (.row none (ss.map .str++[.str [48]]) 0)=H1:=⟨_,rfl⟩;have sb:stB none (h.length+4) 3 (.own (h.length+3) (k+1) 0 (k+1)) H1 H1[h.length+4]? (some [.own (h.length+3) (k+1) 0 (k+1)])=some (.und,QH h ds 0 cs (ss++[[48]]) m m [.box (sB d)],[]):=by
   have g:H1[h.length+4]?=some (QB h ds 0 cs.length ss.length):=by rw[←hH1,List.getElem?_set_ne (by omega)];exact jK
   rw[g];have e:JD (h.length+4) [IB ds,AI 0,.own h.length cs.length 0 cs.length,.own (h.length+3) ss.length 0 ss.length,.mp (h.length+1),.mp (h.length+2)] (.own (h.length+3) (k+1) 0 (k+1))=[]:=by simp [JD,uC,yG,AV.top,AV.tops]
   show some (AV.und,H1.set (h.length+4) _,JD _ _ _)=_
   rw[e,←hH1];unfold QH;rw[DD,DD];simp [splice,QB,rl]
  rw[UT];unfold sB at *;simp only[BK,go_sem,hlt',hlt,hg,cx,fp,w2,ql,qa,qt0,qs0,q3,q4,b3,ml,ms1,hH1,sb,splice,List.length_cons,List.length_nil,List.nil_append,List.cons_append];refine ni ?_;have qk:∀m t,(QH h ds 0 cs (ss++[[48]]) m m t).take (h.length+5)=QH h ds 0 cs (ss++[[48]]) m m (t.take 0):=fun m t=>PN (n:=0)
  have f1:h.length+4+1≤h.length+5:=by omega
  have f2:h.length+4≤h.length+5:=by omega
  simp only[go_sem,z2o,nO,w2,qk,f1,f2];refine⟨k+1,?_,by omega,by omega⟩
  rw[eq,er]
 ·have ek:k=ds.length:=by omega
  subst ek;rw[List.take_length];have ql:∀t,(QH h ds 0 (List.replicate ds.length []) (List.replicate ds.length [48]) (zC ds []) (zC ds []) t).length=h.length+5+t.length:=fun t=>kK
  have qk:∀t,(QH h ds 0 (List.replicate ds.length []) (List.replicate ds.length [48]) (zC ds []) (zC ds []) t).take (h.length+5)=QH h ds 0 (List.replicate ds.length []) (List.replicate ds.length [48]) (zC ds []) (zC ds []) (t.take 0):=fun t=>PN (n:=0)
  have f1:h.length+4+1≤h.length+5:=by omega
  have f2:h.length+4≤h.length+5:=by omega
  rw[UT];simp only[BK,go_sem,Nat.lt_irrefl,ql,qk,f1,f2,List.length_cons,List.length_nil,z2p,oO];refine⟨by omega,List.take_of_length_le ?_⟩
  rw[ql];simp only[List.length_nil];omega
end Go.Am
end
section
namespace Go.Am
end Go.Am
end
section
namespace Go.Am
end Go.Am
end
section
namespace Go.Am
end Go.Am
end
section
namespace Go.Am
variable {h:aA} {K:kA}
end Go.Am
end
section
namespace Go.Am
variable {h:aA} {K:kA}
end Go.Am
end
section
namespace Go.Am
variable {h:aA} {K:kA}
end Go.Am
end
section
namespace Go.Am
variable {h:aA} {K:kA}
theorem z5K (n:Int)(h1 : -1000000000000000000≤n)(h2:n≤1000000000000000000):bA X wL [AI n] h K=K (AS (itoa n)) h []:=by
 refine wU (X:=X) (by kernel_rfl) ?_
 first|rw[show X.ex2=yF GRL PRL from rfl]|skip
 show yF GRL PRL wL [AI n] h=some (AS (itoa n),h,[])
 exact vU (vs:=[.int .i64 n]) (by kernel_rfl) (s:=zQ) (by kernel_rfl) rfl (by
  unfold zQ;have a1:decide (-9223372036854775808≤n)=true:=by simp;omega
  have a2:decide (n≤9223372036854775807)=true:=by simp;omega
  show(bif decide (-9223372036854775808≤n)&&decide (n≤9223372036854775807) then some (AV.p (PV.str (itoa n))) else none)=_
  rw[a1,a2];rfl)
end Go.Am
end
section
namespace Go.Am
variable {h:aA} {K:kA}
attribute [-go_sem] YA NB mC
theorem z3f {b:Nat}(hb:b<2):itoa (b:Int)=[UInt8.ofNat (48+b)]:=by
 have:b=0∨b=1:=by omega
 rcases this with rfl|rfl <;> (unfold itoa;simp [zg8,digC])
theorem zmK {hp:aA}{id:Nat}{m:PM}{a b:List UInt8}(hh:hp[id]?=some (LA prP UA m)):NB (some 2,[2,2]) false (.p (.str [])) (.mp id) (.p (.agg [.str a,.str b])) hp=some (AS ((RA (a,b) m).getD [])):=by
 have:=EQ (key:=prP) (val:=UA) BQ hh (kk:=(some 2,[2,2])) (k:=(a,b)) CQ (ok:=false) (z:=AS []);show NB _ _ _ _ (.p (prP (a,b))) _=_
 rw[this];cases RA (a,b) m <;> rfl
theorem zmL {hp:aA}{id:Nat}{m:PM}{a b:List UInt8}(hh:hp[id]?=some (LA prP UA m)):NB (some 2,[2,2]) true (.p (.str [])) (.mp id) (.p (.agg [.str a,.str b])) hp=some (.tup [AS ((RA (a,b) m).getD []),AB (RA (a,b) m).isSome]):=by
 have:=EQ (key:=prP) (val:=UA) BQ hh (kk:=(some 2,[2,2])) (k:=(a,b)) CQ (ok:=true) (z:=AS []);show NB _ _ _ _ (.p (prP (a,b))) _=_
 rw[this];cases RA (a,b) m <;> rfl
theorem zq5 {hp:aA}{id:Nat}{m:PM}{a b v:List UInt8}(hh:hp[id]?=some (LA prP UA m)):mC (some 2,[2,2]) (.mp id) (.p (.agg [.str a,.str b])) (AS v) hp=some (.und,hp.set id (LA prP UA (rB (a,b) v m)),[]):=
 z3n (key:=prP) (val:=UA) BQ hh (kk:=(some 2,[2,2])) (k:=(a,b)) CQ (v:=v) rfl
attribute [-go_sem] WT GK z2t rO z2u sO
set_option maxHeartbeats 4000000 in
theorem zoU {ds:List TDev}{st:Int}{cs ss:List (List UInt8)}{mi mo:PM}{tl:aA}{i:Nat}(hi:i<ds.length)(D:DevOk ds[i])(hI:InQ ds mi)(hc:i<cs.length)(hl:ds.length≤1000) :
 bA X BP [.ref (h.length+4) 0,AI i] (QH h ds st cs ss mi mo tl) K=K (AS (jG ds[i] cs[i])) (QH h ds st cs ss mi mo tl) []:=by
 refine rA ?_;rw[zeD rfl];have hg:=BB BA hi
 have hII:=hI _ (List.getElem_mem hi)
 have gc:(cs.map PV.str)[i]?=some (.str cs[i]):=by rw[List.getElem?_map,List.getElem?_eq_getElem hc];rfl
 generalize ds[i]=d at *;generalize cs[i]=c at *;have fp:∀y:TDev,BA y = .agg [.str y.name,eI y.long,eI y.id,.sl (some 2) (y.regs.map uA),.sl (some 2) (y.ins.map VA)]:=fun _=>rfl
 have cx:aB (some 5) 0 (BA d)=some (BA d):=rfl
 have sc:=z6b D c
 have S:=fun h K=>zb5 (h:=h) (K:=K) d c (by have:=D.rn;omega) (by have:=D.im;omega)
 rw[zbW D]at S;unfold jG;generalize XB d c=r at *;have fr:∀y:TReg,uA y = .agg [.str y.name,eI y.long]:=fun _=>rfl
 have fa:ZA d = .p (.agg [.str d.name,eI d.long,eI d.id,.sl (some 2) (d.regs.map uA),.sl (some 2) (d.ins.map VA)]):=rfl
 rw[fr,fa]at S;rw[fp]at hg cx;have q4:∀t,(QH h ds st cs ss mi mo t)[h.length+4]?=some (QB h ds st cs.length ss.length):=fun t=>jK
 have q0:∀t,(QH h ds st cs ss mi mo t)[h.length]?=some (.row none (cs.map .str) 0):=fun t=>QH_0
 have b0:ldB none 0 (some (QB h ds st cs.length ss.length))=some (IB ds):=rfl
 have b2:ldB none 2 (some (QB h ds st cs.length ss.length))=some (.own h.length cs.length 0 cs.length):=rfl
 have b4:ldB none 4 (some (QB h ds st cs.length ss.length))=some (.mp (h.length+1)):=rfl
 have qa:∀t u,QH h ds st cs ss mi mo t++u=QH h ds st cs ss mi mo (t++u):=fun t u=>DR
 have ql:∀t,(QH h ds st cs ss mi mo t).length=h.length+5+t.length:=fun t=>kK
 have qt:∀t n,(QH h ds st cs ss mi mo t)[h.length+5+n]?=t[n]?:=fun t n=>lK
 have qs:∀t n o,(QH h ds st cs ss mi mo t).set (h.length+5+n) o=QH h ds st cs ss mi mo (t.set n o):=fun t n o=>ON
 have qk:∀t n,(QH h ds st cs ss mi mo t).take (h.length+5+n)=QH h ds st cs ss mi mo (t.take n):=fun t n=>PN
 have gt:∀o:Obj,(tl++[o])[tl.length]?=some o:=fun o=>by simp
 have stt:∀o o':Obj,(tl++[o]).set tl.length o'=tl++[o']:=fun o o'=>by simp
 have tt:∀o:Obj,(tl++[o]).take tl.length=tl:=fun o=>by simp
 have lml:(cs.map PV.str).length=cs.length:=List.length_map ..
 have cc:∀v:List UInt8,aB none 0 (PV.str v)=some (PV.str v):=fun _=>rfl
 have lk:∀t (k:List UInt8),NB (some 2,[2,2]) false (.p (.str [])) (.mp (h.length+1)) (.p (.agg [.str d.name,.str k])) (QH h ds st cs ss mi mo t)=some (AS ((RA (d.name,k) mi).getD [])):=fun t k=>zmK QH_1
 have f1:h.length+4+1≤h.length+5+tl.length:=by omega
 unfold yB bB at *;dsimp only;by_cases h1:r.name=[98,121,112,97,115,115]
 ·rw[if_pos h1]
  simp only[FK,go_sem,q4,b0,b2,hc,hi,hg,cx,fp,q0,gc,cc,lml,↓S,S,qa,ql,qt,qs,qk,gt,stt,tt,eq_true h1,splice]
 rw[if_neg h1];have e3:=@z2u
 have e2:=@z2t
 by_cases h2:r.name=[105,100,99,111,100,101]
 ·rw[if_pos h2]
  simp only[FK,go_sem,q4,b0,b2,hc,hi,hg,cx,fp,q0,gc,cc,lml,↓S,S,qa,ql,qt,qs,qk,gt,stt,tt,h1,eq_true h2,splice];refine XA (fun k:Nat=>⟨[(0,.ref (h.length+4) 0),(1,AI i),(6,AS ((wC d.id).take k)),(29,AI k)],QH h ds st cs ss mi mo (tl++[.box [AS r.name,AI r.long]]),[]⟩) (fun k=>k≤32) (fun k=>32-k) 0 rfl (by omega) ?_
  intro k hk;rcases Nat.lt_or_ge k 32 with hlt|hge
  ·have hlt':(k:Int)<32:=by omega
   have k0:¬(k:Int)<0:=by omega
   have w2:IntKind.i64.wrap ((k:Int)+1)=((k+1:Nat):Int):=zA _ (by omega) (by omega)
   have ib:=z9K D.i0 D.i1 hlt
   have hgk:=z9J (id:=d.id) hlt
   have hx:(d.id.toNat >>> k)%2<2:=Nat.mod_lt _ (by omega)
   generalize (d.id.toNat >>> k)%2=b at *;have it:=fun h K=>z5K (h:=h) (K:=K) (b:Int) (by omega) (by omega)
   rw[z3f hx]at it;have eT:(wC d.id).take (k+1)=(wC d.id).take k++[UInt8.ofNat (48+b)]:=by
    rw[List.take_add_one,hgk];rfl
   have ls:((wC d.id).take k).length+1≤PA:=by rw[List.length_take];unfold PA;omega
   have cd:∀v:Int,aB none 2 (PV.agg [.str d.name,eI d.long,eI v,.sl (some 2) (d.regs.map uA),.sl (some 2) (d.ins.map VA)])=some (eI v):=fun _=>rfl
   generalize (wC d.id).take k=sk at *;simp only[WT,GK,go_sem,hlt',k0,q4,b0,hi,hg,fp,ib,w2,↓it,it,ls];exact⟨k+1,by rw[eT],by omega,by omega⟩
  ·have ek:k=32:=by omega
   subst ek;have et:(wC d.id).take 32=wC d.id:=List.take_of_length_le (by rw[z2Z];omega)
   rw[et];simp only[WT,GK,go_sem,Nat.lt_irrefl,e2,rO,ql,qk]
 ·rw[if_neg h2]
  have hr:r∈d.regs:=by
   rcases sc with c|c|c
   ·exact absurd c h1
   ·exact absurd c h2
   ·exact c
  have lk':=fun t=>lk t r.name
  rw[hII r hr,Option.getD_some]at lk';simp only[FK,go_sem,q4,b0,b2,b4,hc,hi,hg,cx,fp,q0,gc,cc,lml,↓S,S,qa,ql,qt,qs,qk,gt,stt,tt,h1,h2,splice,e3,sO,lk']
def moA (st:Nat)(d:TDev)(p:nB)(mo:PM):PM:=
 if st=8 then(if(RA (d.name,(XB d p.1).name) mo).isSome then rB (d.name,(XB d p.1).name) p.2 mo else mo) else mo
def QP (h:aA)(ds:List TDev)(st:Int)(ps:List nB)(mi mo:PM)(t:aA):aA:=QH h ds st (ps.map (·.1)) (ps.map (·.2)) mi mo t
set_option maxHeartbeats 4000000 in
theorem zoN {ds:List TDev}{st:Nat}{ps:List nB}{mi mo:PM}{i:Nat}(hst:st<16)(hi:i<ds.length)(D:DevOk ds[i])(hI:InQ ds mi)(hc:i<ps.length)(hl:ds.length≤1000) :
 bA X AP [.ref (h.length+4) 0,AI i] (QP h ds st ps mi mo []) K=K (.tup []) (QP h ds st (ps.set i (pH st ds[i] ps[i])) mi (moA st ds[i] ps[i] mo) []) []:=by
 refine rA ?_;rw[zeC rfl];have hcl:i<(ps.map (·.1)).length:=by simpa using hc
 have CP:=fun tl K=>zoU (h:=h) (ds:=ds) (st:=st) (cs:=ps.map (·.1)) (ss:=ps.map (·.2)) (mi:=mi) (mo:=mo) (tl:=tl) (K:=K) hi D hI hcl hl
 rw[List.getElem_map]at CP;have hg:=BB BA hi
 have gc:((ps.map (·.1)).map PV.str)[i]?=some (.str ps[i].1):=by rw[List.map_map,List.getElem?_map,List.getElem?_eq_getElem hc];rfl
 have gs:((ps.map (·.2)).map PV.str)[i]?=some (.str ps[i].2):=by rw[List.map_map,List.getElem?_map,List.getElem?_eq_getElem hc];rfl
 have hq:ps[i]?=some ps[i]:=List.getElem?_eq_getElem hc
 generalize ds[i]=d at *;generalize ps[i]=p at *;have fp:∀y:TDev,BA y = .agg [.str y.name,eI y.long,eI y.id,.sl (some 2) (y.regs.map uA),.sl (some 2) (y.ins.map VA)]:=fun _=>rfl
 have cx:aB (some 5) 0 (BA d)=some (BA d):=rfl
 have S:=fun h K=>zb5 (h:=h) (K:=K) d p.1 (by have:=D.rn;omega) (by have:=D.im;omega)
 rw[zbW D]at S;have fr:∀y:TReg,uA y = .agg [.str y.name,eI y.long]:=fun _=>rfl
 have fa:ZA d = .p (.agg [.str d.name,eI d.long,eI d.id,.sl (some 2) (d.regs.map uA),.sl (some 2) (d.ins.map VA)]):=rfl
 rw[fr,fa]at S;rw[fp]at hg cx;have e1:∀s:List UInt8,(ps.set i (s,p.2)).map (·.1)=(ps.map (·.1)).set i s:=fun s=>by rw[List.map_set]
 have e2:∀s:List UInt8,(ps.set i (s,p.2)).map (·.2)=ps.map (·.2):=fun s=>by
  rw[List.map_set];exact sR (by rw[List.getElem?_map,hq];rfl)
 have e3:∀s:List UInt8,(ps.set i (p.1,s)).map (·.1)=ps.map (·.1):=fun s=>by
  rw[List.map_set];exact sR (by rw[List.getElem?_map,hq];rfl)
 have e4:∀s:List UInt8,(ps.set i (p.1,s)).map (·.2)=(ps.map (·.2)).set i s:=fun s=>by rw[List.map_set]
 have e5:ps.set i p=ps:=sR hq
 unfold QP;have r1:∀s:List UInt8,∀m,QH h ds st ((ps.set i (s,p.2)).map (·.1)) ((ps.set i (s,p.2)).map (·.2)) mi m []=QH h ds st ((ps.map (·.1)).set i s) (ps.map (·.2)) mi m []:=fun s m=>by rw[e1,e2]
 have r2:∀s:List UInt8,∀m,QH h ds st ((ps.set i (p.1,s)).map (·.1)) ((ps.set i (p.1,s)).map (·.2)) mi m []=QH h ds st (ps.map (·.1)) ((ps.map (·.2)).set i s) mi m []:=fun s m=>by rw[e3,e4]
 have r5:∀m,QH h ds st ((ps.set i p).map (·.1)) ((ps.set i p).map (·.2)) mi m []=QH h ds st (ps.map (·.1)) (ps.map (·.2)) mi m []:=fun m=>by rw[e5]
 have lcs:(ps.map (·.1)).length=ps.length:=List.length_map ..
 have lss:(ps.map (·.2)).length=ps.length:=List.length_map ..
 generalize ps.map (·.1)=cs at *
 generalize ps.map (·.2)=ss at *
 have q4:∀cs ss mo t,(QH h ds st cs ss mi mo t)[h.length+4]?=some (QB h ds st cs.length ss.length):=fun cs ss mo t=>jK
 have q0:∀mo t,(QH h ds st cs ss mi mo t)[h.length]?=some (.row none (cs.map .str) 0):=fun mo t=>QH_0
 have q3:∀mo t,(QH h ds st cs ss mi mo t)[h.length+3]?=some (.row none (ss.map .str) 0):=fun mo t=>QH_3
 have b0:ldB none 0 (some (QB h ds st cs.length ss.length))=some (IB ds):=rfl
 have b1:ldB none 1 (some (QB h ds st cs.length ss.length))=some (AI st):=rfl
 have b2:ldB none 2 (some (QB h ds st cs.length ss.length))=some (.own h.length ps.length 0 ps.length):=by rw[lcs];rfl
 have b3:ldB none 3 (some (QB h ds st cs.length ss.length))=some (.own (h.length+3) ps.length 0 ps.length):=by rw[lss];rfl
 have b5:ldB none 5 (some (QB h ds st cs.length ss.length))=some (.mp (h.length+2)):=rfl
 have qa:∀cs ss mo t u,QH h ds st cs ss mi mo t++u=QH h ds st cs ss mi mo (t++u):=fun cs ss mo t u=>DR
 have ql:∀cs ss mo t,(QH h ds st cs ss mi mo t).length=h.length+5+t.length:=fun cs ss mo t=>kK
 have qt0:∀cs ss mo t,(QH h ds st cs ss mi mo t)[h.length+5]?=t[0]?:=fun cs ss mo t=>lK (n:=0)
 have qt:∀cs ss mo t n,(QH h ds st cs ss mi mo t)[h.length+5+n]?=t[n]?:=fun cs ss mo t n=>lK
 have qs0:∀cs ss mo t o,(QH h ds st cs ss mi mo t).set (h.length+5) o=QH h ds st cs ss mi mo (t.set 0 o):=fun cs ss mo t o=>ON (n:=0)
 have qs:∀cs ss mo t n o,(QH h ds st cs ss mi mo t).set (h.length+5+n) o=QH h ds st cs ss mi mo (t.set n o):=fun cs ss mo t n o=>ON
 have qk0:∀cs ss mo t,(QH h ds st cs ss mi mo t).take (h.length+5)=QH h ds st cs ss mi mo (t.take 0):=fun cs ss mo t=>PN (n:=0)
 have w0:∀mo t s,(QH h ds st cs ss mi mo t).set h.length (.row none ((cs.map .str).set i (.str s)) 0)=QH h ds st (cs.set i s) ss mi mo t:=fun mo t s=>QH_s0
 have w3:∀mo t s,(QH h ds st cs ss mi mo t).set (h.length+3) (.row none ((ss.map .str).set i (.str s)) 0)=QH h ds st cs (ss.set i s) mi mo t:=fun mo t s=>z6T
 have lmc:(cs.map PV.str).length=ps.length:=by rw[List.length_map,lcs]
 have lms:(ss.map PV.str).length=ps.length:=by rw[List.length_map,lss]
 have cc:∀v:List UInt8,aB none 0 (PV.str v)=some (PV.str v):=fun _=>rfl
 have lk:∀t (k:List UInt8),NB (some 2,[2,2]) true (.p (.str [])) (.mp (h.length+2)) (.p (.agg [.str d.name,.str k])) (QH h ds st cs ss mi mo t)=some (.tup [AS ((RA (d.name,k) mo).getD []),AB (RA (d.name,k) mo).isSome]):=fun t k=>zmL QH_2
 have up:∀t (k:List UInt8),mC (some 2,[2,2]) (.mp (h.length+2)) (.p (.agg [.str d.name,.str k])) (AS p.2) (QH h ds st cs ss mi mo t)=some (.und,QH h ds st cs ss mi (rB (d.name,k) p.2 mo) t,[]):=fun t k=>by rw[zq5 QH_2,aY]
 have f1:h.length+4+1≤h.length+5:=by omega
 unfold pH moA;by_cases s0:st=0
 ·rw[if_pos s0,if_neg (by omega),r1]
  have s0':(st:Int)=0:=by omega
  simp only[nG,go_sem,q4,b0,b1,b2,b3,hc,hi,hg,cx,fp,q0,q3,gc,gs,cc,lmc,lms,qa,ql,qt0,qs0,qk0,w0,w3,f1,splice,List.length_nil,List.nil_append,eq_true s0']
 have s0':¬(st:Int)=0:=by omega
 rw[if_neg s0];by_cases s3:st=3
 ·rw[if_pos s3,if_neg (by omega),r2]
  have s3':(st:Int)=3:=by omega
  simp only[nG,go_sem,q4,b0,b1,b2,b3,hc,hi,hg,cx,fp,q0,q3,gc,gs,cc,lmc,lms,qa,ql,qt0,qs0,qk0,w0,w3,f1,splice,List.length_nil,List.nil_append,s0',eq_true s3',↓CP,CP]
 have s3':¬(st:Int)=3:=by omega
 rw[if_neg s3];by_cases s10:st=10
 ·rw[if_pos s10,if_neg (by omega),r2]
  have s10':(st:Int)=10:=by omega
  have dl:=D.lo
  have dh:=D.hi
  have wl:IntKind.i64.wrap (d.long-1)=d.long-1:=zA _ (by omega) (by omega)
  have rz:=fun h K=>BF (h:=h) (K:=K) (d.long-1) (by omega) (by omega)
  have ln2:1+(zs (d.long-1).toNat).length≤PA:=by simp [zs];unfold PA;omega
  simp only[nG,go_sem,q4,b0,b1,b2,b3,hc,hi,hg,cx,fp,q0,q3,gc,gs,cc,lmc,lms,qa,ql,qt0,qs0,qk0,w0,w3,f1,splice,List.length_nil,List.nil_append,s0',s3',eq_true s10',wl,↓rz,rz,ln2]
 have s10':¬(st:Int)=10:=by omega
 rw[if_neg s10];by_cases s15:st=15
 ·rw[if_pos s15,if_neg (by omega),r1]
  have s15':(st:Int)=15:=by omega
  simp only[nG,go_sem,q4,b0,b1,b2,b3,hc,hi,hg,cx,fp,q0,q3,gc,gs,cc,lmc,lms,qa,ql,qt0,qs0,qk0,w0,w3,f1,splice,List.length_nil,List.nil_append,s0',s3',s10',eq_true s15']
 have s15':¬(st:Int)=15:=by omega
 rw[if_neg s15,r5];by_cases s8:st=8
 ·rw[if_pos s8]
  have s8':(st:Int)=8:=by omega
  generalize (XB d p.1).name=nm at *;have lk:=fun t=>lk t nm
  cases hs:(RA (d.name,nm) mo).isSome with
  | true=>
   rw[if_pos rfl];rw[hs]at lk;simp only[nG,go_sem,q4,b0,b1,b2,b3,hc,hi,hg,cx,fp,q0,q3,gc,gs,cc,lmc,lms,qa,ql,qt0,qs0,qk0,w0,w3,f1,splice,List.length_nil,List.nil_append,s0',s3',s10',s15',eq_true s8',↓S,S,b5,lk,up,qt,qs]
  | false=>
   rw[if_neg (by simp)]
   rw[hs]at lk;simp only[nG,go_sem,q4,b0,b1,b2,b3,hc,hi,hg,cx,fp,q0,q3,gc,gs,cc,lmc,lms,qa,ql,qt0,qs0,qk0,w0,w3,f1,splice,List.length_nil,List.nil_append,s0',s3',s10',s15',eq_true s8',↓S,S,b5,lk,qt,qs]
 have s8':¬(st:Int)=8:=by omega
 rw[if_neg s8];simp only[nG,go_sem,q4,b0,b1,b2,b3,hc,hi,hg,cx,fp,q0,q3,gc,gs,cc,lmc,lms,qa,ql,qt0,qs0,qk0,w0,w3,f1,splice,List.length_nil,List.nil_append,s0',s3',s10',s15',s8']
end Go.Am
end
section
namespace Go.Am
variable {h:aA} {K:kA}
attribute [-go_sem] YA NB mC
def moL (st:Nat)(l:List (TDev × nB))(mo:PM):PM:=l.foldl (fun m y=>moA st y.1 y.2 m) mo
theorem z7f (st:Nat):∀(ds:List TDev) (ps:List nB),ps.length=ds.length→(XD st ds ps).length=ds.length
 | [],[],_=>rfl
 | d::ds,p::ps,e=>by simp [XD,z7f st ds ps (by simpa using e)]
 | [],_::_,e=>by simp at e
 | _::_,[],e=>by simp at e
theorem z7d (st:Nat):∀{ds:List TDev} {ps:List nB} (e:ps.length=ds.length) {k:Nat} (hk:k<ds.length),(XD st ds ps)[k]?=some (pH st ds[k] (ps[k]'(by omega)))
 | [],_,e,k,hk=>by simp at hk
 | d::ds,p::ps,e,0,hk=>rfl
 | d::ds,p::ps,e,k+1,hk=>by
  simp only[XD,List.getElem?_cons_succ,List.getElem_cons_succ];exact z7d st (by simpa using e) (by simpa using hk)
 | _::_,[],e,_,_=>by simp at e
theorem zpO {α:Type}{A B:List α}(e:A.length=B.length){k:Nat}(hk:k<B.length){a:α}(ha:A[k]?=some a) :
 (A.take k++B.drop k).length=B.length∧(A.take k++B.drop k)[k]?=some B[k]∧(A.take k++B.drop k).set k a=A.take (k+1)++B.drop (k+1):=by
 have lk:(A.take k).length=k:=by rw[List.length_take];omega
 have hb:B.drop k=B[k]::B.drop (k+1):=List.drop_eq_getElem_cons hk
 have hA:A.take (k+1)=A.take k++[a]:=by rw[List.take_add_one,ha];rfl
 refine⟨by rw[List.length_append,lk,List.length_drop];omega,?_,?_⟩
 ·rw[hb,List.getElem?_append_right (by omega),lk,Nat.sub_self];rfl
 ·rw[hb,hA,List.set_append_right _ _ (by omega),lk,Nat.sub_self,List.append_assoc];rfl
attribute [-go_sem] VT DK z2q EK z2r pO z2s qO
theorem z6U {ds:List TDev}{st:Int}{ps:List nB}{mi mo:PM}{t:aA}:(QP h ds st ps mi mo t).length=h.length+5+t.length:=kK
theorem QP_4 {ds:List TDev}{st:Int}{ps:List nB}{mi mo:PM}{t:aA}:(QP h ds st ps mi mo t)[h.length+4]?=some (QB h ds st ps.length ps.length):=by
 unfold QP;rw[jK];simp
theorem QP_s4 {ds:List TDev}{st s:Int}{ps:List nB}{mi mo:PM}{t:aA}:(QP h ds st ps mi mo t).set (h.length+4) (QB h ds s ps.length ps.length)=QP h ds s ps mi mo t:=by
 have:=@QH_s4 h ds st (ps.map (·.1)) (ps.map (·.2)) mi mo t s
 simp only[List.length_map]at this;exact this
theorem z7Y {ds:List TDev}{st:Nat}{ps:List nB}{mi mo:PM}(hst:st<16)(hd:∀ d∈ds,DevOk d)(hI:InQ ds mi)(hl:ds.length≤1000)(hps:ps.length=ds.length)(tms:UInt8)(h1:OB tms)(v:Int){y:List (Nat × AV)}{P:kA}{b:Nat}(hb:b=h.length+5)
 (hP:P (AI v) (QP h ds (stW st tms) (XD st ds ps) mi (moL st (ds.zip ps) mo) []) []) (y1:eA y 0 = .ref (h.length+4) 0) (y2:eA y 1=AI ((tms.toNat-48:Nat):Int)) (y3:eA y 7=AI v) :
 NW (bA X) X.gl JJ ⟨y,QP h ds st ps mi mo [],[]⟩ (mA [.t 6] false b P):=by
 subst hb;have e2:=@z2q
 have e3:=@z2r
 have q4:∀ps mo,(QP h ds st ps mi mo [])[h.length+4]?=some (QB h ds st ps.length ps.length):=fun ps mo=>QP_4
 have b0:∀n,ldB none 0 (some (QB h ds st n n))=some (IB ds):=fun n=>rfl
 rw[z2s];simp only[qO,y1,y2,y3];simp only[go_sem,q4,b0,List.length_map];have al:=z7f st ds ps hps
 refine XA (fun k:Nat=>⟨[(0,.ref (h.length+4) 0),(1,AI ((tms.toNat-48:Nat):Int)),(7,AI v),(54,AI ds.length),(55,AI k)],QP h ds st ((XD st ds ps).take k++ps.drop k) mi (moL st ((ds.zip ps).take k) mo) [],[]⟩) (fun k=>k≤ds.length) (fun k=>ds.length-k) 0 (by simp [moL]) (by omega) ?_
 intro k hk;rcases Nat.lt_or_ge k ds.length with hlt|hge
 ·have hlt':(k:Int)<(ds.length:Int):=by omega
  have w2:IntKind.i64.wrap ((k:Int)+1)=((k+1:Nat):Int):=zA _ (by omega) (by omega)
  obtain⟨s1,s2,s3⟩:=zpO (A:=XD st ds ps) (B:=ps) (by omega) (k:=k) (by omega) (z7d st hps hlt)
  have em:moL st ((ds.zip ps).take (k+1)) mo=moA st ds[k] (ps[k]'(by omega)) (moL st ((ds.zip ps).take k) mo):=by
   have hz:k<(ds.zip ps).length:=by rw[List.length_zip];omega
   unfold moL;rw[List.take_succ_eq_append_getElem hz,List.foldl_append,List.getElem_zip];rfl
  obtain⟨qs,hqs⟩:∃qs,qs=(XD st ds ps).take k++ps.drop k:=⟨_,rfl⟩;rw[←hqs]at s1 s2 s3 ⊢;obtain⟨mk,hmk⟩:∃mk,mk=moL st ((ds.zip ps).take k) mo:=⟨_,rfl⟩;rw[←hmk]at em ⊢;have hkq:k<qs.length:=by omega
  have gk:qs[k]=ps[k]'(by omega):=by
   have:=List.getElem?_eq_getElem hkq;rw[s2]at this;exact(Option.some.inj this).symm
  have ac:=fun K=>zoN (h:=h) (K:=K) (ps:=qs) (mo:=mk) hst hlt (hd _ (List.getElem_mem hlt)) hI hkq hl
  rw[gk,s3,←em]at ac;simp only[e2,EK,go_sem,hlt',↓ac,ac,w2];exact⟨k+1,rfl,by omega,by omega⟩
 ·have ek:k=ds.length:=by omega
  subst ek;have t1:(XD st ds ps).take ds.length=XD st ds ps:=List.take_of_length_le (by omega)
  have t2:ps.drop ds.length=[]:=List.drop_of_length_le (by omega)
  have t3:(ds.zip ps).take ds.length=ds.zip ps:=List.take_of_length_le (by rw[List.length_zip];omega)
  rw[t1,t2,t3,List.append_nil];have b1:∀n,ldB none 1 (some (QB h ds st n n))=some (AI st):=fun n=>rfl
  have tt:tms.toNat-48<2:=by rcases h1 with rfl|rfl <;> decide
  have af:=fun h K=>zb9 (h:=h) (K:=K) st (tms.toNat-48) hst tt
  have es:stW st tms=stp st (tms.toNat-48):=rfl
  rw[es]at hP;generalize stp st (tms.toNat-48)=s' at *;generalize moL st (ds.zip ps) mo=mo' at *;generalize XD st ds ps=ps' at *;have sb:stB none (h.length+4) 1 (AI s') (QP h ds st ps' mi mo' []) (some (QB h ds st ps'.length ps'.length)) (some [AI s'])=some (.und,QP h ds s' ps' mi mo' [],[]):=by
   show some (AV.und,(QP h ds st ps' mi mo' []).set (h.length+4) (QB h ds s' ps'.length ps'.length),_)=_
   rw[QP_s4];rfl
  have tk:(QP h ds s' ps' mi mo' []).take (h.length+5)=QP h ds s' ps' mi mo' []:=List.take_of_length_le (by rw[z6U];simp)
  simp only[e2,EK,go_sem,Nat.lt_irrefl,e3,pO,q4,b1,↓af,af,sb,tk];exact hP
theorem subS {c:UInt8}(hc:OB c):IntKind.u8.wrap ((c.toNat:Int)-48)=((c.toNat-48:Nat):Int):=by rcases hc with rfl|rfl <;> rfl
theorem subT {c:UInt8}(hc:OB c):IntKind.i64.wrap ((c.toNat-48:Nat):Int)=((c.toNat-48:Nat):Int):=by rcases hc with rfl|rfl <;> rfl
theorem subI {c:UInt8}(hc:OB c):((c.toNat-48:Nat):Int)=(c.toNat:Int)-48:=by rcases hc with rfl|rfl <;> rfl
theorem z9Z {c:UInt8}(hc:OB c):itoa ((c.toNat-48:Nat):Int)=[c]:=by
 rcases hc with rfl|rfl
 ·exact z3f (b:=0) (by omega)
 ·exact z3f (b:=1) (by omega)
set_option maxHeartbeats 2000000 in
theorem zoV {ds:List TDev}{st:Nat}{ps:List nB}{mi mo:PM}(hst:st<16)(hd:∀ d∈ds,DevOk d)(hI:InQ ds mi)(hl:ds.length≤1000)(hps:ps.length=ds.length)(hp:∀ p∈ps,PortOk p)(tms tdi:UInt8)(h1:OB tms)(h2:OB tdi) :
 ∃mo',∀K:kA,bA X zP [.ref (h.length+4) 0,AI ((tms.toNat-48:Nat):Int),AI ((tdi.toNat-48:Nat):Int)] (QP h ds st ps mi mo []) K=K (AI (mG st (UC st ds ps tdi).2)) (QP h ds (stW st tms) (UC st ds ps tdi).1 mi mo' []) []:=by
 have q4:∀ps,(QP h ds st ps mi mo [])[h.length+4]?=some (QB h ds st ps.length ps.length):=fun ps=>QP_4
 have q3:∀ps:List nB,(QP h ds st ps mi mo [])[h.length+3]?=some (.row none ((ps.map (·.2)).map .str) 0):=fun ps=>QH_3
 have b1:∀n,ldB none 1 (some (QB h ds st n n))=some (AI st):=fun n=>rfl
 have b3:∀n,ldB none 3 (some (QB h ds st n n))=some (.own (h.length+3) n 0 n):=fun n=>rfl
 have ql:∀ps,(QP h ds st ps mi mo []).length=h.length+5:=fun ps=>by rw[z6U];rfl
 by_cases hs:st=4∨st=11
 ·refine⟨moL st (ds.zip (aD ps tdi).1) mo,fun K=>?_⟩
  have ea:=z7k hs (ds:=ds) (ps:=ps) tdi hps
  rw[ea];have hsn:∀(ps:List nB) (b:UInt8),(aD ps b).1.length=ps.length:=by
   intro ps;induction ps with
   | nil=>intro b;rfl
   | cons p r ih=>intro b;simp [aD,ih]
  have fin:∀(b':UInt8),OB b'→(aD ps tdi).2=b'→∀y,eA y 0 = .ref (h.length+4) 0→eA y 1=AI ((tms.toNat-48:Nat):Int)→eA y 7=AI ((b'.toNat-48:Nat):Int) →
   NW (bA X) X.gl JJ ⟨y,QP h ds st (aD ps tdi).1 mi mo [],[]⟩ (mA [.t 6] false (h.length+5) fun v1 h1 x1=>v1=AI (mG st (aD ps tdi).2)∧h1=QP h ds (stW st tms) (aD ps tdi).1 mi (moL st (ds.zip (aD ps tdi).1) mo) []∧x1=[]):=fun b' hb' eb y y1 y2 y3=>by
   refine z7Y hst hd hI hl (by rw[hsn,hps]) tms h1 _ rfl ?_ y1 y2 y3
   rw[z7e hs (by rw[hsn,hps]),eb]
   unfold mG;rw[if_pos hs,subI hb'];exact⟨rfl,rfl,rfl⟩
  refine rA ?_;rw[z7J rfl];have loop:NA (bA X) X.gl IJ (tC 0 (yD (bA X) X.gl JJ (mA [.t 6] false (h.length+5) fun v1 h1 x1=>v1=AI (mG st (aD ps tdi).2)∧h1=QP h ds (stW st tms) (aD ps tdi).1 mi (moL st (ds.zip (aD ps tdi).1) mo) []∧x1=[])))
   [(0,.ref (h.length+4) 0),(1,AI ((tms.toNat-48:Nat):Int)),(7,AI ((tdi.toNat-48:Nat):Int)),(27,.own (h.length+3) ps.length 0 ps.length),(28,AI ps.length),(29,AI 0)] (QP h ds st ps mi mo []) []:=by
   refine XA (fun t:List nB×List nB×UInt8=>⟨[(0,.ref (h.length+4) 0),(1,AI ((tms.toNat-48:Nat):Int)),(7,AI ((t.2.2.toNat-48:Nat):Int)),(27,.own (h.length+3) ps.length 0 ps.length),(28,AI ps.length),(29,AI t.1.length)],QP h ds st (t.1++t.2.1) mi mo [],[]⟩)
    (fun t=>(aD ps tdi=(t.1++(aD t.2.1 t.2.2).1,(aD t.2.1 t.2.2).2)∧t.1.length+t.2.1.length=ps.length)∧(∀p∈t.2.1,PortOk p)∧OB t.2.2) (fun t=>t.2.1.length) ([],ps,tdi) rfl ⟨⟨rfl,by simp⟩,hp,h2⟩ ?_
   rintro⟨dn,rs,b⟩ ⟨⟨i1,i2⟩,i3,i4⟩
   dsimp only at i1 i2 i3 i4 ⊢;cases rs with
   | cons p rs=>
    have P:=i3 p (by simp)
    have hlt:dn.length<ps.length:=by simp at i2;omega
    have hlt':(dn.length:Int)<(ps.length:Int):=by omega
    have w3:IntKind.i64.wrap ((dn.length:Int)+1)=((dn.length+1:Nat):Int):=zA _ (by omega) (by omega)
    have hq:(dn++p::rs)[dn.length]?=some p:=by simp
    have gs:(((dn++p::rs).map (·.2)).map PV.str)[dn.length]?=some (.str p.2):=by rw[List.map_map,List.getElem?_map,hq];rfl
    have ll:(dn++p::rs).length=ps.length:=by simpa using i2
    have lms:(((dn++p::rs).map (·.2)).map PV.str).length=ps.length:=by rw[List.length_map,List.length_map,ll]
    have it:=fun h K=>z5K (h:=h) (K:=K) ((b.toNat-48:Nat):Int) (by omega) (by rcases i4 with rfl|rfl <;> decide)
    rw[z9Z i4]at it;obtain⟨p1,p2⟩:=p;have hne:=P.ne
    have hn:=P.n
    cases p2 with
    | nil=>exact absurd rfl hne
    | cons x r=>
     have hr:r.length+1≤PA:=by simp at hn;unfold PA;omega
     have hx:OB x:=P.b x (by simp)
     have wn:win (x::r) 1 (r.length+1-1)=r:=by simp [win]
     have cc:∀v:List UInt8,aB none 0 (PV.str v)=some (PV.str v):=fun _=>rfl
     have x1:=subS hx
     have x2:=subT hx
     have ws:(QP h ds st (dn++(p1,x::r)::rs) mi mo []).set (h.length+3) (.row none ((((dn++(p1,x::r)::rs).map (·.2)).map .str).set dn.length (.str (r++[b]))) 0)=QP h ds st (dn++(p1,r++[b])::rs) mi mo []:=by
      unfold QP;rw[z6T];have a1:(dn++(p1,x::r)::rs).map (·.1)=(dn++(p1,r++[b])::rs).map (·.1):=by simp
      have a2:((dn++(p1,x::r)::rs).map (·.2)).set dn.length (r++[b])=(dn++(p1,r++[b])::rs).map (·.2):=by
       rw[←List.map_set (f:=fun y:nB=>y.2) (a:=(p1,r++[b]))]
       congr 1
       simp
      rw[a1,a2]
     dsimp only at gs lms;simp only[VT,DK,go_sem,hlt',hlt,q3,q4,ll,b3,lms,gs,cc,wn,hr,↓it,it,ws,x1,x2,w3];refine⟨(dn++[(p1,r++[b])],rs,x),by simp,⟨⟨?_,?_⟩,fun y hy=>i3 y (List.mem_cons_of_mem _ hy),hx⟩,by simp⟩
     ·rw[i1];simp [aD]
     ·simp at i2 ⊢;omega
   | nil=>
    have hlen:dn.length=ps.length:=by simpa using i2
    rw[List.append_nil];have e1:(aD ps tdi).1=dn:=by rw[i1];simp [aD]
    have e2:(aD ps tdi).2=b:=by rw[i1];rfl
    have n1:¬(dn.length:Int)<(ps.length:Int):=by omega
    have fn:=fin b i4 e2
    rw[e1]at fn ⊢;simp only[VT,DK,go_sem,n1];exact fn _ rfl rfl rfl
  by_cases s4:st=4
  ·have s4':(st:Int)=4:=by omega
   simp only[CK,go_sem,q4,b1,b3,ql,eq_true s4'];exact loop
  ·have s4':¬(st:Int)=4:=by omega
   have s11':(st:Int)=11:=by omega
   simp only[CK,go_sem,q4,b1,b3,ql,s4',eq_true s11'];exact loop
 ·refine⟨moL st (ds.zip ps) mo,fun K=>?_⟩
  have ea:=z7j hs (ds:=ds) (ps:=ps) tdi hps
  rw[ea];refine rA ?_;rw[z7J rfl];have s4':¬(st:Int)=4:=by omega
  have s11':¬(st:Int)=11:=by omega
  have ec:mG st tdi = -1:=by unfold mG;rw[if_neg hs]
  rw[ec];simp only[CK,go_sem,q4,b1,b3,ql,s4',s11'];exact z7Y hst hd hI hl hps tms h1 (-1) rfl ⟨rfl,rfl,rfl⟩ rfl rfl rfl
end Go.Am
end
section
namespace Go.Am
variable {h:aA} {K:kA}
attribute [-go_sem] YA NB mC
theorem zlw {c:UInt8}(hc:OB c):itoa ((c.toNat:Int)-48)=[c]:=by rw[←subI hc];exact z9Z hc
set_option maxHeartbeats 2000000 in
theorem zo9 (ds:List TDev)(hd:∀ d∈ds,DevOk d)(hn:(ds.map TDev.name).Nodup)(h20:ds.length≤20)(tms tdi:List UInt8)(hl:tms.length=tdi.length)(h2:tms.length≤20000)(hb1:EA tms=true)(hb2:EA tdi=true) :
 bA X DP [IB ds,AS tms,AS tdi] h K=K (AS (xD ds 0 (PD ds) (tms.zip tdi))) h []:=by
 refine rA ?_;rw[zeE rfl];have nw:=fun h K=>zo6 (h:=h) (K:=K) ds hd (by omega)
 have hI:=z9S ds [] hn hd
 have zl:(tms.zip tdi).length=tms.length:=by rw[List.length_zip];omega
 have Rl:(xD ds 0 (PD ds) (tms.zip tdi)).length=tms.length:=by rw[yX,zl]
 generalize hR:xD ds 0 (PD ds) (tms.zip tdi)=R at *;simp only[tS,go_sem,↓nw,nw];refine XA (fun t:Nat×Nat×List nB×PM=>⟨[(1,AS tms),(2,AS tdi),(7,.ref (h.length+4) 0),(8,AS (R.take t.1)),(14,AI tms.length),(15,AI t.1)],QP h ds t.2.1 t.2.2.1 (zC ds []) t.2.2.2 [],[]⟩)
  (fun t=>(t.1≤tms.length∧t.2.1<16)∧(t.2.2.1.length=ds.length∧∀q∈t.2.2.1,PortOk q)∧xD ds t.2.1 t.2.2.1 ((tms.zip tdi).drop t.1)=R.drop t.1) (fun t=>tms.length-t.1) (0,0,PD ds,zC ds []) ?_ ⟨⟨by dsimp only;omega,by dsimp only;omega⟩,⟨by simp [PD],znC ds⟩,by dsimp only;rw[List.drop_zero,hR];rfl⟩ ?_
 ·have e1:(PD ds).map (·.1)=List.replicate ds.length []:=by unfold PD;rw[List.map_map];exact List.map_const ..
  have e2:(PD ds).map (·.2)=List.replicate ds.length [48]:=by unfold PD;rw[List.map_map];exact List.map_const ..
  unfold QP;rw[e1,e2];rfl
 rintro⟨k,st,ps,mo⟩ ⟨⟨i1,i2⟩,⟨i3,i4⟩,i5⟩
 dsimp only at i1 i2 i3 i4 i5 ⊢;rcases Nat.lt_or_ge k tms.length with hlt|hge
 ·have hlt':(k:Int)<(tms.length:Int):=by omega
  have hk2:k<tdi.length:=by omega
  have w2:IntKind.i64.wrap ((k:Int)+1)=((k+1:Nat):Int):=zA _ (by omega) (by omega)
  have ea:(tms.zip tdi).drop k=(tms[k],tdi[k])::(tms.zip tdi).drop (k+1):=by
   rw[List.drop_eq_getElem_cons (by rw[zl];exact hlt),List.getElem_zip]
  have ba:=IR hb1 hlt
  have bb:=IR hb2 hk2
  have ga:tms[k]?=some tms[k]:=List.getElem?_eq_getElem hlt
  have gb:tdi[k]?=some tdi[k]:=List.getElem?_eq_getElem hk2
  rw[ea]at i5;generalize tms[k]=ca at *;generalize tdi[k]=cb at *;rw[zbd]at i5;have x1:=subS ba
  have x2:=subT ba
  have x3:=subS bb
  have x4:=subT bb
  obtain⟨mo',ck⟩:=zoV (h:=h) (mo:=mo) i2 hd hI (by omega) i3 i4 ca cb ba bb
  obtain⟨o1,ol,o2⟩:=z7c st hd i4 i3 bb;generalize (UC st ds ps cb).1=ps' at *;generalize (UC st ds ps cb).2=b' at *;have hst':stW st ca<16:=z6g i2 ba
  have eR:R.drop k=kH st b'::R.drop (k+1):=by
   have:R.drop (k+1)=(R.drop k).drop 1:=by rw[List.drop_drop]
   rw[this,←i5];rfl
  have i6:xD ds (stW st ca) ps' ((tms.zip tdi).drop (k+1))=R.drop (k+1):=by
   rw[eR]at i5;injection i5
  have eT:R.take (k+1)=R.take k++[kH st b']:=by
   have hk:k<R.length:=by omega
   rw[List.take_succ_eq_append_getElem hk];congr 2
   rw[List.drop_eq_getElem_cons hk]at eR;injection eR
  have ls:(R.take k).length+1≤PA:=by rw[List.length_take];unfold PA;omega
  unfold mG at ck;unfold kH at eT;by_cases hs:st=4∨st=11
  ·rw[if_pos hs]at ck eT
   have y1:(0:Int)≤(b'.toNat:Int)-48:=by rcases o2 with e|e <;> rw[e] <;> decide
   have it:=fun h K=>z5K (h:=h) (K:=K) ((b'.toNat:Int)-48) (by omega) (by rcases o2 with e|e <;> rw[e] <;> decide)
   rw[zlw o2]at it;generalize R.take k=rk at *;simp only[XT,HK,go_sem,hlt',ga,gb,x1,x2,x3,x4,↓ck,ck,y1,↓it,it,ls,w2];refine⟨(k+1,stW st ca,ps',mo'),?_,⟨⟨by dsimp only;omega,hst'⟩,⟨ol,o1⟩,i6⟩,by dsimp only;omega⟩
   rw[eT]
  ·rw[if_neg hs]at ck eT
   have y1:¬(0:Int) ≤ -1:=by decide
   generalize R.take k=rk at *;simp only[XT,HK,go_sem,hlt',ga,gb,x1,x2,x3,x4,↓ck,ck,y1,ls,w2];refine⟨(k+1,stW st ca,ps',mo'),?_,⟨⟨by dsimp only;omega,hst'⟩,⟨ol,o1⟩,i6⟩,by dsimp only;omega⟩
   rw[eT]
 ·have ek:k=tms.length:=by omega
  subst ek;have eR:R.take tms.length=R:=List.take_of_length_le (by omega)
  rw[eR];have tk:(QP h ds st ps (zC ds []) mo []).take h.length=h:=by unfold QP QH;rw[oK]
  simp only[XT,HK,go_sem,Nat.lt_irrefl,tk]
end Go.Am
end
section
namespace Go.Am
variable {h:aA} {K:kA}
attribute [-go_sem] YA
theorem kF (n a b:Int):bA X OH [AI n,AI a,AI b] h K=K (AB (decide (a≤n)&&decide (n≤b))) h []:=by
 refine rA ?_;rw[zeI rfl];by_cases h1:a≤n <;> simp only[xS,go_sem,h1] <;> simp [h1]
theorem zqu (s cs:List UInt8):decide (DF s cs=[])=s.all fun c=>cs.contains c:=by
 unfold DF;rw[Bool.eq_iff_iff,decide_eq_true_eq,fJ,List.all_reverse];constructor
 ·intro h
  have key:∀l:List UInt8,(l.dropWhile (cs.contains ·)).all (cs.contains ·)=true→l.all (cs.contains ·)=true:=by
   intro l;induction l with
   | nil=>intro _;rfl
   | cons c r ih=>
    intro hh;rw[List.dropWhile_cons]at hh;rw[List.all_cons];cases hc:cs.contains c with
    | true=>rw[hc,if_pos rfl]at hh;simp only[Bool.true_and];exact ih hh
    | false=>rw[hc,if_neg (by simp),List.all_cons,hc]at hh;simp at hh
  have:=key _ h;rwa [List.all_reverse]at this
 ·intro h
  have:s.reverse.dropWhile (cs.contains ·)=[]:=by rw[fJ,List.all_reverse];exact h
  rw[this];rfl
def yJ:List UInt8:=97::98::99::100::101::102::103::104::105::106::107::108::109::110::111::112::113::114::115::116::117::118::119::120::121::122::48::49::50::51::52::53::54::55::56::57::45::95::[]
def CN:List UInt8:=97::98::99::100::101::102::103::104::105::106::107::108::109::110::111::112::113::114::115::116::117::118::119::120::121::122::[]
theorem zlx:∀ n<256,yJ.contains (UInt8.ofNat n)=GE (UInt8.ofNat n)∧CN.contains (UInt8.ofNat n)=(decide ((97:Int)≤(UInt8.ofNat n).toNat)&&decide (((UInt8.ofNat n).toNat:Int)≤122)):=by decide +kernel
theorem zab (c:UInt8):yJ.contains c=GE c∧CN.contains c=(decide ((97:Int)≤c.toNat)&&decide ((c.toNat:Int)≤122)):=by
 have:=zlx c.toNat c.toNat_lt;rwa [UInt8.ofNat_toNat]at this
theorem zbx (s:List UInt8)(hs:s.length≤1000000):bA X jL [AS s] h K=K (AB (OC s)) h []:=by
 refine rA ?_;rw[ze9 rfl];have tr:=fun h K=>z5N (h:=h) (K:=K) s yJ hs (by decide) (by decide)
 unfold yJ at tr;by_cases h1:1≤s.length∧s.length≤40
 case neg=>
  have e:OC s=false:=by
   cases hk:OC s with
   | false=>rfl
   | true=>
    obtain⟨k1,k2⟩:=zaa hk;have:=List.length_pos_iff.2 k2;omega
  have e2:(decide ((1:Int)≤s.length)&&decide ((s.length:Int)≤40))=false:=by
   rw[Bool.eq_false_iff];intro c;simp at c;omega
  rw[e];simp only[XI,go_sem,kF,e2]
 have e2:(decide ((1:Int)≤s.length)&&decide ((s.length:Int)≤40))=true:=by simp;omega
 cases s with
 | nil=>simp at h1
 | cons c r=>
  have e2:(decide ((1:Int)≤((r.length+1:Nat):Int))&&decide (((r.length+1:Nat):Int)≤40))=true:=by simp at h1 ⊢;omega
  have ta:=zqu (c::r) yJ
  have al:((c::r).all fun c=>yJ.contains c)=(c::r).all GE:=by
   congr 1
   funext x
   exact(zab x).1
  rw[al]at ta;unfold yJ at ta;have hr:decide (r.length<40)=true:=by simp at h1 ⊢;omega
  have ke:OC (c::r)=((decide ((97:Int)≤c.toNat)&&decide ((c.toNat:Int)≤122))&&(c::r).all GE):=by
   show(decide (r.length<40)&&(decide ((97:Int)≤c.toNat)&&decide ((c.toNat:Int)≤122))&&(c::r).all GE)=_
   rw[hr,Bool.true_and]
  rw[ke,←(zab c).2];have ix:=fun h K=>z5J (h:=h) (K:=K) CN c
  have ne:=z3a CN c
  unfold CN at ix ne;cases ha:(c::r).all GE with
  | false=>
   rw[ha]at ta;have t2:¬DF (c::r) (97::98::99::100::101::102::103::104::105::106::107::108::109::110::111::112::113::114::115::116::117::118::119::120::121::122::48::49::50::51::52::53::54::55::56::57::45::95::[])=[]:=by simpa using ta
   rw[Bool.and_false];simp only[XI,go_sem,kF,e2,↓tr,tr,t2]
  | true=>
   rw[ha]at ta;have t2:DF (c::r) (97::98::99::100::101::102::103::104::105::106::107::108::109::110::111::112::113::114::115::116::117::118::119::120::121::122::48::49::50::51::52::53::54::55::56::57::45::95::[])=[]:=by simpa using ta
   rw[Bool.and_true];unfold CN;cases hc:((97::98::99::100::101::102::103::104::105::106::107::108::109::110::111::112::113::114::115::116::117::118::119::120::121::122::[]):List UInt8).contains c with
   | true=>
    rw[hc]at ne;have:decide ((0:Int)≤dD (97::98::99::100::101::102::103::104::105::106::107::108::109::110::111::112::113::114::115::116::117::118::119::120::121::122::[]) c)=true:=by
     simp at ne ⊢;omega
    simp only[XI,go_sem,kF,e2,↓tr,tr,t2,↓ix,ix,this]
   | false=>
    rw[hc]at ne;have:decide ((0:Int)≤dD (97::98::99::100::101::102::103::104::105::106::107::108::109::110::111::112::113::114::115::116::117::118::119::120::121::122::[]) c)=false:=by
     simp at ne ⊢;omega
    simp only[XI,go_sem,kF,e2,↓tr,tr,t2,↓ix,ix,this]
end Go.Am
end
section
namespace Go.Am
variable {h:aA} {K:kA}
attribute [-go_sem] YA
theorem zot (s:List UInt8)(hs:s.length≤1000000):bA X vP [AS s] h K=K (AI (if EA s=true then 0 else 9)) h []:=by
 refine rA ?_;rw[ze6 rfl];have tr:=fun h K=>z5N (h:=h) (K:=K) s [48,49] hs (by simp) (by decide)
 have tb:decide (DF s [48,49]=[])=EA s:=zcp s
 cases hb:EA s with
 | true=>
  rw[hb]at tb;have t2:DF s [48,49]=[]:=by simpa using tb
  rw[if_pos rfl];simp only[mO,go_sem,↓tr,tr,t2]
 | false=>
  rw[hb]at tb;have t2:¬DF s [48,49]=[]:=by simpa using tb
  rw[if_neg (by simp)]
  simp only[mO,go_sem,↓tr,tr,t2]
theorem znQ (d:TDev)(n:List UInt8):(WB d n).isSome=true↔n=yB∨(n=bB∧d.id≠0)∨(d.regs.any fun x=>decide (x.name=n))=true:=by
 unfold WB;by_cases h1:n=yB
 ·simp [h1]
 by_cases h2:n=bB∧d.id≠0
 ·rw[if_neg h1,if_pos h2];simp [h2]
 rw[if_neg h1,if_neg h2,List.find?_isSome];simp only[h1,h2,false_or,List.any_eq_true,decide_eq_true_eq,beq_iff_eq]
set_option maxHeartbeats 4000000 in
theorem zoI (d:TDev)(B:DevB d)(i:Nat)(hlt:i<d.ins.length):bA X FP [ZA d,AI i] h K=K (AI (VB d (d.ins.take i) d.ins[i])) h []:=by
 refine rA ?_;rw[zeJ rfl];have hl:=B.is
 have hrl:=B.rs
 have hg:=BB VA hlt
 have cx:aB (some 2) 0 (VA d.ins[i])=some (VA d.ins[i]):=rfl
 have fp:∀y:TIns,VA y = .agg [.str y.code,.str y.reg]:=fun _=>rfl
 obtain⟨nl1,nl2⟩:=B.ic _ (List.getElem_mem hlt);have hw:win (d.ins.map VA) 0 i=(d.ins.take i).map VA:=by simp [win,List.map_take]
 have hk2:i≤d.ins.length:=by omega
 have lt:(d.ins.take i).length≤1000:=by rw[List.length_take];omega
 generalize d.ins[i]=r at *;generalize d.ins.take i=pre at *;rw[fp]at hg cx;have bt:=fun h K=>zot (h:=h) (K:=K) r.code (by omega)
 have sc:=fun h K=>zbL (h:=h) (K:=K) r.code (by omega)
 have t1:sE GP [.ref (h.length+1) 0] (WC r.reg) (d.regs.map uA) (h++[.box [AS d.name,AI d.long,AI d.id,.p (.sl (some 2) (d.regs.map uA)),.p (.sl (some 2) (d.ins.map VA))],.box [AS r.code,AS r.reg]]):=fun x hx K=>by
  obtain⟨y,_,rfl⟩:=List.mem_map.1 hx;refine rA ?_;rw[zeK rfl];simp only[yS,go_sem,Nat.add_assoc,uA,WC]
 have cr:=fun K=>ZX (h:=h++[.box [AS d.name,AI d.long,AI d.id,.p (.sl (some 2) (d.regs.map uA)),.p (.sl (some 2) (d.ins.map VA))],.box [AS r.code,AS r.reg]]) (K:=K) t1 pX (by simp;omega)
 have t2:sE HP [.ref (h.length+1) 0] (WC r.code) (pre.map VA) (h++[.box [AS d.name,AI d.long,AI d.id,.p (.sl (some 2) (d.regs.map uA)),.p (.sl (some 2) (d.ins.map VA))],.box [AS r.code,AS r.reg]]):=fun x hx K=>by
  obtain⟨y,_,rfl⟩:=List.mem_map.1 hx;refine rA ?_;rw[zeL rfl];simp only[zS,go_sem,Nat.add_assoc,VA,WC]
 have ct:=fun K=>z6B (h:=h++[.box [AS d.name,AI d.long,AI d.id,.p (.sl (some 2) (d.regs.map uA)),.p (.sl (some 2) (d.ins.map VA))],.box [AS r.code,AS r.reg]]) (K:=K) t2 z9X (by simp;omega)
 rw[z7s]at ct;rw[z0r]at cr;have rs:=znQ d r.reg
 unfold yB bB at rs;by_cases n1:(r.code.length:Int)=d.long
 case neg=>
  have e:VB d pre r=3:=by unfold VB;rw[if_pos n1]
  rw[e];simp only[VE,go_sem,Nat.add_assoc,ZA,BA,hlt,hg,cx,fp,splice,↓cr,cr,n1]
 cases n2:EA r.code with
 | false=>
  have e:VB d pre r=9:=by unfold VB;rw[if_neg (by simp [n1]),if_pos n2]
  rw[e];rw[n2,if_neg (by simp)]at bt
  simp only[VE,go_sem,Nat.add_assoc,ZA,BA,hlt,hg,cx,fp,splice,↓cr,cr,eq_true n1,↓bt,bt]
 | true=>
  rw[n2,if_pos rfl]at bt;cases n3:r.code.contains 48 with
  | false=>
   have e:VB d pre r=16:=by unfold VB;rw[if_neg (by simp [n1]),if_neg (by simp [n2]),if_pos n3]
   rw[e];rw[n3]at sc;simp only[VE,go_sem,Nat.add_assoc,ZA,BA,hlt,hg,cx,fp,splice,↓cr,cr,eq_true n1,↓bt,bt,↓sc,sc]
  | true=>
   rw[n3]at sc;cases n4:(pre.any fun y=>decide (y.code=r.code)) with
   | true=>
    have e:VB d pre r=6:=by unfold VB;rw[if_neg (by simp [n1]),if_neg (by simp [n2]),if_neg (by rw[n3];simp),if_pos n4]
    rw[e];rw[n4]at ct;simp only[VE,go_sem,Nat.add_assoc,ZA,BA,hlt,hg,cx,fp,splice,↓cr,cr,eq_true n1,↓bt,bt,↓sc,sc,hw,hk2,↓ct,ct]
   | false=>
    rw[n4]at ct;have eT:(WB d r.reg).isSome=true→VB d pre r=0:=fun q=>by unfold VB;rw[if_neg (by simp [n1]),if_neg (by simp [n2]),if_neg (by rw[n3];simp),if_neg (by rw[n4];simp),if_neg (by rw[q];simp)]
    have eF:¬(WB d r.reg).isSome=true→VB d pre r=8:=fun q=>by unfold VB;rw[if_neg (by simp [n1]),if_neg (by simp [n2]),if_neg (by rw[n3];simp),if_neg (by rw[n4];simp),if_pos (by cases z:(WB d r.reg).isSome with|true=>exact absurd z q|false=>rfl)]
    by_cases m1:r.reg=[98,121,112,97,115,115]
    ·rw[eT (rs.2 (.inl m1))]
     simp only[VE,go_sem,Nat.add_assoc,ZA,BA,hlt,hg,cx,fp,splice,↓cr,cr,eq_true n1,↓bt,bt,↓sc,sc,hw,hk2,↓ct,ct,eq_true m1]
    by_cases m2:r.reg=[105,100,99,111,100,101]
    ·by_cases m3:d.id=0
     ·cases m4:(d.regs.any fun x=>decide (x.name=r.reg)) with
      | true=>
       rw[eT (rs.2 (.inr (.inr m4)))];rw[m4]at cr;simp only[VE,go_sem,Nat.add_assoc,ZA,BA,hlt,hg,cx,fp,splice,↓cr,cr,eq_true n1,↓bt,bt,↓sc,sc,hw,hk2,↓ct,ct,m1,eq_true m2,eq_true m3]
      | false=>
       rw[eF (fun q=>by rcases rs.1 q with c|c|c;exact m1 c;exact c.2 m3;rw[m4]at c;cases c)]
       rw[m4]at cr;simp only[VE,go_sem,Nat.add_assoc,ZA,BA,hlt,hg,cx,fp,splice,↓cr,cr,eq_true n1,↓bt,bt,↓sc,sc,hw,hk2,↓ct,ct,m1,eq_true m2,eq_true m3]
     ·rw[eT (rs.2 (.inr (.inl ⟨m2,m3⟩)))]
      simp only[VE,go_sem,Nat.add_assoc,ZA,BA,hlt,hg,cx,fp,splice,↓cr,cr,eq_true n1,↓bt,bt,↓sc,sc,hw,hk2,↓ct,ct,m1,eq_true m2,eq_false m3]
    ·cases m4:(d.regs.any fun x=>decide (x.name=r.reg)) with
     | true=>
      rw[eT (rs.2 (.inr (.inr m4)))];rw[m4]at cr;simp only[VE,go_sem,Nat.add_assoc,ZA,BA,hlt,hg,cx,fp,splice,↓cr,cr,eq_true n1,↓bt,bt,↓sc,sc,hw,hk2,↓ct,ct,m1,m2]
     | false=>
      rw[eF (fun q=>by rcases rs.1 q with c|c|c;exact m1 c;exact m2 c.1;rw[m4]at c;cases c)]
      rw[m4]at cr;simp only[VE,go_sem,Nat.add_assoc,ZA,BA,hlt,hg,cx,fp,splice,↓cr,cr,eq_true n1,↓bt,bt,↓sc,sc,hw,hk2,↓ct,ct,m1,m2]
end Go.Am
end
section
namespace Go.Am
variable {h:aA} {K:kA}
attribute [-go_sem] YA
attribute [-go_sem] OG MF dP YI z2y tO z2z vO
theorem pf_k4 (d:TDev)(B:DevB d){b:Nat}(hb:b=h.length){P:kA}(hP:P (AI (oE d [] d.ins)) h []){y:List (Nat × AV)}(y1:eA y 1 = .ref h.length 0) :
 NW (bA X) X.gl RQ ⟨y,h++[.box (sB d)],[]⟩ (mA [.t 2] false b P):=by
 subst hb;have hl:=B.is
 have d4:ldB none 4 (some (.box (sB d)))=some (.p (.sl (some 2) (d.ins.map VA))):=rfl
 have d5:ldB (some 5) 0 (some (.box (sB d)))=some (ZA d):=rfl
 rw[z2z];simp only[vO,y1];simp only[go_sem,d4,List.length_map];obtain⟨T,hT⟩:∃T,T=oE d [] d.ins:=⟨_,rfl⟩;rw[←hT]at hP;refine XA (fun k:Nat=>⟨[(1,.ref h.length 0),(55,AI d.ins.length),(56,AI k)],h++[.box (sB d)],[]⟩) (fun k=>k≤d.ins.length∧oE d (d.ins.take k) (d.ins.drop k)=T) (fun k=>d.ins.length-k) 0 rfl ⟨by omega,hT.symm⟩ ?_
 rintro k ⟨hk,hp⟩
 rcases Nat.lt_or_ge k d.ins.length with hlt|hge
 ·have hlt':(k:Int)<(d.ins.length:Int):=by omega
  have w2:IntKind.i64.wrap ((k:Int)+1)=((k+1:Nat):Int):=zA _ (by omega) (by omega)
  have tk:=List.take_succ_eq_append_getElem hlt
  have nf:=fun h K=>zoI (h:=h) (K:=K) d B k hlt
  rw[List.drop_eq_getElem_cons hlt]at hp;unfold oE at hp;rw[←tk]at hp;generalize d.ins[k]=r at *;generalize d.ins.take k=pre at *;by_cases e:VB d pre r=0
  ·rw[e,if_neg (by decide)]at hp
   rw[e]at nf;simp only[dP,YI,go_sem,hlt',d5,↓nf,nf,w2];exact⟨k+1,rfl,⟨by omega,hp⟩,by omega⟩
  ·rw[if_pos e]at hp
   rw[hp]at nf e;simp only[dP,YI,go_sem,hlt',d5,↓nf,nf,e];exact hP
 ·have ek:k=d.ins.length:=by omega
  subst ek;rw[List.drop_length]at hp;have hp:T=0:=by rw[←hp];rfl
  rw[hp]at hP;simp only[dP,YI,go_sem,Nat.lt_irrefl,z2y,tO];exact hP
def XQ (d:TDev):Int:=if(10:Int)<d.regs.length∨(100:Int)<d.ins.length then 2 else if QD [] d.regs≠0 then QD [] d.regs else oE d [] d.ins
set_option maxHeartbeats 4000000 in
theorem zoT (d:TDev)(B:DevB d):bA X IP [ZA d] h K=K (AI (XQ d)) h []:=by
 refine rA ?_;rw[zeM rfl];have hl:=B.rs
 unfold XQ;by_cases g1:(10:Int)<d.regs.length
 ·rw[if_pos (.inl g1)]
  simp only[MK,go_sem,ZA,BA,List.length_map,g1]
 by_cases g2:(100:Int)<d.ins.length
 ·rw[if_pos (.inr g2)]
  simp only[MK,go_sem,ZA,BA,List.length_map,g1,g2]
 rw[if_neg (by omega)]
 obtain⟨T,hT⟩:∃T,T=QD [] d.regs:=⟨_,rfl⟩;rw[←hT];simp only[MK,go_sem,ZA,BA,List.length_map,g1,g2];refine XA (fun k:Nat=>⟨[(1,.ref h.length 0),(18,.p (.sl (some 2) (d.regs.map uA))),(19,AI d.regs.length),(20,AI k)],h++[.box (sB d)],[]⟩) (fun k=>k≤d.regs.length∧QD (d.regs.take k) (d.regs.drop k)=T) (fun k=>d.regs.length-k) 0 rfl ⟨by omega,hT.symm⟩ ?_
 rintro k ⟨hk,hp⟩
 rcases Nat.lt_or_ge k d.regs.length with hlt|hge
 ·have hg:=BB uA hlt
  have w2:IntKind.i64.wrap ((k:Int)+1)=((k+1:Nat):Int):=zA _ (by omega) (by omega)
  have cx:aB (some 2) 0 (uA d.regs[k])=some (uA d.regs[k]):=rfl
  have fp:∀y:TReg,uA y = .agg [.str y.name,eI y.long]:=fun _=>rfl
  have nl:=B.rn _ (List.getElem_mem hlt)
  have tk:=List.take_succ_eq_append_getElem hlt
  have hw:win (d.regs.map uA) 0 k=(d.regs.take k).map uA:=by simp [win,List.map_take]
  have hk2:k≤d.regs.length:=hk
  have lt:(d.regs.take k).length≤1000:=by rw[List.length_take];omega
  have d3:ldB none 3 (some (.box (sB d)))=some (.p (.sl (some 2) (d.regs.map uA))):=rfl
  rw[List.drop_eq_getElem_cons hlt]at hp;unfold QD at hp;rw[←tk]at hp;generalize hrr:d.regs[k]=r at *;generalize d.regs.take k=pre at *;rw[fp]at hg cx;have ky:=fun h K=>zbx (h:=h) (K:=K) r.name (by omega)
  have tl:sE JP [.ref (h.length+1) 0] (WC r.name) (pre.map uA) (h++[.box (sB d),.box [AS r.name,AI r.long]]):=fun x hx K=>by
   obtain⟨y,_,rfl⟩:=List.mem_map.1 hx;refine rA ?_;rw[zeN rfl];simp only[BS,go_sem,Nat.add_assoc,uA,WC]
  have ct:=fun K=>ZX (h:=h++[.box (sB d),.box [AS r.name,AI r.long]]) (K:=K) tl pX (by simp;omega)
  rw[z0r]at ct;have nz:∀n:Int,n≠0→T=n→¬T=0:=fun n h1 h2 h3=>h1 (h2 ▸ h3)
  cases kb:OC r.name with
  | false=>
   have e:dC pre r=5:=by unfold dC;rw[if_pos kb]
   rw[e,if_pos (by decide)]at hp
   rw[←hp,if_pos (by decide)]
   simp only[OG,MF,go_sem,Nat.add_assoc,hlt,hg,cx,fp,↓ky,ky,kb,splice]
  | true=>
   by_cases n1:r.name=[98,121,112,97,115,115]
   ·have e:dC pre r=6:=by unfold dC yB bB;rw[if_neg (by simp [kb]),if_pos (.inl n1)]
    rw[e,if_pos (by decide)]at hp
    rw[←hp,if_pos (by decide)]
    simp only[OG,MF,go_sem,Nat.add_assoc,hlt,hg,cx,fp,↓ky,ky,kb,splice,eq_true n1]
   by_cases n2:r.name=[105,100,99,111,100,101]
   ·have e:dC pre r=6:=by unfold dC yB bB;rw[if_neg (by simp [kb]),if_pos (.inr (.inl n2))]
    rw[e,if_pos (by decide)]at hp
    rw[←hp,if_pos (by decide)]
    simp only[OG,MF,go_sem,Nat.add_assoc,hlt,hg,cx,fp,↓ky,ky,kb,splice,n1,eq_true n2]
   cases ha:(pre.any fun x=>decide (x.name=r.name)) with
   | true=>
    have e:dC pre r=6:=by unfold dC yB bB;rw[if_neg (by simp [kb]),if_pos (.inr (.inr ha))]
    rw[e,if_pos (by decide)]at hp
    rw[←hp,if_pos (by decide)]
    rw[ha]at ct;simp only[OG,MF,go_sem,Nat.add_assoc,hlt,hg,cx,fp,↓ky,ky,kb,splice,n1,n2,d3,hw,hk2,↓ct,ct]
   | false=>
    have e0:¬(r.name=[98,121,112,97,115,115]∨r.name=[105,100,99,111,100,101]∨(pre.any fun x=>decide (x.name=r.name))=true):=by rw[ha];simp [n1,n2]
    rw[ha]at ct;by_cases o1:r.long<1∨1000<r.long
    ·have e:dC pre r=1:=by unfold dC yB bB;rw[if_neg (by simp [kb]),if_neg e0,if_pos o1]
     rw[e,if_pos (by decide)]at hp
     rw[←hp,if_pos (by decide)]
     have o2:(decide ((1:Int)≤r.long)&&decide (r.long≤1000))=false:=by rw[Bool.eq_false_iff];intro c;simp at c;omega
     simp only[OG,MF,go_sem,Nat.add_assoc,hlt,hg,cx,fp,↓ky,ky,kb,splice,n1,n2,d3,hw,hk2,↓ct,ct,kF,o2]
    ·have e:dC pre r=0:=by unfold dC yB bB;rw[if_neg (by simp [kb]),if_neg e0,if_neg o1]
     rw[e,if_neg (by decide)]at hp
     have o2:(decide ((1:Int)≤r.long)&&decide (r.long≤1000))=true:=by simp;omega
     simp only[OG,MF,go_sem,Nat.add_assoc,hlt,hg,cx,fp,↓ky,ky,kb,splice,n1,n2,d3,hw,hk2,↓ct,ct,kF,o2,w2];exact⟨k+1,rfl,⟨by omega,hp⟩,by omega⟩
 ·have ek:k=d.regs.length:=by omega
  subst ek;rw[List.drop_length]at hp;have hp:T=0:=by rw[←hp];rfl
  rw[hp,if_neg (by simp)]
  simp only[OG,MF,go_sem,Nat.lt_irrefl];exact pf_k4 d B rfl ⟨rfl,rfl,rfl⟩ rfl
theorem zgB (pre:List TDev)(d:TDev):OF pre d=if OC d.name=false then 5 else if(pre.any fun x=>decide (x.name=d.name))=true then 6 else if(d.long<2∨32<d.long)∨(d.id<0∨4294967295<d.id) then 1
 else if d.id≠0∧d.id.tmod 2=0 then 3 else XQ d:=rfl
end Go.Am
end
section
namespace Go.Am
variable {h:aA} {K:kA}
attribute [-go_sem] YA
set_option maxHeartbeats 4000000 in
theorem zo1 (ds:List TDev)(hB:∀ d∈ds,DevB d)(hl:ds.length≤1000):bA X wP [IB ds] h K=K (AI (YE ds)) h []:=by
 refine rA ?_;rw[ze7 rfl];unfold YE;by_cases z:ds.length=0
 ·have z':(ds.length:Int)=0:=by omega
  rw[if_pos z];simp only[zK,go_sem,List.length_map,eq_true z']
 have z':¬(ds.length:Int)=0:=by omega
 rw[if_neg z];by_cases g:20<ds.length
 ·have g':(20:Int)<ds.length:=by omega
  rw[if_pos g];simp only[zK,go_sem,List.length_map,z',g']
 have g':¬(20:Int)<ds.length:=by omega
 rw[if_neg g];obtain⟨T,hT⟩:∃T,T=wF [] ds:=⟨_,rfl⟩;rw[←hT];simp only[zK,go_sem,List.length_map,z',g'];refine XA (fun k:Nat=>⟨[(0,IB ds),(14,IB ds),(15,AI ds.length),(16,AI k)],h,[]⟩) (fun k=>k≤ds.length∧wF (ds.take k) (ds.drop k)=T) (fun k=>ds.length-k) 0 rfl ⟨by omega,hT.symm⟩ ?_
 rintro k ⟨hk,hp⟩
 rcases Nat.lt_or_ge k ds.length with hlt|hge
 ·have hg:=BB BA hlt
  have w2:IntKind.i64.wrap ((k:Int)+1)=((k+1:Nat):Int):=zA _ (by omega) (by omega)
  have cx:aB (some 5) 0 (BA ds[k])=some (BA ds[k]):=rfl
  have fp:∀y:TDev,BA y = .agg [.str y.name,eI y.long,eI y.id,.sl (some 2) (y.regs.map uA),.sl (some 2) (y.ins.map VA)]:=fun _=>rfl
  have tk:=List.take_succ_eq_append_getElem hlt
  have hw:win (ds.map BA) 0 k=(ds.take k).map BA:=by simp [win,List.map_take]
  have lt:(ds.take k).length≤1000:=by rw[List.length_take];omega
  have B:=hB _ (List.getElem_mem hlt)
  rw[List.drop_eq_getElem_cons hlt]at hp;unfold wF at hp;rw[←tk]at hp;generalize hrr:ds[k]=d at *;generalize ds.take k=pre at *;have ky:=fun h K=>zbx (h:=h) (K:=K) d.name (by have:=B.n;omega)
  have tl:sE xP [.ref h.length 0] (WC d.name) (pre.map BA) (h++[.box [AS d.name,AI d.long,AI d.id,.p (.sl (some 2) (d.regs.map uA)),.p (.sl (some 2) (d.ins.map VA))]]):=fun x hx K=>by
   obtain⟨y,_,rfl⟩:=List.mem_map.1 hx;refine rA ?_;rw[ze8 rfl];simp only[qS,go_sem,Nat.add_assoc,BA,WC]
  have ct:=fun K=>z6A (h:=h++[.box [AS d.name,AI d.long,AI d.id,.p (.sl (some 2) (d.regs.map uA)),.p (.sl (some 2) (d.ins.map VA))]]) (K:=K) tl z8r (by simp;omega)
  rw[z7r]at ct;have pf:=fun h K=>zoT (h:=h) (K:=K) d B
  have fa:ZA d = .p (.agg [.str d.name,eI d.long,eI d.id,.sl (some 2) (d.regs.map uA),.sl (some 2) (d.ins.map VA)]):=rfl
  rw[fa]at pf;rw[fp]at hg cx;have dv:=zgB pre d
  generalize hV:OF pre d=V at *;cases kb:OC d.name with
  | false=>
   rw[if_pos kb]at dv;rw[dv,if_pos (by decide)]at hp
   rw[←hp];simp only[RF,UE,go_sem,hlt,hk,hg,cx,fp,hw,splice,↓ky,ky,kb]
  | true=>
   have kf:¬OC d.name=false:=by simp [kb]
   rw[if_neg kf]at dv;cases ha:(pre.any fun x=>decide (x.name=d.name)) with
   | true=>
    rw[if_pos ha]at dv;rw[dv,if_pos (by decide)]at hp
    rw[←hp];rw[ha]at ct;simp only[RF,UE,go_sem,hlt,hk,hg,cx,fp,hw,splice,↓ky,ky,kb,↓ct,ct]
   | false=>
    have hf:¬(pre.any fun x=>decide (x.name=d.name))=true:=by rw[ha];simp
    rw[if_neg hf]at dv;rw[ha]at ct;by_cases o1:d.long<2∨32<d.long
    ·rw[if_pos (.inl o1)]at dv
     rw[dv,if_pos (by decide)]at hp
     rw[←hp];have o2:(decide ((2:Int)≤d.long)&&decide (d.long≤32))=false:=by rw[Bool.eq_false_iff];intro c;simp at c;omega
     simp only[RF,UE,go_sem,hlt,hk,hg,cx,fp,hw,splice,↓ky,ky,kb,↓ct,ct,kF,o2]
    have o2:(decide ((2:Int)≤d.long)&&decide (d.long≤32))=true:=by simp;omega
    by_cases p1:d.id<0∨4294967295<d.id
    ·rw[if_pos (.inr p1)]at dv
     rw[dv,if_pos (by decide)]at hp
     rw[←hp];have p2:(decide ((0:Int)≤d.id)&&decide (d.id≤4294967295))=false:=by rw[Bool.eq_false_iff];intro c;simp at c;omega
     simp only[RF,UE,go_sem,hlt,hk,hg,cx,fp,hw,splice,↓ky,ky,kb,↓ct,ct,kF,o2,p2]
    have p2:(decide ((0:Int)≤d.id)&&decide (d.id≤4294967295))=true:=by simp;omega
    have nof:¬((d.long<2∨32<d.long)∨(d.id<0∨4294967295<d.id)):=by omega
    rw[if_neg nof]at dv;have t2:¬(2:Int)=0:=by decide
    by_cases q1:d.id≠0∧d.id.tmod 2=0
    ·rw[if_pos q1]at dv
     rw[dv,if_pos (by decide)]at hp
     rw[←hp];obtain⟨q2,q3⟩:=q1;simp only[RF,UE,go_sem,hlt,hk,hg,cx,fp,hw,splice,↓ky,ky,kb,↓ct,ct,kF,o2,p2,q2,t2,eq_true q3]
    rw[if_neg q1]at dv;rw[dv]at hp;have fin:∀(z2:d.id=0∨¬d.id=0),True:=fun _=>trivial
    by_cases z2:d.id=0
    ·by_cases e:XQ d=0
     ·rw[e,if_neg (by decide)]at hp
      rw[e]at pf;simp only[RF,UE,go_sem,hlt,hk,hg,cx,fp,hw,splice,↓ky,ky,kb,↓ct,ct,kF,o2,p2,eq_true z2,↓pf,pf,w2];exact⟨k+1,rfl,⟨by omega,hp⟩,by omega⟩
     ·rw[if_pos e]at hp
      rw[hp]at pf e;simp only[RF,UE,go_sem,hlt,hk,hg,cx,fp,hw,splice,↓ky,ky,kb,↓ct,ct,kF,o2,p2,eq_true z2,↓pf,pf,e]
    ·have q3:¬d.id.tmod 2=0:=fun e=>q1 ⟨z2,e⟩
     by_cases e:XQ d=0
     ·rw[e,if_neg (by decide)]at hp
      rw[e]at pf;simp only[RF,UE,go_sem,hlt,hk,hg,cx,fp,hw,splice,↓ky,ky,kb,↓ct,ct,kF,o2,p2,z2,t2,q3,↓pf,pf,w2];exact⟨k+1,rfl,⟨by omega,hp⟩,by omega⟩
     ·rw[if_pos e]at hp
      rw[hp]at pf e;simp only[RF,UE,go_sem,hlt,hk,hg,cx,fp,hw,splice,↓ky,ky,kb,↓ct,ct,kF,o2,p2,z2,t2,q3,↓pf,pf,e]
 ·have ek:k=ds.length:=by omega
  subst ek;rw[List.drop_length]at hp;rw[←hp];simp only[RF,UE,go_sem,Nat.lt_irrefl,z86,pS,wF]
end Go.Am
end
section
namespace Go.Am
theorem z8f:∀ (m:List UInt8) (n:Nat),m.length≤n→(List.range n).countP (fun i=>m[i]?==some 49)=m.count 49
 | [],n,_=>by simp [List.countP_eq_zero]
 | x::r,0,h=>by simp at h
 | x::r,n+1,h=>by
  rw[List.range_succ_eq_map,List.countP_cons,List.countP_map,List.count_cons];have ih:=z8f r n (by simpa using h)
  have e:((fun i=>(x::r)[i]?==some 49) ∘ Nat.succ)=fun i=>r[i]?==some 49:=by funext i;simp
  rw[e,ih];simp
theorem zk3 {c:Cmd}(hb:c.m.length≤c.b.length)(hw:c.m≠[]→c.w.length=c.b.length)(hwb:EA c.w=true):(WA c).count 120+c.m.count 49=c.b.length:=by
 rw[←z8f c.m c.b.length hb,WA,List.count_eq_countP,List.countP_map];have e:(List.range c.b.length).countP ((fun x=>x==(120:UInt8)) ∘ jC c)=(List.range c.b.length).countP (fun i=>¬(c.m[i]?==some 49)=true):=by
  apply List.countP_congr
  intro i hi;have hi':i<c.b.length:=List.mem_range.1 hi
  simp only[Function.comp,jC,beq_iff_eq,decide_eq_true_eq];by_cases h:c.m[i]?=some 49
  ·rw[if_pos h]
   have hm:c.m≠[]:=by intro e;rw[e]at h;simp at h
   have hlt:i<c.w.length:=by rw[hw hm];exact hi'
   rw[List.getElem?_eq_getElem hlt];have:=z0u hwb (List.getElem_mem hlt);simp only[Option.getD_some,h,not_true,iff_false];rcases this with e|e <;> rw[e] <;> decide
  ·rw[if_neg h];simp [h]
 have key:=List.length_eq_countP_add_countP (l:=List.range c.b.length) (fun i=>c.m[i]?==some 49)
 rw[List.length_range]at key;rw[e];omega
theorem z5q {l:List Cmd}(hc:∀ c∈l,OA c=0){k:Nat}(hk:k<l.length) :
 (qA jA (l.take k) l[k] (qC [] 0 (l.take k))).tdi.length=(qA jA (l.take k) l[k] (qC [] 0 (l.take k))).tms.length∧(qA jA (l.take k) l[k] (qC [] 0 (l.take k))).want.length=(qA jA (l.take k) l[k] (qC [] 0 (l.take k))).tms.length ∧
 (qA jA (l.take k) l[k] (qC [] 0 (l.take k))).want.length=(qA jA (l.take k) l[k] (qC [] 0 (l.take k))).want.count 120+l[k].m.count 49:=by
 have h0:=hc _ (List.getElem_mem hk)
 have hz:∀n,(zs n).length=n:=fun n=>by simp [zs]
 have hx:∀n,(xsL n).length=n:=fun n=>by simp [xsL]
 have hxc:∀n,(xsL n).count 120=n:=fun n=>by simp [xsL]
 generalize qC [] 0 (l.take k)=state;generalize l.take k=pre;generalize l[k]=c at h0 ⊢;cases tE h0 with
 | set h hs e=>rw[gF jA (by omega),e];exact⟨rfl,rfl,rfl⟩
 | pad h0 h1 hb hl e=>rw[gF jA h1,e];exact⟨rfl,rfl,rfl⟩
 | go h hs e=>
  have em:c.m=[]:=by rw[e]
  rw[mI jA h,em];simp [hz,hx,hxc]
 | idle h h0 h1 e=>
  have em:c.m=[]:=by rw[e]
  rw[nI jA h,em];simp [hz,hx,hxc]
 | scan h hs e=>
  obtain⟨q1,q2,q3,q4,q5,q6⟩:=lF hs;have hpos:=List.length_pos_iff.2 q1
  have hml:c.m.length≤c.b.length:=by rcases q6 with⟨_,e⟩|⟨_,e⟩ <;> simp [e]
  have hec:=zk3 hml (fun hm=>by rcases q6 with⟨_,e⟩|⟨e,_⟩;exact absurd e hm;exact e) q4
  have hel:(WA c).length=c.b.length:=by simp [WA]
  have key:∀(sh ex:Nat) (hd tl:List UInt8) (en:Nat),qA jA pre c state=aC (vB jA c state sh ex hd tl en) →
   (qA jA pre c state).tdi.length=(qA jA pre c state).tms.length∧(qA jA pre c state).want.length=(qA jA pre c state).tms.length∧(qA jA pre c state).want.length=(qA jA pre c state).want.count 120+c.m.count 49:=by
   intro sh ex hd tl en ep;rw[ep,NJ jA c state sh ex hd tl en q1];simp only[List.length_append,List.count_append,hz,hx,hxc,hel,List.length_singleton];omega
  rcases h with h|h
  ·exact key 11 12 _ _ _ (by unfold qA;rw[if_neg (by omega),if_neg (by omega),if_pos h])
  ·exact key 4 5 _ _ _ (by unfold qA;rw[if_neg (by omega),if_neg (by omega),if_neg (by omega),if_pos h])
def maskN (l:List Cmd):Nat:=(l.map fun c=>c.m.count 49).sum
theorem zce:∀ ps:List Part,(∀ p∈ps,p.tdi.length=p.tms.length∧p.want.length=p.tms.length)→(DC ps).length=(AA ps).length∧(SC ps).length=(AA ps).length
 | [],_=>⟨rfl,rfl⟩
 | p::ps,h=>by
  obtain⟨a,b⟩:=zce ps (fun q hq=>h q (List.mem_cons_of_mem _ hq))
  obtain⟨c,d⟩:=h p (List.mem_cons_self ..);simp only[DC,AA,SC,List.flatMap_cons,List.length_append]at a b ⊢;omega
theorem zcc:∀ (ps:List Part),(SC ps).length=(SC ps).count 120+(ps.map fun p=>p.want.length-p.want.count 120).sum
 | []=>rfl
 | p::ps=>by
  have a:=zcc ps
  have b:p.want.count 120≤p.want.length:=List.count_le_length
  simp only[SC,List.flatMap_cons,List.length_append,List.count_append,List.map_cons,List.sum_cons]at a ⊢;omega
theorem zn5 {l:List Cmd}(hc:∀ c∈l,OA c=0){p:Part}(hp:p∈sA jA [] 0 l):∃k,∃hk:k<l.length,p=qA jA (l.take k) l[k] (qC [] 0 (l.take k)):=by
 obtain⟨k,hk⟩:=List.mem_iff_getElem?.1 hp;have hlt:k<l.length:=by
  have:=(List.getElem?_eq_some_iff.1 hk).1;rwa [OJ]at this
 rw[MW hlt]at hk;exact⟨k,hlt,(Option.some.inj hk).symm⟩
theorem z6e {l:List Cmd}(hc:∀ c∈l,OA c=0) :
 (DC (sA jA [] 0 l)).length=(AA (sA jA [] 0 l)).length∧(SC (sA jA [] 0 l)).length=(AA (sA jA [] 0 l)).length ∧
 (AA (sA jA [] 0 l)).length=(SC (sA jA [] 0 l)).count 120+maskN l:=by
 obtain⟨a,b⟩:=zce (sA jA [] 0 l) (fun p hp=>by
  obtain⟨k,hk,rfl⟩:=zn5 hc hp;exact⟨(z5q hc hk).1,(z5q hc hk).2.1⟩)
 have c:=zcc (sA jA [] 0 l)
 have e:(sA jA [] 0 l).map (fun p=>p.want.length-p.want.count 120)=l.map fun c=>c.m.count 49:=by
  apply List.ext_getElem?
  intro k;rw[List.getElem?_map,List.getElem?_map];rcases Nat.lt_or_ge k l.length with hk|hk
  ·rw[MW hk,List.getElem?_eq_getElem hk]
   have:=(z5q hc hk).2.2;simp only[Option.map_some];congr 1
   omega
  ·rw[List.getElem?_eq_none (by rw[OJ];exact hk),List.getElem?_eq_none hk];rfl
 rw[e]at c;exact⟨a,b,by rw[←b];exact c⟩
end Go.Am
end
section
namespace Go.Am
variable {h:aA} {K:kA}
attribute [-go_sem] YA splice
theorem zn4 {l:List Cmd}(hc:∀ c∈l,OA c=0){k:Nat}(hk:k<l.length):EA (qA jA (l.take k) l[k] (qC [] 0 (l.take k))).tdi=true:=by
 obtain⟨S,T⟩:=WQ hc k (by omega)
 have h0:=hc _ (List.getElem_mem hk)
 have bz:∀n,EA (zs n)=true:=fun n=>by simp [EA,zs,ML]
 have ba:∀a b,EA a=true→EA b=true→EA (a++b)=true:=fun a b h1 h2=>by unfold EA at *;rw[List.all_append,h1,h2];rfl
 generalize qC [] 0 (l.take k)=state at T ⊢;generalize l.take k=pre at S ⊢;generalize l[k]=c at h0 ⊢;cases tE h0 with
 | set h hs e=>rw[gF jA (by omega)];rfl
 | pad h0 h1 hb hl e=>rw[gF jA h1];rfl
 | go h hs e=>
  rw[mI jA h];exact bz _
 | idle h h0 h1 e=>
  rw[nI jA h];exact ba _ _ (bz _) (bz _)
 | scan h hs e=>
  obtain⟨q1,q2,q3,q4,q5,q6⟩:=lF hs;rcases h with h|h
  ·have ep:qA jA pre c state=aC (vB jA c state 11 12 (nA pre 3).b (nA pre 4).b (nA pre 1).s.toNat):=by
    unfold qA;rw[if_neg (by omega),if_neg (by omega),if_pos h]
   rw[ep];show EA ((zs _++((nA pre 3).b++c.b++(nA pre 4).b))++zs _)=true
   exact ba _ _ (ba _ _ (bz _) (ba _ _ (ba _ _ (S.b1 3 (by omega) (by omega)).1 q2) (S.b1 4 (by omega) (by omega)).1)) (bz _)
  ·have ep:qA jA pre c state=aC (vB jA c state 4 5 (nA pre 5).b (nA pre 6).b (nA pre 2).s.toNat):=by
    unfold qA;rw[if_neg (by omega),if_neg (by omega),if_neg (by omega),if_pos h]
   rw[ep];show EA ((zs _++((nA pre 5).b++c.b++(nA pre 6).b))++zs _)=true
   exact ba _ _ (ba _ _ (bz _) (ba _ _ (ba _ _ (S.b1 5 (by omega) (by omega)).1 q2) (S.b1 6 (by omega) (by omega)).1)) (bz _)
theorem z79 {l:List Cmd}(hc:∀ c∈l,OA c=0):EA (DC (sA jA [] 0 l))=true:=by
 unfold EA DC;rw[List.all_flatMap];rw[List.all_eq_true];intro p hp;obtain⟨k,hk⟩:=List.mem_iff_getElem?.1 hp;have hlt:k<l.length:=by
  have:=(List.getElem?_eq_some_iff.1 hk).1;rwa [OJ]at this
 rw[MW hlt]at hk;cases hk;exact zn4 hc hlt
def nC (ds:List TDev)(l:List Cmd):List UInt8:=xD ds 0 (PD ds) ((AA (sA jA [] 0 l)).zip (DC (sA jA [] 0 l)))
def FB (ds:List TDev)(l:List Cmd):List (List UInt8):=fD jA [] 0 l 0 (nC ds l)
abbrev LE (us:List (List UInt8)):AV:=.p (.sl none (us.map PV.str))
structure ChOk (ds:List TDev):Prop where
 d:∀d∈ds,DevOk d
 n:(ds.map TDev.name).Nodup
 e:ds≠[]
 l:ds.length≤20
theorem chOk {ds:List TDev}(h:YE ds=0):ChOk ds:=by
 obtain⟨a,b,c,d⟩:=zgC h;exact⟨a,b,c,d⟩
theorem HN {ds:List TDev}{l:List Cmd}(hc:∀ c∈l,OA c=0):(nC ds l).length=(AA (sA jA [] 0 l)).length:=by
 unfold nC;rw[yX,List.length_zip,(z6e hc).1,Nat.min_self]
attribute [local go_sem] tI vN TJ UJ VJ wN z56 z57 z58 SJ mN qI nN oN pN qN rN sN tN zaV zaW zaX
set_option maxHeartbeats 4000000 in
theorem z5Q (ds:List TDev)(hB:∀ d∈ds,DevB d)(hz:YE ds=0)(l:List Cmd)(hp:TB jA l=0) :
 bA X rJ [IB ds,ACs l] h K=K (LE (FB ds l)) h []:=by
 refine rA ?_;rw[zfM rfl];obtain⟨hc,hn,hl⟩:=RJ hp;have O:=chOk hz
 have cd:=fun h K=>zbp (h:=h) (K:=K) ds hB (by have:=O.l;omega)
 rw[hz]at cd;have sg:=fun h K=>zpc (h:=h) (K:=K) l hc hl
 obtain⟨a1,a2,a3,a4,a5⟩:=z5w YQ (UI hc) true hn;obtain⟨b1,b2,b3⟩:=a5 rfl;have fr:=zaF jA l (rel0 true) (UI hc) (by simpa using hn)
 have fr:((yC true).play jA l).frs=WF jA [] 0 l 0:=fr
 obtain⟨f1,f2,_⟩:=z6e hc;have TR:=fun h K=>zoB (h:=h) (K:=K) ds O.d O.e O.l cd (AA (sA jA [] 0 l)) (DC (sA jA [] 0 l)) f1.symm hn (z78 hc) (z79 hc)
 have tl:=HN (ds:=ds) hc
 have hR:xD ds 0 (PD ds) ((AA (sA jA [] 0 l)).zip (DC (sA jA [] 0 l)))=nC ds l:=rfl
 rw[hR]at TR;have ql:=fun k hk hs=>z2U jA (R:=nC ds l) l (pre:=[]) (state:=0) (at_:=0) (by omega) k hk hs
 have qn:=fun k hk hs=>z54 jA (R:=nC ds l) l (pre:=[]) (state:=0) (at_:=0) k hk hs
 have rl:(FB ds l).length=l.length:=sI jA l [] 0 0 (nC ds l)
 have hRV:fD jA [] 0 l 0 (nC ds l)=FB ds l:=rfl
 rw[hRV]at ql qn;have fl:(WF jA [] 0 l 0).length=l.length:=z9m jA l [] 0 0
 generalize FB ds l=RV at *;generalize nC ds l=R at *;generalize WF jA [] 0 l 0=FR at *;generalize (yC true).play jA l=r at *;have cT:mF (yA r.tms)=some r.tms:=IN _
 have cI:mF (yA r.tdi)=some r.tdi:=IN _
 have wT:win (yA r.tms) 0 r.tms.length=yA r.tms:=qE (iG _)
 have wI:win (yA r.tdi) 0 r.tdi.length=yA r.tdi:=qE (iG _)
 rw[←b1,←b2]at TR;have lT:=iG r.tms
 have lI:=iG r.tdi
 have hHl:(hbx h).length=h.length+1:=by simp [hbx]
 have hT0:∀t:aA,(rh (hbx h) r t).take h.length=h:=fun t=>by
  unfold rh hbx;rw[List.append_assoc,oK]
 generalize hHH:hbx h=H at *;simp only[GT,go_sem,↓sg,sg,lT,lI,wT,wI,cT,cI,↓TR,TR];rw[hHH];refine XA (fun k:Nat=>⟨[(5,.ref (H.length+5) 0),(6,AS R),(8,.own (H.length+6) k 0 k),(29,ACs l),(30,AI l.length),(31,AI k)],rh H r [.row none ((RV.take k).map .str) 0],[]⟩) (fun k=>k≤l.length) (fun k=>l.length-k) 0 rfl (by omega) ?_
 intro k hk;rw[GF];have lml:((RV.take k).map PV.str).length=k:=by rw[List.length_map,List.length_take];omega
 have ms:k+1≤GA:=by unfold GA;omega
 rcases Nat.lt_or_ge k l.length with hlt|hge
 ·have hlt':(k:Int)<(l.length:Int):=by omega
  have hg:=BB QA hlt
  have w2:IntKind.i64.wrap ((k:Int)+1)=((k+1:Nat):Int):=zA _ (by omega) (by omega)
  have ql:=ql k hlt
  have qn:=qn k hlt
  have eT:∀s,RV[k]?=some s→(RV.take (k+1)).map PV.str=(RV.take k).map PV.str++[.str s]:=fun s hs=>by
   rw[List.take_add_one,hs,List.map_append];rfl
  generalize l[k]=c at *;cases hs:EB c with
  | true=>
   obtain⟨f,x1,x2,x3⟩:=ql hs;have is:(decide (c.k=7)||decide (c.k=8))=true:=by rcases LD.1 hs with e|e <;> simp [e]
   have gf:(r.frs.map eN)[k]?=some (eN f):=by rw[List.getElem?_map,fr,x1];rfl
   have ff:eN f = .int .i64 (f:Int):=rfl
   rw[ff]at gf;have flr:r.frs.length=l.length:=by rw[fr,fl]
   have lfm:(r.frs.map eN).length=l.length:=by rw[List.length_map,flr]
   have hlk:k<r.frs.length:=by omega
   have w3:IntKind.i64.wrap ((f:Int)+(c.b.length:Int))=((f+c.b.length:Nat):Int):=by rw[zA _ (by omega) (by omega)];omega
   have y1:f≤f+c.b.length:=by omega
   have y2:f+c.b.length-f=c.b.length:=by omega
   have e1:=eT _ x3
   obtain⟨k0,s0,cl0,b0,w0,m0⟩:=c;dsimp only at is w3 x2 y1 y2 hs e1;simp only[cU,XK,z2G,YO,z2H,ZO,go_sem,splice,hlt',hg,CF,is,flr,lfm,hlk,gf,hlt,w3,x2,y1,y2,lml,ms,w2];exact⟨k+1,by rw[e1],by omega,by omega⟩
  | false=>
   have is:(decide (c.k=7)||decide (c.k=8))=false:=by
    cases q:(decide (c.k=7)||decide (c.k=8)) with
    | false=>rfl
    | true=>
     have:c.k=7∨c.k=8:=by simpa using q
     rw[LD.2 this]at hs;cases hs
   have e1:=eT _ (qn hs)
   obtain⟨k0,s0,cl0,b0,w0,m0⟩:=c;dsimp only at is hs e1;simp only[cU,XK,z2G,YO,z2H,ZO,go_sem,splice,hlt',hg,CF,is,lml,ms,w2];exact⟨k+1,by rw[e1],by omega,by omega⟩
 ·have ek:k=l.length:=by omega
  subst ek;have e1:RV.take l.length=RV:=List.take_of_length_le (by omega)
  rw[e1]at lml ⊢;have wf:win (RV.map PV.str) 0 l.length=RV.map PV.str:=qE lml
  have hH6:h.length≤H.length+6:=by omega
  simp only[cU,XK,z8H,HT,go_sem,Nat.lt_irrefl,lml,wf,hT0,hH6]
end Go.Am
end
section
namespace Go.Am
variable {h:aA} {K:kA}
attribute [-go_sem] YA splice
def qD (ds:List TDev)(l:List Cmd):Int:=orL [YE ds,(TB jA l:Nat)]
theorem z5R (ds:List TDev)(hB:∀ d∈ds,DevB d)(h3:ds.length≤1000)(l:List Cmd)(hok:∀ c∈l,CmdOk c)(hl:l.length≤1000000):bA X sJ [IB ds,ACs l] h K=K (AI (qD ds l)) h []:=by
 refine rA ?_;rw[zfN rfl];have q1:=fun h K=>zbp (h:=h) (K:=K) ds hB h3
 have q2:=fun h K=>zbo (h:=h) (K:=K) l hok hl
 have q3:=fun h K=>zbt (h:=h) (K:=K) [YE ds,(TB jA l:Nat)] (by simp)
 simp only[AL,List.map_cons,List.map_nil]at q3;unfold qD;simp only[IT,go_sem,↓q1,q1,↓q2,q2,↓q3,q3]
theorem xX {ds:List TDev}{l:List Cmd}(h:qD ds l=0):YE ds=0∧TB jA l=0:=by
 unfold qD at h;rw[orL2]at h;split at h
 ·rename_i q;exact absurd h q
 ·rename_i q;exact⟨by omega,by omega⟩
theorem zoC (ds:List TDev)(hB:∀ d∈ds,DevB d)(h3:ds.length≤1000)(l:List Cmd)(hok:∀ c∈l,CmdOk c)(hl:l.length≤1000000) :
 bA X FL [IB ds,ACs l] h K=K (.tup [LE (if qD ds l=0 then FB ds l else []),AI (qD ds l)]) h []:=by
 refine rA ?_;rw[zfI rfl];have q1:=fun h K=>z5R (h:=h) (K:=K) ds hB h3 l hok hl
 by_cases e:qD ds l=0
 ·obtain⟨e1,e2⟩:=xX e
  have q2:=fun h K=>z5Q (h:=h) (K:=K) ds hB e1 l e2
  rw[if_pos e];rw[e]at q1 ⊢;simp only[WO,go_sem,↓q1,q1,↓q2,q2]
 ·rw[if_neg e]
  simp only[WO,go_sem,↓q1,q1,e,List.map_nil];rfl
def BE (c:Cmd)(s:List UInt8):Nat:=(List.range c.m.length).countP fun k=>decide (c.m[k]?=some 49)&&decide (s[k]?≠c.w[k]?)
def oB (l:List Cmd)(rs:List (List UInt8))(k:Nat):List (Nat×Nat):=(List.range k).filterMap fun i=>if 0<BE (l.getD i ZG) (rs.getD i []) then some (i,BE (l.getD i ZG) (rs.getD i [])) else none
theorem z2O (l:List Cmd)(rs:List (List UInt8))(k:Nat):oB l rs (k+1)=oB l rs k++if 0<BE (l.getD k ZG) (rs.getD k []) then [(k,BE (l.getD k ZG) (rs.getD k []))] else []:=by
 unfold oB;rw[List.range_succ,List.filterMap_append];congr 1
 split <;> rename_i h
 ·simp only[List.filterMap_cons,List.filterMap_nil,if_pos h]
 ·simp only[List.filterMap_cons,List.filterMap_nil,if_neg h]
theorem lU (l:List Cmd)(rs:List (List UInt8)):∀k,(oB l rs k).length≤k
 | 0=>by simp [oB]
 | k+1=>by
  rw[z2O,List.length_append];have:=lU l rs k;split <;> simp <;> omega
theorem rX {R:List UInt8}(l:List Cmd)(hR:(AA (sA jA [] 0 l)).length≤R.length)(k:Nat)(hk:k<l.length):∃s,(fD jA [] 0 l 0 R)[k]?=some s∧s.length=if EB l[k]=true then l[k].b.length else 0:=by
 cases hs:EB l[k]with
 | true=>
  obtain⟨f,x1,x2,x3⟩:=z2U jA (R:=R) l (pre:=[]) (state:=0) (at_:=0) (by omega) k hk hs
  exact⟨_,x3,by rw[if_pos rfl];simp [win];omega⟩
 | false=>exact⟨[],z54 jA (R:=R) l (pre:=[]) (state:=0) (at_:=0) k hk hs,by simp⟩
theorem FQ {c:Cmd}(hc:OA c=0):(EB c=true∧c.b.length≤2000∧EA c.w=true∧(c.m=[]∨(c.m.length=c.b.length∧c.w.length=c.b.length)))∨(EB c=false∧c.m=[]):=by
 cases tE hc with
 | set h hs e=>exact .inr ⟨by cases q:EB c with|true=>have:=LD.1 q;omega|false=>rfl,by rw[e]⟩
 | pad h0 h1 hb hl e=>exact .inr ⟨by cases q:EB c with|true=>have:=LD.1 q;omega|false=>rfl,by rw[e]⟩
 | go h hs e=>exact .inr ⟨by cases q:EB c with|true=>have:=LD.1 q;omega|false=>rfl,by rw[e]⟩
 | idle h h0 h1 e=>exact .inr ⟨by cases q:EB c with|true=>have:=LD.1 q;omega|false=>rfl,by rw[e]⟩
 | scan h hs e=>
  obtain⟨q1,q2,q3,q4,q5,q6⟩:=lF hs;refine .inl ⟨LD.2 h,q3,q4,?_⟩;rcases q6 with⟨_,q⟩|⟨q,r⟩
  ·exact .inl q
  ·exact .inr ⟨r,q⟩
end Go.Am
end
section
namespace Go.Am
variable {h:aA} {K:kA}
attribute [-go_sem] YA splice
theorem zoK (c:Cmd):bA X VF [ACm c] h K=K (AB (decide (7≤c.k)&&decide (c.k≤8))) h []:=by
 refine rA ?_;rw[zeX rfl];simp only[NS,go_sem,s_in,splice]
theorem z5P (c:Cmd):bA X VF [.p (QA c)] h K=K (AB (EB c)) h []:=by
 have:=zoK (h:=h) (K:=K) c;have e:(decide (7≤c.k)&&decide (c.k≤8))=EB c:=by
  cases hs:EB c with
  | true=>rcases LD.1 hs with e|e <;> simp [e]
  | false=>
   have:¬(c.k=7∨c.k=8):=fun q=>by rw[LD.2 q]at hs;cases hs
   have:¬(7≤c.k∧c.k≤8):=by omega
   simpa using fun q=>by omega
 rw[e]at this;exact this
theorem zbq (l:List Cmd)(hl:l.length≤1000000):bA X qL [.p (.sl (some 6) (l.map QA))] h K=K (.own h.length l.length 0 l.length) (h++[.row (some 6) (l.map QA) 0]) []:=by
 refine rA ?_;rw[zfc rfl];simp only[RS];cases l with
 | nil=>
  refine⟨_,_,_,⟨rfl,rfl,rfl⟩,?_⟩;simp only[List.map_nil,List.length_nil,go_sem];have:max h.length (h.length+1)=h.length+1:=by omega
  rw[this,List.take_of_length_le (by simp)]
  try trivial
 | cons x r=>
  refine⟨_,_,_,⟨rfl,rfl,rfl⟩,?_⟩;have hm:r.length+1≤GA:=by simp only[List.length_cons]at hl;unfold GA;omega
  simp only[List.map_cons,List.length_cons,go_sem,hm];have:max h.length (h.length+1)=h.length+1:=by omega
  rw[this,List.take_of_length_le (by simp)]
theorem zaU (R:List UInt8):∀(l pre:List Cmd) (state at_ k:Nat) (hk:k<l.length) (p:Part),(sA jA pre state l)[k]?=some p →
 (fD jA pre state l at_ R)[k]?=some (if EB l[k]=true then win R (at_+(AA ((sA jA pre state l).take k)).length+p.fr) l[k].b.length else [])∧(EB l[k]=true→p.fr+l[k].b.length≤p.tms.length)
 | [],_,_,_,k,hk,_,_=>by simp at hk
 | c::l,pre,state,at_,0,hk,p,hp=>by
  have ep:qA jA pre c state=p:=by simpa [sA] using hp
  subst ep;refine⟨by simp [fD,AA],fun hs=>?_⟩
  have hs:EB c=true:=hs
  rcases LD.1 hs with e|e
  ·exact(z5o jA e).2
  ·exact(z5p jA e).2
 | c::l,pre,state,at_,k+1,hk,p,hp=>by
  have hk':k<l.length:=by simpa using hk
  obtain⟨a,b⟩:=zaU R l (pre++[c]) (qA jA pre c state).st (at_+(qA jA pre c state).tms.length) k hk' p (by simpa [sA] using hp)
  refine⟨?_,b⟩;show(fD jA (pre++[c]) (qA jA pre c state).st l (at_+(qA jA pre c state).tms.length) R)[k]?=_
  rw[a];show _=some (if EB l[k]=true then win R (at_+(AA (qA jA pre c state::(sA jA (pre++[c]) (qA jA pre c state).st l).take k)).length+p.fr) l[k].b.length else [])
  have:(AA (qA jA pre c state::(sA jA (pre++[c]) (qA jA pre c state).st l).take k)).length=(qA jA pre c state).tms.length+(AA ((sA jA (pre++[c]) (qA jA pre c state).st l).take k)).length:=by simp [AA]
  rw[this,Nat.add_assoc at_]
theorem zpB (ps:List Part){k:Nat}(hk:k<ps.length):(AA (ps.take (k+1))).length=(AA (ps.take k)).length+ps[k].tms.length:=by
 rw[List.take_succ_eq_append_getElem hk];unfold AA;rw[List.flatMap_append,List.length_append];simp
theorem zpA (ps:List Part)(k:Nat):(AA (ps.take k)).length≤(AA ps).length:=by
 have:AA ps=AA (ps.take k)++AA (ps.drop k):=by unfold AA;rw[←List.flatMap_append,List.take_append_drop]
 rw[this,List.length_append];omega
set_option maxHeartbeats 4000000 in
theorem z5L (ds:List TDev)(O:ChOk ds)(l:List Cmd)(hp:TB jA l=0):bA X iJ [IB ds,ACs l] h K=K (LE (FB ds l)) h []:=by
 refine rA ?_;rw[zeS rfl];obtain⟨hc,hn,hl⟩:=RJ hp;obtain⟨f1,f2,_⟩:=z6e hc;have sg:=fun h K=>zb6 (h:=h) (K:=K) l hc (by omega) (by omega) (by omega) (by omega)
 have ro:=fun h K=>zo9 (h:=h) (K:=K) ds O.d O.n O.l (AA (sA jA [] 0 l)) (DC (sA jA [] 0 l)) f1.symm hn (z78 hc) (z79 hc)
 have hR:xD ds 0 (PD ds) ((AA (sA jA [] 0 l)).zip (DC (sA jA [] 0 l)))=nC ds l:=rfl
 rw[hR]at ro;have hp:=fun h K=>zbE (h:=h) (K:=K) l hc (by omega)
 have tl:=HN (ds:=ds) hc
 have hat:=fun k hk p hp=>zaU (nC ds l) l [] 0 0 k hk p hp
 have hRV:fD jA [] 0 l 0 (nC ds l)=FB ds l:=rfl
 have rl:(FB ds l).length=l.length:=sI jA l [] 0 0 (nC ds l)
 rw[hRV]at hat;have hpl:=OJ l [] 0
 simp only[Nat.zero_add]at hat;simp only[IS,go_sem,↓sg,sg,↓ro,ro,↓hp,hp];generalize sA jA [] 0 l=ps at *;generalize FB ds l=RV at *;generalize nC ds l=R at *;refine XA (fun k:Nat=>⟨[(1,ACs l),(8,AS R),(9,.own h.length k 0 k),(10,.p (.int .i64 ((AA (ps.take k)).length:Nat))),(25,APs ps),(26,.p (.int .i64 (ps.length:Nat))),(27,AI k)],h++[.row none ((RV.take k).map .str) 0],[]⟩) (fun k=>k≤l.length) (fun k=>l.length-k) 0 rfl (by omega) ?_
 intro k hk;rw[GF];have lml:((RV.take k).map PV.str).length=k:=by rw[List.length_map,List.length_take];omega
 have ms:k+1≤GA:=by unfold GA;omega
 rcases Nat.lt_or_ge k l.length with hlt|hge
 ·have hlt':(k:Int)<(ps.length:Int):=by omega
  have hlp:k<ps.length:=by omega
  have hg:=BB QA hlt
  have hgp:=BB vD hlp
  obtain⟨x1,x2⟩:=hat k hlt _ (List.getElem?_eq_getElem hlp);have s1:=zpB ps hlp
  have s2:=zpA ps (k+1)
  have w2:IntKind.i64.wrap ((k:Int)+1)=((k+1:Nat):Int):=zA _ (by omega) (by omega)
  have eT:∀s,RV[k]?=some s→(RV.take (k+1)).map PV.str=(RV.take k).map PV.str++[.str s]:=fun s hs=>by
   rw[List.take_add_one,hs,List.map_append];rfl
  generalize hat1:(AA (ps.take (k+1))).length=a1 at *;generalize (AA (ps.take k)).length=a at *;generalize ps[k]=p at *;have fp:vD p = .agg [.str p.tms,.str p.tdi,.str p.want,.int .i64 (p.fr:Int),.int .i64 (p.st:Int)]:=rfl
  rw[fp]at hgp;have w7:IntKind.i64.wrap ((a:Int)+(p.tms.length:Int))=((a1:Nat):Int):=by rw[zA _ (by omega) (by omega)];omega
  generalize l[k]=c at *;have s_is:∀h K,bA X VF [.p (QA c)] h K=K (AB (EB c)) h []:=fun h K=>z5P (h:=h) (K:=K) c
  have hx1:=x1;have hx2:=x2
  cases hs:EB c with
  | true=>
   rw[if_pos hs]at x1;have x2:=x2 hs
   rw[hs]at s_is;have w5:IntKind.i64.wrap ((a:Int)+(p.fr:Int))=((a+p.fr:Nat):Int):=by rw[zA _ (by omega) (by omega)];omega
   have w6:IntKind.i64.wrap (((a+p.fr:Nat):Int)+(c.b.length:Int))=((a+p.fr+c.b.length:Nat):Int):=by rw[zA _ (by omega) (by omega)];omega
   have y0:a+p.fr+c.b.length≤R.length:=by omega
   have y1:a+p.fr≤a+p.fr+c.b.length:=by omega
   have y2:a+p.fr+c.b.length-(a+p.fr)=c.b.length:=by omega
   have e1:=eT _ x1
   obtain⟨k0,c0,cl0,b0,w0,m0⟩:=c;dsimp only at s_is w6 x2 y0 y1 y2 hs e1;simp only[z25,CO,z26,DO,go_sem,splice,hlt',hg,hgp,s_is,hlt,w5,w6,w7,y0,y1,y2,lml,ms,w2];exact⟨k+1,by rw[e1,hat1],by omega,by omega⟩
  | false=>
   rw[if_neg (by rw[hs];simp)]at x1
   rw[hs]at s_is;have e1:=eT _ x1
   obtain⟨k0,c0,cl0,b0,w0,m0⟩:=c;try dsimp only at s_is hs
   simp only[z25,CO,z26,DO,go_sem,splice,hlt',hg,hgp,s_is,hlt,w7,lml,ms,w2];exact⟨k+1,by rw[e1,hat1],by omega,by omega⟩
 ·have ek:k=l.length:=by omega
  have hlt':¬(k:Int)<(ps.length:Int):=by omega
  have e1:RV.take k=RV:=List.take_of_length_le (by omega)
  rw[e1]at lml ⊢;have wf:win (RV.map PV.str) 0 k=RV.map PV.str:=qE lml
  simp only[z89,JS,go_sem,hlt',lml,wf]
end Go.Am
end
section
namespace Go.Am
variable {h:aA} {K:kA}
attribute [-go_sem] YA splice
def WL (n:Nat):List UInt8:=List.replicate n 49
def aI (c:Cmd)(s:List UInt8):Cmd:=if EB c=true then { c with w:=s,m:=WL s.length } else c
def bC (l:List Cmd)(RV:List (List UInt8))(k:Nat):List Cmd:=(List.range l.length).map fun i=>if i<k then aI (l.getD i ZG) (RV.getD i []) else l.getD i ZG
def bI (l:List Cmd)(RV:List (List UInt8)):List Cmd:=bC l RV l.length
theorem DQ (l:List Cmd)(RV:List (List UInt8))(k:Nat):(bC l RV k).length=l.length:=by simp [bC]
theorem zae (l:List Cmd)(RV:List (List UInt8)):bC l RV 0=l:=by
 apply List.ext_getElem
 ·simp [bC]
 ·intro i h1 h2
  simp [bC,List.getD_eq_getElem?_getD,List.getElem?_eq_getElem h2]
theorem z3i (l:List Cmd)(RV:List (List UInt8)){k:Nat}(hk:k<l.length):(bC l RV k)[k]?=some l[k]:=by
 rw[List.getElem?_eq_getElem (by rw[DQ];exact hk)]
 simp [bC,List.getD_eq_getElem?_getD,List.getElem?_eq_getElem hk]
theorem z3j (l:List Cmd)(RV:List (List UInt8)){k:Nat}(hk:k<l.length){s:List UInt8}(hs:RV[k]?=some s):bC l RV (k+1)=(bC l RV k).set k (aI l[k] s):=by
 apply List.ext_getElem
 ·simp [bC]
 ·intro j h1 h2
  rw[List.getElem_set];by_cases hj:k=j
  ·subst hj
   simp [bC,List.getD_eq_getElem?_getD,List.getElem?_eq_getElem hk,hs]
  ·rw[if_neg hj]
   simp only[bC,List.getElem_map,List.getElem_range];by_cases h3:j<k
   ·rw[if_pos h3,if_pos (by omega)]
   ·rw[if_neg h3,if_neg (by omega)]
theorem zaf (l:List Cmd)(RV:List (List UInt8)){k:Nat}(hk:k<l.length){s:List UInt8}(hs:RV[k]?=some s)(hc:EB l[k]=false):bC l RV (k+1)=bC l RV k:=by
 rw[z3j l RV hk hs];have:aI l[k] s=l[k]:=by unfold aI;rw[if_neg (by rw[hc];simp)]
 rw[this];have g:=z3i l RV hk
 apply List.ext_getElem?
 intro j;rw[List.getElem?_set];split
 ·rename_i e;subst e
  rw[g,DQ,if_pos hk]
 ·rfl
theorem zb4 (n:Int)(h0:0≤n)(h1:n≤1000000):bA X PB [AS [49],AI n] h K=K (AS (WL n.toNat)) h []:=by
 rw[DX [49] n h0 (by simp;omega) h1,iR];rfl
set_option maxHeartbeats 4000000 in
theorem zo4 (ds:List TDev)(hB:∀ d∈ds,DevB d)(h3:ds.length≤1000)(l:List Cmd)(hok:∀ c∈l,CmdOk c)(hl:l.length≤1000000) :
 bA X EL [IB ds,ACs l] h K=K (.tup [ACs (if qD ds l=0 then bI l (FB ds l) else []),AI (qD ds l)]) h []:=by
 refine rA ?_;rw[zfH rfl];have q1:=fun h K=>z5R (h:=h) (K:=K) ds hB h3 l hok hl
 by_cases e:qD ds l=0
 ·obtain⟨e1,e2⟩:=xX e
  have q2:=fun h K=>z5Q (h:=h) (K:=K) ds hB e1 l e2
  have q3:=fun h K=>zbq (h:=h) (K:=K) l hl
  rw[if_pos e];rw[e]at q1 ⊢;obtain⟨hc,hn,hl⟩:=RJ e2;have tl:=HN (ds:=ds) hc
  have rl:(FB ds l).length=l.length:=sI jA l [] 0 0 (nC ds l)
  have rs:=fun k hk=>rX (R:=nC ds l) l (by omega) k hk
  have hRV:fD jA [] 0 l 0 (nC ds l)=FB ds l:=rfl
  rw[hRV]at rs;simp only[SO,go_sem,↓q1,q1,↓q2,q2,↓q3,q3];unfold bI;generalize FB ds l=RV at *;refine XA (fun k:Nat=>⟨[(7,.own h.length l.length 0 l.length),(20,LE RV),(21,.p (.int .i64 (RV.length:Nat))),(22,AI k)],h++[.row (some 6) ((bC l RV k).map QA) 0],[]⟩) (fun k=>k≤l.length) (fun k=>l.length-k) 0 (by rw[zae];rfl) (by omega) ?_
  intro k hk;have lml:((bC l RV k).map QA).length=l.length:=by rw[List.length_map,DQ]
  rcases Nat.lt_or_ge k l.length with hlt|hge
  ·have hlt':(k:Int)<(RV.length:Int):=by omega
   obtain⟨s,x1,x2⟩:=rs k hlt;have hgs:(RV.map PV.str)[k]?=some (.str s):=by rw[List.getElem?_map,x1];rfl
   have w2:IntKind.i64.wrap ((k:Int)+1)=((k+1:Nat):Int):=zA _ (by omega) (by omega)
   have hg:((bC l RV k).map QA)[k]?=some (QA l[k]):=by rw[List.getElem?_map,z3i l RV hlt];rfl
   have ls:=z3j l RV hlt x1
   have lsm:=fun hq=>zaf l RV hlt x1 hq
   have ml:=FQ (hc _ (List.getElem_mem hlt))
   generalize hLI:bC l RV (k+1)=L1 at *;generalize bC l RV k=LI at *;generalize l[k]=c at *;have fp:QA c = .agg [eI c.k,eI c.s,eI c.cl,.str c.b,.str c.w,.str c.m]:=rfl
   rw[fp]at hg;cases hs:EB c with
   | true=>
    have is:(decide (c.k=7)||decide (c.k=8))=true:=by rcases LD.1 hs with e|e <;> simp [e]
    have sl:s.length≤2000:=by
     rcases ml with⟨m1,m2,_⟩|⟨m1,_⟩
     ·rw[if_pos hs]at x2;omega
     ·rw[hs]at m1;cases m1
    have ro:=fun h K=>zb4 (h:=h) (K:=K) (s.length:Int) (by omega) (by omega)
    simp only[Int.toNat_natCast]at ro;have el:aI c s=⟨c.k,c.s,c.cl,c.b,s,WL s.length⟩:=by unfold aI;rw[if_pos hs]
    have e2:L1.map QA=(LI.map QA).set k (.agg [eI c.k,eI c.s,eI c.cl,.str c.b,.str s,.str (WL s.length)]):=by rw[ls,el,List.map_set]
    have gs:∀v,((LI.map QA).set k v)[k]?=some v:=fun v=>List.getElem?_set_self (by omega)
    have ss:∀v w,((LI.map QA).set k v).set k w=(LI.map QA).set k w:=fun v w=>List.set_set ..
    have lls:∀v,((LI.map QA).set k v).length=l.length:=fun v=>by rw[List.length_set,lml]
    simp only[z2E,TO,z2F,UO,go_sem,splice,hlt',hlt,hgs,hg,CF,is,lml,↓ro,ro,gs,ss,lls,w2];exact⟨k+1,by rw[hLI,e2],by omega,by omega⟩
   | false=>
    have is:(decide (c.k=7)||decide (c.k=8))=false:=by
     cases q:(decide (c.k=7)||decide (c.k=8)) with
     | false=>rfl
     | true=>
      have:c.k=7∨c.k=8:=by simpa using q
      rw[LD.2 this]at hs;cases hs
    have e2:=lsm hs
    simp only[z2E,TO,z2F,UO,go_sem,splice,hlt',hlt,hgs,hg,CF,is,lml,w2];exact⟨k+1,by rw[hLI,e2],by omega,by omega⟩
  ·have ek:k=l.length:=by omega
   have hlt':¬(k:Int)<(RV.length:Int):=by omega
   rw[ek]at lml ⊢;rw[ek]at hlt';have wf:win ((bC l RV l.length).map QA) 0 l.length=(bC l RV l.length).map QA:=qE lml
   simp only[z8G,FT,go_sem,hlt',lml,wf]
 ·rw[if_neg e]
  simp only[SO,go_sem,↓q1,q1,e,List.map_nil];rfl
set_option maxHeartbeats 4000000 in
theorem zo5 (ds:List TDev)(O:ChOk ds)(l:List Cmd)(hp:TB jA l=0):bA X LP [IB ds,ACs l] h K=K (ACs (bI l (FB ds l))) h []:=by
 refine rA ?_;rw[zeR rfl];have q2:=fun h K=>z5L (h:=h) (K:=K) ds O l hp
 obtain⟨hc,hn,hl⟩:=RJ hp;have q3:=fun h K=>zbq (h:=h) (K:=K) l (by omega)
 have tl:=HN (ds:=ds) hc
 have rl:(FB ds l).length=l.length:=sI jA l [] 0 0 (nC ds l)
 have rs:=fun k hk=>rX (R:=nC ds l) l (by omega) k hk
 have hRV:fD jA [] 0 l 0 (nC ds l)=FB ds l:=rfl
 rw[hRV]at rs;simp only[FS,go_sem,↓q2,q2,↓q3,q3];unfold bI;generalize FB ds l=RV at *;refine XA (fun k:Nat=>⟨[(1,ACs l),(5,.own h.length l.length 0 l.length),(12,LE RV),(13,.p (.int .i64 (RV.length:Nat))),(14,AI k)],h++[.row (some 6) ((bC l RV k).map QA) 0],[]⟩) (fun k=>k≤l.length) (fun k=>l.length-k) 0 (by rw[zae];rfl) (by omega) ?_
 intro k hk;have lml:((bC l RV k).map QA).length=l.length:=by rw[List.length_map,DQ]
 rcases Nat.lt_or_ge k l.length with hlt|hge
 ·have hlt':(k:Int)<(RV.length:Int):=by omega
  obtain⟨s,x1,x2⟩:=rs k hlt;have hgs:(RV.map PV.str)[k]?=some (.str s):=by rw[List.getElem?_map,x1];rfl
  have w2:IntKind.i64.wrap ((k:Int)+1)=((k+1:Nat):Int):=zA _ (by omega) (by omega)
  have hg:((bC l RV k).map QA)[k]?=some (QA l[k]):=by rw[List.getElem?_map,z3i l RV hlt];rfl
  have hg0:=BB QA hlt
  have ls:=z3j l RV hlt x1
  have lsm:=fun hq=>zaf l RV hlt x1 hq
  have ml:=FQ (hc _ (List.getElem_mem hlt))
  generalize hLI:bC l RV (k+1)=L1 at *;generalize bC l RV k=LI at *;generalize l[k]=c at *;have fp:QA c = .agg [eI c.k,eI c.s,eI c.cl,.str c.b,.str c.w,.str c.m]:=rfl
  have s_is:∀h K,bA X VF [.p (.agg [eI c.k,eI c.s,eI c.cl,.str c.b,.str c.w,.str c.m])] h K=K (AB (EB c)) h []:=fun h K=>z5P (h:=h) (K:=K) c
  rw[fp]at hg hg0;cases hs:EB c with
  | true=>
   rw[hs]at s_is;have sl:s.length≤2000:=by
    rcases ml with⟨m1,m2,_⟩|⟨m1,_⟩
    ·rw[if_pos hs]at x2;omega
    ·rw[hs]at m1;cases m1
   have ro:=fun h K=>zb4 (h:=h) (K:=K) (s.length:Int) (by omega) (by omega)
   simp only[Int.toNat_natCast]at ro;have el:aI c s=⟨c.k,c.s,c.cl,c.b,s,WL s.length⟩:=by unfold aI;rw[if_pos hs]
   have e2:L1.map QA=(LI.map QA).set k (.agg [eI c.k,eI c.s,eI c.cl,.str c.b,.str s,.str (WL s.length)]):=by rw[ls,el,List.map_set]
   have gs:∀v,((LI.map QA).set k v)[k]?=some v:=fun v=>List.getElem?_set_self (by omega)
   have ss:∀v w,((LI.map QA).set k v).set k w=(LI.map QA).set k w:=fun v w=>List.set_set ..
   have lls:∀v,((LI.map QA).set k v).length=l.length:=fun v=>by rw[List.length_set,lml]
   simp only[z23,zO,z24,BO,go_sem,splice,hlt',hlt,hgs,hg,hg0,↓s_is,s_is,lml,↓ro,ro,gs,ss,lls,w2];exact⟨k+1,by rw[hLI,e2],by omega,by omega⟩
  | false=>
   rw[hs]at s_is;have e2:=lsm hs
   simp only[z23,zO,z24,BO,go_sem,splice,hlt',hlt,hgs,hg,hg0,↓s_is,s_is,lml,w2];exact⟨k+1,by rw[hLI,e2],by omega,by omega⟩
 ·have ek:k=l.length:=by omega
  have hlt':¬(k:Int)<(RV.length:Int):=by omega
  rw[ek]at lml ⊢;rw[ek]at hlt';have wf:win ((bC l RV l.length).map QA) 0 l.length=(bC l RV l.length).map QA:=qE lml
  simp only[z88,GS,go_sem,hlt',lml,wf]
end Go.Am
end
section
namespace Go.Am
variable {h:aA} {K:kA}
attribute [-go_sem] YA splice
def lE (c:Cmd)(s:List UInt8)(j:Nat):Nat:=(List.range j).countP fun k=>decide (c.m[k]?=some 49)&&decide (s[k]?≠c.w[k]?)
theorem zgs (c:Cmd)(s:List UInt8):lE c s c.m.length=BE c s:=rfl
theorem zgt (c:Cmd)(s:List UInt8)(j:Nat):lE c s j≤j:=by
 unfold lE;have:=List.countP_le_length (p:=fun k=>decide (c.m[k]?=some 49)&&decide (s[k]?≠c.w[k]?)) (l:=List.range j)
 rwa [List.length_range]at this
theorem zgu (c:Cmd)(s:List UInt8)(j:Nat):lE c s (j+1)=lE c s j+if c.m[j]?=some 49∧s[j]?≠c.w[j]? then 1 else 0:=by
 unfold lE;rw[List.range_succ,List.countP_append,List.countP_singleton];congr 1
 by_cases h1:c.m[j]?=some 49 <;> by_cases h2:s[j]?=c.w[j]? <;> simp [h1,h2]
def pf1 (l:List (Nat × Nat)):List PV:=l.map fun x=>eI x.1
def pf2 (l:List (Nat × Nat)):List PV:=l.map fun x=>eI x.2
theorem zaC (l:List (Nat × Nat)):(pf1 l).length=l.length:=List.length_map ..
theorem zaE (l:List (Nat × Nat)):(pf2 l).length=l.length:=List.length_map ..
theorem zaB (l m:List (Nat × Nat)):pf1 (l++m)=pf1 l++pf1 m:=List.map_append ..
theorem zaD (l m:List (Nat × Nat)):pf2 (l++m)=pf2 l++pf2 m:=List.map_append ..
theorem z6o {a b:UInt8}:((a.toNat:Int)=(b.toNat:Int))↔a=b:=⟨fun e=>UInt8.toNat_inj.1 (by omega),fun e=>by rw[e]⟩
set_option maxHeartbeats 4000000 in
theorem zo2 (ds:List TDev)(hB:∀ d∈ds,DevB d)(h3:ds.length≤1000)(l:List Cmd)(hok:∀ c∈l,CmdOk c)(hl:l.length≤1000000) :
 bA X mQ [IB ds,ACs l] h K=K (.tup [.p (.sl none (if qD ds l=0 then pf1 (oB l (FB ds l) l.length) else [])),.p (.sl none (if qD ds l=0 then pf2 (oB l (FB ds l) l.length) else [])),AI (qD ds l)]) h []:=by
 refine rA ?_;rw[zfG rfl];have q1:=fun h K=>z5R (h:=h) (K:=K) ds hB h3 l hok hl
 by_cases e:qD ds l=0
 ·obtain⟨e1,e2⟩:=xX e
  have q2:=fun h K=>z5Q (h:=h) (K:=K) ds hB e1 l e2
  rw[if_pos e,if_pos e];rw[e]at q1 ⊢;obtain⟨hc,hn,hl⟩:=RJ e2;have tl:=HN (ds:=ds) hc
  have rl:(FB ds l).length=l.length:=sI jA l [] 0 0 (nC ds l)
  have rs:=fun k hk=>rX (R:=nC ds l) l (by omega) k hk
  have hRV:fD jA [] 0 l 0 (nC ds l)=FB ds l:=rfl
  rw[hRV]at rs;simp only[QO,go_sem,↓q1,q1,↓q2,q2];generalize FB ds l=RV at *;refine XA (fun k:Nat=>⟨[(1,ACs l),(8,.own h.length (oB l RV k).length 0 (oB l RV k).length),(9,.own (h.length+1) (oB l RV k).length 0 (oB l RV k).length),(22,LE RV),(23,.p (.int .i64 (RV.length:Nat))),(24,AI k)],h++[.row none (pf1 (oB l RV k)) 0,.row none (pf2 (oB l RV k)) 0],[]⟩) (fun k=>k≤l.length) (fun k=>l.length-k) 0 rfl (by omega) ?_
  intro k hk;rw[GF];have fle:=lU l RV k
  have l1:=zaC (oB l RV k)
  have l2:=zaE (oB l RV k)
  have ms:(oB l RV k).length+1≤GA:=by unfold GA;omega
  rcases Nat.lt_or_ge k l.length with hlt|hge
  ·have hlt':(k:Int)<(RV.length:Int):=by omega
   have hg:=BB QA hlt
   obtain⟨s,x1,x2⟩:=rs k hlt;have hgs:(RV.map PV.str)[k]?=some (.str s):=by rw[List.getElem?_map,x1];rfl
   have w2:IntKind.i64.wrap ((k:Int)+1)=((k+1:Nat):Int):=zA _ (by omega) (by omega)
   have ml:=FQ (hc _ (List.getElem_mem hlt))
   have fs:=z2O l RV k
   have d1:l.getD k ZG=l[k]:=by rw[List.getD_eq_getElem?_getD,List.getElem?_eq_getElem hlt];rfl
   have d2:RV.getD k []=s:=by rw[List.getD_eq_getElem?_getD,x1];rfl
   rw[d1,d2]at fs;generalize oB l RV k=F at *;generalize l[k]=c at *;have fp:QA c = .agg [eI c.k,eI c.s,eI c.cl,.str c.b,.str c.w,.str c.m]:=rfl
   rw[fp]at hg;have hmb:c.m.length≤2000∧(∀j,j<c.m.length→j<s.length∧j<c.w.length):=by
    rcases ml with⟨m1,m2,m3,m4|⟨m4,m5⟩⟩|⟨m1,m4⟩
    ·rw[m4];exact⟨by simp,fun j hj=>by simp at hj⟩
    ·rw[if_pos m1]at x2;exact⟨by omega,fun j hj=>by omega⟩
    ·rw[m4];exact⟨by simp,fun j hj=>by simp at hj⟩
   simp only[KH,qG,jP,cJ,kP,dJ,go_sem,hlt',hgs,hg];refine XA (fun j:Nat=>⟨[(1,ACs l),(8,.own h.length F.length 0 F.length),(9,.own (h.length+1) F.length 0 F.length),(10,AI k),(11,AS s),(12,AI (lE c s j)),(22,LE RV),(23,.p (.int .i64 (RV.length:Nat))),(24,AI k),(34,AI c.m.length),(35,AI j)],h++[.row none (pf1 F) 0,.row none (pf2 F) 0],[]⟩) (fun j=>j≤c.m.length) (fun j=>c.m.length-j) 0 rfl (by omega) ?_
   intro j hj;have cle:=zgt c s j
   have w3:IntKind.i64.wrap ((lE c s j:Int)+1)=((lE c s j+1:Nat):Int):=zA _ (by omega) (by omega)
   have w4:IntKind.i64.wrap ((j:Int)+1)=((j+1:Nat):Int):=zA _ (by omega) (by omega)
   rcases Nat.lt_or_ge j c.m.length with jlt|jge
   ·have jlt':(j:Int)<(c.m.length:Int):=by omega
    obtain⟨y1,y2⟩:=hmb.2 j jlt;have g1:c.m[j]?=some c.m[j]:=List.getElem?_eq_getElem jlt
    have g2:s[j]?=some s[j]:=List.getElem?_eq_getElem y1
    have g3:c.w[j]?=some c.w[j]:=List.getElem?_eq_getElem y2
    have cs:=zgu c s j
    rw[g1,g2,g3]at cs;by_cases h49:c.m[j]=49
    ·have h49':(c.m[j].toNat:Int)=49:=by rw[h49];rfl
     by_cases hw:s[j]=c.w[j]
     ·have cs:lE c s (j+1)=lE c s j:=by rw[cs];simp [hw]
      have hw':(s[j].toNat:Int)=(c.w[j].toNat:Int):=by rw[hw]
      simp only[KH,qG,jP,cJ,kP,dJ,go_sem,jlt',jlt,hg,g1,g2,g3,h49',hw',w4];exact⟨j+1,by rw[cs],by omega,by omega⟩
     ·have cs:lE c s (j+1)=lE c s j+1:=by rw[cs];simp [hw,h49]
      have hw':¬(s[j].toNat:Int)=(c.w[j].toNat:Int):=fun q=>hw (z6o.1 q)
      simp only[KH,qG,jP,cJ,kP,dJ,go_sem,jlt',jlt,hg,g1,g2,g3,h49',hw',w3,w4];exact⟨j+1,by rw[cs],by omega,by omega⟩
    ·have cs:lE c s (j+1)=lE c s j:=by rw[cs];simp [h49]
     have h49':¬(c.m[j].toNat:Int)=49:=fun q=>h49 (UInt8.toNat_inj.1 (by rw[show(49:UInt8).toNat=49 from rfl];omega))
     simp only[KH,qG,jP,cJ,kP,dJ,go_sem,jlt',jlt,hg,g1,h49',w4];exact⟨j+1,by rw[cs],by omega,by omega⟩
   ·have ej:j=c.m.length:=by omega
    rw[ej]at cle ⊢;rw[zgs]at cle ⊢;by_cases hf:0<BE c s
    ·rw[if_pos hf]at fs
     have hf':(0:Int)<(BE c s:Int):=by omega
     simp only[KH,qG,z2D,RO,go_sem,splice,Int.lt_irrefl,hf',l1,l2,ms,w2];refine⟨k+1,?_,by omega,by omega⟩
     rw[fs,zaB,zaD,List.length_append];rfl
    ·rw[if_neg hf,List.append_nil]at fs
     have hf':¬(0:Int)<(BE c s:Int):=by omega
     simp only[KH,qG,z2D,RO,go_sem,Int.lt_irrefl,hf',w2];exact⟨k+1,by rw[fs],by omega,by omega⟩
  ·have ek:k=l.length:=by omega
   subst ek;have hlt':¬(l.length:Int)<(RV.length:Int):=by omega
   have wf1:win (pf1 (oB l RV l.length)) 0 (oB l RV l.length).length=pf1 (oB l RV l.length):=qE l1
   have wf2:win (pf2 (oB l RV l.length)) 0 (oB l RV l.length).length=pf2 (oB l RV l.length):=qE l2
   simp only[KH,qG,z8F,ET,go_sem,hlt',l1,l2,wf1,wf2]
 ·rw[if_neg e,if_neg e]
  simp only[QO,go_sem,↓q1,q1,e,List.map_nil]
end Go.Am
end
section
namespace Go.Am
variable {h:aA} {K:kA}
attribute [-go_sem] YA splice
def nD (c:Cmd)(s:List UInt8)(j:Nat):Nat:=(List.range j).countP fun k=>EB c&&decide ((WA c)[k]?≠some 120)&&decide ((WA c)[k]?≠s[k]?)
theorem zgq (c:Cmd)(s:List UInt8)(j:Nat):nD c s j≤j:=by
 unfold nD;have:=List.countP_le_length (p:=fun k=>EB c&&decide ((WA c)[k]?≠some 120)&&decide ((WA c)[k]?≠s[k]?)) (l:=List.range j)
 rwa [List.length_range]at this
theorem zgr (c:Cmd)(s:List UInt8)(j:Nat):nD c s (j+1)=nD c s j+if EB c=true∧(WA c)[j]?≠some 120∧(WA c)[j]?≠s[j]? then 1 else 0:=by
 unfold nD;rw[List.range_succ,List.countP_append,List.countP_singleton];congr 1
 by_cases h0:EB c=true <;> by_cases h1:(WA c)[j]?=some 120 <;> by_cases h2:(WA c)[j]?=s[j]? <;> simp [h0,h1,h2]
theorem zkz (c:Cmd):(WA c).length=c.b.length:=by simp [WA]
theorem zeb {w:List UInt8}(hw:EA w=true){j:Nat}(hj:j<w.length):w[j]≠120:=fun e=>by
 have:=List.all_eq_true.1 hw _ (List.getElem_mem hj);rw[e]at this;simp [ML]at this
theorem zgp {c:Cmd}(hc:OA c=0)(s:List UInt8):nD c s c.b.length=BE c s:=by
 unfold nD BE;rcases FQ hc with⟨m1,m2,mb,m4|⟨m4,m5⟩⟩|⟨m1,m4⟩
 ·rw[m4]
  have hx:∀j,jC c j=120:=fun j=>by unfold jC;rw[m4];rfl
  rw[List.countP_eq_zero.2]
  ·simp
  ·intro j hj
   have hj:j<c.b.length:=List.mem_range.1 hj
   have:(WA c)[j]?=some 120:=by unfold WA;simp [hj,hx]
   simp [this]
 ·rw[m4]
  apply List.countP_congr
  intro j hj;have hj:j<c.b.length:=List.mem_range.1 hj
  have e1:(WA c)[j]?=some (jC c j):=by unfold WA;simp [hj]
  have g1:c.m[j]?=some (c.m[j]'(by omega)):=List.getElem?_eq_getElem (by omega)
  have g3:c.w[j]?=some (c.w[j]'(by omega)):=List.getElem?_eq_getElem (by omega)
  have nb:=zeb mb (j:=j) (by omega)
  by_cases h49:c.m[j]'(by omega)=49
  ·have e2:jC c j=c.w[j]'(by omega):=by unfold jC;rw[g1,h49,g3];rfl
   rw[e1,e2,g1,g3,h49,m1];simp only[Bool.true_and,Bool.and_eq_true,decide_eq_true_eq,ne_eq,Option.some.injEq,nb,not_false_eq_true,true_and];exact⟨fun q r=>q r.symm,fun q r=>q r.symm⟩
  ·have e2:jC c j=120:=by unfold jC;rw[g1];simp [h49]
   rw[e1,e2,g1];simp [h49]
 ·rw[m4]
  rw[List.countP_eq_zero.2]
  ·simp
  ·intro j hj
   simp [m1]
set_option maxHeartbeats 4000000 in
theorem zo3 (ds:List TDev)(O:ChOk ds)(l:List Cmd)(hp:TB jA l=0)(hok:∀ c∈l,c.b.length≤100000):bA X KP [IB ds,ACs l] h K=K (.tup [.p (.sl none (pf1 (oB l (FB ds l) l.length))),.p (.sl none (pf2 (oB l (FB ds l) l.length)))]) h []:=by
 refine rA ?_;rw[zeQ rfl];have q2:=fun h K=>z5L (h:=h) (K:=K) ds O l hp
 obtain⟨hc,hn,hl⟩:=RJ hp;have tl:=HN (ds:=ds) hc
 have rl:(FB ds l).length=l.length:=sI jA l [] 0 0 (nC ds l)
 have rs:=fun k hk=>rX (R:=nC ds l) l (by omega) k hk
 have hRV:fD jA [] 0 l 0 (nC ds l)=FB ds l:=rfl
 rw[hRV]at rs;simp only[DS,go_sem,↓q2,q2];generalize FB ds l=RV at *;refine XA (fun k:Nat=>⟨[(1,ACs l),(6,.own h.length (oB l RV k).length 0 (oB l RV k).length),(7,.own (h.length+1) (oB l RV k).length 0 (oB l RV k).length),(15,LE RV),(16,.p (.int .i64 (RV.length:Nat))),(17,AI k)],h++[.row none (pf1 (oB l RV k)) 0,.row none (pf2 (oB l RV k)) 0],[]⟩) (fun k=>k≤l.length) (fun k=>l.length-k) 0 rfl (by omega) ?_
 intro k hk;rw[GF];have fle:=lU l RV k
 have l1:=zaC (oB l RV k)
 have l2:=zaE (oB l RV k)
 have ms:(oB l RV k).length+1≤GA:=by unfold GA;omega
 rcases Nat.lt_or_ge k l.length with hlt|hge
 ·have hlt':(k:Int)<(RV.length:Int):=by omega
  have hg:=BB QA hlt
  obtain⟨s,x1,x2⟩:=rs k hlt;have hgs:(RV.map PV.str)[k]?=some (.str s):=by rw[List.getElem?_map,x1];rfl
  have w2:IntKind.i64.wrap ((k:Int)+1)=((k+1:Nat):Int):=zA _ (by omega) (by omega)
  have h0:=hc _ (List.getElem_mem hlt)
  have hcm:=List.getElem_mem hlt
  have ml:=FQ h0
  have fs:=z2O l RV k
  have d1:l.getD k ZG=l[k]:=by rw[List.getD_eq_getElem?_getD,List.getElem?_eq_getElem hlt];rfl
  have d2:RV.getD k []=s:=by rw[List.getD_eq_getElem?_getD,x1];rfl
  rw[d1,d2]at fs;generalize oB l RV k=F at *;generalize l[k]=c at *;have fp:QA c = .agg [eI c.k,eI c.s,eI c.cl,.str c.b,.str c.w,.str c.m]:=rfl
  have s_is:∀h K,bA X VF [.p (.agg [eI c.k,eI c.s,eI c.cl,.str c.b,.str c.w,.str c.m])] h K=K (AB (EB c)) h []:=fun h K=>z5P (h:=h) (K:=K) c
  have hbl:=(hok c hcm)
  have hmb:c.m.length≤c.b.length∧c.m.length≤c.w.length:=by
   rcases ml with⟨m1,m2,m3,m4|⟨m4,m5⟩⟩|⟨m1,m4⟩
   ·rw[m4];simp
   ·omega
   ·rw[m4];simp
  have se:∀h K,bA X PH [.p (.agg [eI c.k,eI c.s,eI c.cl,.str c.b,.str c.w,.str c.m])] h K=K (AS (WA c)) h []:=fun h K=>zbA (h:=h) (K:=K) c (by omega) hmb.1 hmb.2
  have ce:=zgp h0 s
  have el:=zkz c
  rw[fp]at hg;simp only[YT,NK,YK,AH,ZK,BH,go_sem,hlt',hgs,hg,↓se,se];have m1:(WA c).length≤GA:=by unfold GA;omega
  simp only[go_sem,m1];refine XA (fun j:Nat=>⟨[(1,ACs l),(6,.own h.length F.length 0 F.length),(7,.own (h.length+1) F.length 0 F.length),(8,AI k),(9,AS s),(10,AI (nD c s j)),(15,LE RV),(16,.p (.int .i64 (RV.length:Nat))),(17,AI k),(27,.own (h.length+2) (WA c).length 0 (WA c).length),(28,.p (.int .i64 ((WA c).length:Nat))),(29,AI j)],h++[.row none (pf1 F) 0,.row none (pf2 F) 0,.row none (yA (WA c)) 0],[]⟩) (fun j=>j≤(WA c).length) (fun j=>(WA c).length-j) 0 rfl (by omega) ?_
  intro j hj;have cle:=zgq c s j
  have w3:IntKind.i64.wrap ((nD c s j:Int)+1)=((nD c s j+1:Nat):Int):=zA _ (by omega) (by omega)
  have w4:IntKind.i64.wrap ((j:Int)+1)=((j+1:Nat):Int):=zA _ (by omega) (by omega)
  have bl:=iG (WA c)
  rcases Nat.lt_or_ge j (WA c).length with jlt|jge
  ·have jlt':(j:Int)<((WA c).length:Int):=by omega
   have g1:(WA c)[j]?=some (WA c)[j]:=List.getElem?_eq_getElem jlt
   have g1':(yA (WA c))[j]?=some (.int .u8 ((WA c)[j].toNat:Int)):=by unfold yA;rw[List.getElem?_map,g1];rfl
   have cs:=zgr c s j
   rw[g1]at cs;generalize (WA c)[j]=y at *;have y120:((y.toNat:Int)=120)↔y=120:=z6o (b:=120)
   cases hs:EB c with
   | true=>
    rw[hs]at s_is;rw[if_pos hs]at x2;have jls:j<s.length:=by omega
    have g2:s[j]?=some s[j]:=List.getElem?_eq_getElem jls
    rw[g2]at cs;by_cases e120:y=120
    ·have cs:nD c s (j+1)=nD c s j:=by rw[cs];simp [e120]
     have e120':(y.toNat:Int)=120:=y120.2 e120
     simp only[YK,AH,ZK,BH,go_sem,jlt',jlt,bl,hg,hlt,↓s_is,s_is,g1',g2,e120',w4];exact⟨j+1,by rw[cs],by omega,by omega⟩
    ·have e120':¬(y.toNat:Int)=120:=fun q=>e120 (y120.1 q)
     by_cases hw:y=s[j]
     ·have cs:nD c s (j+1)=nD c s j:=by rw[cs];simp [←hw]
      have hw':(y.toNat:Int)=(s[j].toNat:Int):=by rw[←hw]
      simp only[YK,AH,ZK,BH,go_sem,jlt',jlt,bl,hg,hlt,↓s_is,s_is,g1',g2,e120',eq_true hw',w4];exact⟨j+1,by rw[cs],by omega,by omega⟩
     ·have cs:nD c s (j+1)=nD c s j+1:=by rw[cs];simp [hw,hs,e120]
      have hw':¬(y.toNat:Int)=(s[j].toNat:Int):=fun q=>hw (z6o.1 q)
      simp only[YK,AH,ZK,BH,go_sem,jlt',jlt,bl,hg,hlt,↓s_is,s_is,g1',g2,e120',hw',w3,w4];exact⟨j+1,by rw[cs],by omega,by omega⟩
   | false=>
    rw[hs]at s_is;have cs:nD c s (j+1)=nD c s j:=by rw[cs];simp [hs]
    simp only[YK,AH,ZK,BH,go_sem,jlt',jlt,bl,hg,hlt,↓s_is,s_is,g1',w4];exact⟨j+1,by rw[cs],by omega,by omega⟩
  ·have ej:j=(WA c).length:=by omega
   rw[ej]at cle ⊢;rw[el,ce]at cle;have ce':nD c s (WA c).length=BE c s:=by rw[el,ce]
   rw[ce'];have jlt':¬((WA c).length:Int)<((WA c).length:Int):=by omega
   by_cases hf:0<BE c s
   ·rw[if_pos hf]at fs
    have hf':(0:Int)<(BE c s:Int):=by omega
    simp only[YT,NK,z22,yO,go_sem,splice,jlt',Int.lt_irrefl,hf',l1,l2,ms,w2];refine⟨k+1,?_,by omega,by omega⟩
    rw[fs,zaB,zaD,List.length_append];rfl
   ·rw[if_neg hf,List.append_nil]at fs
    have hf':¬(0:Int)<(BE c s:Int):=by omega
    simp only[YT,NK,z22,yO,go_sem,jlt',Int.lt_irrefl,hf',w2];exact⟨k+1,by rw[fs],by omega,by omega⟩
 ·have ek:k=l.length:=by omega
  subst ek;have hlt':¬(l.length:Int)<(RV.length:Int):=by omega
  have wf1:win (pf1 (oB l RV l.length)) 0 (oB l RV l.length).length=pf1 (oB l RV l.length):=qE l1
  have wf2:win (pf2 (oB l RV l.length)) 0 (oB l RV l.length).length=pf2 (oB l RV l.length):=qE l2
  simp only[z87,ES,go_sem,hlt',l1,l2,wf1,wf2]
end Go.Am
end
section
namespace Go.Am
variable {L:List Int} {a:Int} {h l:aA} {id:Nat} {K:kA}
attribute [-go_sem] YA
def ZC:List UInt8:=[100,97,116,97]
structure DvG (d:TDev):Prop where
 n:d.name.length≤10
 lo : -1000≤d.long∧d.long≤1000
 id : -1000≤d.id∧d.id≤1000
 r:∃n:Int,d.regs=[⟨ZC,n⟩]∧1≤n∧n≤4
 i:d.ins.length≤2
 c:∀x∈d.ins,x.code.length≤4∧x.reg.length≤10
 z:∃(m:Nat) (rest:List TIns),d.ins=⟨zs m,ZC⟩::rest∧∀x∈rest,x.code.headD 0=49
theorem DvG.b {d:TDev}(D:DvG d):DevB d:=by
 obtain⟨n,e,_,_⟩:=D.r;exact⟨by have:=D.n;omega,by rw[e];simp,by have:=D.i;omega,fun r hr=>by rw[e]at hr;simp at hr;rw[hr];simp [ZC],fun x hx=>by have:=D.c x hx;omega⟩
attribute [-go_sem] NG LF rG uF QF TE RT yK ST WI
theorem z5u {l:List Int}{lo hi:Int}(hl:0<l.length)(hl2:l.length<4611686018427387904)(h:∀ x∈l,lo≤x∧x≤hi)(a:Int):lo≤PC l L a∧PC l L a≤hi:=h _ (RW hl hl2)
theorem z9n {o0 o1 o3:Obj}{sh:Sh}{xs:List PV}{fz n:Nat}:frz [o0,o1,.row sh xs fz,o3] 2 n=[o0,o1,.row sh xs (max fz n),o3]:=rfl
theorem z9o {o0 o1 o2:Obj}{sh:Sh}{xs:List PV}{fz n:Nat}:frz [o0,o1,o2,.row sh xs fz] 3 n=[o0,o1,o2,.row sh xs (max fz n)]:=rfl
theorem win1 {x:PV}:win [x] 0 1=[x]:=rfl
theorem win2 {x y:PV}:win [x,y] 0 2=[x,y]:=rfl
theorem z9C {o0 o1 o2 o3:Obj}:[o0,o1,o2,o3][3]?=some o3:=rfl
theorem z9B {o0 o1 o2 o3:Obj}:[o0,o1,o2,o3][2]?=some o2:=rfl
attribute [local go_sem] z9n z9o win1 win2 z9C z9B
theorem bL {b:Nat}{X Y:Esc}(hX:∀ y∈X,b≤y.1)(hY:∀ y∈Y,b≤y.1):∀y∈X++Y,b≤y.1:=fun y hy=>by
 rcases List.mem_append.1 hy with e|e
 ·exact hX y e
 ·exact hY y e
theorem dL {b i:Nat}{v:AV}(h:b≤i):∀y∈uC i v,b≤y.1:=fun y hy=>by
 unfold uC at hy;split at hy
 ·rw[List.mem_singleton.1 hy];exact h
 ·cases hy
def uvw:List (List UInt8):=[[117],[118],[119]]
set_option maxHeartbeats 4000000 in
theorem zge (hid:id<h.length){b:Int}(hp:kB 100 b){ds:List TDev}(h1:1≤ds.length)(h3:ds.length≤3)(hd:∀ d∈ds,DvG d){P:kA}{y:List (Nat × AV)}{E:Ex→St→Prop}(hE:E=mA [.t 2] false h.length P)
 (hP:∀(ds':List TDev) (b':Int),b≤b'→b'≤b+10→ds'.length=ds.length→(∀d∈ds',DvG d)→P (IB ds') (h.set id (TA L b')) []) :
 NW (bA X) X.gl QQ ⟨[(0,.ref id 0),(3,.own h.length ds.length 0 ds.length)]++y,h.set id (TA L b)++[.row (some 5) (ds.map BA) 0],[]⟩ E:=by
 subst hE;have hid':id≤h.length:=by omega
 have Q:=jN (YC hp (Int.le_refl b) (by omega))
 have lml:(ds.map BA).length=ds.length:=List.length_map ..
 have done:∀(ds':List TDev) (b':Int),b≤b'→b'≤b+10→ds'.length=ds.length→(∀d∈ds',DvG d)→∀(M:List PV) (y:List (Nat×AV)),eA y 3 = .own h.length ds.length 0 ds.length→M=ds'.map BA→NW (bA X) X.gl PQ ⟨y,h.set id (TA L b')++[.row (some 5) M 0],[]⟩ (mA [.t 2] false h.length P):=fun ds' b' q1 q2 q3 q4 M y hy hM=>by
  subst hM;have l2:(ds'.map BA).length=ds.length:=by rw[List.length_map,q3]
  have wf:win (ds'.map BA) 0 ds.length=ds'.map BA:=qE l2
  rw[RT];simp only[yK,hy];simp only[go_sem,l2,wf];exact hP ds' b' q1 q2 q3 q4
 rw[ST];by_cases hf:LB L b 20=0
 ·obtain⟨j1,j2⟩:=BJ L (b+1) ds.length (by omega) (by omega)
  obtain⟨j,hj⟩:=Int.eq_ofNat_of_zero_le j1;have hjl:j<ds.length:=by omega
  have hg:=BB BA hjl
  have D:=hd _ (List.getElem_mem hjl)
  have fp:∀y:TDev,BA y = .agg [.str y.name,eI y.long,eI y.id,.sl (some 2) (y.regs.map uA),.sl (some 2) (y.ins.map VA)]:=fun _=>rfl
  have hset:∀(n:List UInt8) (lo i:Int),(ds.map BA).set j (.agg [.str n,eI lo,eI i,.sl (some 2) (ds[j].regs.map uA),.sl (some 2) (ds[j].ins.map VA)])=(ds.set j ⟨n,lo,i,ds[j].regs,ds[j].ins⟩).map BA:=fun n lo i=>by rw[List.map_set];rfl
  have hmem:∀(n:List UInt8) (lo i:Int),n.length≤10→(-1000≤lo∧lo≤1000)→(-1000≤i∧i≤1000)→∀d∈ds.set j ⟨n,lo,i,ds[j].regs,ds[j].ins⟩,DvG d:=fun n lo i q1 q2 q3 d hm=>by
   rcases List.mem_or_eq_of_mem_set hm with e|e
   ·exact hd d e
   ·subst e;exact⟨q1,q2,q3,D.r,D.i,D.c,D.z⟩
  generalize hdj:ds[j]=d at *;rw[fp]at hg;have pm:=aR (l:=[d.name,[],[117]]) (L:=L) (a:=b+1+1) (by simp) (by simp)
  have pl:(OD [d.name,[],[117]] L (b+1+1)).length≤10:=by
   simp only[List.mem_cons,List.not_mem_nil,or_false]at pm;rcases pm with e|e|e
   ·rw[e];exact D.n
   ·rw[e];decide
   ·rw[e];decide
  obtain⟨l1,l2⟩:=z5u (L:=L) (l:=[d.long,1,33]) (lo:=-1000) (hi:=1000) (by simp) (by simp) (by simp;exact D.lo) (b+1+1+1)
  obtain⟨k1,k2⟩:=z5u (L:=L) (l:=[d.id,4,-1]) (lo:=-1000) (hi:=1000) (by simp) (by simp) (by simp;exact D.id) (b+1+1+1+1)
  generalize hps:OD [d.name,[],[117]] L (b+1+1)=nm at *;generalize hlo:PC [d.long,1,33] L (b+1+1+1)=lo at *;generalize hii:PC [d.id,4,-1] L (b+1+1+1+1)=ii at *;have gs:∀v,((ds.map BA).set j v)[j]?=some v:=fun v=>List.getElem?_set_self (by omega)
  have ss:∀v w,((ds.map BA).set j v).set j w=(ds.map BA).set j w:=fun v w=>List.set_set ..
  have ls:∀v,((ds.map BA).set j v).length=ds.length:=fun v=>by rw[List.length_set,lml]
  simp (config:={maxSteps:=4000000}) only[WI,go_sem,hid,hid',Q,hf,hj,lml,hjl,hg,hps,hlo,hii,gs,ss,ls,splice,List.cons_append,List.nil_append];exact done (ds.set j ⟨nm,lo,ii,d.regs,d.ins⟩) (b+1+1+1+1+1) (by omega) (by omega) (by simp) (hmem nm lo ii pl ⟨l1,l2⟩ ⟨k1,k2⟩) _ _ rfl (hset nm lo ii)
 ·simp only[WI,go_sem,hid,hid',Q,hf,List.cons_append,List.nil_append]
  exact done ds (b+1) (by omega) (by omega) rfl hd _ _ rfl rfl
end Go.Am
end
section
namespace Go.Am
variable {L:List Int} {a:Int} {h l:aA} {id:Nat} {K:kA}
attribute [-go_sem] YA
attribute [-go_sem] NG LF rG uF QF TE RT yK ST WI
attribute [local go_sem] z9n z9o win1 win2 z9C z9B
set_option maxHeartbeats 4000000 in
theorem zkX (hp:kB 200 a):WD tP [] L a (fun v a2=>a≤a2∧a2≤a+60∧∃ds:List TDev,1≤ds.length∧ds.length≤3∧(∀d∈ds,DvG d)∧v=IB ds):=by
 refine WD.of fun h id hid=>?_
 rw[zey rfl];have hid':id≤h.length:=by omega
 simp only[gS,go_sem];refine XA (fun t:Nat×Int×List TDev=>⟨[(0,.ref id 0),(3,.own h.length t.2.2.length 0 t.2.2.length),(8,.p (.sl none (uvw.map .str))),(9,AI 3),(10,AI t.1)],h.set id (TA L t.2.1)++[.row (some 5) (t.2.2.map BA) 0],[]⟩)
  (fun t=>(t.1≤3∧(1≤t.1→1≤t.2.2.length))∧(a≤t.2.1∧t.2.1≤a+10*t.1)∧t.2.2.length≤t.1∧∀d∈t.2.2,DvG d) (fun t=>3-t.1) (0,a,[]) rfl ⟨⟨by simp,by simp⟩,⟨by simp,by simp⟩,by simp,by simp⟩ ?_
 rintro⟨k,b,ds⟩ ⟨⟨i1,i2⟩,⟨i3,i4⟩,i5,i6⟩
 dsimp only at i1 i2 i3 i4 i5 i6 ⊢;rw[GF];have hlen:∀(b:Int) (t:aA),(h.set id (TA L b) ++ .row (some 5) (ds.map BA) 0::t).length=h.length+1+t.length:=fun b t=>by simp;omega
 rcases Nat.lt_or_ge k 3 with hlt|hge
 ·have P:=jN (YC hp i3 (show b+14≤a+200 by omega))
  have hlt':(k:Int)<3:=by omega
  have w1:IntKind.i64.wrap ((k:Int)+1)=((k+1:Nat):Int):=zA _ (by omega) (by omega)
  have hk3:k<uvw.length:=hlt
  have hg:=BB PV.str hk3
  have cc:∀v:List UInt8,aB none 0 (PV.str v)=some (PV.str v):=fun _=>rfl
  have nl:uvw[k].length≤10:=by
   have:k=0∨k=1∨k=2:=by omega
   rcases this with rfl|rfl|rfl <;> simp [uvw]
  generalize uvw[k]=nm at *;by_cases hf:LB L b 3=0∧0<ds.length
  ·obtain⟨f1,f2⟩:=hf
   have f2':(0:Int)<(ds.length:Int):=by omega
   simp only[QF,TE,rG,uF,go_sem,hid,hid',P,hlt',hg,cc,f1,f2',w1];refine⟨(k+1,b+1,ds),rfl,⟨⟨by dsimp only;omega,fun _=>by dsimp only;omega⟩,⟨by dsimp only;omega,by dsimp only;omega⟩,by dsimp only;omega,i6⟩,by dsimp only;omega⟩
  ·obtain⟨m1,m2⟩:=dR (u:=2) (v:=4) L (b+1) (by omega) (by omega)
   obtain⟨j1,j2⟩:=z5u (L:=L) (l:=[0,0,5,257]) (lo:=0) (hi:=257) (by simp) (by simp) (by simp) (b+1+1)
   obtain⟨n1,n2⟩:=dR (u:=1) (v:=4) L (b+1+1+1) (by omega) (by omega)
   generalize hm:cE 2 4 L (b+1)=m at *;generalize hi:PC [0,0,5,257] L (b+1+1)=i at *;generalize hn:cE 1 4 L (b+1+1+1)=n at *;have rz:=fun h K=>BF (h:=h) (K:=K) m (by omega) (by omega)
   have rz2:=fun h K=>BF (h:=h) (K:=K) (m-1) (by omega) (by omega)
   have zl:(zs m.toNat).length≤4:=by simp [zs];omega
   have zl2:(zs (m-1).toNat).length≤3:=by simp [zs];omega
   have hzz:∃k:Nat,zs m.toNat=zs k:=⟨_,rfl⟩
   generalize zs m.toNat=z at *;generalize zs (m-1).toNat=z2 at *;have w3:IntKind.i64.wrap (m-1)=m-1:=zA _ (by omega) (by omega)
   have ml:1+z2.length≤PA:=by unfold PA;omega
   have dsl:(ds.map BA).length=ds.length:=List.length_map ..
   have ms:ds.length+1≤GA:=by unfold GA;omega
   have cond:LB L b 3=0∧¬(0:Int)<(ds.length:Int)∨¬LB L b 3=0:=by
    by_cases q:LB L b 3=0
    ·exact .inl ⟨q,fun c=>hf ⟨q,by omega⟩⟩
    ·exact .inr q
   have fin:∀(d:TDev) (b2:Int),b≤b2→b2≤b+10→DvG d→∀M:List PV,M=(ds++[d]).map BA→∃u:Nat×Int×List TDev,(⟨[(0,.ref id 0),(3,.own h.length (ds.length+1) 0 (ds.length+1)),(8,.p (.sl none (uvw.map .str))),(9,AI 3),(10,.p (.int .i64 ((k+1:Nat):Int)))],h.set id (TA L b2)++[.row (some 5) M 0],[]⟩:St)=⟨[(0,.ref id 0),(3,.own h.length u.2.2.length 0 u.2.2.length),(8,.p (.sl none (uvw.map .str))),(9,AI 3),(10,AI u.1)],h.set id (TA L u.2.1)++[.row (some 5) (u.2.2.map BA) 0],[]⟩∧((u.1≤3∧(1≤u.1→1≤u.2.2.length))∧(a≤u.2.1∧u.2.1≤a+10*u.1)∧u.2.2.length≤u.1∧∀d∈u.2.2,DvG d)∧3-u.1<3-k:=fun d b2 h1 h2 hd M hM=>by
    subst hM;refine⟨(k+1,b2,ds++[d]),by simp,⟨⟨by dsimp only;omega,fun _=>by simp⟩,⟨by dsimp only;omega,by dsimp only;omega⟩,by simp;omega,fun y hy=>?_⟩,by dsimp only;omega⟩
    rcases List.mem_append.1 hy with e|e
    ·exact i6 y e
    ·rw[List.mem_singleton.1 e];exact hd
   have D1:DvG ⟨nm,m,i,[⟨ZC,n⟩],[⟨z,ZC⟩]⟩:=⟨nl,by dsimp only;omega,by dsimp only;omega,⟨n,rfl,n1,n2⟩,by simp,fun x hx=>by simp at hx;rw[hx];exact⟨zl,by simp [ZC]⟩,by obtain⟨q,hq⟩:=hzz;exact⟨q,[],by rw[hq],by simp⟩⟩
   have D2:DvG ⟨nm,m,i,[⟨ZC,n⟩],[⟨z,ZC⟩,⟨49::z2,bB⟩]⟩:=⟨nl,by dsimp only;omega,by dsimp only;omega,⟨n,rfl,n1,n2⟩,by simp,fun x hx=>by
    simp at hx;rcases hx with e|e
    ·rw[e];exact⟨zl,by simp [ZC]⟩
    ·rw[e];exact⟨by simp;omega,by simp [bB]⟩,by obtain⟨q,hq⟩:=hzz;exact⟨q,[⟨49::z2,bB⟩],by rw[hq],fun x hx=>by simp at hx;rw[hx];rfl⟩⟩
   rcases cond with⟨f1,f2⟩|f1
   ·by_cases hz:i=0
    ·simp (config:={maxSteps:=4000000}) only[QF,TE,rG,uF,NG,LF,go_sem,hid,hid',P,hlt',hg,cc,w1,hm,hi,hn,↓rz,rz,splice,f1,f2,eq_true hz,dsl,ms]
     rw[JN (b:=h.length+1) (by repeat first|exact dL (by omega)|refine bL ?_ ?_)]
     simp only[go_sem,hid'];refine fin ⟨nm,m,i,[⟨ZC,n⟩],[⟨z,ZC⟩]⟩ (b+1+1+1+1) (by omega) (by omega) ?_ _ ?_
     ·exact D1 
     ·rw[List.map_append];rfl
    ·by_cases hfl:LB L (b+1+1+1+1) 2=0
     ·simp (config:={maxSteps:=4000000}) only[QF,TE,rG,uF,NG,LF,go_sem,hid,hid',P,hlt',hg,cc,w1,hm,hi,hn,↓rz,rz,splice,f1,f2,hz,hfl,w3,↓rz2,rz2,ml,dsl,ms]
      rw[JN (b:=h.length+1) (by repeat first|exact dL (by omega)|refine bL ?_ ?_)]
      simp only[go_sem,hid'];refine fin ⟨nm,m,i,[⟨ZC,n⟩],[⟨z,ZC⟩,⟨49::z2,bB⟩]⟩ (b+1+1+1+1+1) (by omega) (by omega) ?_ _ ?_
      ·exact D2 
      ·rw[List.map_append];rfl
     ·simp (config:={maxSteps:=4000000}) only[QF,TE,rG,uF,NG,LF,go_sem,hid,hid',P,hlt',hg,cc,w1,hm,hi,hn,↓rz,rz,splice,f1,f2,hz,hfl,dsl,ms]
      rw[JN (b:=h.length+1) (by repeat first|exact dL (by omega)|refine bL ?_ ?_)]
      simp only[go_sem,hid'];refine fin ⟨nm,m,i,[⟨ZC,n⟩],[⟨z,ZC⟩]⟩ (b+1+1+1+1+1) (by omega) (by omega) ?_ _ ?_
      ·exact D1 
      ·rw[List.map_append];rfl
   ·by_cases hz:i=0
    ·simp (config:={maxSteps:=4000000}) only[QF,TE,rG,uF,NG,LF,go_sem,hid,hid',P,hlt',hg,cc,w1,hm,hi,hn,↓rz,rz,splice,f1,eq_true hz,dsl,ms]
     rw[JN (b:=h.length+1) (by repeat first|exact dL (by omega)|refine bL ?_ ?_)]
     simp only[go_sem,hid'];refine fin ⟨nm,m,i,[⟨ZC,n⟩],[⟨z,ZC⟩]⟩ (b+1+1+1+1) (by omega) (by omega) ?_ _ ?_
     ·exact D1 
     ·rw[List.map_append];rfl
    ·by_cases hfl:LB L (b+1+1+1+1) 2=0
     ·simp (config:={maxSteps:=4000000}) only[QF,TE,rG,uF,NG,LF,go_sem,hid,hid',P,hlt',hg,cc,w1,hm,hi,hn,↓rz,rz,splice,f1,hz,hfl,w3,↓rz2,rz2,ml,dsl,ms]
      rw[JN (b:=h.length+1) (by repeat first|exact dL (by omega)|refine bL ?_ ?_)]
      simp only[go_sem,hid'];refine fin ⟨nm,m,i,[⟨ZC,n⟩],[⟨z,ZC⟩,⟨49::z2,bB⟩]⟩ (b+1+1+1+1+1) (by omega) (by omega) ?_ _ ?_
      ·exact D2 
      ·rw[List.map_append];rfl
     ·simp (config:={maxSteps:=4000000}) only[QF,TE,rG,uF,NG,LF,go_sem,hid,hid',P,hlt',hg,cc,w1,hm,hi,hn,↓rz,rz,splice,f1,hz,hfl,dsl,ms]
      rw[JN (b:=h.length+1) (by repeat first|exact dL (by omega)|refine bL ?_ ?_)]
      simp only[go_sem,hid'];refine fin ⟨nm,m,i,[⟨ZC,n⟩],[⟨z,ZC⟩]⟩ (b+1+1+1+1+1) (by omega) (by omega) ?_ _ ?_
      ·exact D1 
      ·rw[List.map_append];rfl
 ·have ek:k=3:=by omega
  subst ek;have hn1:1≤ds.length:=i2 (by omega)
  simp only[QF,TE,go_sem,hid'];refine zge hid (YC hp i3 (by omega)) hn1 i5 i6 rfl ?_
  intro ds' b' q1 q2 q3 q4;exact⟨b',⟨by omega,by omega,ds',by omega,by omega,q4,rfl⟩,rfl,rfl⟩
end Go.Am
end
