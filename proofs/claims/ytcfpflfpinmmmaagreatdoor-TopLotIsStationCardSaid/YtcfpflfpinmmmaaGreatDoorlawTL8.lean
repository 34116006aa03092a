/- Texts of the proof, laid together: SpFlo10, SpFlo11, PUnd, PTls3, PTls4, SpTls1, SpMapN, PThr, SpThr, SpThr2, SpThr3, PThr2, PCnt, SpDel, PTight, SpVal, SpFin, SpDelR, SpUni, SpCnt, SpCnt2, SpThr4, SpYld, AmK, SpRun, SpCts, SpSortN, PBusy, SpBusy, SpWtg0, SpWtg1, SpStp1, SpStp2, SpPath, SpReady, SpKeep, SpRight, SpFacR, SpTls2, Bridge, AmL2. -/
import Derived.KernelRfl
import Derived.ProofKit
import Derived.Shelf.Strconv.Itoa3
import Derived.Lib.LaidTab
import Derived.Test.YtcfpflfpinmmmaaGreatDoorlawTL7
set_option linter.all false
section
/- Entries followed: the walk,all. -/
open Go
set_option linter.all false
set_option maxRecDepth 100000
namespace Go.Am
variable {h:aA} {K:jA}
attribute [-go_sem] tB QA UA gC
attribute [local go_sem] rD nE JD KD oE NE pE qE rE OE PE QE RE SE TE UE
abbrev SF (steps:List Nm)(tries:Int):AV:=.p (.agg [.sl none (steps.map .str),eI tries])
def flB (steps:List Nm)(tries:Int):Obj:=.box [nC steps,AI tries]
def KE (l:List Ent):List (Ent×Bool):=l.zip (bB l)
theorem tS (l:List Ent):(KE l).length=l.length:=by unfold KE;rw[List.length_zip,BH];simp
theorem zmc {l:List Ent}{k:Nat}(hk:k<l.length):(KE l)[k]'(by rw[tS];exact hk)=(l[k],(bB l)[k]'(by rw[BH];exact hk)):=by unfold KE;rw[List.getElem_zip]
theorem z7r {S:Flo}{steps:List Nm}{tries:Int}{x:Ent}(hx:bI S x=false):(S.act steps tries x).2.bs.length=S.bs.length:=by
 unfold Flo.act;cases hi:ixB x.board S.bs with
 | none=>
  have k1:x.kind≠1:=by
   intro e;unfold bI at hx;rw[hi,e]at hx;simp at hx
  dsimp only;rw[if_neg k1]
 | some i=>
  dsimp only;cases S.bs[i]? with
  | none=>rfl
  | some e=>
   dsimp only;split
   ·rfl
   ·unfold Flo.old Flo.startR Flo.start Flo.finishR Flo.finish Flo.put
    split
    ·split
     ·rfl
     split
     ·rfl
     split
     ·rfl
     ·simp
    split
    ·split
     ·rfl
     split
     ·rfl
     ·simp
    split
    ·split
     ·rfl
     ·simp
    split
    ·rfl
    split
    ·simp
    ·simp
abbrev yC (steps:List Nm)(tries:Int)(l:List Ent):Flo:=Flo.go steps tries UG 0 (KE l)
set_option maxHeartbeats 8000000 in
theorem z5u (steps:List Nm)(tries:Int)(h1:steps.length≤1000)(h0:steps≠[])(l:List Ent)(hl:l.length≤1000) :
 bA X FF [SF steps tries,mC l] h K=K (.ref (h.length+7) 0) (FS h (flB steps tries) steps tries (yC steps tries l) []) (DC h (yC steps tries l).bs.length):=by
 refine rule ?_;rw[z9z rfl];have cnt:=fun h K=>ziH (h:=h) (K:=K) l (by omega)
 simp only[AP,go_sem,↓cnt,cnt];have hF0:Flo.go steps tries UG 0 ((KE l).drop 0)=yC steps tries l:=rfl
 generalize yC steps tries l=F at *;refine SA (fun t:Nat×Flo=>⟨[(5,.ref (h.length+7) 0),(6,.p (.sl none ((bB l).map lB))),(17,mC l),(18,AI l.length),(19,AI t.1)],FS h (flB steps tries) steps tries t.2 [],DC h t.2.bs.length⟩)
  (fun t=>t.1≤l.length∧Flo.go steps tries t.2 t.1 ((KE l).drop t.1)=F∧FlI t.2 steps t.1) (fun t=>l.length-t.1) (0,UG) ?_ ⟨Nat.zero_le _,hF0,flI0 steps⟩ ?_
 ·rfl
 rintro⟨k,S⟩ ⟨hk,hp,I⟩
 dsimp only at hk hp I ⊢;rcases Nat.lt_or_ge k l.length with hlt|hge
 ·have w1:IntKind.i64.wrap ((k:Int)+1)=((k+1:Nat):Int):=yA _ (by omega) (by omega)
  have hkc:k<(bB l).length:=by rw[BH];exact hlt
  have hg:=dB Ent.pv hlt
  have hc:=dB lB hkc
  have cx:=yL (x:=l[k])
  have cc:∀b:Bool,BA none 0 (lB b)=some (lB b):=fun _=>rfl
  have hzl:k<(KE l).length:=by rw[tS];exact hlt
  rw[List.drop_eq_getElem_cons hzl,zmc hlt]at hp;unfold Flo.go at hp;generalize (bB l)[k]=c at *;generalize hx:l[k]=x at *;have lenS:=CS (h:=h) (flB steps tries) steps tries S []
  simp only[List.length_nil,Nat.add_zero]at lenS;have app0:∀(S:Flo) (l2:aA),FS h (flB steps tries) steps tries S []++l2=FS h (flB steps tries) steps tries S l2:=fun S l2=>by unfold FS;rw[nE];rfl
  have gt:∀(o:Obj),(FS h (flB steps tries) steps tries S [o])[h.length+(8+3*S.bs.length)]?=some o:=fun o=>by unfold FS;exact tl1 (l:=[])
  have st:∀(o o':Obj),(FS h (flB steps tries) steps tries S [o]).set (h.length+(8+3*S.bs.length)) o'=FS h (flB steps tries) steps tries S [o']:=fun o o'=>by
   unfold FS;have:=FH_st (h:=h) (B:=TA S.bs) (l:=[o]) (o:=o') (o0:=flB steps tries) (o1:=FA PV.str bD (bC (h.length+8) S.bs)) (o2:=uC S.sm S.ck) (o3:=.row (some 5) (S.ends.map EndP.pv) 0) (o4:=.row (some 3) (S.runs.map RunP.pv) 0) (o5:=.row none (S.ref.map eI) 0) (o6:=.row none (S.why.map eI) 0) (o7:=wbx h steps tries S.ends.length S.runs.length S.ref.length S.why.length) 0;rw[XC]at this;exact this
  have tk0:∀(o:Obj),(FS h (flB steps tries) steps tries S [o]).take (h.length+(8+3*S.bs.length))=FS h (flB steps tries) steps tries S []:=fun o=>aL (h:=h) (flB steps tries) steps tries S [] [o]
  have f1:h.length+7+1≤h.length+(8+3*S.bs.length):=by omega
  by_cases hskip:c=false∨x.kind=7
  ·rw[if_pos hskip]at hp
   rcases hskip with e|e
   ·subst e
    simp only[go_sem,hlt,hg,hc,cx,cc,Ent.pv,lenS,app0,gt,st,splice,w1,tk0,f1];exact⟨(k+1,S),rfl,⟨by dsimp only;omega,hp,I.up⟩,by dsimp only;omega⟩
   ·cases c with
    | false=>
     simp only[go_sem,hlt,hg,hc,cx,cc,Ent.pv,lenS,app0,gt,st,splice,w1,tk0,f1];exact⟨(k+1,S),rfl,⟨by dsimp only;omega,hp,I.up⟩,by dsimp only;omega⟩
    | true=>
     simp only[go_sem,hlt,hg,hc,cx,cc,Ent.pv,lenS,app0,gt,st,splice,w1,tk0,f1,eq_true e];exact⟨(k+1,S),rfl,⟨by dsimp only;omega,hp,I.up⟩,by dsimp only;omega⟩
  ·rw[if_neg hskip]at hp
   rw[not_or]at hskip;have c1:c=true:=by simpa using hskip.1
   have k7:=hskip.2
   subst c1;obtain⟨I2,_⟩:=VZ (tries:=tries) I h0 k x;by_cases hnew:bI S x=true
   ·unfold bI at hnew
    rw[Bool.and_eq_true,Option.isNone_iff_eq_none]at hnew;obtain⟨n1,n2⟩:=hnew;have n2:x.kind=1:=by simpa using n2
    have ea:S.act steps tries x=(0,S.enter steps x):=by unfold Flo.act;rw[n1];dsimp only;rw[if_pos n2]
    have es:S.step steps tries k x=S.enter steps x:=by unfold Flo.step;rw[ea];exact if_neg (by simp)
    rw[es]at hp I2;have tkN:=fun K=>zje (h:=h) (K:=K) (flB steps tries) steps tries h0 S x n1 n2
    simp only[Ent.pv,Ent.bx]at tkN;have lenE:(S.enter steps x).bs.length=S.bs.length+1:=by unfold Flo.enter;simp
    have tkE:(FS h (flB steps tries) steps tries (S.enter steps x) []).take (h.length+(8+3*(S.bs.length+1)))=FS h (flB steps tries) steps tries (S.enter steps x) []:=by
     have:=aL (h:=h) (flB steps tries) steps tries (S.enter steps x) [] [];rw[lenE]at this;exact this
    have mx:max (h.length+(8+3*S.bs.length)) (h.length+(8+3*(S.bs.length+1)))=h.length+(8+3*(S.bs.length+1)):=by omega
    have tr:∀(x0:Esc) (e:List (Nat×AV)) (H:aA),eD (h.length+(8+3*S.bs.length)) x0 ⟨e,H,[(h.length+1,h.length+(8+3*(S.bs.length+1)))]⟩=⟨dE (h.length+(8+3*(S.bs.length+1))) e,H.take (h.length+(8+3*(S.bs.length+1))),(h.length+1,h.length+(8+3*(S.bs.length+1)))::x0⟩:=fun x0 e H=>by rw[ZZ (by omega),mx]
    have f2:h.length+7+1≤h.length+(8+3*(S.bs.length+1)):=by omega
    simp only[go_sem,hlt,hg,hc,cx,cc,Ent.pv,lenS,app0,gt,st,splice,w1,k7,↓tkN,tkN,tr,tkE,f2];exact⟨(k+1,S.enter steps x),by dsimp only;rw[lenE];rfl,⟨by dsimp only;omega,hp,I2⟩,by dsimp only;omega⟩
   ·have hnew:bI S x=false:=by simpa using hnew
    have tkO:=fun K=>zjh (h:=h) (K:=K) (flB steps tries) steps tries h1 (n:=k) (by omega) S I [x.bx] x hnew
    have lenA:(S.act steps tries x).2.bs.length=S.bs.length:=z7r hnew
    simp only[Ent.pv,Ent.bx]at tkO;obtain⟨_,_,I3,a4,a5⟩:=z0F (tries:=tries) I h0 x;have fr:=I3.fr
    have fw:=I3.fw
    unfold Flo.step at hp I2;generalize S.act steps tries x=R at *;obtain⟨e,S2⟩:=R;dsimp only at *;have tk2:∀(o:Obj),(FS h (flB steps tries) steps tries S2 [o]).take (h.length+(8+3*S.bs.length))=FS h (flB steps tries) steps tries S2 []:=fun o=>by
     have:=aL (h:=h) (flB steps tries) steps tries S2 [] [o];rw[lenA]at this;exact this
    by_cases e0:e=0
    ·rw[if_neg (by simp [e0])]at hp I2
     simp only[go_sem,hlt,hg,hc,cx,cc,Ent.pv,lenS,app0,gt,st,splice,w1,k7,↓tkO,tkO,eq_true e0,tk2,f1];exact⟨(k+1,S2),by dsimp only;rw[lenA],⟨by dsimp only;omega,hp,I2⟩,by dsimp only;omega⟩
    ·rw[if_pos e0]at hp I2
     obtain⟨bs2,sm2,ck2,ends2,runs2,ref2,why2⟩:=S2;dsimp only at *;have m1:ref2.length+1≤JA:=by unfold JA;omega
     have m2:why2.length+1≤JA:=by unfold JA;omega
     have e5:=fun n o m=>esc7 h 5 n o m (by decide)
     have e6:=fun n o m=>esc7 h 6 n o m (by decide)
     have tkF:∀(o0 o1 o2 o3 o4 o5 o6 o7 b:Obj),(FH h o0 o1 o2 o3 o4 o5 o6 o7 (TA bs2) [b]).take (h.length+(8+3*S.bs.length))=FH h o0 o1 o2 o3 o4 o5 o6 o7 (TA bs2) []:=fun o0 o1 o2 o3 o4 o5 o6 o7 b=>by
      have:=qN (h:=h) (o0:=o0) (o1:=o1) (o2:=o2) (o3:=o3) (o4:=o4) (o5:=o5) (o6:=o6) (o7:=o7) (B:=TA bs2) (l:=[b]) 0;rw[XC,lenA]at this;exact this
     have eS:∀l,FS h (flB steps tries) steps tries ⟨bs2,sm2,ck2,ends2,runs2,ref2,why2⟩ l=FH h (flB steps tries) (FA PV.str bD (bC (h.length+8) bs2)) (uC sm2 ck2) (.row (some 5) (ends2.map EndP.pv) 0) (.row (some 3) (runs2.map RunP.pv) 0) (.row none (ref2.map eI) 0) (.row none (why2.map eI) 0)
      (.box [nC steps,AI tries,.mp (h.length+1),.mp (h.length+2),.own (h.length+3) ends2.length 0 ends2.length,.own (h.length+4) runs2.length 0 runs2.length,.own (h.length+5) ref2.length 0 ref2.length,.own (h.length+6) why2.length 0 why2.length]) (TA bs2) l:=fun l=>rfl
     simp only[eS]at tkO;simp only[go_sem,hlt,hg,hc,cx,cc,Ent.pv,lenS,app0,gt,st,splice,w1,k7,↓tkO,tkO,e0,tkF,f1,m1,m2,e5,e6];refine⟨(k+1,⟨bs2,sm2,ck2,ends2,runs2,ref2++[(k:Int)],why2++[e]⟩),?_,⟨by dsimp only;omega,hp,I2⟩,by dsimp only;omega⟩
     dsimp only;rw[lenA];unfold FS wbx;simp only[List.map_append,List.length_append,List.map_cons,List.map_nil,List.length_cons,List.length_nil,Nat.zero_add]
 ·have ek:k=l.length:=by omega
  subst ek;rw[show(KE l).drop l.length=[] from List.drop_of_length_le (by rw[tS];exact Nat.le_refl _)]at hp
  unfold Flo.go at hp;subst hp;have fl:h.length+7+1≤(FS h (flB steps tries) steps tries S []).length:=by rw[CS];omega
  simp only[go_sem,Nat.lt_irrefl,fl];refine zir (n:=S.bs.length) (H:=FS h (flB steps tries) steps tries S []) rfl (CS (flB steps tries) steps tries S []) _ ⟨h,rfl,rfl⟩ ?_;exact⟨rfl,rfl,rfl⟩
end Go.Am
end
section
/- Flows;what is refused;the status of a board: the program. -/
open Go
set_option linter.all false
set_option maxRecDepth 100000
namespace Go.Am
variable {h:aA} {K:jA}
attribute [-go_sem] tB QA UA gC
attribute [local go_sem] rD nE JD KD oE NE pE qE rE OE PE QE RE SE TE UE
def YH:List Nm→List Nm→Int
 | _,[]=>0
 | pre,s::r=>if PA s=false then 5 else if pre.contains s=true then 6 else YH (pre++[s]) r
def LJ (steps:List Nm)(tries:Int):Int:=if steps.length=0 then 8 else if(20:Int)<steps.length then 2 else if YH [] steps≠0 then YH [] steps else if inB 1 tries 10=false then 1 else 0
attribute [-go_sem] wW
theorem zi2 (steps:List Nm)(tries:Int)(hl:steps.length≤1000)(hk:∀ s∈steps,s.length≤1000000):bA X zJ [SF steps tries] h K=K (AI (LJ steps tries)) h []:=by
 refine rule ?_;rw[z9n rfl];unfold LJ;by_cases h0:steps.length=0
 ·have h0':(steps.length:Int)=0:=by omega
  simp only[YI,go_sem,eq_true h0',h0]
 have h0':¬(steps.length:Int)=0:=by omega
 by_cases h1:(20:Int)<steps.length
 ·simp only[YI,go_sem,h0',h0,h1]
 simp only[YI,go_sem,h0',h0,h1];refine SA (fun k:Nat=>⟨[(1,.ref h.length 0),(16,nC steps),(17,AI steps.length),(18,AI k)],h++[.box [nC steps,AI tries]],[]⟩) (fun k=>k≤steps.length∧YH (steps.take k) (steps.drop k)=YH [] steps) (fun k=>steps.length-k) 0 rfl ⟨by omega,rfl⟩ ?_
 rintro k ⟨hkl,hp⟩
 rcases Nat.lt_or_ge k steps.length with hlt|hge
 ·have hg:=dB PV.str hlt
  have cw:∀v:List UInt8,BA none 0 (PV.str v)=some (PV.str v):=fun _=>rfl
  have w2:IntKind.i64.wrap ((k:Int)+1)=((k+1:Nat):Int):=yA _ (by omega) (by omega)
  have ky:=fun h K=>fH (h:=h) (K:=K) steps[k] (by have:=hk _ (List.getElem_mem hlt);omega)
  have ct:=fun h K=>pN (h:=h) (K:=K) (steps.take k) (fun h' _=>strS _) steps[k] (by simp;omega)
  have hw:win (steps.map PV.str) 0 k=(steps.take k).map PV.str:=by simp [win,List.map_take]
  have hk2:k≤steps.length:=by omega
  rw[List.drop_eq_getElem_cons hlt,YH]at hp;cases h2:PA steps[k]with
  | false=>
   rw[if_pos h2]at hp;simp only[go_sem,hlt,hg,cw,↓ky,ky,h2];rw[←hp];first|done|rfl
  | true=>
   rw[if_neg (by simp [h2])]at hp
   cases h3:(steps.take k).contains steps[k]with
   | true=>
    rw[if_pos h3]at hp;rw[h3]at ct;simp only[go_sem,hlt,hg,cw,↓ky,ky,h2,hw,hk2,↓ct,ct];rw[←hp];first|done|rfl
   | false=>
    rw[if_neg (by rw[h3];simp),←List.take_succ_eq_append_getElem hlt]at hp
    rw[h3]at ct;simp only[go_sem,hlt,hg,cw,↓ky,ky,h2,hw,hk2,↓ct,ct,w2];exact⟨k+1,rfl,⟨by omega,hp⟩,by omega⟩
 ·have ek:k=steps.length:=by omega
  subst ek;rw[List.drop_length]at hp;have hz:YH [] steps=0:=by rw[←hp];rfl
  rw[if_neg (by simp [hz])]
  simp only[go_sem,Nat.lt_irrefl];rw[wW];cases h4:inB 1 tries 10 with
  | false=>simp only[vL,go_sem,xC,h4];first|done|rfl
  | true=>simp only[vL,go_sem,xC,h4];first|done|rfl
def CM (n:Int):Int:=if FD n=true then 0 else 1
theorem ziS (n:Int):bA X IJ [AI n] h K=K (AI (CM n)) h []:=by
 refine rule ?_;rw[z90 rfl];unfold CM;cases h1:FD n with
 | false=>simp only[xL,go_sem,jE,h1,Bool.false_eq_true]
 | true=>simp only[xL,go_sem,jE,h1]
def BE (steps:List Nm)(tries:Int)(l:List Ent)(at_:Int):Int:=orL [LJ steps tries,eF l,CM at_]
structure StOk (steps:List Nm) (l:List Ent):Prop where
 n:steps.length≤1000
 k:∀s∈steps,s.length≤1000000
 e:∀x∈l,EntOk x
 l:l.length≤1000
theorem z5t (steps:List Nm)(tries:Int)(l:List Ent)(O:StOk steps l)(at_:Int):bA X SG [SF steps tries,mC l,AI at_] h K=K (AI (BE steps tries l at_)) h []:=by
 refine rule ?_;rw[z9t rfl];have q1:=fun h K=>zi2 (h:=h) (K:=K) steps tries O.n O.k
 have q2:=fun h K=>zi1 (h:=h) (K:=K) l O.e (by have:=O.l;omega)
 have q3:=fun h K=>ziS (h:=h) (K:=K) at_
 have q4:=fun h K=>zi4 (h:=h) (K:=K) [LJ steps tries,eF l,CM at_] (by simp)
 simp only[AL,List.map_cons,List.map_nil]at q4;simp only[wP,go_sem,↓q1,q1,↓q2,q2,↓q3,q3,↓q4,q4];rfl
theorem nS {steps:List Nm}{l:List Ent}(O:StOk steps l)(at_:Int):StOk steps (upL l at_):=
 ⟨O.n,O.k,fun x hx=>O.e x (List.mem_of_mem_take hx),by unfold upL;rw[List.length_take];have:=O.l;omega⟩
theorem z3j {steps:List Nm}{tries:Int}{l:List Ent}{at_:Int}(h:BE steps tries l at_=0):steps≠[]:=by
 intro e;subst e;unfold BE at h;have:LJ [] tries=8:=rfl
 rw[this]at h;simp [orL]at h
theorem zis {b i j n m:Nat}{e:Int}{P:jA}{H:aA}{x:Esc}{xs ys:List PV}(hx:∀ y∈x,b≤y.1)(hi:b≤i)(hj:b≤j)(gi:H[i]?=some (.row none xs 0))(gj:H[j]?=some (.row none ys 0))(hn:n=xs.length)(hm:m=ys.length)
 (k:P (.tup [.p (.sl none xs),.p (.sl none ys),AI e]) (H.take b) []):dD false b P (some [.own i n 0 n,.own j m 0 m,AI e]) H x:=by
 subst hn hm;have w1:win xs 0 xs.length=xs:=rF rfl
 have w2:win ys 0 ys.length=ys:=rF rfl
 have r1:rd H (.own i xs.length 0 xs.length)=some (none,xs):=by simp [rd,gi,w1]
 have r2:rd H (.own j ys.length 0 ys.length)=some (none,ys):=by simp [rd,gj,w2]
 rw[DZ (v:=.tup [.p (.sl none xs),.p (.sl none ys),AI e]) hx (by simp [GA,vG,CA,hi,hj,r1,r2]) (by simp [AV.top,AV.tops])]
 exact k
def KK (steps:List Nm)(tries:Int)(l:List Ent)(at_:Int):List Int×List Int×Int:=
 if BE steps tries l at_≠0 then([],[],BE steps tries l at_) else((yC steps tries (upL l at_)).ref,(yC steps tries (upL l at_)).why,0)
set_option maxHeartbeats 4000000 in
theorem zi8 (steps:List Nm)(tries:Int)(l:List Ent)(O:StOk steps l)(at_:Int) :
 bA X BJ [SF steps tries,mC l,AI at_] h K=K (.tup [AL (KK steps tries l at_).1,AL (KK steps tries l at_).2.1,AI (KK steps tries l at_).2.2]) h []:=by
 refine rule ?_;rw[z9p rfl];have q1:=fun h K=>z5t (h:=h) (K:=K) steps tries l O at_
 have q3:=fun h K=>z5y (h:=h) (K:=K) l at_ (by have:=O.l;omega)
 unfold KK;by_cases h0:BE steps tries l at_=0
 case neg=>
  rw[if_pos h0];simp only[wL,go_sem,↓q1,q1,h0];first|done|rfl
 rw[if_neg (by simp [h0])]
 have q4:=fun h K=>z5u (h:=h) (K:=K) steps tries O.n (z3j h0) (upL l at_) (nS O at_).l
 generalize yC steps tries (upL l at_)=F at *;obtain⟨g,hg⟩:∃g,h++[Obj.box [nC steps,AI tries]]=g:=⟨_,rfl⟩;have gl:g.length=h.length+1:=by rw[←hg];simp
 have q5:=fun K=>q4 (h++[Obj.box [nC steps,AI tries]]) K
 have q6:∀K,bA X FF [SF steps tries,mC (upL l at_)] (h++[Obj.box [nC steps,AI tries]]) K=K (.ref (g.length+7) 0) (FS g (flB steps tries) steps tries F []) (DC g F.bs.length):=fun K=>by rw[q5,hg]
 have ex:∀y∈DC g F.bs.length,h.length≤y.1:=fun y hy=>by have:=(bJ hy).1;omega
 unfold FS wbx at q6;simp only[wL,go_sem,↓q1,q1,h0,↓q3,q3,↓q6,q6];refine zis ex (by omega) (by omega) pE qE (by simp) (by simp) ⟨rfl,?_,rfl⟩
 rw[←hg];unfold FH
 rw[List.append_assoc,List.take_left]
end Go.Am
end
section
/- What is jC at once is nothing;refused entries left out: plainly. -/
open Go
set_option linter.all false
set_option maxRecDepth 100000
namespace Go.Am
def gtE (a b:Ent):Prop:=0<AD b a
theorem zH {x y:Int}:0<WA x y↔y<x:=by unfold WA;split <;> (try split) <;> omega
theorem AH {x y:Int}:WA x y=0↔x=y:=by unfold WA;split <;> (try split) <;> omega
theorem ze4 {a b c:Ent}(h1:gtE a b)(h2:gtE b c):gtE a c:=by
 unfold gtE AD at *;have lt1:∀{x y:List UInt8},0<zA x y↔zA y x<0:=fun {x y}=>by rw[jL y x];omega
 by_cases t1:WA b.time a.time=0
 ·rw[if_neg (by simp [t1])]at h1
  have e1:=AH.1 t1
  by_cases t2:WA c.time b.time=0
  ·rw[if_neg (by simp [t2])]at h2
   have e2:=AH.1 t2
   rw[if_neg (by rw[e2,e1];simp [AH])]
   by_cases s1:zA b.site a.site=0
   ·rw[if_neg (by simp [s1])]at h1
    have f1:=KG s1
    by_cases s2:zA c.site b.site=0
    ·rw[if_neg (by simp [s2])]at h2
     have f2:=KG s2
     rw[if_neg (by rw[f2,f1];simp [z16])]
     rw[zH]at *;omega
    ·rw[if_pos s2]at h2
     rw[f1]at s2 h2;rw[if_pos s2];exact h2
   ·rw[if_pos s1]at h1
    by_cases s2:zA c.site b.site=0
    ·have f2:=KG s2
     rw[f2,if_pos s1];exact h1
    ·rw[if_pos s2]at h2
     have q:=nU (lt1.1 h1) (lt1.1 h2)
     have q2:=lt1.2 q
     rw[if_pos (by omega)];exact q2
  ·rw[if_pos t2,zH]at h2
   have:¬WA c.time a.time=0:=fun z=>by have:=AH.1 z;omega
   rw[if_pos this,zH];omega
 ·rw[if_pos t1,zH]at h1
  by_cases t2:WA c.time b.time=0
  ·have e2:=AH.1 t2
   have:¬WA c.time a.time=0:=fun z=>by have:=AH.1 z;omega
   rw[if_pos this,zH];omega
  ·rw[if_pos t2,zH]at h2
   have:¬WA c.time a.time=0:=fun z=>by have:=AH.1 z;omega
   rw[if_pos this,zH];omega
theorem zd7 (p:Option Ent)(x:Ent)(r:List Ent):ZC p (x::r)=(if IB x≠0 then IB x else if(p.elim false fun q=>decide (AD x q≤0))=true then 7 else ZC (some x) r):=by cases p <;> rfl
theorem z2e:∀ (l:List Ent) (p:Option Ent),ZC p l=0↔(∀ x∈l,IB x=0)∧(p.toList++l).Pairwise gtE∨l=[]
 | [],p=>by simp [ZC]
 | x::r,p=>by
  have ih:=z2e r (some x)
  rw[zd7];have ord:((p.elim false fun q=>decide (AD x q≤0))=true)↔¬ ∀q∈p.toList,gtE q x:=by
   cases p with
   | none=>simp
   | some q=>simp [gtE]
  constructor
  ·intro h
   left;by_cases h1:IB x=0
   ·rw[if_neg (by simp [h1])]at h
    by_cases h2:(p.elim false fun q=>decide (AD x q≤0))=true
    ·rw[if_pos h2]at h;exact absurd h (by decide)
    ·rw[if_neg h2]at h
     have h2':∀q∈p.toList,gtE q x:=by
      rw[ord]at h2;exact Classical.not_not.1 h2
     have hr:(x::r).Pairwise gtE:=by
      rcases ih.1 h with⟨_,q⟩|q
      ·exact q
      ·rw[q];exact List.pairwise_singleton ..
     refine⟨fun y hy=>?_,?_⟩
     ·rcases List.mem_cons.1 hy with e|e
      ·rw[e];exact h1
      ·rcases ih.1 h with⟨q,_⟩|q
       ·exact q y e
       ·rw[q]at e;cases e
     ·cases p with
      | none=>exact hr
      | some q=>
       refine List.pairwise_cons.2 ⟨fun y hy=>?_,hr⟩
       have hq:=h2' q (by simp)
       rcases List.mem_cons.1 hy with e|e
       ·rw[e];exact hq
       ·exact ze4 hq ((List.pairwise_cons.1 hr).1 y e)
   ·rw[if_pos h1]at h;exact absurd h h1
  ·intro h
   rcases h with⟨h1,h2⟩|h
   ·have hx:=h1 x (List.mem_cons_self ..)
    rw[if_neg (by simp [hx])]
    have hr:(x::r).Pairwise gtE:=(List.pairwise_append.1 h2).2.1
    have hn:¬(p.elim false fun q=>decide (AD x q≤0))=true:=by
     rw[ord];exact Classical.not_not.2 fun q hq=>(List.pairwise_append.1 h2).2.2 q hq x (List.mem_cons_self ..)
    rw[if_neg hn];exact ih.2 (.inl ⟨fun y hy=>h1 y (List.mem_cons_of_mem _ hy),hr⟩)
   ·cases h
theorem z5R:∀ (l seen:List Ent),pF seen l=false↔(∀ x∈l,∀ o∈seen,WD o x=false)∧l.Pairwise fun o x=>WD o x=false
 | [],seen=>by simp [pF]
 | x::r,seen=>by
  have ih:=z5R r (seen++[x])
  unfold pF;by_cases h:seen.any (fun o=>WD o x)=true
  ·rw[if_pos h]
   constructor
   ·intro q;cases q
   ·rintro⟨q,_⟩
    obtain⟨o,ho,hs⟩:=List.any_eq_true.1 h;rw[q x (List.mem_cons_self ..) o ho]at hs;cases hs
  ·rw[if_neg h,ih,List.pairwise_cons]
   have hs:∀o∈seen,WD o x=false:=by simpa using h
   constructor
   ·rintro⟨q1,q2⟩
    refine⟨fun y hy o ho=>?_,fun y hy=>q1 y hy x (by simp),q2⟩
    rcases List.mem_cons.1 hy with e|e
    ·rw[e];exact hs o ho
    ·exact q1 y e o (by simp [ho])
   ·rintro⟨q1,q2,q3⟩
    refine⟨fun y hy o ho=>?_,q3⟩
    rcases List.mem_append.1 ho with e|e
    ·exact q1 y (List.mem_cons_of_mem _ hy) o e
    ·rw[List.mem_singleton.1 e];exact q2 y hy
theorem zd5 (l:List Ent):eF l=0↔l.length≤2000∧(∀x∈l,IB x=0)∧l.Pairwise gtE∧l.Pairwise fun o x=>WD o x=false:=by
 have e0:ZC none l=0↔(∀x∈l,IB x=0)∧l.Pairwise gtE:=by
  rw[z2e];constructor
  ·rintro (h|h)
   ·exact h
   ·rw[h];simp
  ·intro h;exact .inl h
 have t0:=z5R l []
 unfold eF;constructor
 ·intro h
  split at h
  ·cases h
  rename_i h1;split at h
  ·rename_i h2;exact absurd h h2
  rename_i h2;split at h
  ·cases h
  rename_i h3;have h2':ZC none l=0:=by simpa using h2
  have h3':pF [] l=false:=by simpa using h3
  exact⟨by omega,(e0.1 h2').1,(e0.1 h2').2,(t0.1 h3').2⟩
 ·rintro⟨h1,h2,h3,h4⟩
  rw[if_neg (by omega),if_neg (by simp [e0.2 ⟨h2,h3⟩]),if_neg (by rw[t0.2 ⟨fun _ _ _ h=>(by cases h),h4⟩];simp)]
theorem early {l:List Ent}(hv:∀ x∈l,EntV x)(hf:eF l=0):∀x∈l,x.time≤1000∧x.site≠[122,122]:=fun x hx=>by
 have:=(zdz (zd4 hf x hx)).t;have z:=(hv x hx).z
 exact⟨by omega,z.1⟩
theorem zkx (l:List Ent)(at_:Int)(h:∀ x∈l,x.time≤at_):∀k,k≤l.length→upK l at_ k=k
 | 0,_=>rfl
 | k+1,hk=>by
  unfold upK;have hl:k<l.length:=by omega
  rw[List.getElem?_eq_getElem hl];have:=h _ (List.getElem_mem hl);rw[if_neg (by simp;omega)]
theorem zky {l:List Ent}{at_:Int}(h:∀ x∈l,x.time≤at_):upL l at_=l:=by
 unfold upL;rw[zkx l at_ h _ (Nat.le_refl _),List.take_length]
def EI (l:List Ent):List (Ent×Bool):=l.map fun x=>(x,true)
theorem z1A:∀ (l:List Ent),(∀ x∈l,x.kind≠7)→KE l=EI l
 | [],_=>rfl
 | x::r,h=>by
  have ih:=z1A r (fun y hy=>h y (List.mem_cons_of_mem _ hy))
  unfold KE EI at *;rw[bB];have e:((r.zip (bB r)).any fun y=>y.2&&kN y.1 x)=false:=by
   rw[ih,List.any_map,List.any_eq_false];intro y hy;have:=h y (List.mem_cons_of_mem _ hy);simp [kN,this]
  rw[e,List.zip_cons_cons,List.map_cons,ih];rfl
end Go.Am
end
section
/- A lot whose records are runs: its entries are right,and the program's floor is the plain one. -/
set_option linter.all false
namespace Go.Am
theorem z3i:∀ (l:List Ent) (S:Flo) (i n:Nat),(∀ x∈l,x.kind≠7)→FlI S [tsN] n →
 (Flo.go [tsN] 10 S i (EI l)).P=(goS S.P l).1∧(Flo.go [tsN] 10 S i (EI l)).ref.length=S.ref.length+(goS S.P l).2
 | [],S,i,n,_,_=>⟨rfl,rfl⟩
 | x::r,S,i,n,hk,I=>by
  obtain⟨b1,b2,b3,b4⟩:=VZ (tries:=10) I (by simp) i x
  have hx:=hk x (by simp)
  obtain⟨c1,c2⟩:=z3i r (S.step [tsN] 10 i x) (i+1) (n+1) (fun y hy=>hk y (by simp [hy])) b1
  have e:Flo.go [tsN] 10 S i (EI (x::r))=Flo.go [tsN] 10 (S.step [tsN] 10 i x) (i+1) (EI r):=by
   show(if true=false∨x.kind=7 then _ else _)=_
   rw[if_neg (by simp [hx])]
   rfl
  rw[e];refine⟨by rw[c1,b2];rfl,?_⟩
  rw[c2,b3,b2];show _=_+((goS (rC S.P x).1 r).2+if(rC S.P x).2≠0 then 1 else 0)
  unfold rC;split <;> simp <;> omega
structure EntT (k:Nat) (E:List Ent):Prop where
 len:E.length≤3*k
 ok:∀x∈E,IB x=0
 k7:∀x∈E,x.kind≠7
 t:∀x∈E,0≤x.time∧x.time<10*(k:Int)
 no:∀x∈E,x.no≤E.length
 gt:E.Pairwise fun a b=>a.time<b.time∧a.no<b.no
theorem zd0:EntT 0 []:=⟨by simp,fun x h=>by (cases h),fun x h=>by (cases h),fun x h=>by (cases h),fun x h=>by (cases h),List.Pairwise.nil⟩
theorem zib {n k:Nat}{u:Nm}{new good:Bool}(hu:PA u=true)(hn:n≤1000)(hk:k≤100):∀x∈iC n k u new good,IB x=0∧x.kind≠7:=by
 have ks:PA saN=true:=by decide
 have kt:PA tsN=true:=by decide
 intro x hx;unfold iC at hx;simp only[List.mem_cons,List.not_mem_nil,or_false]at hx;rcases hx with rfl|rfl|rfl
 ·cases new <;> (refine⟨?_,by simp⟩;simp [IB,ks,noB,FD,inB,DM,nN,hu];omega)
 ·refine⟨?_,by simp⟩;simp [IB,ks,noB,FD,inB,DM,nN,hu,kt];omega
 ·cases good <;> (refine⟨?_,by simp⟩;simp [IB,ks,noB,FD,inB,DM,nN,hu];omega)
theorem zd2 {k:Nat}{s:TlS}(T:EntT k s.E)(p:Nm × Bool)(hu:PA p.1=true)(hk:k≤100):EntT (k+1) (EB s k p).E:=by
 unfold EB;by_cases hd:p.1∈s.dn
 ·rw[if_pos hd]
  exact⟨by have:=T.len;omega,T.ok,T.k7,fun x hx=>by have:=T.t x hx;omega,T.no,T.gt⟩
 rw[if_neg hd];dsimp only;generalize (!decide (p.1∈s.en))=new;have ro:=zib (n:=s.E.length) (k:=k) (new:=new) (good:=p.2) hu (by have:=T.len;omega) hk
 have hl:(iC s.E.length k p.1 new p.2).length=3:=rfl
 refine⟨by rw[List.length_append,hl];have:=T.len;omega,fun x hx=>?_,fun x hx=>?_,fun x hx=>?_,fun x hx=>?_,?_⟩
 ·rcases List.mem_append.1 hx with h|h
  ·exact T.ok x h
  ·exact(ro x h).1
 ·rcases List.mem_append.1 hx with h|h
  ·exact T.k7 x h
  ·exact(ro x h).2
 ·rcases List.mem_append.1 hx with h|h
  ·have:=T.t x h;omega
  ·unfold iC at h
   simp only[List.mem_cons,List.not_mem_nil,or_false]at h;rcases h with rfl|rfl|rfl <;> (dsimp only;omega)
 ·rw[List.length_append,hl]
  rcases List.mem_append.1 hx with h|h
  ·have:=T.no x h;omega
  ·unfold iC at h
   simp only[List.mem_cons,List.not_mem_nil,or_false]at h;rcases h with rfl|rfl|rfl <;> (dsimp only;omega)
 ·rw[List.pairwise_append]
  refine⟨T.gt,?_,fun x hx y hy=>?_⟩
  ·unfold iC
   simp only[List.pairwise_cons,List.mem_cons,List.not_mem_nil,or_false,List.Pairwise.nil,and_true];refine⟨fun y hy=>?_,fun y hy=>?_,fun y hy=>by(cases hy)⟩
   ·rcases hy with rfl|rfl <;> (dsimp only;omega)
   ·subst hy;dsimp only;omega
  ·have a:=T.t x hx
   have b:=T.no x hx
   unfold iC at hy;simp only[List.mem_cons,List.not_mem_nil,or_false]at hy;rcases hy with rfl|rfl|rfl <;> (dsimp only;omega)
theorem z2c:∀ (r:List (Nm × Bool)) (k:Nat) (s:TlS),EntT k s.E→(∀ p∈r,PA p.1=true)→k+r.length≤100→EntT (k+r.length) (zC s k r).E
 | [],k,s,T,_,_=>T
 | p::r,k,s,T,h,hk=>by
  have hl:(p::r).length=r.length+1:=rfl
  have:=z2c r (k+1) (EB s k p) (zd2 T p (h p (by simp)) (by omega)) (fun q hq=>h q (by simp [hq])) (by omega)
  rw[hl];have e:k+(r.length+1)=k+1+r.length:=by omega
  rw[e];exact this
theorem zd1 {k:Nat}{E:List Ent}(T:EntT k E)(hk:k≤100):eF E=0:=by
 rw[zd5];refine⟨by have:=T.len;omega,T.ok,T.gt.imp fun {a b} h=>?_,T.gt.imp fun {a b} h=>?_⟩
 ·unfold gtE AD
  have:WA b.time a.time=1:=by unfold WA;rw[if_neg (by omega),if_neg (by omega)]
  rw[this,if_pos (by decide)];decide
 ·unfold WD
  have:¬a.no=b.no:=by omega
  simp [this]
theorem zkb (R:List (Nm × Bool))(hk:R.length≤12)(hu:∀ p∈R,PA p.1=true){s:TlS}(hs:zC ⟨[],[],[]⟩ 0 R=s) :
 InvT R s∧EntT R.length s.E∧eF s.E=0∧(yC [tsN] 10 s.E).ends=(goS W0 s.E).1.ends∧(R.length≤10→(yC [tsN] 10 s.E).ref.length=0) ∧
  LB tsN [] (yC [tsN] 10 s.E).ends=((s.en.filter fun u=>pG R u).length,s.en.length):=by
 have I:=z3M R [] ⟨[],[],[]⟩ zeO
 rw[List.nil_append]at I;have T:=z2c R 0 ⟨[],[],[]⟩ zd0 hu (by omega)
 rw[Nat.zero_add]at T;rw[show([]:List (Nm×Bool)).length=0 from rfl]at I
 rw[hs]at I T;have F:=z3i s.E UG 0 0 T.k7 (flI0 [tsN])
 have e0:UG.P=W0:=rfl
 rw[e0,←z1A s.E T.k7]at F;have he:(yC [tsN] 10 s.E).ends=(goS W0 s.E).1.ends:=congrArg FlP.ends F.1
 refine⟨I,T,zd1 T (by omega),he,fun h=>?_,?_⟩
 ·rw[F.2,I.m0 h];rfl
 ·rw[he]
  obtain⟨p1,p2⟩:=nZ tsN I.nd (goS W0 s.E).1.ends [] I.eb;refine Prod.ext ?_ ?_
  ·rw[p2]
   congr 1
   apply List.filter_congr
   intro u _;rw[I.fp];simp
  ·rw[p1]
   dsimp only;congr 1
   rw[List.filter_eq_self];intro u hu;rw[I.any];simp [hu]
end Go.Am
end
section
/- A lot whose records are runs: first passes are first records. -/
set_option linter.all false
namespace Go.Am
def lC (good:Rec→Bool)(r:List Rec):List (Nm×Bool):=r.map fun y=>(y.unit,good y)
theorem z3t (good:Rec→Bool)(u:Nm):∀r:List Rec,pG (lC good r) u=match ofU r u with|[]=>false|x::_=>good x
 | []=>rfl
 | y::r=>by
  have ih:=z3t good u r
  unfold pG lC ofU at *;rw[List.map_cons,List.find?_cons,List.filter_cons];by_cases h:y.unit=u
  ·simp [h]
  ·simp only[h,decide_false]
   exact ih
theorem zka (l:List Lim)(r:List Rec)(good:Rec→Bool){s:TlS}(I:InvT (lC good r) s) :
 s.en.length=(PB l 1 r).length∧(s.en.filter fun u=>pG (lC good r) u).length=(PB l 1 r).countP good:=by
 have hp:s.en.Perm (AG r):=by
  refine(List.perm_ext_iff_of_nodup I.nd ((z5V r).imp fun {a b} h e=>?_)).2 fun u=>?_
  ·subst e;have:=MM.refl a;omega
  ·rw[I.en,mS]
   unfold lC;rw[List.map_map,List.mem_map];exact⟨fun⟨x,h1,h2⟩=>⟨x,h1,h2⟩,fun⟨x,h1,h2⟩=>⟨x,h1,h2⟩⟩
 have e:=zdZ l (rule:=1) (by omega) r
 refine⟨by rw[hp.length_eq,e,List.length_map],?_⟩
 rw[(hp.filter _).length_eq,e,List.countP_map,←List.countP_eq_length_filter];apply List.countP_congr
 intro u hu;have hn:=zgw hu
 rw[z3t];have ec:(good ∘ fun u=>yF l 1 (ofU r u)) u=good ((ofU r u).headD JK):=by unfold yF;simp
 rw[ec];cases ho:ofU r u with
 | nil=>exact absurd ho hn
 | cons x t=>simp [ho]
end Go.Am
end
section
/- A lot whose records are runs: an entry is added. -/
open Go
set_option linter.all false
set_option maxRecDepth 100000
namespace Go.Am
variable {h:aA} {K:jA}
attribute [-go_sem] tB
def VB (E:List Ent)(x:Ent):List Ent:=E++[{ x with site:=saN,no:=E.length+1 }]
theorem gH (E:List Ent)(x:Ent)(o0 o1:Obj)(t:aA)(hl:E.length≤1000) :
 bA X sJ [.p x.pv,.ref 3 0] (o0::o1 :: .row (some 8) (E.map Ent.pv) 0 :: .box [.own 2 E.length 0 E.length]::t) K=K (.tup []) (o0::o1 :: .row (some 8) ((VB E x).map Ent.pv) 0 :: .box [.own 2 (VB E x).length 0 (VB E x).length]::t) []:=by
 refine rule ?_;rw[z9a rfl];have w1:IntKind.i64.wrap ((E.length:Int)+1)=(E.length:Int)+1:=yA _ (by omega) (by omega)
 have m1:E.length+1≤JA:=by unfold JA;omega
 have e:mB 3 (.own 2 (E.length+1) 0 (E.length+1))=[]:=by simp [mB,AV.top]
 have et:∀o:Obj,(o0::o1 :: .row (some 8) ((VB E x).map Ent.pv) 0 :: .box [.own 2 (E.length+1) 0 (E.length+1)]::(t++[o])).take (t.length+1+1+1+1)=o0::o1 :: .row (some 8) ((VB E x).map Ent.pv) 0 :: .box [.own 2 (E.length+1) 0 (E.length+1)]::t:=fun o=>by simp
 have ea:E.map Ent.pv++[PV.agg [.str saN,eI ((E.length:Int)+1),eI x.time,eI x.kind,.str x.board,.str x.step,.str x.of,eI x.other]]=(VB E x).map Ent.pv:=by unfold VB;rw[List.map_append];rfl
 have el:(VB E x).length=E.length+1:=by simp [VB]
 simp only[eI,saN]at ea;simp only[jP,Ent.pv,eI,go_sem,splice,w1,m1,List.length_map,e,ea,et,el]
end Go.Am
end
section
/- Maps from numbers tov numbers. -/
open Go
set_option linter.all false
namespace Go.Am
attribute [-go_sem] QA UA
end Go.Am
end
section
/- Products of fractions by prime factors: plain numbers. -/
set_option linter.all false
namespace Go.Am
end Go.Am
end
section
/- The product of fractions,the program's way: counting the prime factors. -/
open Go
set_option linter.all false
namespace Go.Am
variable {h:aA} {K:jA}
attribute [-go_sem] QA UA DE EE
end Go.Am
end
section
/- The product of fractions,the program's way. -/
open Go
set_option linter.all false
namespace Go.Am
variable {h:aA} {K:jA}
attribute [-go_sem] QA UA DE EE
end Go.Am
end
section
/- The product of fractions,the reference's way. -/
open Go
set_option linter.all false
namespace Go.Am
variable {h:aA} {K:jA}
attribute [-go_sem] QA UA DE EE
variable {N:Nat}
end Go.Am
end
section
/- Parts raw and in lowest terms: the same product. -/
set_option linter.all false
namespace Go.Am
end Go.Am
end
section
/- Units counted: bins,tests,recovered units,sites;both ways yield the same. Plain lists. -/
set_option linter.all false
namespace Go.Am
def kB (l:List Lim)(x:Rec):Int:=GI l (WB l x.res)
def nBin (l:List Lim)(rule:Int)(r:List Rec)(b:Int):Nat:=(PB l rule r).countP fun x=>decide (kB l x=b)
end Go.Am
end
section
/- Deleting values: printed by program. -/
open Go
set_option linter.unusedSimpArgs false
namespace Go.Am
attribute [-go_sem] PV.cells splice
variable {h:aA} {K:jA}
end Go.Am
end
section
/- Plain lists: the narrowest window of a sorted list,and the narrowest of all pairs that leave few values outside. -/
namespace Go.Am
end Go.Am
end
section
/- Values of a test;limits asv narrow asv can be: package lot. -/
open Go
set_option linter.unusedSimpArgs false
namespace Go.Am
variable {h:aA} {K:jA}
def ordB (x:Rec):Option Rec→Bool
 | some q=>decide (wC x q≤0)
 | none=>false
theorem zic {l:List Lim}{p:Option Rec}{x:Rec}{r:List Rec}:mF l p (x::r)=if TB l x≠0 then TB l x else if ordB x p=true then 7 else mF l (some x) r:=by cases p <;> rfl
theorem z4G {l:List Lim}:∀{r:List Rec} {p:Option Rec},mF l p r=0→∀x∈r,TB l x=0
 | [],_,_,x,hx=>by cases hx
 | y::r,p,h,x,hx=>by
  rw[zic]at h;by_cases h1:TB l y=0
  ·rw[if_neg (by simp [h1])]at h
   by_cases h2:ordB y p=true
   ·rw[if_pos h2]at h
    exact absurd h (by decide)
   ·rw[if_neg h2]at h
    rcases List.mem_cons.1 hx with rfl|hx
    ·exact h1
    ·exact z4G h x hx
  ·rw[if_pos h1]at h
   exact absurd h h1
theorem AZ {l:List Lim}{r:List Rec}(h:JC l r=0):∀x∈r,TB l x=0:=by
 unfold JC ZM at h;split at h
 ·rename_i h1;exact absurd h h1
 ·split at h
  ·cases h
  ·exact z4G h
end Go.Am
end
section
/- Retests: which record of a unit counts,asv the program finds it. -/
open Go
set_option linter.all false
namespace Go.Am
variable {h:aA} {K:jA}
theorem ziK (a b:Rec):bA X jJ [.p a.pv,.p b.pv] h K=K (AI (QF a b)) h []:=by
 refine rule ?_;rw[z8z rfl];simp only[FO,Rec.pv,go_sem,aN];rfl
def cH (ru:Int):Int:=if 1≤ru∧ru≤3 then 0 else 4
theorem zja (l:List Lim)(r:List Rec)(ru:Int)(hl:LimOk l)(hr:∀ x∈r,RecOk x)(hn:r.length≤1000000):bA X PL [LA l,eC r,AI ru] h K=K (AI (orL [JC l r,cH ru])) h []:=by
 refine rule ?_;rw[z87 rfl];have q:=fun h K=>zi3 (h:=h) (K:=K) l r hl hr hn
 by_cases h1:JC l r=0
 ·by_cases h2:1≤ru∧ru≤3
  ·have e:inB 1 ru 3=true:=by simp [inB,h2]
   simp only[UI,go_sem,q,h1,xC,e,orL,cH,h2]
  ·have e:inB 1 ru 3=false:=by simp only[inB];simp;omega
   simp only[UI,go_sem,q,h1,xC,e,orL,cH,h2]
 ·simp only[UI,go_sem,q,h1,orL]
def qF (out:List Rec):List (List UInt8×Int):=out.zipIdx.map fun y=>(y.1.unit,(y.2:Int))
theorem z5U {u:List UInt8}:∀(out:List Rec) (n:Nat),EA u ((out.zipIdx n).map fun y=>(y.1.unit,(y.2:Int)))=if VA u out<out.length then some ((n+VA u out:Nat):Int) else none
 | [],n=>by simp [EA,VA]
 | o::out,n=>by
  simp only[List.zipIdx_cons,List.map_cons,EA];by_cases hu:u=o.unit
  ·have e:VA u (o::out)=0:=by simp [VA,List.findIdx_cons,hu]
   rw[if_pos hu,e];simp
  ·have e:VA u (o::out)=VA u out+1:=by
    have:¬o.unit=u:=fun h=>hu h.symm
    simp [VA,List.findIdx_cons,this]
   rw[if_neg hu,z5U out (n+1),e];simp only[List.length_cons,Nat.add_lt_add_iff_right];split
   ·congr 2;omega
   ·rfl
theorem z0b {u:List UInt8}(out:List Rec):EA u (qF out)=if VA u out<out.length then some ((VA u out:Nat):Int) else none:=by
 have:=z5U (u:=u) out 0;simpa [qF] using this
theorem zkv {out:List Rec}{x:Rec}(h:¬ VA x.unit out<out.length):dC x.unit (out.length:Int) (qF out)=qF (out++[x]):=by
 have h1:MB x.unit (qF out)=none:=by
  cases hw:MB x.unit (qF out) with
  | none=>rfl
  | some i=>
   have:=pS hw;rw[z0b,if_neg h]at this;cases this
 rw[mN h1];simp [qF,List.zipIdx_append]
theorem zku {out:List Rec}{i:Nat}{x:Rec}(hi:i<out.length)(h:x.unit=out[i].unit):qF (out.set i x)=qF out:=by
 apply List.ext_getElem?
 intro j;simp only[qF,List.getElem?_map,List.getElem?_zipIdx,List.getElem?_set];by_cases hij:i=j
 ·subst hij
  simp [hi,h]
 ·simp [hij]
def WE (out:List Rec):Obj:=FA PV.str (fun n:Int=>AI n) (qF out)
attribute [-go_sem] QA UA
set_option maxHeartbeats 2000000 in
theorem ziJ (l:List Lim)(ru:Int)(r:List Rec)(hf:∀ x∈r,QB l x.res=true)(hl:l.length≤1000)(hn:r.length≤12):bA X ML [LA l,eC r,AI ru] h K=K (eC (PB l ru r)) h []:=by
 refine rule ?_;rw[z8y rfl];simp only[EO,go_sem];refine SA (fun k:Nat=>⟨[(0,LA l),(2,AI ru),(7,.mp h.length),(8,.own (h.length+1) ((r.take k).foldl (iB l ru) []).length 0 ((r.take k).foldl (iB l ru) []).length),(14,eC r),(15,AI r.length),(16,AI k)],h++[WE ((r.take k).foldl (iB l ru) []),.row (some 4) (((r.take k).foldl (iB l ru) []).map Rec.pv) 0],[]⟩)
  (fun k=>k≤r.length) (fun k=>r.length-k) 0 rfl (by omega) ?_
 intro k hk;rcases Nat.lt_or_ge k r.length with hlt|hge
 ·have hg:=dB Rec.pv hlt
  have cx:BA (some 4) 0 (r[k].pv)=some r[k].pv:=rfl
  have w2:IntKind.i64.wrap ((k:Int)+1)=((k+1:Nat):Int):=yA _ (by omega) (by omega)
  have et:(r.take (k+1)).foldl (iB l ru) []=iB l ru ((r.take k).foldl (iB l ru) []) r[k]:=by
   rw[List.take_succ_eq_append_getElem hlt,List.foldl_append];rfl
  have hI:=MW l ru (r.take k) [] [] (z2U l ru)
  simp only[List.nil_append]at hI;have hxf:=hf _ (List.getElem_mem hlt)
  generalize (r.take k).foldl (iB l ru) []=out at *;generalize hx:r[k]=x at *;have ho:out.length≤12:=by have:=hI.le;simp at this;omega
  have hoff:∀o∈out,QB l o.res=true:=fun o hm=>hf o (List.mem_of_mem_take (hI.mem o hm))
  by_cases hp:VA x.unit out<out.length
  ·have lk:∀(hp:aA) (z:AV),hp[h.length]?=some (WE out)→QA (none,[2]) true z (.mp h.length) (AS x.unit) hp=some (.tup [AI (VA x.unit out),AB true]):=fun hp' z hh=>by
    have:=tG (val:=fun n:Int=>AI n) WG hh (kk:=(none,[2])) jF (ok:=true) (z:=z) (k:=x.unit)
    rw[z0b,if_pos hp]at this;exact this
   have hgo:=dB Rec.pv hp
   have co:BA (some 4) 0 (out[VA x.unit out].pv)=some out[VA x.unit out].pv:=rfl
   have fl:=fun h K=>ZR (h:=h) (K:=K) l out[VA x.unit out] (hoff _ (List.getElem_mem hp)) hl
   have hpu:=qI hp
   have epu:iB l ru out x=out.set (VA x.unit out) (jB l ru out[VA x.unit out] x):=by unfold iB;rw[dif_pos hp]
   have hun:=zku (i:=VA x.unit out) (x:=jB l ru out[VA x.unit out] x) hp (by rw[z0c hpu,hpu])
   have hpx:(VA x.unit out:Int)<out.length:=by omega
   have hset:∀y:Rec,(out.map Rec.pv).set (VA x.unit out) y.pv=(out.set (VA x.unit out) y).map Rec.pv:=fun y=>by rw[List.map_set]
   have hself:out.set (VA x.unit out) out[VA x.unit out]=out:=List.set_getElem_self hp
   have st:=gS (sh:=some 4) (x:=x.pv) (y:=(out[VA x.unit out]).pv) rfl rfl
   generalize VA x.unit out=p at *;generalize hop:out[p]=o at *;have fin:∀y:Rec,jB l ru o x=y→∃u,(⟨[(0,LA l),(2,AI ru),(7,AV.mp h.length),(8,AV.own (h.length+1) out.length 0 out.length),(14,eC r),(15,AI r.length),(16,AI ((k+1:Nat):Int))],h++[WE out,Obj.row (some 4) ((out.set p y).map Rec.pv) 0],[]⟩:St) =
    ⟨[(0,LA l),(2,AI ru),(7,.mp h.length),(8,.own (h.length+1) ((r.take u).foldl (iB l ru) []).length 0 ((r.take u).foldl (iB l ru) []).length),(14,eC r),(15,AI r.length),(16,AI u)],h++[WE ((r.take u).foldl (iB l ru) []),.row (some 4) (((r.take u).foldl (iB l ru) []).map Rec.pv) 0],[]⟩∧u≤r.length∧r.length-u<r.length-k:=fun y hy=>by
    refine⟨k+1,?_,by omega,by omega⟩
    simp only[et,epu,hy,List.length_set];rw[←hy];unfold WE;rw[hun]
   simp only[Rec.pv]at hg cx hgo co fl lk hset st;by_cases r2:ru=2
   ·have e:jB l ru o x=x:=by simp [jB,r2]
    have f1:h.length+2≤h.length+2:=by omega
    simp only[go_sem,hlt,hg,cx,lk,r2,hp,hgo,co,st,hset,w2];rw[←r2];exact fin x e
   ·by_cases r3:ru=3
    ·by_cases hb:0≤WB l o.res
     ·have e:jB l ru o x=x:=by simp [jB,r3,bE,hb]
      simp only[go_sem,hlt,hg,cx,lk,r2,r3,hp,hgo,co,st,hset,w2,fl,hb];rw[←r3];exact fin x e
     ·have e:jB l ru o x=o:=by simp [jB,r3,bE,hb]
      simp only[go_sem,hlt,hg,cx,lk,r2,r3,hp,hgo,co,st,hset,w2,fl,hb];rw[←r3];have:=fin o e;rw[hself]at this;exact this
    ·have e:jB l ru o x=o:=by simp [jB,r2,r3]
     simp only[go_sem,hlt,hg,cx,lk,r2,r3,hp,hgo,co,st,hset,w2,fl];have:=fin o e;rw[hself]at this;exact this
  ·have lk:∀(hp:aA),hp[h.length]?=some (WE out)→QA (none,[2]) true (AI 0) (.mp h.length) (AS x.unit) hp=some (.tup [AI 0,AB false]):=fun hp' hh=>by
    have:=tG (val:=fun n:Int=>AI n) WG hh (kk:=(none,[2])) jF (ok:=true) (z:=AI 0) (k:=x.unit)
    rw[z0b,if_neg hp]at this;exact this
   have ud:∀(hp:aA),hp[h.length]?=some (WE out)→UA (none,[2]) (.mp h.length) (AS x.unit) (AI out.length) hp=some (.und,hp.set h.length (WE (out++[x])),[]):=fun hp' hh=>by
    have:=OJ (val:=fun n:Int=>AI n) WG hh (kk:=(none,[2])) jF (k:=x.unit) (v:=(out.length:Int)) rfl
    rw[zkv hp]at this;exact this
   have epu:iB l ru out x=out++[x]:=by unfold iB;rw[dif_neg hp]
   have hmx:out.length+1≤JA:=by unfold JA;omega
   have ems:out.map Rec.pv++[PV.agg [.str x.unit,eI x.time,.str x.site,.sl none (x.res.map eI)]]=(out++[x]).map Rec.pv:=by simp [Rec.pv]
   simp only[Rec.pv]at hg cx;simp only[go_sem,hlt,hg,cx,lk,ud,w2,hmx];refine⟨k+1,?_,by omega,by omega⟩
   simp only[et,epu,ems,List.length_append,List.length_cons,List.length_nil]
 ·have ek:k=r.length:=by omega
  subst ek;rw[List.take_length];have eo:(r.foldl (iB l ru) []).length≤r.length:=(nM l ru r).le
  show _
  have hfl:PB l ru r=ZB (ltO QF) (r.foldl (iB l ru) []):=rfl
  rw[hfl];generalize r.foldl (iB l ru) []=out at *;have so:=fun K=>z6B (h:=h++[WE out,Obj.row (some 4) (out.map Rec.pv) 0]) (K:=K) (h.length+1) (out.map Rec.pv) zZ (by simp;omega) (by simp) (g:=jJ) (caps:=[]) (c:=fun x y=>QF (SC x) (SC y))
   (fun o x hx y hy K=>by
    obtain⟨p,_,rfl⟩:=List.mem_map.1 hx;obtain⟨q,_,rfl⟩:=List.mem_map.1 hy;dsimp only;rw[xI,xI];exact ziK p q)
  have em:ZB (ltC fun x y=>QF (SC x) (SC y)) (out.map Rec.pv)=(ZB (ltO QF) out).map Rec.pv:=zeW Rec.pv (fun x y=>by simp only[ltC,ltO,xI]) _
  rw[em]at so;have il:=dX (ltO QF) out
  generalize ZB (ltO QF) out=ss at *;simp only[List.length_map]at so;have hw:win (ss.map Rec.pv) 0 out.length=ss.map Rec.pv:=rF (by simp [il])
  have e0:∀o:Obj,(h++[WE out,Obj.row (some 4) (out.map Rec.pv) 0]).set (h.length+1) o=h++[WE out,o]:=fun o=>by rw[List.set_append_right _ _ (by omega)];simp
  simp only[e0]at so;have b1:¬(h.length+1<h.length):=by omega
  have b2:h.length≤h.length+1:=by omega
  simp only[go_sem,Nat.lt_irrefl,so,il,hw,b1,b2]
end Go.Am
end
section
/- Finding and deleting records,strings: printed by program. -/
open Go
set_option linter.unusedSimpArgs false
namespace Go.Am
attribute [-go_sem] PV.cells splice
variable {h:aA} {K:jA}
attribute [-go_sem] AV.cells cut
attribute [go_sem] AV.cells cut
end Go.Am
end
section
/- Units,and the record of each that counts: the reference's way. -/
open Go
set_option linter.all false
namespace Go.Am
variable {h:aA} {K:jA}
end Go.Am
end
section
/- Final bins,both ways. -/
open Go
set_option linter.all false
namespace Go.Am
variable {h:aA} {K:jA}
theorem z3X:∀ {l pre:List Lim},IF pre l=0→∀ x∈l,xM x=false
 | [],_,_,x,hx=>by cases hx
 | y::l,pre,hf,x,hx=>by
  unfold IF at hf;split at hf
  ·cases hf
  ·split at hf
   ·cases hf
   ·split at hf
    ·cases hf
    ·rename_i hb
     rcases List.mem_cons.1 hx with e|e
     ·subst e;simpa using hb
     ·exact z3X hf x e
theorem zfO {l:List Lim}(hf:IC l=0):∀x∈l,2≤x.bin∧x.bin≤100:=by
 unfold IC at hf;split at hf
 ·cases hf
 ·split at hf
  ·cases hf
  ·intro x hx
   have:=z3X hf x hx;unfold xM inB at this;simp at this;omega
theorem z7J {l:List Lim}(hf:IC l=0)(x:Rec):1≤kB l x∧kB l x≤100∧(kB l x=1↔bE l x=false):=by
 have hb:=zfO hf
 unfold kB GI bE;rcases JW l x.res with⟨e,_⟩|⟨k,e,hk,_⟩
 ·rw[e];simp
 ·rw[e]
  have hkl:k<l.length:=by unfold XB at hk;simp at hk;omega
  have:=hb l[k] (List.getElem_mem hkl);rw[if_pos (by omega),Int.toNat_natCast,List.getD_eq_getElem?_getD,List.getElem?_eq_getElem hkl,Option.getD_some]
  refine⟨by omega,by omega,?_⟩
  constructor
  ·intro h;omega
  ·intro h;simp at h
theorem zid {l:List Lim}{r:List Rec}(h:JC l r=0):IC l=0:=by
 unfold JC at h;split at h
 ·rename_i h1;exact absurd h h1
 ·rename_i h1
  by_cases h2:IC l=0
  ·exact h2
  ·exact absurd h2 h1
attribute [-go_sem] QA UA
end Go.Am
end
section
/- Bins,the reference's way. -/
open Go
set_option linter.all false
namespace Go.Am
variable {h:aA} {K:jA}
theorem zab {α:Type}(p:α→Bool)(l:List α)(k:Nat)(hk:k<l.length):(l.take (k+1)).countP p=(l.take k).countP p+if p l[k] then 1 else 0:=by
 rw[List.take_succ_eq_append_getElem hk,List.countP_append];simp [List.countP_cons]
end Go.Am
end
section
/- The yields of all tests together,both ways. -/
open Go
set_option linter.all false
namespace Go.Am
variable {h:aA} {K:jA}
end Go.Am
end
section
/- Yields,both ways. -/
open Go
set_option linter.all false
namespace Go.Am
variable {h:aA} {K:jA}
theorem z3f {l:List Lim}{r:List Rec}{ru:Int}(hz:r.length≠0):0<(PB l ru r).length:=by
 obtain⟨x,hx⟩:=List.exists_mem_of_length_pos (Nat.pos_of_ne_zero hz);have h1:x.unit∈AG r:=mS.2 ⟨x,hx,rfl⟩
 rw[←z2X l ru r]at h1;obtain⟨y,hy,_⟩:=List.mem_map.1 h1;exact List.length_pos_of_mem hy
def YK (l:List Lim)(r:List Rec)(ru:Int):AV:=
 if orL [JC l r,cH ru]≠0 then .tup [.p (.agg [eI 0,eI 0]),AI (orL [JC l r,cH ru])]
 else if r.length=0 then .tup [.p (.agg [eI 0,eI 0]),AI 8]
 else .tup [.p (.agg [eI (low (nBin l ru r 1:Nat) (PB l ru r).length).1,eI (low (nBin l ru r 1:Nat) (PB l ru r).length).2]),AI 0]
theorem ziB (l:List Lim)(r:List Rec)(ru:Int)(hl:LimOk l)(hr:∀ x∈r,RecOk x)(hn:r.length≤12) :
 bA X IL [LA l,eC r,AI ru] h K=K (YK l r ru) h []:=by
 refine rule ?_;rw[z8t rfl];have q1:=fun h K=>zja (h:=h) (K:=K) l r ru hl hr (by omega)
 unfold YK;by_cases he:orL [JC l r,cH ru]=0
 case neg=>
  simp only[SI,go_sem,↓q1,q1,he]
 by_cases hz:r.length=0
 ·simp only[SI,go_sem,↓q1,q1,he,hz]
 have hz':¬((r.length:Int)=0):=by omega
 have hrf:JC l r=0:=by unfold orL at he;split at he <;> simp_all
 have hfm:∀x∈r,QB l x.res=true:=fun x hx=>yZ (AZ hrf x hx)
 have q2:=fun h K=>ziJ (h:=h) (K:=K) l ru r hfm hl.n hn
 have hul:(PB l ru r).length≤12:=by have:=z2W l ru r;omega
 have hps:0<(PB l ru r).length:=z3f hz
 have hmem:∀x∈PB l ru r,QB l x.res=true:=fun x hx=>hfm x (zea hx)
 unfold nBin;simp only[SI,go_sem,↓q1,q1,he,hz,hz',↓q2,q2];generalize PB l ru r=fs at *;refine SA (fun k:Nat=>⟨[(0,LA l),(6,.ref h.length 0),(9,AI ((fs.take k).countP fun x=>decide (kB l x=1):Nat)),(10,eC fs),(32,eC fs),(33,AI fs.length),(34,AI k)],h++[.box [AI 0,AI 0]],[]⟩)
  (fun k=>k≤fs.length) (fun k=>fs.length-k) 0 rfl (by omega) ?_
 intro k hk;rcases Nat.lt_or_ge k fs.length with hlt|hge
 ·have hg:=dB Rec.pv hlt
  have cx:BA (some 4) 0 (fs[k].pv)=some fs[k].pv:=rfl
  have w2:IntKind.i64.wrap ((k:Int)+1)=((k+1:Nat):Int):=yA _ (by omega) (by omega)
  have hum:=List.getElem_mem hlt
  have hcf:=hmem _ hum
  have hct:=zab (fun x:Rec=>decide (kB l x=1)) fs k hlt
  have hcl:(fs.take k).countP (fun x=>decide (kB l x=1))≤(fs.take k).length:=List.countP_le_length
  simp only[List.length_take]at hcl;generalize (fs.take k).countP (fun x=>decide (kB l x=1))=cc at *
  have w5:IntKind.i64.wrap ((cc:Int)+1)=((cc+1:Nat):Int):=yA _ (by omega) (by omega)
  have hbd:=(z7J (zid hrf) fs[k]).2.2
  generalize fs[k]=c at *;have q3:=fun h K=>ZR (h:=h) (K:=K) l c hcf hl.n
  unfold bE at hbd;simp only[Rec.pv]at q3 hg cx;by_cases hp:WB l c.res<0
  ·have hb1:kB l c=1:=hbd.2 (by simp;omega)
   simp only[hb1,decide_true,if_true]at hct;simp only[go_sem,hlt,hg,cx,↓q3,q3,hp,w2,w5];exact⟨k+1,by rw[hct],by omega,by omega⟩
  ·have hb1:¬kB l c=1:=fun e=>by have:=hbd.1 e;simp at this;omega
   simp only[hb1,decide_false,Bool.false_eq_true,if_false,Nat.add_zero]at hct;simp only[go_sem,hlt,hg,cx,↓q3,q3,hp,w2];exact⟨k+1,by rw[hct],by omega,by omega⟩
 ·have ek:k=fs.length:=by omega
  subst ek;rw[List.take_length];have hcl:fs.countP (fun x=>decide (kB l x=1))≤fs.length:=List.countP_le_length
  generalize fs.countP (fun x=>decide (kB l x=1))=cc at *
  have q4:=fun h K=>z5h (h:=h) (K:=K) (cc:Int) (fs.length:Int) (by omega) (by omega)
  simp only[go_sem,Nat.lt_irrefl,↓q4,q4]
theorem zi5 (l:List Lim)(r:List Rec)(hl:LimOk l)(hr:∀ x∈r,RecOk x)(hn:r.length≤12) :
 bA X HL [LA l,eC r] h K=K (YK l r 1) h []:=by
 refine rule ?_;rw[z8s rfl];have q1:=fun h K=>ziB (h:=h) (K:=K) l r 1 hl hr hn
 simp only[CO,go_sem,↓q1,q1];unfold YK;split
 ·simp only[go_sem]
 ·split <;> simp only[go_sem]
end Go.Am
end
section
/- The abstract machine,part K: slices.Sorted(maps.Keys(m)) at a map keyed by strings: its keys,sorted;met by the kit's contract. -/
set_option linter.all false
namespace Go.Am
variable {P:Program} {gl:Nat→Option PV}
end Go.Am
end
section
/- Which boards run,by site: the program. -/
open Go
set_option linter.all false
set_option maxRecDepth 100000
namespace Go.Am
variable {h:aA} {K:jA}
structure SmI (S:Flo) (n:Nat):Prop where
 bn:(S.sm.map (·.2)).Nodup
 bl:∀e∈S.sm,e.2<S.ck
 ln:S.sm.length≤n
 kl:∀e∈S.sm,e.1.1.length≤1000000
theorem smI0:SmI UG 0:=⟨List.nodup_nil,fun e he=>(by cases he),Nat.le_refl _,fun e he=>(by cases he)⟩
theorem SmI.sub {S S':Flo}{n:Nat}(I:SmI S n)(h:S'.sm.Sublist S.sm)(hc:S'.ck=S.ck):SmI S' (n+1):=
 ⟨I.bn.sublist (h.map _),fun e he=>by rw[hc];exact I.bl e (h.subset he),by have:=h.length_le;have:=I.ln;omega,fun e he=>I.kl e (h.subset he)⟩
theorem zah (m:kD)(k:Nm):(yE m k).Sublist m:=by
 unfold yE;split
 ·exact List.eraseIdx_sublist ..
 ·exact List.Sublist.refl _
theorem zj1 {S:Flo}{n:Nat}(I:SmI S n)(steps:List Nm)(tries:Int){x:Ent}(hx:x.site.length≤1000000):SmI (S.act steps tries x).2 (n+1):=by
 have hs:∀i x0 st,SmI (S.start i x0 st x) (n+1):=fun i x0 st=>by
  refine⟨?_,fun e he=>?_,?_,fun e he=>?_⟩
  ·show((S.sm++[((x.site,x.board),S.ck)]).map (·.2)).Nodup
   rw[List.map_append,List.nodup_append];refine⟨I.bn,by simp,fun a ha b hb=>?_⟩
   obtain⟨e,he,rfl⟩:=List.mem_map.1 ha;have:=I.bl e he;simp at hb;omega
  ·show e.2<S.ck+1
   rcases List.mem_append.1 he with he|he
   ·have:=I.bl e he;omega
   ·simp at he;subst he;exact Nat.lt_succ_self _
  ·show(S.sm++_).length≤n+1
   have:=I.ln;simp;omega
  ·rcases List.mem_append.1 he with he|he
   ·exact I.kl e he
   ·simp at he;subst he;exact hx
 unfold Flo.act Flo.old Flo.startR Flo.finishR;repeat' split
 all_goals first|exact hs _ _ _|exact I.sub (List.Sublist.refl _) rfl|exact I.sub (zah _ _) rfl
theorem zj2 {S:Flo}{n:Nat}(I:SmI S n)(steps:List Nm)(tries:Int)(i:Nat){x:Ent}(hx:x.site.length≤1000000):SmI (S.step steps tries i x) (n+1):=by
 have J:=zj1 I steps tries hx
 unfold Flo.step;split
 ·exact⟨J.bn,J.bl,J.ln,J.kl⟩
 ·exact J
theorem SmI.up {S:Flo}{n:Nat}(I:SmI S n):SmI S (n+1):=I.sub (List.Sublist.refl _) rfl
theorem UZ (steps:List Nm)(tries:Int)(h0:steps≠[]):∀(l:List (Ent×Bool)) (S:Flo) (i n:Nat),FlI S steps n→SmI S n→(∀y∈l,y.1.site.length≤1000000) →
 FlI (Flo.go steps tries S i l) steps (n+l.length)∧SmI (Flo.go steps tries S i l) (n+l.length)
 | [],S,i,n,I,J,_=>⟨I,J⟩
 | (x,c)::r,S,i,n,I,J,hx=>by
  have e1:Flo.go steps tries S i ((x,c)::r)=if c=false∨x.kind=7 then Flo.go steps tries S (i+1) r else Flo.go steps tries (S.step steps tries i x) (i+1) r:=rfl
  rw[e1,List.length_cons,show n+(r.length+1)=(n+1)+r.length by omega]
  have hr:=fun y hy=>hx y (List.mem_cons_of_mem (x,c) hy)
  by_cases hs:c=false∨x.kind=7
  ·rw[if_pos hs]
   exact UZ steps tries h0 r S (i+1) (n+1) I.up J.up hr
  ·rw[if_neg hs]
   exact UZ steps tries h0 r _ (i+1) (n+1) (VZ (tries:=tries) I h0 i x).1 (zj2 J steps tries i (hx (x,c) (List.mem_cons_self ..))) hr
theorem flo_I {steps:List Nm}(tries:Int)(h0:steps≠[]){l:List Ent}(hl:∀ x∈l,x.site.length≤1000000):FlI (yC steps tries l) steps l.length∧SmI (yC steps tries l) l.length:=by
 have:=UZ steps tries h0 (KE l) UG 0 0 (flI0 steps) smI0 (fun y hy=>hl y.1 (List.of_mem_zip hy).1)
 rw[tS,Nat.zero_add]at this;exact this
attribute [-go_sem] tB QA UA gC
attribute [local go_sem] rD nE JD KD oE NE pE qE rE OE PE QE RE SE TE UE
end Go.Am
end
section
/- How many boards are in each state: the program. -/
open Go
set_option linter.all false
set_option maxRecDepth 100000
namespace Go.Am
variable {h:aA} {K:jA}
abbrev kC:Int→PV:=fun n=>.int .i64 n
abbrev vC:Int→AV:=fun n=>AI n
attribute [-go_sem] tB QA UA gC DE EE
def GC (h:aA)(steps:List Nm)(tries:Int)(m:List (Int × Int)):aA:=h++[.box [nC steps,AI tries],FA kC vC m]
def HC (h:aA)(steps:List Nm)(tries:Int)(F:Flo)(G:Nat)(m:List (Int × Int))(l:aA):aA:=
 FH (GC h steps tries m) (flB steps tries) (FA PV.str bD (bC (G+8) F.bs)) (uC F.sm F.ck) (.row (some 5) (F.ends.map EndP.pv) 0) (.row (some 3) (F.runs.map RunP.pv) 0) (.row none (F.ref.map eI) 0) (.row none (F.why.map eI) 0)
  (.box [nC steps,AI tries,.mp (G+1),.mp (G+2),.own (G+3) F.ends.length 0 F.ends.length,.own (G+4) F.runs.length 0 F.runs.length,.own (G+5) F.ref.length 0 F.ref.length,.own (G+6) F.why.length 0 F.why.length]) (TA F.bs) l
end Go.Am
end
section
/- Sorting texts by a comparison: printed by program. -/
open Go
set_option linter.unusedSimpArgs false
namespace Go.Am
attribute [-go_sem] PV.cells splice
variable {h:aA} {K:jA}
end Go.Am
end
section
/- For how long a site runs boards,plainly. -/
open Go
set_option linter.all false
set_option maxRecDepth 100000
namespace Go.Am
def CH:Int→Int→List RunP→Prop
 | lo,hi,[]=>lo≤hi
 | lo,hi,r::rest=>lo≤r.frm∧r.frm≤r.til∧0≤r.til∧CH r.til hi rest
theorem z0s:∀ {l:List RunP} {lo hi hi':Int},CH lo hi l→hi≤hi'→CH lo hi' l
 | [],lo,hi,hi',h,g=>by unfold CH at *;omega
 | r::rest,lo,hi,hi',h,g=>⟨h.1,h.2.1,h.2.2.1,z0s h.2.2.2 g⟩
def FE (frm_ til_:Int)(r:RunP):Int:=max 0 (min (if r.til<0 then til_ else r.til) til_-max r.frm frm_)
def iS (rs:List RunP)(busy:Bool)(T:Int):Prop:=if busy then ∃pre r,rs=pre++[r]∧CH 0 r.frm pre∧r.til<0∧0≤r.frm∧r.frm≤T else CH 0 T rs
theorem zjw {rs:List RunP}{busy:Bool}{T T':Int}(h:iS rs busy T)(g:T≤T'):iS rs busy T':=by
 unfold iS at *;cases busy with
 | true=>
  obtain⟨pre,r,a,b,c,d,e⟩:=h;exact⟨pre,r,a,b,c,d,by omega⟩
 | false=>exact z0s h g
def ofS (s:Nm)(l:List RunP):List RunP:=l.filter fun r=>decide (r.site=s)
structure BI (p:FlP) (T:Int):Prop where
 inv:∃q,Inv p q
 st:∀s,iS (ofS s p.runs) (rA p.sites s).isSome T
 si:∀b st,rA p.bs b=some st→0≤st.since∧st.since≤T
 en:∀e∈p.ends,0≤e.frm∧e.frm≤e.til∧e.til≤T
theorem BI.mono {p:FlP}{T T':Int}(h:BI p T)(g:T≤T'):BI p T':=
 ⟨h.inv,fun s=>zjw (h.st s) g,fun b st hb=>by have:=h.si b st hb;omega,fun e he=>by have:=h.en e he;omega⟩
end Go.Am
end
section
/- For how long a site runs boards: the program. -/
open Go
set_option linter.all false
set_option maxRecDepth 100000
namespace Go.Am
variable {h:aA} {K:jA}
attribute [-go_sem] tB QA UA gC
section
variable {fb:Obj} {steps:List Nm} {tries:Int} {S:Flo} {o o':Obj} {l:aA}
theorem FS_g3:(FS h fb steps tries S l)[h.length+3]?=some (.row (some 5) (S.ends.map EndP.pv) 0):=by unfold FS;exact oE
theorem FS_g7:(FS h fb steps tries S l)[h.length+7]?=some (.box [nC steps,AI tries,.mp (h.length+1),.mp (h.length+2),.own (h.length+3) S.ends.length 0 S.ends.length,.own (h.length+4) S.runs.length 0 S.runs.length,.own (h.length+5) S.ref.length 0 S.ref.length,.own (h.length+6) S.why.length 0 S.why.length]):=by unfold FS;exact rE
end
def zG (steps:List Nm)(tries:Int)(l:List Ent)(step:Nm)(at_:Int):Int:=if BE steps tries l at_=0 then(if steps.contains step then 0 else 8) else BE steps tries l at_
theorem zjd (steps:List Nm)(tries:Int)(l:List Ent)(O:StOk steps l)(step:Nm)(at_:Int):bA X iM [SF steps tries,mC l,AS step,AI at_] h K=K (AI (zG steps tries l step at_)) h []:=by
 refine rule ?_;rw[z91 rfl];have q1:=fun h K=>z5t (h:=h) (K:=K) steps tries l O at_
 have ct:=fun h K=>pN (h:=h) (K:=K) steps (fun h' _=>strS _) step (by have:=O.n;omega)
 unfold zG;by_cases h0:BE steps tries l at_=0
 ·rw[if_pos h0]
  cases hc:steps.contains step with
  | true=>
   rw[hc]at ct;simp only[aJ,go_sem,↓q1,q1,h0,↓ct,ct];first|done|rfl
  | false=>
   rw[hc]at ct;simp only[aJ,go_sem,↓q1,q1,h0,↓ct,ct];first|done|rfl
 ·rw[if_neg h0]
  simp only[aJ,go_sem,↓q1,q1,h0]
end Go.Am
end
section
/- Which boards wait for a step: the program,its loop. -/
open Go
set_option linter.all false
set_option maxRecDepth 100000
namespace Go.Am
variable {h:aA} {K:jA}
attribute [-go_sem] tB QA UA gC DE EE
attribute [local go_sem] rD nE JD KD oE NE pE qE rE OE PE QE RE SE TE UE
end Go.Am
end
section
/- Which boards wait for a step,plainly. -/
open Go
set_option linter.all false
namespace Go.Am
end Go.Am
end
section
/- First passes of a step: the program's floor. -/
open Go
set_option linter.all false
set_option maxRecDepth 100000
namespace Go.Am
variable {h:aA} {K:jA}
attribute [-go_sem] tB QA UA gC DE EE
theorem zhM {step:Nm}{seen:List Nm}{E:List EndP}{k:Nat}(hk:k<E.length):LB step seen (E.drop k)=if E[k].step≠step∨E[k].board∈seen then LB step seen (E.drop (k+1)) else
 ((LB step (E[k].board::seen) (E.drop (k+1))).1+(if E[k].pass then 1 else 0),(LB step (E[k].board::seen) (E.drop (k+1))).2+1):=by
 rw[List.drop_eq_getElem_cons hk];rfl
theorem FR (step:Nm):∀(seen:List Nm) (E:List EndP),(LB step seen E).1≤(LB step seen E).2∧(LB step seen E).2≤E.length
 | seen,[]=>⟨Nat.le_refl _,Nat.le_refl _⟩
 | seen,e::r=>by
  unfold LB;split
  ·have:=FR step seen r
   rw[List.length_cons];omega
  ·have:=FR step (e.board::seen) r
   rw[List.length_cons];dsimp only;split <;> omega
set_option maxHeartbeats 4000000 in
theorem ziP (h:aA){q i:Nat}{a0 a1 a2 a3 a5 a6 a7:AV}(E:List EndP)(hq:h[q]?=some (.box [a0,a1,a2,a3,.own i E.length 0 E.length,a5,a6,a7]))(hi:h[i]?=some (.row (some 5) (E.map EndP.pv) 0))(hn:E.length≤1000)(step:Nm) :
 bA X fM [.ref q 0,AS step] h K=K (.tup [AI (LB step [] E).1,AI (LB step [] E).2]) h []:=by
 refine rule ?_;rw[z9x rfl];have il2:i≤h.length:=by have:=(List.getElem?_eq_some_iff.1 hi).1;omega
 have ql:q<h.length:=(List.getElem?_eq_some_iff.1 hq).1
 have il:i<h.length:=(List.getElem?_eq_some_iff.1 hi).1
 have gq:∀l:aA,(h++l)[q]?=some (.box [a0,a1,a2,a3,.own i E.length 0 E.length,a5,a6,a7]):=fun l=>by rw[List.getElem?_append_left ql,hq]
 have gi:∀l:aA,(h++l)[i]?=some (.row (some 5) (E.map EndP.pv) 0):=fun l=>by rw[List.getElem?_append_left il,hi]
 simp only[zP,go_sem,gq];refine SA (fun t:Nat×Nat×Nat×List (Nm×Bool)=>⟨[(1,AS step),(4,AI t.2.1),(5,AI t.2.2.1),(6,.mp h.length),(13,.own i E.length 0 E.length),(14,AI E.length),(15,AI t.1)],h++[FA PV.str rB t.2.2.2],[]⟩)
  (fun t=>t.1≤E.length∧∃seen,(∀b,(EA b t.2.2.2).getD false=decide (b∈seen))∧(LB step [] E).1=t.2.1+(LB step seen (E.drop t.1)).1∧(LB step [] E).2=t.2.2.1+(LB step seen (E.drop t.1)).2) (fun t=>E.length-t.1) (0,0,0,[]) rfl ⟨Nat.zero_le _,[],fun b=>rfl,by simp,by simp⟩ ?_
 rintro⟨k,g,a,M⟩ ⟨hk,seen,hs,e1,e2⟩
 dsimp only at hk hs e1 e2 ⊢;have pl:=FR step [] E
 rcases Nat.lt_or_ge k E.length with hlt|hge
 ·rw[zhM hlt]at e1 e2
  have wk:IntKind.i64.wrap ((k:Int)+1)=((k+1:Nat):Int):=yA _ (by omega) (by omega)
  have hg:=dB EndP.pv hlt
  have hl:(E.map EndP.pv).length=E.length:=List.length_map ..
  have cx:BA (some 5) 0 (EndP.pv E[k])=some (EndP.pv E[k]):=rfl
  have fp:∀r:EndP,EndP.pv r = .agg [.str r.board,.str r.step,eI r.frm,eI r.til,.bool r.pass]:=fun _=>rfl
  generalize E[k]=r at *;have lk:=fun(hp:aA) (e:hp[h.length]?=some (FA PV.str rB M))=>tG (kk:=(none,[2])) (k:=r.board) WG e jF (ok:=false) (z:=rB false)
  have up:=fun(hp:aA) (e:hp[h.length]?=some (FA PV.str rB M))=>OJ (kk:=(none,[2])) (k:=r.board) WG e jF (v:=true) (val:=rB) rfl
  have eg:((EA r.board M).map rB).getD (rB false)=AB (decide (r.board∈seen)):=by
   rw[←hs r.board];cases EA r.board M <;> rfl
  have g0:∀o:Obj,(h++[FA PV.str rB M,o])[h.length]?=some (FA PV.str rB M):=fun o=>by rw[List.getElem?_append_right (Nat.le_refl _)];simp
  have s0:∀o o':Obj,(h++[o,o']).set h.length=fun z=>h++[z,o']:=fun o o'=>by funext z;rw[List.set_append_right _ _ (Nat.le_refl _)];simp
  have lk2:=fun o=>lk _ (g0 o)
  have up2:=fun o=>up _ (g0 o)
  simp only[cond_false,eg,s0]at lk2 up2;have eb:mB h.length (rB true)=[]:=rfl
  rw[eb]at up2;simp only[rB]at lk2 up2;by_cases es:r.step=step
  ·by_cases em:r.board∈seen
   ·rw[if_pos (.inr em)]at e1 e2
    simp only[go_sem,il2,hlt,hg,hl,cx,fp,gi,splice,wk,eq_true es,lk2,em,decide_true];exact⟨(k+1,g,a,M),rfl,⟨by dsimp only;omega,seen,hs,e1,e2⟩,by dsimp only;omega⟩
   ·rw[if_neg (by simp [es,em])]at e1 e2
    dsimp only at e1 e2;have wa:IntKind.i64.wrap ((a:Int)+1)=((a+1:Nat):Int):=yA _ (by omega) (by omega)
    have wg:IntKind.i64.wrap ((g:Int)+1)=((g+1:Nat):Int):=yA _ (by omega) (by omega)
    have hs2:∀b,(EA b (dC r.board true M)).getD false=decide (b∈r.board::seen):=fun b=>by
     rw[YW];by_cases hb:b=r.board
     ·simp [hb]
     ·rw[if_neg hb,hs b];simp [hb]
    cases ep:r.pass with
    | true=>
     rw[ep]at e1;simp only[go_sem,il2,hlt,hg,hl,cx,fp,gi,splice,wk,eq_true es,lk2,em,decide_false,up2,wa,wg,ep];exact⟨(k+1,g+1,a+1,dC r.board true M),rfl,⟨by dsimp only;omega,r.board::seen,hs2,by dsimp only;simp at e1;omega,by dsimp only;omega⟩,by dsimp only;omega⟩
    | false=>
     rw[ep]at e1;simp only[go_sem,il2,hlt,hg,hl,cx,fp,gi,splice,wk,eq_true es,lk2,em,decide_false,up2,wa,wg,ep];exact⟨(k+1,g,a+1,dC r.board true M),rfl,⟨by dsimp only;omega,r.board::seen,hs2,by dsimp only;simp at e1;omega,by dsimp only;omega⟩,by dsimp only;omega⟩
  ·rw[if_pos (.inl es)]at e1 e2
   simp only[go_sem,il2,hlt,hg,hl,cx,fp,gi,splice,wk,es];exact⟨(k+1,g,a,M),rfl,⟨by dsimp only;omega,seen,hs,e1,e2⟩,by dsimp only;omega⟩
 ·have ek:k=E.length:=by omega
  subst ek;rw[List.drop_length]at e1 e2;have z:LB step seen []=(0,0):=rfl
  rw[z]at e1 e2;dsimp only at e1 e2;simp only[Nat.add_zero]at e1 e2;rw[e1,e2];simp only[go_sem,Nat.lt_irrefl]
end Go.Am
end
section
/- The first-pass yield of a step: the program. -/
open Go
set_option linter.all false
set_option maxRecDepth 100000
namespace Go.Am
variable {h:aA} {K:jA}
attribute [-go_sem] tB QA UA gC DE EE
def oZ (p:Nat × Nat):(Int×Int)×Int:=if p.2=0 then((0,0),8) else(low p.1 p.2,0)
def MF (steps:List Nm)(tries:Int)(l:List Ent)(step:Nm)(at_:Int):(Int×Int)×Int:=
 if zG steps tries l step at_≠0 then((0,0),zG steps tries l step at_) else oZ (LB step [] (yC steps tries (upL l at_)).ends)
theorem zeg (steps:List Nm)(tries:Int)(h0:steps≠[]){l:List Ent}(hl:∀ x∈l,x.site.length≤1000000):(yC steps tries l).ends.length≤l.length:=by
 exact(flo_I tries h0 hl).1.el
set_option maxHeartbeats 4000000 in
theorem zi6 (steps:List Nm)(tries:Int)(l:List Ent)(O:StOk steps l)(step:Nm)(at_:Int) :
 bA X AJ [SF steps tries,mC l,AS step,AI at_] h K=K (.tup [.p (.agg [eI (MF steps tries l step at_).1.1,eI (MF steps tries l step at_).1.2]),AI (MF steps tries l step at_).2]) h []:=by
 refine rule ?_;rw[z9o rfl];have q1:=fun h K=>zjd (h:=h) (K:=K) steps tries l O step at_
 have q3:=fun h K=>z5y (h:=h) (K:=K) l at_ (by have:=O.l;omega)
 unfold MF;by_cases h0:zG steps tries l step at_=0
 case neg=>
  rw[if_pos h0];simp only[ZI,go_sem,↓q1,q1,h0,splice];first|done|rfl
 rw[if_neg (by simp [h0])]
 have hst:steps≠[]:=by
  unfold zG at h0;by_cases h1:BE steps tries l at_=0
  ·exact z3j h1
  ·rw[if_neg h1]at h0;exact absurd h0 h1
 have q4:=fun h K=>z5u (h:=h) (K:=K) steps tries O.n hst (upL l at_) (nS O at_).l
 have hen:=zeg steps tries hst (l:=upL l at_) (fun x hx=>((nS O at_).e x hx).s)
 have hn:=(nS O at_).l
 generalize yC steps tries (upL l at_)=F at *;obtain⟨g,hg⟩:∃g,h++[Obj.box [nC steps,AI tries],.box [AI 0,AI 0]]=g:=⟨_,rfl⟩;have gl:g.length=h.length+2:=by rw[←hg];simp
 have q5:=fun K=>q4 (h++[Obj.box [nC steps,AI tries],.box [AI 0,AI 0]]) K
 have q6:∀K,bA X FF [SF steps tries,mC (upL l at_)] (h++[Obj.box [nC steps,AI tries],.box [AI 0,AI 0]]) K=K (.ref (g.length+7) 0) (FS g (flB steps tries) steps tries F []) (DC g F.bs.length):=fun K=>by rw[q5,hg]
 have ex:∀y∈DC g F.bs.length,h.length≤y.1:=fun y hy=>by have:=(bJ hy).1;omega
 have q7:=fun K=>ziP (K:=K) (FS g (flB steps tries) steps tries F []) F.ends FS_g7 FS_g3 (by omega) step
 have pl:=FR step [] F.ends
 generalize LB step [] F.ends=p at *;obtain⟨a,b⟩:=p;dsimp only at pl q7;have sp:∀(o:Obj) ,(FS g (flB steps tries) steps tries F []).set (h.length+1) o=h++(.box [nC steps,AI tries]::o::(FS g (flB steps tries) steps tries F []).drop (h.length+2)):=fun o=>by
  unfold FS FH;rw[←hg];simp
 have gp:(FS g (flB steps tries) steps tries F [])[h.length+1]?=some (.box [AI 0,AI 0]):=by
  unfold FS FH;rw[←hg];simp
 unfold oZ;dsimp only;by_cases hb:b=0
 ·subst hb
  simp only[ZI,go_sem,↓q1,q1,h0,↓q3,q3,↓q6,q6,↓q7,q7,sp,gp,splice];rw[DZ (v:=.tup [.p (.agg [eI 0,eI 0]),AI 8]) ex (by simp [GA,vG,CA]) (by simp [AV.top,AV.tops])]
  exact⟨rfl,List.take_left ..,rfl⟩
 ·have hb2:¬((b:Int)=0):=by omega
  rw[if_neg hb];have qf:=fun h K=>z5h (h:=h) (K:=K) (a:Int) (b:Int) (by omega) (by omega)
  simp only[ZI,go_sem,↓q1,q1,h0,↓q3,q3,↓q6,q6,↓q7,q7,hb2,↓qf,qf,sp,gp,splice];rw[DZ (v:=.tup [.p (.agg [eI (low a b).1,eI (low a b).2]),AI 0]) ex (by simp [GA,vG,CA]) (by simp [AV.top,AV.tops])]
  exact⟨rfl,List.take_left ..,rfl⟩
end Go.Am
end
section
/- The shortest way between two states of a test access port: a search FE a queue. -/
open Go
set_option linter.all false
namespace Go.Am
variable {h:aA} {K:jA}
attribute [-go_sem] QA UA DE EE
def nxtT:List (List Nat):=[[1,0],[1,2],[3,9],[4,5],[4,5],[6,8],[6,7],[4,8],[1,2],[10,0],[11,12],[11,12],[13,15],[13,14],[11,15],[1,2]]
def nxt (s t:Nat):Nat:=(nxtT.getD s []).getD t 0
theorem zgt {s t:Nat}(hs:s<16)(ht:t<2):([AI 1,AI 0,AI 1,AI 2,AI 3,AI 9,AI 4,AI 5,AI 4,AI 5,AI 6,AI 8,AI 6,AI 7,AI 4,AI 8,AI 1,AI 2,AI 10,AI 0,AI 11,AI 12,AI 11,AI 12,AI 13,AI 15,AI 13,AI 14,AI 11,AI 15,AI 1,AI 2]:List AV)[s*2+t*1]?=some (AI (nxt s t)):=by
 have hs':s=0∨s=1∨s=2∨s=3∨s=4∨s=5∨s=6∨s=7∨s=8∨s=9∨s=10∨s=11∨s=12∨s=13∨s=14∨s=15:=by omega
 have ht':t=0∨t=1:=by omega
 rcases hs' with rfl|rfl|rfl|rfl|rfl|rfl|rfl|rfl|rfl|rfl|rfl|rfl|rfl|rfl|rfl|rfl <;> rcases ht' with rfl|rfl <;> rfl
theorem zex {Y:Ctx}(hY:Y.fn VH=some bL)(s t:Nat)(hs:s<16)(ht:t<2):bA Y VH [AI s,AI t] h K=K (AI (nxt s t)) h []:=by
 refine rule ?_;rw[oA hY rfl (show lA h [AI s,AI t]=some ([AI s,AI t],h) from rfl) rfl,zdt]
 show sW _ _ _ _ _ _ (mA [.t 4] false _ _)
 have g:=zgt hs ht
 simp only[sW,go_sem,hs,ht,g]
abbrev VC:=List (Int × List UInt8)
def aD (n:Int):PV:=.int .i64 n
def fD (s:List UInt8):AV:=.p (.str s)
def sH (t:Nat):List UInt8:=[UInt8.ofNat (48+t)]
def kH (at_ t:Nat)(s:VC × List Nat):VC×List Nat:=
 if(EA (nxt at_ t:Int) s.1).isSome then s else(dC (nxt at_ t:Int) ((EA (at_:Int) s.1).getD []++sH t) s.1,s.2++[nxt at_ t])
def BG (at_:Nat):Nat→VC×List Nat→VC×List Nat
 | 0,s=>s
 | t+1,s=>kH at_ t (BG at_ t s)
def popS (s:VC × List Nat):VC×List Nat:=match s.2 with
 | []=>s
 | a::r=>BG a 2 (s.1,r)
def bfs (a:Nat):Nat→VC×List Nat
 | 0=>([((a:Int),[])],[a])
 | k+1=>popS (bfs a k)
def pZ (a b:Nat):List UInt8:=(EA (b:Int) (bfs a 16).1).getD []
def KJ (s:VC × List Nat):Bool:=decide (s.1.length≤16)&&decide (s.2.length≤16)&&s.2.all (fun x=>decide (x<16))&&s.1.all (fun e=>decide (e.2.length≤16))
theorem z0X:(List.range 16).all (fun a=>(List.range 16).all (fun k=>KJ (bfs a k) && !(bfs a k).2.isEmpty)&&KJ (bfs a 16)&&(bfs a 16).2.isEmpty)=true:=by kernel_rfl
theorem z7I {a k:Nat}(ha:a<16)(hk:k<16):KJ (bfs a k)=true∧(bfs a k).2≠[]:=by
 have h1:=List.all_eq_true.1 z0X a (List.mem_range.2 ha)
 simp only[Bool.and_eq_true]at h1;have h2:=List.all_eq_true.1 h1.1.1 k (List.mem_range.2 hk)
 simp only[Bool.and_eq_true,Bool.not_eq_true',List.isEmpty_eq_false_iff]at h2;exact h2
theorem z7H {a:Nat}(ha:a<16):KJ (bfs a 16)=true∧(bfs a 16).2=[]:=by
 have h1:=List.all_eq_true.1 z0X a (List.mem_range.2 ha)
 simp only[Bool.and_eq_true,List.isEmpty_iff]at h1;exact⟨h1.1.2,h1.2⟩
theorem zef {s:VC × List Nat}(hf:KJ s=true):s.1.length≤16∧s.2.length≤16∧(∀x∈s.2,x<16)∧∀e∈s.1,e.2.length≤16:=by
 unfold KJ at hf;simp only[Bool.and_eq_true,decide_eq_true_eq,List.all_eq_true]at hf;exact⟨hf.1.1.1,hf.1.1.2,hf.1.2,hf.2⟩
theorem z4a {hp:aA}{id:Nat}{m:VC}{b:Int}(hh:hp[id]?=some (FA aD fD m)):QA (none,[0]) false (.p (.str [])) (.mp id) (AI b) hp=some (.p (.str ((EA b m).getD []))):=by
 have:=tG (key:=aD) (val:=fD) (fun a b=>jX a b) hh (kk:=(none,[0])) (k:=b) lX (ok:=false) (z:=.p (.str []))
 rw[cond_false]at this;refine this.trans ?_;cases EA b m <;> rfl
theorem lookQ {hp:aA}{id:Nat}{m:VC}{b:Int}(hh:hp[id]?=some (FA aD fD m)):QA (none,[0]) true (.p (.str [])) (.mp id) (AI b) hp=some (.tup [.p (.str ((EA b m).getD [])),AB (EA b m).isSome]):=by
 have:=tG (key:=aD) (val:=fD) (fun a b=>jX a b) hh (kk:=(none,[0])) (k:=b) lX (ok:=true) (z:=.p (.str []))
 rw[cond_true]at this;refine this.trans ?_;cases EA b m <;> rfl
theorem updP {hp:aA}{id:Nat}{m:VC}{b:Int}{v:List UInt8}(hh:hp[id]?=some (FA aD fD m)):UA (none,[0]) (.mp id) (AI b) (.p (.str v)) hp=some (.und,hp.set id (FA aD fD (dC b v m)),[]):=
 OJ (key:=aD) (val:=fD) (fun a b=>jX a b) hh (kk:=(none,[0])) (k:=b) lX (v:=v) rfl
structure Que (R:aA) (i:Nat) (xs:List Nat) (off:Nat) (q:List Nat):Prop where
 get:R[i]?=some (.row none (xs.map fun n:Nat=>eI n) 0)
 le:off≤xs.length
 eq:xs.drop off=q
theorem zgs {hp:aA}{id:Nat}{xs:List Nat}{off:Nat}{n:Int}{k:AV→aA→Esc→Prop}(hh:hp[id]?=some (.row none (xs.map fun n:Nat=>eI n) 0))(ho:off≤xs.length)(hm:xs.length≤1000000)
 (k1:k (.own id (xs.length+1) off (xs.length-off+1)) (hp.set id (.row none (xs.map (fun n:Nat=>eI n)++[eI n]) 0)) [])
 (k2:k (.own hp.length (xs.length-off+1) 0 (xs.length-off+1)) (hp++[.row none ((xs.drop off).map (fun n:Nat=>eI n)++[eI n]) 0]) []) :
 nqK (some none) [.own id xs.length off (xs.length-off),.p (.sl none [eI n])] hp k:=by
 have hx:xs.length-off+1≤JA:=by unfold JA;omega
 have hr:rds hp (.p (.sl none [eI n]))=some (none,[eI n]):=rfl
 have hw:win (xs.map fun n:Nat=>eI n) off (xs.length-off)=(xs.drop off).map fun n:Nat=>eI n:=by
  unfold win;rw[←List.map_drop];exact List.take_of_length_le (by simp)
 unfold nqK yH appq;simp only[hr,if_true,hh,List.length_map,List.length_cons,List.length_nil,Nat.zero_add];rw[if_pos ⟨trivial,trivial,by omega,hx,Nat.zero_le _⟩,hw]
 refine⟨by simp,fun y hy=>?_⟩
 simp only[List.mem_cons,List.not_mem_nil,or_false]at hy;rcases hy with rfl|rfl
 ·exact k1
 ·exact k2
theorem z4j {α β:Type}[DecidableEq α]{k:α}{v:β}:∀{l:List (α×β)} {e:α×β},e∈dC k v l→e∈l∨e=(k,v)
 | [],e,h=>by simp [dC]at h;exact .inr h
 | x::r,e,h=>by
  unfold dC at h;split at h
  ·rcases List.mem_cons.1 h with h|h
   ·exact .inr h
   ·exact .inl (List.mem_cons_of_mem _ h)
  ·rcases List.mem_cons.1 h with h|h
   ·exact .inl (h ▸ List.mem_cons_self)
   ·rcases z4j h with h|h
    ·exact .inl (List.mem_cons_of_mem _ h)
    ·exact .inr h
theorem z3F {α β:Type}[DecidableEq α]{k:α}{v:β}:∀{l:List (α×β)},EA k l=some v→(k,v)∈l
 | [],h=>by cases h
 | x::r,h=>by
  unfold EA at h;split at h
  ·rename_i he;cases h;subst he;simp
  ·exact List.mem_cons_of_mem _ (z3F h)
theorem z6d {n:Nat}{w:VC}(hw:∀ e∈w,e.2.length≤n)(k:Int):((EA k w).getD []).length≤n:=by
 cases hg:EA k w with
 | none=>simp
 | some v=>exact hw _ (z3F hg)
theorem zk1 {n at_ t:Nat}{s:VC × List Nat}(hw:∀ e∈s.1,e.2.length≤n):∀e∈(kH at_ t s).1,e.2.length≤n+1:=by
 unfold kH;split
 ·intro e he;have:=hw e he;omega
 ·intro e he
  rcases z4j he with h|h
  ·have:=hw e h;omega
  ·subst h
   have:=z6d hw (at_:Int);simp [sH];omega
theorem z5Y {n at_:Nat}{s:VC × List Nat}(hw:∀ e∈s.1,e.2.length≤n):∀(t:Nat),∀e∈(BG at_ t s).1,e.2.length≤n+t
 | 0=>hw
 | t+1=>zk1 (z5Y hw t)
set_option maxHeartbeats 1000000 in
theorem zew {Y:Ctx}(hY1:Y.fn WH=some WN)(hY2:Y.fn VH=some bL)(a b:Nat)(ha:a<16)(hb:b<16):bA Y WH [AI a,AI b] h K=K (.p (.str (pZ a b))) h []:=by
 refine rule ?_;rw[ZT hY1 rfl (show lA h [AI a,AI b]=some ([AI a,AI b],h) from rfl) rfl]
 simp only[zdu];show ∃v h' x,_∧FP _ _ _ _ _ _ _ _ (mA [.t 4] false _ _)
 simp only[FP];refine⟨_,_,_,⟨rfl,rfl,rfl⟩,?_⟩;have em:FA aD fD [((a:Int),([]:List UInt8))] = .amap [⟨.int .i64 a,.p (.str []),0⟩] 1:=rfl
 have u0:=fun(hp:aA) (hh:hp[h.length]?=some (FA aD fD []))=>updP (b:=(a:Int)) (v:=[]) hh
 have e0:dC (a:Int) [] ([]:VC)=[((a:Int),[])]:=rfl
 have em0:FA aD fD ([]:VC) = .amap [] 0:=rfl
 rw[e0]at u0;simp only[em0]at u0;simp only[go_sem,u0];refine SA (fun t:Nat×aA×Nat×List Nat×Nat×Option Nat=>⟨[(1,AI b),(5,.mp h.length),(6,.own (h.length+(t.2.2.1+1)) t.2.2.2.1.length t.2.2.2.2.1 (t.2.2.2.1.length-t.2.2.2.2.1))]++(match t.2.2.2.2.2 with|none=>[]|some q=>[(7,AI q),(25,AI 2),(26,AB false)]),h++FA aD fD (bfs a t.1).1::t.2.1,[]⟩)
  (fun t=>t.1≤16∧Que t.2.1 t.2.2.1 t.2.2.2.1 t.2.2.2.2.1 (bfs a t.1).2∧t.2.2.2.1.length≤1+2*t.1) (fun t=>16-t.1) (0,[.row none [eI a] 0],0,[a],0,none) (by simp [bfs]) ⟨by simp,⟨rfl,by simp,rfl⟩,by simp⟩ ?_
 rintro⟨k,R,i,xs,off,oq⟩ ⟨h1,hq,h2⟩
 dsimp only at h1 hq h2 ⊢;have hqg:=hq.get
 have hle:=hq.le
 have heq:=hq.eq
 have hln:xs.length-off=(bfs a k).2.length:=by rw[←heq];simp
 by_cases hk:k<16
 ·obtain⟨hf,hne⟩:=z7I ha hk
  obtain⟨f1,f2,f3,f4⟩:=zef hf;have hpos:0<xs.length-off:=by rw[hln];exact List.length_pos_iff.2 hne
  have hoff:off<xs.length:=by omega
  obtain⟨q0,qr,hqe⟩:∃q0 qr,(bfs a k).2=q0::qr:=by
   cases hb2:(bfs a k).2 with
   | nil=>exact absurd hb2 hne
   | cons x y=>exact⟨x,y,rfl⟩
  have hx0:xs[off]?=some q0:=by
   have:(xs.drop off)[0]?=some q0:=by rw[heq,hqe];rfl
   rwa [List.getElem?_drop,Nat.add_zero]at this
  have hdr:xs.drop (off+1)=qr:=by
   rw[←List.drop_drop,heq,hqe];rfl
  have hq0:q0<16:=f3 q0 (by rw[hqe];simp)
  have hgq:(xs.map fun n:Nat=>eI n)[off]?=some (eI q0):=by rw[List.getElem?_map,hx0];rfl
  have hpi:(0:Int)<((xs.length-off:Nat):Int):=by omega
  have hl1:1≤xs.length-off:=by omega
  have hbn:bfs a (k+1)=BG q0 2 ((bfs a k).1,qr):=by show popS _=_;unfold popS;rw[hqe]
  have e3:xs.length-off-1=xs.length-(off+1):=by omega
  have hcond:off+(xs.length-off)≤xs.length:=by omega
  have hNL:∀(e:List (Nat×AV)),uA (some [1,5,6,7,25]) e=uA (some [1,5,6,7,25]) e:=fun _=>rfl
  rcases oq with _|oq
  all_goals
  simp only[List.append_nil,List.cons_append,List.nil_append,go_sem,List.getElem?_cons_succ,hqg,hpi,hpos,hgq,hl1,hcond];all_goals
  clear u0 em em0 e0;generalize hw0:((bfs a k).1,qr)=s0 at *;have es1:(bfs a k).1=s0.1:=by rw[←hw0]
  have es2:qr=s0.2:=by rw[←hw0]
  rw[es1,e3];refine SA (fun t:Nat×aA×Nat×List Nat×Nat=>⟨[(1,AI b),(5,.mp h.length),(6,.own (h.length+(t.2.2.1+1)) t.2.2.2.1.length t.2.2.2.2 (t.2.2.2.1.length-t.2.2.2.2)),(7,AI q0),(25,AI t.1)],h++FA aD fD (BG q0 t.1 s0).1::t.2.1,[]⟩)
   (fun t=>t.1≤2∧Que t.2.1 t.2.2.1 t.2.2.2.1 t.2.2.2.2 (BG q0 t.1 s0).2∧t.2.2.2.1.length≤1+2*k+t.1) (fun t=>2-t.1) (0,R,i,xs,off+1) rfl ⟨by simp,⟨hqg,hoff,by rw[hdr,es2];rfl⟩,by simp;omega⟩ ?_
  rintro⟨j,R',i',ys,of'⟩ ⟨j1,jq,j2⟩
  dsimp only at j1 jq j2 ⊢;have jg:=jq.get
  have jle:=jq.le
  have jeq:=jq.eq
  by_cases hj:j<2
  ·have hji:(j:Int)<2:=by omega
   have qn:=fun h K=>zex (h:=h) (K:=K) hY2 q0 j hq0 hj
   have hvis:BG q0 (j+1) s0=kH q0 j (BG q0 j s0):=rfl
   generalize hsj:BG q0 j s0=s at *;have lq:=fun(hp:aA) (hh:hp[h.length]?=some (FA aD fD s.1))=>lookQ (b:=(nxt q0 j:Int)) hh
   have lp:=fun(hp:aA) (hh:hp[h.length]?=some (FA aD fD s.1))=>z4a (b:=(q0:Int)) hh
   have up:=fun(hp:aA) (v:List UInt8) (hh:hp[h.length]?=some (FA aD fD s.1))=>updP (b:=(nxt q0 j:Int)) (v:=v) hh
   have w1:IntKind.i64.wrap ((j:Int)+1)=((j+1:Nat):Int):=yA _ (by omega) (by omega)
   cases hs:(EA (nxt q0 j:Int) s.1).isSome with
   | true=>
    have hv:kH q0 j s=s:=by unfold kH;rw[if_pos hs]
    rw[hv]at hvis;simp only[go_sem,hji,↓qn,qn,lq,hs,w1];exact⟨(j+1,R',i',ys,of'),by dsimp only;rw[hvis],⟨by dsimp only;omega,by dsimp only;rw[hvis];exact jq,by dsimp only;omega⟩,by dsimp only;omega⟩
   | false=>
    have hv:kH q0 j s=(dC (nxt q0 j:Int) ((EA (q0:Int) s.1).getD []++sH j) s.1,s.2++[nxt q0 j]):=by unfold kH;rw[hs];rfl
    rw[hv]at hvis;have w2:IntKind.i64.wrap (48+(j:Int))=((48+j:Nat):Int):=yA _ (by omega) (by omega)
    have w3:IntKind.i32.wrap ((48+j:Nat):Int)=((48+j:Nat):Int):=by
     have:j=0∨j=1:=by omega
     rcases this with rfl|rfl <;> rfl
    have w4:(0:Int)≤((48+j:Nat):Int)∧((48+j:Nat):Int)<128:=by omega
    have hln2:=z6d (z5Y (n:=16) (at_:=q0) (s:=s0) (by rw[←es1];exact f4) j) (q0:Int)
    rw[hsj]at hln2;have w5:((EA (q0:Int) s.1).getD []).length+(sH j).length≤AM:=by have:(sH j).length=1:=rfl;unfold AM;omega
    have w6:[UInt8.ofNat ((48+j:Nat):Int).toNat]=sH j:=rfl
    simp only[go_sem,hji,↓qn,qn,lq,hs,lp,up,w1,w2,w3,w4,w5,w6];have hh1:(h++FA aD fD (dC (nxt q0 j:Int) ((EA (q0:Int) s.1).getD []++sH j) s.1)::R')[h.length+(i'+1)]?=some (.row none (ys.map fun n:Nat=>eI n) 0):=by
     rw[List.getElem?_append_right (by omega)];simpa using jg
    have hi':i'<R'.length:=sA jg
    refine zgs hh1 jle (by omega) ?_ ?_
    ·refine⟨(j+1,R'.set i' (.row none (ys.map (fun n:Nat=>eI n)++[eI (nxt q0 j)]) 0),i',ys++[nxt q0 j],of'),?_,⟨by dsimp only;omega,⟨?_,?_,?_⟩,?_⟩,by dsimp only;omega⟩
     ·dsimp only
      rw[hvis,List.set_append_right _ _ (by omega)]
      simp only[List.length_append,List.length_cons,List.length_nil,Nat.add_sub_cancel_left,List.set_cons_succ];rw[show ys.length+1-of'=ys.length-of'+1 by omega]
     ·dsimp only
      rw[List.getElem?_set_self hi'];simp
     ·simp;omega
     ·dsimp only
      rw[hvis,List.drop_append_of_le_length jle,jeq]
     ·simp;omega
    ·refine⟨(j+1,R'++[.row none ((ys.drop of').map (fun n:Nat=>eI n)++[eI (nxt q0 j)]) 0],R'.length,ys.drop of'++[nxt q0 j],0),?_,⟨by dsimp only;omega,⟨?_,?_,?_⟩,?_⟩,by dsimp only;omega⟩
     ·dsimp only
      rw[hvis];simp
     ·simp
     ·simp
     ·dsimp only
      rw[hvis,jeq,List.drop_zero]
     ·simp;omega
  ·have hj2:j=2:=by omega
   subst hj2;simp only[go_sem];refine⟨(k+1,R',i',ys,of',some q0),?_,⟨by dsimp only;omega,by dsimp only;rw[hbn];exact jq,by dsimp only;omega⟩,by dsimp only;omega⟩
   dsimp only;rw[hbn]
 ·have hk16:k=16:=by omega
  subst hk16;obtain⟨_,hne⟩:=z7H ha;have hz:xs.length-off=0:=by rw[hln,hne];rfl
  have lk:=fun(hp:aA) (hh:hp[h.length]?=some (FA aD fD (bfs a 16).1))=>z4a (b:=(b:Int)) hh
  have hpv:(EA (b:Int) (bfs a 16).1).getD []=pZ a b:=rfl
  rcases oq with _|oq <;> simp only[List.append_nil,List.cons_append,List.nil_append,go_sem,hz,lk,hpv]
end Go.Am
end
section
/- ready: a aB call,computed. -/
open Go
set_option linter.all false
namespace Go.Am
def orcP (f:Nat)(a:List AV):Option AV:=bif Nat.beq f WH then match a with
 | [.p (.int .i64 x),.p (.int .i64 y)]=>bif decide (0≤x)&&decide (x<16)&&decide (0≤y)&&decide (y<16) then some (.p (.str (pZ x.toNat y.toNat))) else none
 | _=>none else none
theorem zg0:∀ f a v,orcP f a=some v→∀ h (K:jA),K v h []→bA X0 f a h K:=by
 intro f a v hv h K hK;unfold orcP at hv;cases hf:Nat.beq f WH with
 | false=>rw[hf]at hv;cases hv
 | true=>
  have hf':=Nat.eq_of_beq_eq_true hf
  rw[hf]at hv;subst hf';simp only[cond_true]at hv;split at hv
  ·rename_i x y
   cases hc:(decide (0≤x)&&decide (x<16)&&decide (0≤y)&&decide (y<16)) with
   | false=>rw[hc]at hv;cases hv
   | true=>
    rw[hc]at hv;simp only[cond_true,Option.some.injEq]at hv;simp only[Bool.and_eq_true,decide_eq_true_eq]at hc;obtain⟨a,rfl⟩:=Int.eq_ofNat_of_zero_le hc.1.1.1;obtain⟨b,rfl⟩:=Int.eq_ofNat_of_zero_le hc.1.2;have:=zew (h:=h) (K:=K) zk9 zk8 a b (by omega) (by omega)
    rw[this];subst hv;exact hK
  ·cases hv
end Go.Am
end
section
/- What all laws of the keep package use. -/
open Go
set_option linter.all false
namespace Go.Am
variable {h:aA} {K:jA}
end Go.Am
end
section
/- What is drawn and right: limits,records. -/
open Go
set_option linter.all false
namespace Go.Am
variable {L:List Int} {a:Int} {h l:aA} {id:Nat} {K:jA}
theorem z3V {l:List Lim}(h2:l.length≤3)(hb:∀ x∈l,LimBd x):LimOk l:=⟨by omega,fun x hx=>(hb x hx).k⟩
theorem zet (hp:NA 200 a):iD UL [] L a (fun v a2=>a≤a2∧a2≤a+72∧∃l:List Lim,1≤l.length∧l.length≤3∧(∀x∈l,LimBd x)∧IC l=0∧v=LA l):=by
 refine iD.of fun h id hid=>?_
 rw[z8J rfl];simp only[UO,go_sem,hid];refine SA (fun t:Nat×Int=>⟨[(0,.ref id 0),(4,AI t.1)],h.set id (xA L t.2),[]⟩) (fun t=>t.1≤6∧a≤t.2∧t.2≤a+12*t.1) (fun t=>6-t.1) (0,a) rfl ⟨by simp,by simp,by simp⟩ ?_
 rintro⟨k,b⟩ ⟨h1,h2,h3⟩
 dsimp only at h1 h2 h3 ⊢;rcases Nat.lt_or_ge k 6 with hlt|hge
 ·have hk:(k:Int)<6:=by omega
  have w1:IntKind.i64.wrap ((k:Int)+1)=((k+1:Nat):Int):=yA _ (by omega) (by omega)
  obtain⟨_,a2,⟨c1,c2,l,l1,l2,lb,rfl⟩,V⟩:=(zer (L:=L) (a:=b) (iE hp h2 (by omega))).set (h:=h) hid
  have F:=fun h K=>z5j (h:=h) (K:=K) l (z3V l2 lb).k (by omega)
  by_cases hf:IC l=0
  ·simp only[go_sem,hid,hk,↓V,V,↓F,F,hf]
   exact⟨a2,⟨by omega,by omega,l,l1,l2,lb,hf,rfl⟩,rfl⟩
  ·simp only[go_sem,hid,hk,↓V,V,↓F,F,hf,w1]
   exact⟨(k+1,a2),rfl,⟨by dsimp only;omega,by dsimp only;omega,by dsimp only;omega⟩,by dsimp only;omega⟩
 ·have hk:¬(k:Int)<6:=by omega
  simp only[go_sem,hid,hk];refine⟨b,⟨by omega,by omega,[⟨[118,111,108,116],0,10,5⟩],by simp,by simp,fun x hx=>?_,by decide,rfl⟩,rfl⟩
  rw[List.mem_singleton]at hx;subst hx;exact⟨by simp,by simp,by simp⟩
theorem zeu (hp:NA 20000 a)(l:List Lim)(hl1:1≤l.length)(hl2:l.length≤3)(hl:LimOk l)(hz:IC l=0)(n:Nat)(hn:n≤19) :
 iD VL [LA l,AI n] L a (fun v a2=>a≤a2∧a2≤a+12000∧∃rs:List Rec,rs.length≤n∧(∀r∈rs,RecOk r)∧JC l rs=0∧v=eC rs):=by
 refine iD.of fun h id hid=>?_
 rw[z8K rfl];simp only[WO,go_sem,hid];refine SA (fun t:Nat×Int=>⟨[(0,.ref id 0),(1,LA l),(2,AI n),(8,AI t.1)],h.set id (xA L t.2),[]⟩) (fun t=>t.1≤6∧a≤t.2∧t.2≤a+2000*t.1) (fun t=>6-t.1) (0,a) rfl ⟨by simp,by simp,by simp⟩ ?_
 rintro⟨k,b⟩ ⟨h1,h2,h3⟩
 dsimp only at h1 h2 h3 ⊢;rcases Nat.lt_or_ge k 6 with hlt|hge
 ·have hk:(k:Int)<6:=by omega
  have w1:IntKind.i64.wrap ((k:Int)+1)=((k+1:Nat):Int):=yA _ (by omega) (by omega)
  obtain⟨_,a2,⟨c1,c2,rs,r1,r2,rfl⟩,V⟩:=(zes (L:=L) (a:=b) (iE hp h2 (by omega)) l hl1 hl2 n hn).set (h:=h) hid
  have F:=fun h K=>zi7 (h:=h) (K:=K) l rs hl r2 (by omega)
  by_cases hf:JC l rs=0
  ·simp only[go_sem,hid,hk,↓V,V,↓F,F,hf]
   exact⟨a2,⟨by omega,by omega,rs,r1,r2,hf,rfl⟩,rfl⟩
  ·simp only[go_sem,hid,hk,↓V,V,↓F,F,hf,w1]
   exact⟨(k+1,a2),rfl,⟨by dsimp only;omega,by dsimp only;omega,by dsimp only;omega⟩,by dsimp only;omega⟩
 ·have hk:¬(k:Int)<6:=by omega
  simp only[go_sem,hid,hk];refine⟨b,⟨by omega,by omega,[],by simp,by simp,?_,rfl⟩,rfl⟩
  unfold JC;rw[if_neg (by simp [hz])]
  rfl
end Go.Am
end
section
/- h10facts: a aB call,computed (beside ready's). -/
open Go
set_option linter.all false
namespace Go.Am
theorem zdO:BL X0 orcP 1000 60 tJ [] []=some (AB true,[],[]):=by kernel_rfl
theorem zmf:bA X0 tJ [] [] fun v h x=>v=AB true∧h=[]∧x=[]:=(z6m zg0 1000 60 zdO _).2 ⟨rfl,rfl,rfl⟩
theorem LZ {h:aA}{K:jA}:bA X tJ [] h K=K (AB true) h []:=zfM (by kernel_rfl) rfl
end Go.Am
end
section
/- A lot whose records are runs: the law's loop FE the records,and TopLotIsStation returns true. -/
open Go
set_option linter.all false
set_option maxRecDepth 100000
namespace Go.Am
variable {h:aA} {K:jA}
attribute [-go_sem] tB
def tlS (l:List Lim)(r:List Rec)(k:Nat):TlS:=zC ⟨[],[],[]⟩ 0 ((lC (fun y=>decide (kB l y=1)) r).take k)
theorem zjY (l:List Lim)(r:List Rec)(k:Nat)(hk:k<r.length):tlS l r (k+1)=EB (tlS l r k) k (r[k].unit,decide (kB l r[k]=1)):=by
 unfold tlS;have hl:k<(lC (fun y=>decide (kB l y=1)) r).length:=by unfold lC;rw[List.length_map];exact hk
 rw[List.take_succ_eq_append_getElem hl,z5J];have e:(lC (fun y=>decide (kB l y=1)) r)[k]=(r[k].unit,decide (kB l r[k]=1)):=by simp [lC]
 rw[e,List.length_take,Nat.zero_add];congr 1
 omega
theorem zjZ (s:TlS)(i:Nat)(p:Nm × Bool):(EB s i p).E.length≤s.E.length+3∧(EB s i p).en.length≤s.en.length+1∧(EB s i p).dn.length≤s.dn.length+1:=by
 unfold EB;split
 ·exact⟨by omega,by omega,by omega⟩
 ·refine⟨by simp [iC],?_,?_⟩ <;> (dsimp only;split <;> simp)
theorem z5I:∀ (R:List (Nm × Bool)) (s:TlS) (i:Nat),(zC s i R).E.length≤s.E.length+3*R.length∧(zC s i R).en.length≤s.en.length+R.length∧(zC s i R).dn.length≤s.dn.length+R.length
 | [],s,i=>⟨by simp [zC],by simp [zC],by simp [zC]⟩
 | p::R,s,i=>by
  have h1:=zjZ s i p
  have h2:=z5I R (EB s i p) (i+1)
  have:(p::R).length=R.length+1:=rfl
  show(zC (EB s i p) (i+1) R).E.length≤_∧_
  rw[this];refine⟨by omega,?_,?_⟩
  ·show(zC (EB s i p) (i+1) R).en.length≤_;omega
  ·show(zC (EB s i p) (i+1) R).dn.length≤_;omega
theorem zjX (l:List Lim)(r:List Rec)(k:Nat):(tlS l r k).E.length≤3*r.length∧(tlS l r k).en.length≤r.length∧(tlS l r k).dn.length≤r.length:=by
 unfold tlS;have h:=z5I ((lC (fun y=>decide (kB l y=1)) r).take k) ⟨[],[],[]⟩ 0
 have hl:((lC (fun y=>decide (kB l y=1)) r).take k).length≤r.length:=by rw[List.length_take];unfold lC;rw[List.length_map];omega
 simp only[List.length_nil,Nat.zero_add]at h;omega
theorem z5H:∀ (R:List (Nm × Bool)) (s:TlS) (i:Nat),(∀ x∈s.E,EntOk x)→(∀ p∈R,p.1.length≤1000)→∀ x∈(zC s i R).E,EntOk x
 | [],s,i,h,_=>h
 | p::R,s,i,h,hu=>by
  refine z5H R (EB s i p) (i+1) (fun x hx=>?_) (fun q hq=>hu q (List.mem_cons_of_mem _ hq))
  have h0:=hu p (List.mem_cons_self ..)
  unfold EB at hx;split at hx
  ·exact h x hx
  ·rcases List.mem_append.1 hx with hx|hx
   ·exact h x hx
   ·unfold iC at hx
    simp only[List.mem_cons,List.not_mem_nil,or_false]at hx;rcases hx with rfl|rfl|rfl <;> exact⟨by simp [saN],by dsimp only;omega,by simp [tsN],by simp⟩
theorem ownB4 {f:Nat}{F:AFun}{id fz n:Nat}{sh:Sh}{xs:List PV}{a c d:PV}(hf:X.fn f=some F)(hr:F.byref=false)(hl:F.nparams=4)(hh:h[id]?=some (.row sh xs fz))(hn:xs.length=n):bA X f [.p a,.own id n 0 n,.p c,.p d] h K=bA X f [.p a,.p (.sl sh xs),.p c,.p d] (frz h id n) K:=by
 subst hn;exact z0U (X:=X) (a:=[.p a,.own id xs.length 0 xs.length,.p c,.p d]) (vs:=[a,.sl sh xs,c,d]) hf hr (by
  have:win xs 0 xs.length=xs:=rF rfl
  simp [lA,pur,rd,hh,this]) rfl (by simp [hl]) z3r
theorem ownB3 {f:Nat}{F:AFun}{id fz n:Nat}{sh:Sh}{xs:List PV}{a d:PV}(hf:X.fn f=some F)(hr:F.byref=false)(hl:F.nparams=3)(hh:h[id]?=some (.row sh xs fz))(hn:xs.length=n):bA X f [.p a,.own id n 0 n,.p d] h K=bA X f [.p a,.p (.sl sh xs),.p d] (frz h id n) K:=by
 subst hn;exact z0U (X:=X) (a:=[.p a,.own id xs.length 0 xs.length,.p d]) (vs:=[a,.sl sh xs,d]) hf hr (by
  have:win xs 0 xs.length=xs:=rF rfl
  simp [lA,pur,rd,hh,this]) rfl (by simp [hl]) z3r
theorem eqa2 (a b:Int):tB [0,0] false (.p (.agg [eI a,eI b])) (.p (.agg [eI a,eI b]))=some (AB true):=by
 show some (AB (decide (a=a)&&(decide (b=b)&&true)))=_
 simp
theorem zhN {l:List Lim}{r:List Rec}{E:List Ent}{en:List Nm}{c:Nat}(hrf:JC l r=0)(hs:zG [tsN] 10 E tsN 10000=0)(hu:upL E 10000=E)(hp:LB tsN [] (yC [tsN] 10 E).ends=(c,en.length))
 (h1:en.length=(PB l 1 r).length) (h2:c=(PB l 1 r).countP fun y=>decide (kB l y=1)) :
 YK l r 1 = .tup [.p (.agg [eI (MF [tsN] 10 E tsN 10000).1.1,eI (MF [tsN] 10 E tsN 10000).1.2]),AI (MF [tsN] 10 E tsN 10000).2]:=by
 have r1:cH 1=0:=by decide
 have ho:orL [JC l r,cH 1]=0:=by rw[hrf,r1];rfl
 have eP:MF [tsN] 10 E tsN 10000=if en.length=0 then((0,0),8) else(low c en.length,0):=by
  unfold MF oZ;rw[if_neg (by simp [hs]),hu,hp]
 rw[eP];unfold YK;rw[if_neg (by simp [ho])]
 by_cases hz:r.length=0
 ·have:PB l 1 r=[]:=by
   have:r=[]:=List.length_eq_zero_iff.1 hz
   subst this;exact List.length_eq_zero_iff.1 (by have:=z2W l 1 [];simpa using this)
  rw[if_pos hz,if_pos (by rw[h1,this];rfl)]
 ·have:=z3f (l:=l) (ru:=1) hz
  rw[if_neg hz,if_neg (by omega)]
  unfold nBin;rw[←h1,←h2]
attribute [-go_sem] vW EH
set_option maxHeartbeats 8000000 in
theorem law_TL (L:List Int){K:jA}:bA X NP [AL L] [] K=K (AB true) [] []:=by
 refine rule ?_;rw[z8Z rfl];have pp:NA 100000 0:=by unfold NA;omega
 obtain⟨_,a1,⟨b1,b2,l,hl1,hl2,hlb,hlf,rfl⟩,V⟩:=(zet (L:=L) (a:=0) (iE pp (by omega) (by omega))).hd (l:=[])
 have hl:LimOk l:=z3V hl2 hlb
 have p1:NA 0 a1:=iE pp (by omega) (by omega)
 obtain⟨n1,n2⟩:=MR (u:=0) (v:=12) L a1 (by omega) (by omega)
 obtain⟨n,hn⟩:=Int.eq_ofNat_of_zero_le n1;obtain⟨_,a2,⟨b3,b4,r,hr1,hr2,hrf,rfl⟩,R⟩:=(zeu (L:=L) (a:=a1+1) (iE pp (by omega) (by omega)) l hl1 hl2 hl hlf n (by omega)).hd (l:=[])
 simp only[iP,go_sem,p1,↓V,V,hn,↓R,R,splice];refine SA (fun k:Nat=>⟨[(4,LA l),(5,eC r),(6,.ref 1 0),(7,.ref 3 0),(8,.fn sJ [.ref 3 0]),(9,.own 4 (tlS l r k).en.length 0 (tlS l r k).en.length),(10,.own 5 (tlS l r k).dn.length 0 (tlS l r k).dn.length),(39,eC r),(40,AI r.length),(41,AI k)],
  [xA L a2,.box [nC [tsN],AI 10],.row (some 8) ((tlS l r k).E.map Ent.pv) 0,.box [.own 2 (tlS l r k).E.length 0 (tlS l r k).E.length],.row none ((tlS l r k).en.map PV.str) 0,.row none ((tlS l r k).dn.map PV.str) 0],[]⟩)
  (fun k=>k≤r.length) (fun k=>r.length-k) 0 rfl (by omega) ?_
 intro k hk;rw[z01];have hS:=zjX l r k
 generalize xA L a2=s0 at *;rcases Nat.lt_or_ge k r.length with hlt|hge
 ·have hlt':(k:Int)<(r.length:Int):=by omega
  have hg:=dB Rec.pv hlt
  have cx:BA (some 4) 0 (r[k].pv)=some r[k].pv:=rfl
  have wk:IntKind.i64.wrap ((k:Int)+1)=((k+1:Nat):Int):=yA _ (by omega) (by omega)
  have w10:IntKind.i64.wrap (10*(k:Int))=10*(k:Int):=yA _ (by omega) (by omega)
  have w11:IntKind.i64.wrap (10*(k:Int)+1)=10*(k:Int)+1:=yA _ (by omega) (by omega)
  have w12:IntKind.i64.wrap (10*(k:Int)+2)=10*(k:Int)+2:=yA _ (by omega) (by omega)
  have hst:=zjY l r k hlt
  have hy:=hr2 _ (List.getElem_mem hlt)
  have hyf:=AZ hrf _ (List.getElem_mem hlt)
  have hbF:FI l r[k]=0:=by unfold FI;rw[if_neg (by simp [hlf])];exact hyf
  have q3:=fun h K=>s_Bin (h:=h) (K:=K) l r[k] hl hy
  rw[hbF,if_pos rfl,if_pos rfl]at q3;have ebR:GI l (WB l r[k].res)=kB l r[k]:=rfl
  rw[ebR]at q3;generalize r[k]=y at *;generalize hb:kB l y=bin at *;generalize WB l y.res=fi at *;generalize tlS l r k=S at *;obtain⟨E,en,dn⟩:=S;obtain⟨u,tm,site,res⟩:=y;dsimp only at hS hst hyf q3 ⊢;obtain⟨s1,s2,s3⟩:=hS;have cD:=fun(o0 o1 o2 o3 o4:Obj) (t:aA) K=>pN (K:=K) (h:=o0::o1::o2::o3::o4 :: .row none (dn.map PV.str) 0::t) dn (v:=.own 5 dn.length 0 dn.length) (fun h' e=>by
   subst e;have:=z5A (h:=o0::o1::o2::o3::o4 :: .row none (dn.map PV.str) 0::t) (sh:=none) (id:=5) (off:=0) (len:=dn.length) (fz:=0) (xs:=dn.map PV.str) (fun x hx=>by obtain⟨n,_,rfl⟩:=List.mem_map.1 hx;rfl) rfl (by simp)
   rw[List.length_map,show win (dn.map PV.str) 0 dn.length=dn.map PV.str from rF (by simp)]at this
   exact this) u (by omega)
  have cE:=fun(o0 o1 o2 o3:Obj) (t:aA) K=>pN (K:=K) (h:=o0::o1::o2::o3 :: .row none (en.map PV.str) 0::t) en (v:=.own 4 en.length 0 en.length) (fun h' e=>by
   subst e;have:=z5A (h:=o0::o1::o2::o3 :: .row none (en.map PV.str) 0::t) (sh:=none) (id:=4) (off:=0) (len:=en.length) (fz:=0) (xs:=en.map PV.str) (fun x hx=>by obtain⟨n,_,rfl⟩:=List.mem_map.1 hx;rfl) rfl (by simp)
   rw[List.length_map,show win (en.map PV.str) 0 en.length=en.map PV.str from rF (by simp)]at this
   exact this) u (by omega)
  have eml:(en.map PV.str).length=en.length:=List.length_map ..
  have dml:(dn.map PV.str).length=dn.length:=List.length_map ..
  have me:en.length+1≤JA:=by unfold JA;omega
  have md:dn.length+1≤JA:=by unfold JA;omega
  simp only[Rec.pv]at q3 hg cx;by_cases hd:u∈dn
  ·have hdc:dn.contains u=true:=List.contains_iff_mem.2 hd
   rw[hdc]at cD;have e1:tlS l r (k+1)=⟨E,en,dn⟩:=by rw[hst];unfold EB;rw[if_pos hd]
   simp only[go_sem,hlt',hlt,hg,cx,splice,↓cD,cD,wk];refine⟨k+1,?_,by omega,by omega⟩
   rw[e1]
  have hdc:dn.contains u=false:=by rw[Bool.eq_false_iff];intro e;exact hd (List.contains_iff_mem.1 e)
  rw[hdc]at cD;unfold EB at hst;rw[if_neg hd]at hst;dsimp only at hst;have al:∀(E:List Ent) (x:Ent),(VB E x).length=E.length+1:=fun E x=>by simp [VB]
  obtain⟨kd,hkd⟩:∃kd:Int,kd=if bin=1 then 3 else 4:=⟨_,rfl⟩;have fin3:∀new:Bool,VB (VB (VB E ⟨[],0,10*(k:Int),if new then 1 else 5,u,[],[],0⟩) ⟨[],0,10*(k:Int)+1,2,u,tsN,[],0⟩) ⟨[],0,10*(k:Int)+2,if bin=1 then 3 else 4,u,[],[],0⟩=E++iC E.length k u new (decide (bin=1)):=fun new=>by
   simp [VB,iC];omega
  by_cases he:u∈en
  ·have hec:en.contains u=true:=List.contains_iff_mem.2 he
   rw[hec]at cE;have f3:=fin3 false
   rw[if_pos he]at hst;simp only[he,decide_true,Bool.not_true]at hst;rw[if_neg (by simp)]at f3
   have A1:=fun(o0 o1:Obj) (t:aA) K=>gH (K:=K) E ⟨[],0,10*(k:Int),5,u,[],[],0⟩ o0 o1 t (by omega)
   generalize hE1:VB E ⟨[],0,10*(k:Int),5,u,[],[],0⟩=E1 at *;have e1l:E1.length=E.length+1:=by rw[←hE1,al]
   have A2:=fun(o0 o1:Obj) (t:aA) K=>gH (K:=K) E1 ⟨[],0,10*(k:Int)+1,2,u,tsN,[],0⟩ o0 o1 t (by omega)
   generalize hE2:VB E1 ⟨[],0,10*(k:Int)+1,2,u,tsN,[],0⟩=E2 at *;have e2l:E2.length=E.length+2:=by rw[←hE2,al,e1l]
   by_cases h1:bin=1
   ·rw[if_pos h1]at f3
    have A3:=fun(o0 o1:Obj) (t:aA) K=>gH (K:=K) E2 ⟨[],0,10*(k:Int)+2,3,u,[],[],0⟩ o0 o1 t (by omega)
    generalize hE3:VB E2 ⟨[],0,10*(k:Int)+2,3,u,[],[],0⟩=E3 at *;simp only[Ent.pv,eI,tsN]at A1 A2 A3;rw[←f3,if_pos (by simpa using h1)]at hst
    have ed:(dn++[u]).map PV.str=dn.map PV.str++[PV.str u]:=by simp
    have edl:(dn++[u]).length=dn.length+1:=by simp
    have ee:(en++[u]).map PV.str=en.map PV.str++[PV.str u]:=by simp
    have eel:(en++[u]).length=en.length+1:=by simp
    simp only[go_sem,hlt',hlt,hg,cx,splice,↓cD,cD,↓cE,cE,w10,w11,w12,wk,A1,A2,A3,↓q3,q3,eq_true h1,eml,dml,md,me,tsN];refine⟨k+1,?_,by omega,by omega⟩
    rw[hst,ed,edl]
   ·rw[if_neg h1]at f3
    have A3:=fun(o0 o1:Obj) (t:aA) K=>gH (K:=K) E2 ⟨[],0,10*(k:Int)+2,4,u,[],[],0⟩ o0 o1 t (by omega)
    generalize hE3:VB E2 ⟨[],0,10*(k:Int)+2,4,u,[],[],0⟩=E3 at *;simp only[Ent.pv,eI,tsN]at A1 A2 A3;rw[←f3,if_neg (by simpa using h1)]at hst
    have ed:(dn++[u]).map PV.str=dn.map PV.str++[PV.str u]:=by simp
    have edl:(dn++[u]).length=dn.length+1:=by simp
    have ee:(en++[u]).map PV.str=en.map PV.str++[PV.str u]:=by simp
    have eel:(en++[u]).length=en.length+1:=by simp
    simp only[go_sem,hlt',hlt,hg,cx,splice,↓cD,cD,↓cE,cE,w10,w11,w12,wk,A1,A2,A3,↓q3,q3,h1,eml,dml,md,me,tsN];refine⟨k+1,?_,by omega,by omega⟩
    rw[hst]
  ·have hec:en.contains u=false:=by rw[Bool.eq_false_iff];intro e;exact he (List.contains_iff_mem.1 e)
   rw[hec]at cE;have f3:=fin3 true
   rw[if_neg he]at hst;simp only[he,decide_false,Bool.not_false]at hst;rw[if_pos rfl]at f3;have A1:=fun(o0 o1:Obj) (t:aA) K=>gH (K:=K) E ⟨[],0,10*(k:Int),1,u,[],[],0⟩ o0 o1 t (by omega)
   generalize hE1:VB E ⟨[],0,10*(k:Int),1,u,[],[],0⟩=E1 at *;have e1l:E1.length=E.length+1:=by rw[←hE1,al]
   have A2:=fun(o0 o1:Obj) (t:aA) K=>gH (K:=K) E1 ⟨[],0,10*(k:Int)+1,2,u,tsN,[],0⟩ o0 o1 t (by omega)
   generalize hE2:VB E1 ⟨[],0,10*(k:Int)+1,2,u,tsN,[],0⟩=E2 at *;have e2l:E2.length=E.length+2:=by rw[←hE2,al,e1l]
   by_cases h1:bin=1
   ·rw[if_pos h1]at f3
    have A3:=fun(o0 o1:Obj) (t:aA) K=>gH (K:=K) E2 ⟨[],0,10*(k:Int)+2,3,u,[],[],0⟩ o0 o1 t (by omega)
    generalize hE3:VB E2 ⟨[],0,10*(k:Int)+2,3,u,[],[],0⟩=E3 at *;simp only[Ent.pv,eI,tsN]at A1 A2 A3;rw[←f3,if_pos (by simpa using h1)]at hst
    have ed:(dn++[u]).map PV.str=dn.map PV.str++[PV.str u]:=by simp
    have edl:(dn++[u]).length=dn.length+1:=by simp
    have ee:(en++[u]).map PV.str=en.map PV.str++[PV.str u]:=by simp
    have eel:(en++[u]).length=en.length+1:=by simp
    simp only[go_sem,hlt',hlt,hg,cx,splice,↓cD,cD,↓cE,cE,w10,w11,w12,wk,A1,A2,A3,↓q3,q3,eq_true h1,eml,dml,md,me,tsN];refine⟨k+1,?_,by omega,by omega⟩
    rw[hst,ed,edl,ee,eel]
   ·rw[if_neg h1]at f3
    have A3:=fun(o0 o1:Obj) (t:aA) K=>gH (K:=K) E2 ⟨[],0,10*(k:Int)+2,4,u,[],[],0⟩ o0 o1 t (by omega)
    generalize hE3:VB E2 ⟨[],0,10*(k:Int)+2,4,u,[],[],0⟩=E3 at *;simp only[Ent.pv,eI,tsN]at A1 A2 A3;rw[←f3,if_neg (by simpa using h1)]at hst
    have ed:(dn++[u]).map PV.str=dn.map PV.str++[PV.str u]:=by simp
    have edl:(dn++[u]).length=dn.length+1:=by simp
    have ee:(en++[u]).map PV.str=en.map PV.str++[PV.str u]:=by simp
    have eel:(en++[u]).length=en.length+1:=by simp
    simp only[go_sem,hlt',hlt,hg,cx,splice,↓cD,cD,↓cE,cE,w10,w11,w12,wk,A1,A2,A3,↓q3,q3,h1,eml,dml,md,me,tsN];refine⟨k+1,?_,by omega,by omega⟩
    rw[hst,ee,eel]
 ·have ek:k=r.length:=by omega
  have hlt':¬(k:Int)<(r.length:Int):=by omega
  have eS:tlS l r k=zC ⟨[],[],[]⟩ 0 (lC (fun y=>decide (kB l y=1)) r):=by
   unfold tlS;rw[List.take_of_length_le (by unfold lC;rw[List.length_map];omega)]
  have hu:∀p∈lC (fun y=>decide (kB l y=1)) r,PA p.1=true:=by
   intro p hp;obtain⟨y,hy,rfl⟩:=List.mem_map.1 hp;have h0:=AZ hrf y hy
   unfold TB at h0;split at h0
   ·cases h0
   ·rename_i hh
    rw[Bool.not_eq_false,Bool.and_eq_true]at hh;exact hh.1
  obtain⟨I,T,hE0,hends,href,hpass⟩:=zkb (lC (fun y=>decide (kB l y=1)) r) (by unfold lC;rw[List.length_map];omega) hu eS.symm
  have tf:=zka l r (fun y=>decide (kB l y=1)) I
  have ul:(lC (fun y=>decide (kB l y=1)) r).length=r.length:=by unfold lC;rw[List.length_map]
  rw[ul]at T href;generalize tlS l r k=S at *;obtain⟨E,en,dn⟩:=S;dsimp only at hS hE0 hends href hpass tf T ⊢;have hts:∀p∈lC (fun y=>decide (kB l y=1)) r,p.1.length≤1000:=by
   intro p hp;obtain⟨y,hy,rfl⟩:=List.mem_map.1 hp;exact(hr2 y hy).u
  have hEok:∀x∈E,EntOk x:=by
   have:=z5H (lC (fun y=>decide (kB l y=1)) r) ⟨[],[],[]⟩ 0 (fun x hx=>by cases hx) hts
   rw[←eS]at this;exact this
  have O:StOk [tsN] E:=⟨by simp,by simp [tsN],hEok,by omega⟩
  have hup:upL E 10000=E:=zky fun y hy=>by have:=(T.t y hy);omega
  have hfl:BE [tsN] 10 E 10000=0:=by
   have f1:LJ [tsN] 10=0:=by decide
   have mo:CM 10000=0:=by decide
   unfold BE;rw[f1,hE0,mo];rfl
  have hst:zG [tsN] 10 E tsN 10000=0:=by
   have hsc:[tsN].contains tsN=true:=by decide
   unfold zG;rw[hfl,if_pos rfl,hsc];rfl
  have Y:=zhN hrf hst hup hpass tf.1 tf.2
  have q1:=fun h K=>zi6 (h:=h) (K:=K) [tsN] 10 E O tsN 10000
  have q2:=fun h K=>zi5 (h:=h) (K:=K) l r hl hr2 (by omega)
  have q3:=fun h K=>zi8 (h:=h) (K:=K) [tsN] 10 E O 10000
  have rx:KK [tsN] 10 E 10000=((yC [tsN] 10 E).ref,(yC [tsN] 10 E).why,0):=by unfold KK;rw[if_neg (by simp [hfl]),hup]
  rw[rx]at q3;rw[Y]at q2;generalize MF [tsN] 10 E tsN 10000=PP at *;obtain⟨⟨pa,pb⟩,pc⟩:=PP;dsimp only at q1 q2 q3;generalize (yC [tsN] 10 E).ref=refs at *;generalize (yC [tsN] 10 E).why=why at *;have eml:(E.map Ent.pv).length=E.length:=List.length_map ..
  have B4:=fun(o0 o1:Obj) (t:aA) (K:jA)=>ownB4 (h:=o0::o1::Obj.row (some 8) (E.map Ent.pv) 0::t) (K:=K) (a:=.agg [.sl none [.str tsN],eI 10]) (c:=.str tsN) (d:=eI 10000) (id:=2) (fz:=0) (sh:=some 8) (f:=AJ) z6h rfl rfl rfl eml
  have B3:=fun(o0 o1:Obj) (t:aA) (fz:Nat) (K:jA)=>ownB3 (h:=o0::o1::Obj.row (some 8) (E.map Ent.pv) fz::t) (K:=K) (a:=.agg [.sl none [.str tsN],eI 10]) (d:=eI 10000) (id:=2) (fz:=fz) (sh:=some 8) (f:=BJ) z6i rfl rfl rfl eml
  have fz0:∀(o0 o1:Obj) (t:aA) (fz:Nat),frz (o0::o1::Obj.row (some 8) (E.map Ent.pv) fz::t) 2 E.length=o0::o1::Obj.row (some 8) (E.map Ent.pv) (max fz E.length)::t:=fun _ _ _ _=>rfl
  simp only[nC,SF,List.map_cons,List.map_nil,tsN,eI,mC]at B4 B3 q1 q3;simp only[fz0,q1]at B4;simp only[fz0,q3]at B3;have ee:=eqa2 pa pb
  simp only[eI]at ee;have rl:(refs.map eI).length=refs.length:=List.length_map ..
  simp only[go_sem,hlt'];rw[vW];by_cases h10:r.length≤10
  ·have h10':(r.length:Int)≤10:=by omega
   have hr0:=href h10
   have hr0':¬(0:Int)<(refs.length:Int):=by omega
   simp only[EH,go_sem,tsN,↓B4,B4,↓B3,B3,↓q2,q2,splice,ee,hr0',rl,LZ]
  ·have h10':¬(r.length:Int)≤10:=by omega
   by_cases hr0:refs.length=0
   ·have hr0':¬(0:Int)<(refs.length:Int):=by omega
    simp only[EH,go_sem,tsN,↓B4,B4,↓B3,B3,↓q2,q2,splice,ee,hr0',rl,LZ]
   ·have hr0':(0:Int)<(refs.length:Int):=by omega
    simp only[EH,go_sem,tsN,↓B4,B4,↓B3,B3,↓q2,q2,splice,ee,hr0',h10',rl,LZ]
end Go.Am
end
section
/- From a law that is true here tov the model's calls at what came in. -/
open Go
namespace Go.Am
variable {P:Program}
theorem law_nil {X:Ctx}(HX:Fits P X){f:Nat}{F:AFun}(hF:X.fn f=some F)(H:∀ L:List Int,bA X f [IR L] [] fun v _ _=>v = .p (.bool true))(W:World)(hG:LD X.gl (imm [] [] W)) :
 Calls P f #[.slice none 0 0] W fun e W'=>e = .returned (.bool true)∧RowKit.Below W.heap.size W W':=by
 refine(z1o HX hF (H []) (W:=W) (vs:=[.slice none 0 0]) hG rfl (fun j y v hy hv=>?_)).mono fun e W' he=>?_
 ·cases j with
  | zero=>cases hy;cases hv;exact z9C W
  | succ j=>cases hy
 ·cases e with
  | returned r=>
   obtain⟨⟨v,h,x,μ,hk,hr⟩,hb⟩:=he;subst hk;exact⟨by rw[hr.p_bool],hb⟩
  | panicked _=>exact he.elim
  | outgrown=>exact he.elim
theorem law_ints {X:Ctx}(HX:Fits P X){f:Nat}{F:AFun}(hF:X.fn f=some F)(H:∀ L:List Int,bA X f [IR L] [] fun v _ _=>v = .p (.bool true)){W:World}(hG:LD X.gl (imm [] [] W)){a:Addr}{len cap:Nat}{zs:List Int}
 (hl:len≤cap) (hz:len≤zs.length) (hc:∀i,i<zs.length→W.cell? (a.add i)=some (.int .i64 (zs.getD i 0))) :
 Calls P f #[.slice (some a) len cap] W fun e W'=>e = .returned (.bool true)∧RowKit.Below W.heap.size W W':=by
 refine(z1o HX hF (H (zs.take len)) (W:=W) (vs:=[.slice (some a) len cap]) hG rfl (fun j y v hy hv=>?_)).mono fun e W' he=>?_
 ·cases j with
  | zero=>
   cases hy;cases hv
   rcases Nat.eq_zero_or_pos len with h0|h0
   ·subst h0
    exact .p _ _ (.nils _ _ _)
   ·exact z9B (by simpa [Addr.add] using World.cell?_spot (hc 0 (by omega))) hl hz hc
  | succ j=>cases hy
 ·cases e with
  | returned r=>
   obtain⟨⟨v,h,x,μ,hk,hr⟩,hb⟩:=he;subst hk;exact⟨by rw[hr.p_bool],hb⟩
  | panicked _=>exact he.elim
  | outgrown=>exact he.elim
end Go.Am
namespace Go.ChangeShapes
open Go.RowKit Go.WideShapes
end Go.ChangeShapes
end
section
/- The abstract machine,part L2: the kit's contracts asv rows. -/
set_option linter.unusedSimpArgs false
set_option linter.unusedVariables false
namespace Go.Am
variable {P:Program} {gl:Nat→Option PV}
open Go.Shelf
end Go.Am
end
