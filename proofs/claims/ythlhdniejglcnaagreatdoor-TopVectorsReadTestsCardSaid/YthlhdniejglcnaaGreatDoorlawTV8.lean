/- Texts of the proof, laid together: SpTap8, PSplit, SpIdx, AmL4, AmL5, SpSplit, SpTap9, SpTap10, SpTaq1, SpTaq2, PTxt, PNum, PFltR, SpLines, SpNum, SpNums, SpQNum, SpTaq3, SpTaq4, SpTaq5, SpTaq6, SpTaq7, SpTaq8, SpTaq9, SpSig, SpRnV1, PTvr, SpVec18, PTvr2, SpRnV2, SpFacts, SpLawTV, Bridge, AmL2. -/
import Derived.Shelf.Strings.Repeat
import Derived.Shelf.Strings.SlTrimAscii
import Derived.Shelf.Spec.TrailingZeros
import Derived.Shelf.Strings.Count
import Derived.Shelf.Strings.OnBuilder
import Derived.KernelRfl
import Derived.ProofKit
import Derived.Shelf.Strconv.Itoa3
import Derived.Lib.LaidTab
import Derived.Test.YthlhdniejglcnaaGreatDoorlawTV7
set_option linter.all false
section
/- A chain is run: the program. -/
open Go
set_option linter.all false
set_option maxRecDepth 100000
namespace Go.Am
variable {h:aA} {K:kA}
attribute [-go_sem] PA CB NB
theorem zcm {ds:List TDev}:iB ds ds.length=ds.map nE:=by unfold iB;rw[List.take_length]
theorem zcn {ds:List TDev}:(ds.map nE).map PortS.d=ds:=by rw[List.map_map];exact List.map_id _
theorem zcp {ds:List TDev}:(ds.map nE).map PortS.p=NH ds:=by rw[List.map_map];rfl
theorem zco {ds:List TDev}(hd:∀ d∈ds,DevOk d):∀q∈ds.map nE,PSOk q:=by
 intro q hq;obtain⟨d,hm,rfl⟩:=List.mem_map.1 hq;have D:=hd d hm
 exact⟨D,⟨by simp [nE],by simp [nE,tC],by simp [nE],by simp [nE]⟩,fun r hr=>z15 d d.regs [] D.nd r hr⟩
theorem FY {s:List UInt8}(hs:zA s=true){k:Nat}(hk:k<s.length):tC s[k]:=EY hs (List.getElem_mem hk)
theorem zfi (ds:List TDev)(st:Nat)(ps:List YB)(a b:UInt8)(r:List (UInt8 × UInt8)):qB ds st ps ((a,b)::r)=cG st (ID st ds ps b).2::qB ds (stW st a) (ID st ds ps b).1 r:=rfl
set_option maxHeartbeats 4000000 in
theorem zfp (ds:List TDev)(hd:∀ d∈ds,DevOk d)(h0:ds≠[])(h20:ds.length≤20)(hck:∀ h K,eA X AG [qD ds] h K=K (AI 0) h [])(tms tdi:List UInt8)(hl:tms.length=tdi.length)(hn:tms.length≤20000)(hb1:zA tms=true)(hb2:zA tdi=true) :
 eA X OL [qD ds,AS tms,AS tdi] h K=K (.tup [AS (qB ds 0 (NH ds) (tms.zip tdi)),AI 0]) h []:=by
 refine CA ?_;rw[z6M rfl];have nw:=fun h K=>s_New (h:=h) (K:=K) ds hd h0 h20 hck
 have B1:=fun h K=>YH (h:=h) (K:=K) tms (by omega)
 have B2:=fun h K=>YH (h:=h) (K:=K) tdi (by omega)
 rw[hb1]at B1;rw[hb2]at B2;have t1:¬(20000:Int)<(tms.length:Int):=by omega
 have t2:¬(20000:Int)<(tdi.length:Int):=by omega
 have t3:(tms.length:Int)=(tdi.length:Int):=by omega
 have l0:(CH h 0 (iB ds ds.length) []).length=h.length+(2+4*ds.length):=by rw[XG,z1T (Nat.le_refl _)];rfl
 have ap:∀(st:Int) (l:List PortS) (t u:aA),CH h st l t++u=CH h st l (t++u):=fun _ _ _ _=>DR
 simp only[pO,go_sem,↓nw,nw,t1,t2,eq_true t3,↓B1,B1,↓B2,B2,l0,ap,List.nil_append];have zl:(tms.zip tdi).length=tms.length:=by rw[List.length_zip];omega
 have Rl:(qB ds 0 (NH ds) (tms.zip tdi)).length=tms.length:=by rw[fX,zl]
 generalize hR:qB ds 0 (NH ds) (tms.zip tdi)=R at *;refine nB (fun t:Nat×Nat×List PortS=>⟨[(1,AS tms),(2,AS tdi),(8,.ref (h.length+1) 0),(10,.own (h.length+(2+4*ds.length)) t.1 0 t.1),(46,AI tms.length),(47,AI t.1)],CH h t.2.1 t.2.2 [.row none (AA (R.take t.1)) 0],HF h ds.length⟩)
  (fun t=>(t.1≤tms.length∧t.2.1<16)∧(t.2.2.map PortS.d=ds∧∀q∈t.2.2,PSOk q)∧qB ds t.2.1 (t.2.2.map PortS.p) ((tms.zip tdi).drop t.1)=R.drop t.1) (fun t=>tms.length-t.1) (0,0,ds.map nE) (by rw[zcm];rfl) ⟨⟨by dsimp only;omega,by dsimp only;omega⟩,⟨zcn,zco hd⟩,by dsimp only;rw[zcp,List.drop_zero,hR];rfl⟩ ?_
 rintro⟨k,st,l⟩ ⟨⟨i1,i2⟩,⟨i3,i4⟩,i5⟩
 dsimp only at i1 i2 i3 i4 i5 ⊢;have ll:l.length=ds.length:=by rw[←i3,List.length_map]
 generalize hP:h.length+(2+4*ds.length)=P at *;have gl:∀(st:Int) (l:List PortS),l.length=ds.length→∀t:aA,(CH h st l t).length=P+t.length:=fun st l e t=>by rw[XG,e,hP]
 have gg:∀(st:Int) (l:List PortS),l.length=ds.length→∀(t:aA),(CH h st l t)[P]?=t[0]?:=fun st l e t=>by
  have:=@CH_t h st l t 0;rw[e,hP]at this;exact this
 have gs:∀(st:Int) (l:List PortS),l.length=ds.length→∀(t:aA) (o:Obj),(CH h st l t).set P o=CH h st l (t.set 0 o):=fun st l e t o=>by
  have:=@ER h st l t 0 o;rw[e,hP]at this;exact this
 have gk:∀(st:Int) (l:List PortS),l.length=ds.length→∀(t:aA) (n:Nat),(CH h st l t).take (P+n)=CH h st l (t.take n):=fun st l e t n=>by
  have:=@UX h st l t n;rw[e,hP]at this;exact this
 have lr:(AA (R.take k)).length=k:=by rw[qI,List.length_take];omega
 rw[jI];rcases Nat.lt_or_ge k tms.length with hlt|hge
 ·have hlt':(k:Int)<(tms.length:Int):=by omega
  have hk2:k<tdi.length:=by omega
  have w2:IntKind.i64.wrap ((k:Int)+1)=((k+1:Nat):Int):=GA _ (by omega) (by omega)
  have ea:(tms.zip tdi).drop k=(tms[k],tdi[k])::(tms.zip tdi).drop (k+1):=by
   rw[List.drop_eq_getElem_cons (by rw[zl];exact hlt),List.getElem_zip]
  have ba:=FY hb1 hlt
  have bb:=FY hb2 hk2
  have ga:tms[k]?=some tms[k]:=List.getElem?_eq_getElem hlt
  have gb:tdi[k]?=some tdi[k]:=List.getElem?_eq_getElem hk2
  rw[ea]at i5;generalize tms[k]=ca at *;generalize tdi[k]=cb at *;rw[zfi]at i5;have wS:∀c:UInt8,tC c→IntKind.u8.wrap ((c.toNat:Int)-48)=((c.toNat-48:Nat):Int):=fun c hc=>by rcases hc with rfl|rfl <;> rfl
  have wT:∀c:UInt8,tC c→IntKind.i64.wrap ((c.toNat-48:Nat):Int)=((c.toNat-48:Nat):Int):=fun c hc=>by rcases hc with rfl|rfl <;> rfl
  have x1:=wS ca ba
  have x2:=wT ca ba
  have x3:=wS cb bb
  have x4:=wT cb bb
  have ck:=fun K=>zfB (h:=h) (K:=K) [.row none (AA (R.take k)) 0] l i4 (by omega) st i2 ca cb ba bb
  obtain⟨n1,n2,n3⟩:=mY st l cb;obtain⟨o1,o2⟩:=oY st l cb i4 bb;have ol:=nY st l cb
  rw[i3]at n1 n2 n3;rw[←n1,←n2]at i5;generalize (eC st l cb).1=l' at *;generalize (eC st l cb).2=b' at *;have l'l:l'.length=ds.length:=by rw[ol,ll]
  have gl':=gl (stW st ca) l' l'l
  have gg':=gg (stW st ca) l' l'l
  have gs':=gs (stW st ca) l' l'l
  have gk':=gk (stW st ca) l' l'l
  have gl0:=gl st l ll
  have hst':stW st ca<16:=zgi i2 ba
  have f1:h.length+1+1≤P+1:=by omega
  have f2:h.length+1≤P:=by omega
  have ms:k+1≤LA:=by unfold LA;omega
  have eR:R.drop k=cG st b'::R.drop (k+1):=by
   have:R.drop (k+1)=(R.drop k).drop 1:=by rw[List.drop_drop]
   rw[this,←i5];rfl
  have i6:qB ds (stW st ca) (l'.map PortS.p) ((tms.zip tdi).drop (k+1))=R.drop (k+1):=by
   rw[eR]at i5;injection i5
  have eT:R.take (k+1)=R.take k++[cG st b']:=by
   have hk:k<R.length:=by omega
   rw[List.take_succ_eq_append_getElem hk];congr 2
   rw[List.drop_eq_getElem_cons hk]at eR;injection eR
  have eB:AA (R.take (k+1))=AA (R.take k)++[.int .u8 (cG st b').toNat]:=by rw[eT];simp [AA]
  unfold clkO at ck;unfold cG at eB;by_cases hs:st=4∨st=11
  ·rw[if_pos hs]at ck eB
   have y1:¬(b'.toNat:Int)-48<0:=by rcases o2 with e|e <;> rw[e] <;> decide
   have y2:IntKind.i64.wrap (48+((b'.toNat:Int)-48))=(b'.toNat:Int):=by rcases o2 with e|e <;> rw[e] <;> rfl
   have y3:IntKind.u8.wrap (b'.toNat:Int)=(b'.toNat:Int):=by rcases o2 with e|e <;> rw[e] <;> rfl
   simp only[RO,HI,go_sem,hlt',ga,gb,x1,x2,x3,x4,↓ck,ck,y1,y2,y3,gg',gs',gk',gl0,lr,ms,f1,f2,w2,List.length_cons,List.length_nil];refine⟨(k+1,stW st ca,l'),?_,⟨⟨by dsimp only;omega,hst'⟩,⟨n3,o1⟩,i6⟩,by dsimp only;omega⟩
   rw[eB]
  ·rw[if_neg hs]at ck eB
   have y1:(-1:Int)<0:=by decide
   simp only[RO,HI,go_sem,hlt',ga,gb,x1,x2,x3,x4,↓ck,ck,y1,gg',gs',gk',gl0,lr,ms,f1,f2,w2,List.length_cons,List.length_nil];refine⟨(k+1,stW st ca,l'),?_,⟨⟨by dsimp only;omega,hst'⟩,⟨n3,o1⟩,i6⟩,by dsimp only;omega⟩
   rw[eB];rfl
 ·have ek:k=tms.length:=by omega
  subst ek;have eR:R.take tms.length=R:=List.take_of_length_le (by omega)
  rw[eR]at lr ⊢;have tb:uE (AA R)=some R:=sR _
  have wf:win (AA R) 0 tms.length=AA R:=dE lr
  have gl0:=gl st l ll
  have gg0:=gg st l ll
  have gk0:=gk st l ll
  have f1:h.length+1+1≤P+1:=by omega
  simp only[RO,HI,go_sem,Nat.lt_irrefl,gl0,gg0,gk0,f1,List.length_cons,List.length_nil,lr,wf,tb];rw[zeY (v:=.tup [AS R,AI 0]) (fun y hy=>by have:=(IU hy).1;omega) (by simp only[go_sem]) (by simp [AV.top,AV.tops])]
  have th:(CH h st l [.row none (AA R) 0]).take h.length=h:=by unfold CH;rw[GK]
  rw[th];exact⟨rfl,rfl,rfl⟩
end Go.Am
end
section
/- A text split at a byte. -/
set_option linter.all false
namespace Go.Am
end Go.Am
end
section
/- Where a byte stands in a text. -/
open Go
set_option linter.all false
namespace Go.Am
variable {h:aA} {K:kA}
theorem zf7 (s:List UInt8)(c:UInt8):eA X vG [AS s,.p (.int .u8 c.toNat)] h K=K (AI (DC s c)) h []:=by
 refine CA ?_;rw[OY rfl];simp only[NK,go_sem,z3d]
end Go.Am
end
section
/- The abstract machine,part L4: strings.Repeat,strings.Trim,math/bits.TrailingZeros64 asv rows. -/
set_option linter.all false
namespace Go.Am
variable {P:Program} {gl:Nat→Option PV}
open Go.Shelf
theorem CY {w w':World}(h:Go.RowKit.Below w.heap.size w w'):WExt w w':=⟨h.size,fun b hb=>h.block b hb,by unfold zed;rw[h.os,h.tape,h.output]⟩
theorem z1D (s:List UInt8):∀c,Go.Lib.repeatL s c=oD s c
 | 0=>rfl
 | c+1=>by rw[Go.Lib.repeatL,oD,z1D s c]
theorem zih {ρ:Ren}(L:Go.Proofs.Lays.n105 P ρ)(E:Go.Proofs.Builder.Extra P ρ)(he:∀ us w,(callFunc (ρ.f 105) us).run P w = .ok (.enter (ρ.f 105) us) w):PureRow P gl (ρ.f 105) lK where
 enter:=he
 run M w vs r us hc hb hG hl hr hs:=by
  unfold lK at hs;split at hs
  ·rename_i s c
   split at hs
   ·rename_i hbd
    match us,hl with
    | [u,v],_=>
     have q:=hr 0 _ u rfl rfl
     cases q;have q2:=hr 1 _ v rfl rfl
     cases q2;simp only[Option.some.injEq]at hs
     subst hs;obtain⟨n,rfl⟩:=Int.eq_ofNat_of_zero_le hbd.1;have hsz:(⟨s.toArray⟩:ByteArray).size=s.length:=by simp [ByteArray.size]
     simp only[Int.toNat_natCast]at hbd ⊢;refine(Go.Proofs.Any.strings_Repeat L E ⟨s.toArray⟩ n w (by omega) (by rw[hsz];omega)).mono fun e w' h=>?_
     obtain⟨rfl,h⟩:=h;exact⟨_,rfl,CY h,by rw[z1D];exact .p _ _ (.str _)⟩
   ·cases hs
  ·cases hs
theorem zbS (s cs:List UInt8):Go.Lib.trimS s cs=TM s cs:=rfl
theorem trimRow {ρ:Ren}(L:Go.Proofs.Lays.n160 P ρ)(h116:(P.info? (ρ.t 116)).map (fun i=>(i.zero,i.size))=some (some (.agg (Array.replicate 256 (.bool false))),256))(he:∀ us w,(callFunc (ρ.f 160) us).run P w = .ok (.enter (ρ.f 160) us) w):PureRow P gl (ρ.f 160) trimS where
 enter:=he
 run M w vs r us hc hb hG hl hr hs:=by
  unfold trimS at hs;split at hs
  ·rename_i s cs
   split at hs
   ·rename_i hbd
    match us,hl with
    | [u,v],_=>
     have q:=hr 0 _ u rfl rfl
     cases q;have q2:=hr 1 _ v rfl rfl
     cases q2;simp only[Option.some.injEq]at hs
     subst hs;have hsz:∀l:List UInt8,(⟨l.toArray⟩:ByteArray).size=l.length:=fun l=>by simp [ByteArray.size]
     refine(Go.Proofs.Any.strings_Trim_laid L h116 ⟨s.toArray⟩ ⟨cs.toArray⟩ w (by rw[hsz];omega) (by rw[hsz];omega) (Go.Proofs.ascii_of_all hbd.2.2)).mono fun e w' h=>?_
     obtain⟨rfl,h⟩:=h;exact⟨_,rfl,CY h,by rw[←zbS];exact .p _ _ (.str _)⟩
   ·cases hs
  ·cases hs
end Go.Am
end
section
/- The abstract machine,part L5: strings.Count at one byte,strings.Join asv rows. -/
set_option linter.all false
namespace Go.Am
variable {P:Program} {gl:Nat→Option PV}
open Go.Shelf
end Go.Am
end
section
/- Texts split at a byte. -/
open Go
set_option linter.all false
namespace Go.Am
variable {h:aA} {K:kA}
theorem zf8 (s:List UInt8)(c:UInt8)(hs:s.length≤1000000):eA X tL [AS s,AS [c]] h K=K (AI (DC s c)) h []:=by
 refine CA ?_;rw[z6t rfl];have q:=fun h K=>zf7 (h:=h) (K:=K) s c
 simp only[MN,go_sem,↓q,q,List.length_cons,List.length_nil];split
 ·rename_i h1;subst h1;simp [DC]
 ·trivial
end Go.Am
end
section
/- What is wrong with devices: the program. -/
open Go
set_option linter.all false
set_option maxRecDepth 100000
namespace Go.Am
variable {h:aA} {K:kA}
attribute [-go_sem] PA
theorem zfA (s:List UInt8)(hs:s.length≤1000000):eA X HL [AS s,AS [48]] h K=K (AB (s.contains 48)) h []:=by
 refine CA ?_;rw[z6E rfl];have IX:∀(hh:aA) (K:kA),eA X IL [AS s,AS [48]] hh K=K (AI (DC s 48)) hh []:=fun hh K=>by
  refine CA ?_;rw[z6F rfl];have q:=fun h K=>zf8 (h:=h) (K:=K) s 48 hs
  simp only[iO,go_sem,↓q,q]
 have e:=z12 s 48
 have e2:decide (0≤DC s 48)=s.contains 48:=by
  cases hc:s.contains 48 with
  | true=>
   rw[hc]at e;have:¬DC s 48<0:=by simpa using e
   exact decide_eq_true (by omega)
  | false=>
   rw[hc]at e;have:DC s 48<0:=by simpa using e
   exact decide_eq_false (by omega)
 simp only[fO,go_sem,↓IX,IX,e2]
theorem z5B {n:List UInt8}{l:List TReg}:(l.map FA).any (WD n)=l.any fun x=>decide (x.name=n):=by rw[List.any_map];rfl
theorem z5A {n:List UInt8}{l:List TIns}:(l.map vB).any (WD n)=l.any fun x=>decide (x.code=n):=by rw[List.any_map];rfl
theorem z59 {n:List UInt8}{l:List TDev}:(l.map dB).any (WD n)=l.any fun x=>decide (x.name=n):=by rw[List.any_map];rfl
set_option maxHeartbeats 2000000 in
theorem zf0 (d:TDev)(B:DevB d):eA X VL [tB d] h K=K (AI (nD [] d.regs)) h []:=by
 refine CA ?_;rw[z6W rfl];have hl:=B.rs
 obtain⟨T,hT⟩:∃T,T=nD [] d.regs:=⟨_,rfl⟩;rw[←hT];simp only[zO,go_sem,tB,dB,List.length_map];refine nB (fun k:Nat=>⟨[(1,.ref h.length 0),(6,.p (.sl (some 2) (d.regs.map FA))),(7,AI d.regs.length),(8,AI k)],h++[.box (ZB d)],[]⟩) (fun k=>k≤d.regs.length∧nD (d.regs.take k) (d.regs.drop k)=T) (fun k=>d.regs.length-k) 0 rfl ⟨by omega,hT.symm⟩ ?_
 rintro k ⟨hk,hp⟩
 rcases Nat.lt_or_ge k d.regs.length with hlt|hge
 ·have hg:=sC FA hlt
  have w2:IntKind.i64.wrap ((k:Int)+1)=((k+1:Nat):Int):=GA _ (by omega) (by omega)
  have cx:bB (some 2) 0 (FA d.regs[k])=some (FA d.regs[k]):=rfl
  have fp:∀y:TReg,FA y = .agg [.str y.name,eI y.long]:=fun _=>rfl
  have nl:=B.rn _ (List.getElem_mem hlt)
  have tk:=List.take_succ_eq_append_getElem hlt
  have hw:win (d.regs.map FA) 0 k=(d.regs.take k).map FA:=by simp [win,List.map_take]
  have hk2:k≤d.regs.length:=hk
  have lt:(d.regs.take k).length≤1000:=by rw[List.length_take];omega
  have d3:ldB none 3 (some (.box (ZB d)))=some (.p (.sl (some 2) (d.regs.map FA))):=rfl
  rw[List.drop_eq_getElem_cons hlt]at hp;unfold nD at hp;rw[←tk]at hp;generalize hrr:d.regs[k]=r at *;generalize d.regs.take k=pre at *;rw[fp]at hg cx;have ky:=fun h K=>z2X (h:=h) (K:=K) r.name (by omega)
  have tl:VE WL [.ref (h.length+1) 0] (WD r.name) (pre.map FA) (h++[.box (ZB d),.box [AS r.name,AI r.long]]):=fun x hx K=>by
   obtain⟨y,_,rfl⟩:=List.mem_map.1 hx;refine CA ?_;rw[z6X rfl];simp only[CO,go_sem,Nat.add_assoc,FA,WD]
  have ct:=fun K=>z4w (h:=h++[.box (ZB d),.box [AS r.name,AI r.long]]) (K:=K) tl z2y (by simp;omega)
  rw[z5B]at ct;cases kb:XC r.name with
  | false=>
   have e:zC pre r=5:=by unfold zC;rw[if_pos kb]
   rw[e,if_pos (by decide)]at hp
   rw[←hp];simp only[rG,eF,go_sem,Nat.add_assoc,hlt,hg,cx,fp,↓ky,ky,kb,splice]
  | true=>
   by_cases n1:r.name=[98,121,112,97,115,115]
   ·have e:zC pre r=6:=by unfold zC rB DB;rw[if_neg (by simp [kb]),if_pos (.inl n1)]
    rw[e,if_pos (by decide)]at hp
    rw[←hp];simp only[rG,eF,go_sem,Nat.add_assoc,hlt,hg,cx,fp,↓ky,ky,kb,eq_true n1,splice]
   by_cases n2:r.name=[105,100,99,111,100,101]
   ·have e:zC pre r=6:=by unfold zC rB DB;rw[if_neg (by simp [kb]),if_pos (.inr (.inl n2))]
    rw[e,if_pos (by decide)]at hp
    rw[←hp];simp only[rG,eF,go_sem,Nat.add_assoc,hlt,hg,cx,fp,↓ky,ky,kb,n1,eq_true n2,splice]
   cases ha:(pre.any fun x=>decide (x.name=r.name)) with
   | true=>
    have e:zC pre r=6:=by unfold zC rB DB;rw[if_neg (by simp [kb]),if_pos (.inr (.inr ha))]
    rw[e,if_pos (by decide)]at hp
    rw[←hp];rw[ha]at ct;simp only[rG,eF,go_sem,Nat.add_assoc,hlt,hg,cx,fp,↓ky,ky,kb,n1,n2,d3,hw,hk2,↓ct,ct,splice]
   | false=>
    have e0:¬(r.name=[98,121,112,97,115,115]∨r.name=[105,100,99,111,100,101]∨(pre.any fun x=>decide (x.name=r.name))=true):=by rw[ha];simp [n1,n2]
    rw[ha]at ct;by_cases o1:r.long<1∨1000<r.long
    ·have e:zC pre r=1:=by unfold zC rB DB;rw[if_neg (by simp [kb]),if_neg e0,if_pos o1]
     rw[e,if_pos (by decide)]at hp
     rw[←hp];have o2:(decide (r.long<1)||decide (1000<r.long))=true:=by simpa using o1
     simp only[rG,eF,go_sem,Nat.add_assoc,hlt,hg,cx,fp,↓ky,ky,kb,n1,n2,d3,hw,hk2,↓ct,ct,splice,cC,o2]
    ·have e:zC pre r=0:=by unfold zC rB DB;rw[if_neg (by simp [kb]),if_neg e0,if_neg o1]
     rw[e,if_neg (by decide)]at hp
     have o2:(decide (r.long<1)||decide (1000<r.long))=false:=by simpa using o1
     simp only[rG,eF,go_sem,Nat.add_assoc,hlt,hg,cx,fp,↓ky,ky,kb,n1,n2,d3,hw,hk2,↓ct,ct,splice,cC,o2,w2];exact⟨k+1,rfl,⟨by omega,hp⟩,by omega⟩
 ·have ek:k=d.regs.length:=by omega
  subst ek;rw[List.drop_length]at hp;rw[←hp];simp only[rG,eF,go_sem,Nat.lt_irrefl,OZ,BO,nD]
set_option maxHeartbeats 4000000 in
theorem zfw (d:TDev)(B:DevB d):eA X RL [tB d] h K=K (AI (TD d [] d.ins)) h []:=by
 refine CA ?_;rw[z6P rfl];have hl:=B.is
 obtain⟨T,hT⟩:∃T,T=TD d [] d.ins:=⟨_,rfl⟩;rw[←hT];simp only[rO,go_sem,tB,dB,List.length_map];refine nB (fun k:Nat=>⟨[(1,.ref h.length 0),(8,.p (.sl (some 2) (d.ins.map vB))),(9,AI d.ins.length),(10,AI k)],h++[.box (ZB d)],[]⟩) (fun k=>k≤d.ins.length∧TD d (d.ins.take k) (d.ins.drop k)=T) (fun k=>d.ins.length-k) 0 rfl ⟨by omega,hT.symm⟩ ?_
 rintro k ⟨hk,hp⟩
 rcases Nat.lt_or_ge k d.ins.length with hlt|hge
 ·have hg:=sC vB hlt
  have w2:IntKind.i64.wrap ((k:Int)+1)=((k+1:Nat):Int):=GA _ (by omega) (by omega)
  have cx:bB (some 2) 0 (vB d.ins[k])=some (vB d.ins[k]):=rfl
  have fp:∀y:TIns,vB y = .agg [.str y.code,.str y.reg]:=fun _=>rfl
  obtain⟨nl1,nl2⟩:=B.ic _ (List.getElem_mem hlt);have tk:=List.take_succ_eq_append_getElem hlt
  have hw:win (d.ins.map vB) 0 k=(d.ins.take k).map vB:=by simp [win,List.map_take]
  have hk2:k≤d.ins.length:=hk
  have lt:(d.ins.take k).length≤1000:=by rw[List.length_take];omega
  have d1:ldB none 1 (some (.box (ZB d)))=some (AI d.long):=rfl
  have d4:ldB none 4 (some (.box (ZB d)))=some (.p (.sl (some 2) (d.ins.map vB))):=rfl
  have d5:ldB (some 5) 0 (some (.box (ZB d)))=some (tB d):=rfl
  rw[List.drop_eq_getElem_cons hlt]at hp;unfold TD at hp;rw[←tk]at hp;generalize hrr:d.ins[k]=r at *;generalize d.ins.take k=pre at *;rw[fp]at hg cx;have bt:=fun h K=>YH (h:=h) (K:=K) r.code (by omega)
  have sc:=fun h K=>zfA (h:=h) (K:=K) r.code (by omega)
  have rg:=fun h K=>qX (h:=h) (K:=K) d r.reg (by have:=B.rs;omega)
  have tl:VE SL [.ref (h.length+1) 0] (WD r.code) (pre.map vB) (h++[.box (ZB d),.box [AS r.code,AS r.reg]]):=fun x hx K=>by
   obtain⟨y,_,rfl⟩:=List.mem_map.1 hx;refine CA ?_;rw[z6Q rfl];simp only[tO,go_sem,Nat.add_assoc,vB,WD]
  have ct:=fun K=>z4v (h:=h++[.box (ZB d),.box [AS r.code,AS r.reg]]) (K:=K) tl zaZ (by simp;omega)
  rw[z5A]at ct;by_cases n1:(r.code.length:Int)=d.long
  case neg=>
   have e:wC d pre r=3:=by unfold wC;rw[if_pos n1]
   rw[e,if_pos (by decide)]at hp
   rw[←hp];simp only[qG,bF,go_sem,Nat.add_assoc,hlt,hg,cx,fp,splice,d1,n1]
  cases n2:zA r.code with
  | false=>
   have e:wC d pre r=9:=by unfold wC;rw[if_neg (by simp [n1]),if_pos n2]
   rw[e,if_pos (by decide)]at hp
   rw[←hp];rw[n2]at bt;simp only[qG,bF,go_sem,Nat.add_assoc,hlt,hg,cx,fp,splice,d1,eq_true n1,↓bt,bt]
  | true=>
   rw[n2]at bt;cases n3:r.code.contains 48 with
   | false=>
    have e:wC d pre r=16:=by unfold wC;rw[if_neg (by simp [n1]),if_neg (by simp [n2]),if_pos n3]
    rw[e,if_pos (by decide)]at hp
    rw[←hp];rw[n3]at sc;simp only[qG,bF,go_sem,Nat.add_assoc,hlt,hg,cx,fp,splice,d1,eq_true n1,↓bt,bt,↓sc,sc]
   | true=>
    rw[n3]at sc;cases n4:(pre.any fun y=>decide (y.code=r.code)) with
    | true=>
     have e:wC d pre r=6:=by unfold wC;rw[if_neg (by simp [n1]),if_neg (by simp [n2]),if_neg (by rw[n3];simp),if_pos n4]
     rw[e,if_pos (by decide)]at hp
     rw[←hp];rw[n4]at ct;simp only[qG,bF,go_sem,Nat.add_assoc,hlt,hg,cx,fp,splice,d1,eq_true n1,↓bt,bt,↓sc,sc,d4,hw,hk2,↓ct,ct]
    | false=>
     rw[n4]at ct;cases n5:bC d r.reg with
     | none=>
      have e:wC d pre r=8:=by unfold wC;rw[if_neg (by simp [n1]),if_neg (by simp [n2]),if_neg (by rw[n3];simp),if_neg (by rw[n4];simp),if_pos (by rw[n5];rfl)]
      rw[e,if_pos (by decide)]at hp
      rw[←hp];unfold kK at rg;rw[n5]at rg;dsimp only at rg;simp only[qG,bF,go_sem,Nat.add_assoc,hlt,hg,cx,fp,splice,d1,eq_true n1,↓bt,bt,↓sc,sc,d4,d5,hw,hk2,↓ct,ct,↓rg,rg]
     | some g=>
      have e:wC d pre r=0:=by unfold wC;rw[if_neg (by simp [n1]),if_neg (by simp [n2]),if_neg (by rw[n3];simp),if_neg (by rw[n4];simp),if_neg (by rw[n5];simp)]
      rw[e,if_neg (by decide)]at hp
      unfold kK at rg;rw[n5]at rg;dsimp only at rg;have fr:∀y:TReg,FA y = .agg [.str y.name,eI y.long]:=fun _=>rfl
      rw[fr]at rg;simp only[qG,bF,go_sem,Nat.add_assoc,hlt,hg,cx,fp,splice,d1,eq_true n1,↓bt,bt,↓sc,sc,d4,d5,hw,hk2,↓ct,ct,↓rg,rg,w2];exact⟨k+1,rfl,⟨by omega,hp⟩,by omega⟩
 ·have ek:k=d.ins.length:=by omega
  subst ek;rw[List.drop_length]at hp;rw[←hp];simp only[qG,bF,go_sem,Nat.lt_irrefl,LZ,sO,TD]
end Go.Am
end
section
/- What is wrong with devices,all: the program. -/
open Go
set_option linter.all false
set_option maxRecDepth 100000
namespace Go.Am
variable {h:aA} {K:kA}
attribute [-go_sem] PA
theorem orL2 (a b:Int):orL [a,b]=if a≠0 then a else b:=by
 unfold orL orL;by_cases h:a=0
 ·by_cases h2:b=0
  ·simp [h,h2,orL]
  ·simp [h,h2]
 ·simp [h]
set_option maxHeartbeats 4000000 in
theorem zfu (pre:List TDev)(hpre:pre.length≤1000)(d:TDev)(B:DevB d):eA X PL [tB d,qD pre] h K=K (AI (BE pre d)) h []:=by
 refine CA ?_;rw[z6N rfl];have ky:=fun h K=>z2X (h:=h) (K:=K) d.name (by have:=B.n;omega)
 have tl:VE QL [.ref h.length 0] (WD d.name) (pre.map dB) (h++[.box [AS d.name,AI d.long,AI d.id,.p (.sl (some 2) (d.regs.map FA)),.p (.sl (some 2) (d.ins.map vB))]]):=fun x hx K=>by
  obtain⟨y,_,rfl⟩:=List.mem_map.1 hx;refine CA ?_;rw[z6O rfl];simp only[qO,go_sem,Nat.add_assoc,dB,WD]
 have ct:=fun K=>z4u (h:=h++[.box [AS d.name,AI d.long,AI d.id,.p (.sl (some 2) (d.regs.map FA)),.p (.sl (some 2) (d.ins.map vB))]]) (K:=K) tl z7Q (by simp;omega)
 rw[z59]at ct;have rf:=fun h K=>zf0 (h:=h) (K:=K) d B
 have nf:=fun h K=>zfw (h:=h) (K:=K) d B
 have fa:tB d = .p (.agg [.str d.name,eI d.long,eI d.id,.sl (some 2) (d.regs.map FA),.sl (some 2) (d.ins.map vB)]):=rfl
 rw[fa]at rf nf;have fst:=fun h K=>z2U (h:=h) (K:=K) [nD [] d.regs,TD d [] d.ins] (by simp)
 rw[orL2]at fst;simp only[AL,List.map_cons,List.map_nil]at fst;unfold BE;cases kb:XC d.name with
 | false=>
  rw[if_pos rfl];simp only[wD,go_sem,tB,dB,↓ky,ky,kb]
 | true=>
  rw[if_neg (by simp)]
  cases ha:(pre.any fun x=>decide (x.name=d.name)) with
  | true=>
   rw[if_pos rfl];rw[ha]at ct;simp only[wD,go_sem,tB,dB,↓ky,ky,kb,↓ct,ct]
  | false=>
   rw[if_neg (by simp)]
   rw[ha]at ct;by_cases o1:d.long<2∨32<d.long
   ·rw[if_pos (.inl o1)]
    have o2:(decide (d.long<2)||decide (32<d.long))=true:=by simpa using o1
    simp only[wD,go_sem,tB,dB,↓ky,ky,kb,↓ct,ct,cC,o2]
   have o2:(decide (d.long<2)||decide (32<d.long))=false:=by simpa using o1
   by_cases p1:d.id<0∨4294967295<d.id
   ·rw[if_pos (.inr p1)]
    have p2:(decide (d.id<0)||decide (4294967295<d.id))=true:=by simpa using p1
    simp only[wD,go_sem,tB,dB,↓ky,ky,kb,↓ct,ct,cC,o2,p2]
   have p2:(decide (d.id<0)||decide (4294967295<d.id))=false:=by simpa using p1
   rw[if_neg (by omega)]
   have t2:¬(2:Int)=0:=by decide
   by_cases q1:d.id≠0∧d.id.tmod 2=0
   ·rw[if_pos q1]
    obtain⟨q2,q3⟩:=q1;simp only[wD,go_sem,tB,dB,↓ky,ky,kb,↓ct,ct,cC,o2,p2,q2,t2,eq_true q3]
   rw[if_neg q1];have rest:∀(b:Bool),(10:Int)<d.regs.length∨(100:Int)<d.ins.length∨¬((10:Int)<d.regs.length∨(100:Int)<d.ins.length):=fun _=>by omega
   by_cases z:d.id=0
   ·by_cases g1:(10:Int)<d.regs.length
    ·rw[if_pos (.inl g1)]
     simp only[wD,go_sem,tB,dB,↓ky,ky,kb,↓ct,ct,cC,o2,p2,eq_true z,g1,List.length_map]
    by_cases g2:(100:Int)<d.ins.length
    ·rw[if_pos (.inr g2)]
     simp only[wD,go_sem,tB,dB,↓ky,ky,kb,↓ct,ct,cC,o2,p2,eq_true z,g1,g2,List.length_map]
    rw[if_neg (by omega)]
    simp only[wD,go_sem,tB,dB,↓ky,ky,kb,↓ct,ct,cC,o2,p2,eq_true z,g1,g2,List.length_map,↓rf,rf,↓nf,nf,↓fst,fst]
   ·have q3:¬d.id.tmod 2=0:=fun e=>q1 ⟨z,e⟩
    by_cases g1:(10:Int)<d.regs.length
    ·rw[if_pos (.inl g1)]
     simp only[wD,go_sem,tB,dB,↓ky,ky,kb,↓ct,ct,cC,o2,p2,z,t2,q3,g1,List.length_map]
    by_cases g2:(100:Int)<d.ins.length
    ·rw[if_pos (.inr g2)]
     simp only[wD,go_sem,tB,dB,↓ky,ky,kb,↓ct,ct,cC,o2,p2,z,t2,q3,g1,g2,List.length_map]
    rw[if_neg (by omega)]
    simp only[wD,go_sem,tB,dB,↓ky,ky,kb,↓ct,ct,cC,o2,p2,z,t2,q3,g1,g2,List.length_map,↓rf,rf,↓nf,nf,↓fst,fst]
theorem z2T (ds:List TDev)(hB:∀ d∈ds,DevB d)(hl:ds.length≤1000):eA X AG [qD ds] h K=K (AI (CE ds)) h []:=by
 refine CA ?_;rw[z6J rfl];unfold CE;by_cases z:ds.length=0
 ·have z':(ds.length:Int)=0:=by omega
  rw[if_pos z];simp only[EI,go_sem,List.length_map,eq_true z']
 have z':¬(ds.length:Int)=0:=by omega
 rw[if_neg z];by_cases g:20<ds.length
 ·have g':(20:Int)<ds.length:=by omega
  rw[if_pos g];simp only[EI,go_sem,List.length_map,z',g']
 have g':¬(20:Int)<ds.length:=by omega
 rw[if_neg g];obtain⟨T,hT⟩:∃T,T=GF [] ds:=⟨_,rfl⟩;rw[←hT];simp only[EI,go_sem,List.length_map,z',g'];refine nB (fun k:Nat=>⟨[(0,qD ds),(14,qD ds),(15,AI ds.length),(16,AI k)],h,[]⟩) (fun k=>k≤ds.length∧GF (ds.take k) (ds.drop k)=T) (fun k=>ds.length-k) 0 rfl ⟨by omega,hT.symm⟩ ?_
 rintro k ⟨hk,hp⟩
 rcases Nat.lt_or_ge k ds.length with hlt|hge
 ·have hg:=sC dB hlt
  have w2:IntKind.i64.wrap ((k:Int)+1)=((k+1:Nat):Int):=GA _ (by omega) (by omega)
  have cx:bB (some 5) 0 (dB ds[k])=some (dB ds[k]):=rfl
  have fp:∀y:TDev,dB y = .agg [.str y.name,eI y.long,eI y.id,.sl (some 2) (y.regs.map FA),.sl (some 2) (y.ins.map vB)]:=fun _=>rfl
  have tk:=List.take_succ_eq_append_getElem hlt
  have hw:win (ds.map dB) 0 k=(ds.take k).map dB:=by simp [win,List.map_take]
  have lt:(ds.take k).length≤1000:=by rw[List.length_take];omega
  have B:=hB _ (List.getElem_mem hlt)
  rw[List.drop_eq_getElem_cons hlt]at hp;unfold GF at hp;rw[←tk]at hp;generalize hrr:ds[k]=d at *;generalize ds.take k=pre at *;have df:=fun h K=>zfu (h:=h) (K:=K) pre lt d B
  have fa:tB d = .p (.agg [.str d.name,eI d.long,eI d.id,.sl (some 2) (d.regs.map FA),.sl (some 2) (d.ins.map vB)]):=rfl
  rw[fa]at df;rw[fp]at hg cx;by_cases e:BE pre d=0
  ·rw[e,if_neg (by decide)]at hp
   rw[e]at df;simp only[PO,FI,go_sem,hlt,hk,hg,cx,fp,hw,splice,↓df,df,w2];exact⟨k+1,rfl,⟨by omega,hp⟩,by omega⟩
  ·rw[if_pos e]at hp
   rw[←hp];simp only[PO,FI,go_sem,hlt,hk,hg,cx,fp,hw,splice,↓df,df,e]
 ·have ek:k=ds.length:=by omega
  subst ek;rw[List.drop_length]at hp;rw[←hp];simp only[PO,FI,go_sem,Nat.lt_irrefl,KZ,mO,GF]
end Go.Am
end
section
/- Devices on a chain: the reference: which register is selected;a new port. -/
open Go
set_option linter.all false
set_option maxRecDepth 100000
namespace Go.Am
variable {h:aA} {K:kA}
attribute [-go_sem] PA
end Go.Am
end
section
/- A new port: the reference. -/
open Go
set_option linter.all false
set_option maxRecDepth 100000
namespace Go.Am
variable {h:aA} {K:kA}
attribute [-go_sem] PA CB NB rM mM
end Go.Am
end
section
/- A text read line by line. -/
set_option linter.all false
namespace Go.Am
end Go.Am
end
section
/- Numbers in texts. -/
set_option linter.all false
namespace Go.Am
end Go.Am
end
section
/- Faults read: the program's line and the reference's line agree. -/
set_option linter.all false
namespace Go.Am
end Go.Am
end
section
/- Lines of a text. -/
open Go
set_option linter.all false
namespace Go.Am
variable {h:aA} {K:kA}
end Go.Am
end
section
/- Numbers read. -/
open Go
set_option linter.all false
namespace Go.Am
variable {h:aA} {K:kA}
end Go.Am
end
section
/- Several numbers read. -/
open Go
set_option linter.all false
namespace Go.Am
variable {h:aA} {K:kA}
end Go.Am
end
section
/- Numbers read,the reference's way. -/
open Go
set_option linter.all false
namespace Go.Am
variable {h:aA} {K:kA}
end Go.Am
end
section
/- What a port captures,and does: the reference. -/
open Go
set_option linter.all false
set_option maxRecDepth 100000
namespace Go.Am
variable {h:aA} {K:kA}
attribute [-go_sem] PA CB NB
end Go.Am
end
section
/- A port is clocked;a run: the reference. -/
open Go
set_option linter.all false
set_option maxRecDepth 100000
namespace Go.Am
variable {h:aA} {K:kA}
attribute [-go_sem] PA CB NB
end Go.Am
end
section
/- A chain is run: the reference. -/
open Go
set_option linter.all false
set_option maxRecDepth 100000
namespace Go.Am
variable {h:aA} {K:kA}
attribute [-go_sem] PA CB NB
end Go.Am
end
section
/- What is wrong with devices: the reference. -/
open Go
set_option linter.all false
set_option maxRecDepth 100000
namespace Go.Am
variable {h:aA} {K:kA}
attribute [-go_sem] PA
end Go.Am
end
section
/- What is wrong with devices,all: the reference. -/
open Go
set_option linter.all false
set_option maxRecDepth 100000
namespace Go.Am
variable {h:aA} {K:kA}
attribute [-go_sem] PA
end Go.Am
end
section
/- What is wrong with devices,all: the reference. -/
open Go
set_option linter.all false
set_option maxRecDepth 100000
namespace Go.Am
variable {h:aA} {K:kA}
attribute [-go_sem] PA
end Go.Am
end
section
/- What is wrong with devices,all: the reference. -/
open Go
set_option linter.all false
set_option maxRecDepth 100000
namespace Go.Am
variable {h:aA} {K:kA}
attribute [-go_sem] PA
end Go.Am
end
section
/- The signals of a program: asv long asv there are clocks;what is expected in them. -/
open Go
set_option linter.all false
namespace Go.Am
theorem gZ:∀ (m:List UInt8) (n:Nat),m.length≤n→(List.range n).countP (fun i=>m[i]?==some 49)=m.count 49
 | [],n,_=>by simp [List.countP_eq_zero]
 | x::r,0,h=>by simp at h
 | x::r,n+1,h=>by
  rw[List.range_succ_eq_map,List.countP_cons,List.countP_map,List.count_cons];have ih:=gZ r n (by simpa using h)
  have e:((fun i=>(x::r)[i]?==some 49) ∘ Nat.succ)=fun i=>r[i]?==some 49:=by funext i;simp
  rw[e,ih];simp
theorem zan {c:Cmd}(hb:c.m.length≤c.b.length)(hw:c.m≠[]→c.w.length=c.b.length)(hwb:zA c.w=true):(EE c).count 120+c.m.count 49=c.b.length:=by
 rw[←gZ c.m c.b.length hb,EE,List.count_eq_countP,List.countP_map];have e:(List.range c.b.length).countP ((fun x=>x==(120:UInt8)) ∘ iD c)=(List.range c.b.length).countP (fun i=>¬(c.m[i]?==some 49)=true):=by
  apply List.countP_congr
  intro i hi;have hi':i<c.b.length:=List.mem_range.1 hi
  simp only[Function.comp,iD,beq_iff_eq,decide_eq_true_eq];by_cases h:c.m[i]?=some 49
  ·rw[if_pos h]
   have hm:c.m≠[]:=by intro e;rw[e]at h;simp at h
   have hlt:i<c.w.length:=by rw[hw hm];exact hi'
   rw[List.getElem?_eq_getElem hlt];have:=EY hwb (List.getElem_mem hlt);simp only[Option.getD_some,h,not_true,iff_false];rcases this with e|e <;> rw[e] <;> decide
  ·rw[if_neg h];simp [h]
 have key:=List.length_eq_countP_add_countP (l:=List.range c.b.length) (fun i=>c.m[i]?==some 49)
 rw[List.length_range]at key;rw[e];omega
theorem MW {l:List Cmd}(hc:∀ c∈l,OA c=0){k:Nat}(hk:k<l.length) :
 (mA gA (l.take k) l[k] (WB [] 0 (l.take k))).tdi.length=(mA gA (l.take k) l[k] (WB [] 0 (l.take k))).tms.length∧(mA gA (l.take k) l[k] (WB [] 0 (l.take k))).want.length=(mA gA (l.take k) l[k] (WB [] 0 (l.take k))).tms.length ∧
 (mA gA (l.take k) l[k] (WB [] 0 (l.take k))).want.length=(mA gA (l.take k) l[k] (WB [] 0 (l.take k))).want.count 120+l[k].m.count 49:=by
 have h0:=hc _ (List.getElem_mem hk)
 have hz:∀n,(zs n).length=n:=fun n=>by simp [zs]
 have hx:∀n,(xsL n).length=n:=fun n=>by simp [xsL]
 have hxc:∀n,(xsL n).count 120=n:=fun n=>by simp [xsL]
 generalize WB [] 0 (l.take k)=state;generalize l.take k=pre;generalize l[k]=c at h0 ⊢;cases AE h0 with
 | set h hs e=>rw[oF gA (by omega),e];exact⟨rfl,rfl,rfl⟩
 | pad h0 h1 hb hl e=>rw[oF gA h1,e];exact⟨rfl,rfl,rfl⟩
 | go h hs e=>
  have em:c.m=[]:=by rw[e]
  rw[XJ gA h,em];simp [hz,hx,hxc]
 | idle h h0 h1 e=>
  have em:c.m=[]:=by rw[e]
  rw[YJ gA h,em];simp [hz,hx,hxc]
 | scan h hs e=>
  obtain⟨q1,q2,q3,q4,q5,q6⟩:=RG hs;have hpos:=List.length_pos_iff.2 q1
  have hml:c.m.length≤c.b.length:=by rcases q6 with⟨_,e⟩|⟨_,e⟩ <;> simp [e]
  have hec:=zan hml (fun hm=>by rcases q6 with⟨_,e⟩|⟨e,_⟩;exact absurd e hm;exact e) q4
  have hel:(EE c).length=c.b.length:=by simp [EE]
  have key:∀(sh ex:Nat) (hd tl:List UInt8) (en:Nat),mA gA pre c state=yC (SC gA c state sh ex hd tl en) →
   (mA gA pre c state).tdi.length=(mA gA pre c state).tms.length∧(mA gA pre c state).want.length=(mA gA pre c state).tms.length∧(mA gA pre c state).want.length=(mA gA pre c state).want.count 120+c.m.count 49:=by
   intro sh ex hd tl en ep;rw[ep,WJ gA c state sh ex hd tl en q1];simp only[List.length_append,List.count_append,hz,hx,hxc,hel,List.length_singleton];omega
  rcases h with h|h
  ·exact key 11 12 _ _ _ (by unfold mA;rw[if_neg (by omega),if_neg (by omega),if_pos h])
  ·exact key 4 5 _ _ _ (by unfold mA;rw[if_neg (by omega),if_neg (by omega),if_neg (by omega),if_pos h])
def maskN (l:List Cmd):Nat:=(l.map fun c=>c.m.count 49).sum
theorem z33:∀ ps:List Part,(∀ p∈ps,p.tdi.length=p.tms.length∧p.want.length=p.tms.length)→(VB ps).length=(tA ps).length∧(sE ps).length=(tA ps).length
 | [],_=>⟨rfl,rfl⟩
 | p::ps,h=>by
  obtain⟨a,b⟩:=z33 ps (fun q hq=>h q (List.mem_cons_of_mem _ hq))
  obtain⟨c,d⟩:=h p (List.mem_cons_self ..);simp only[VB,tA,sE,List.flatMap_cons,List.length_append]at a b ⊢;omega
theorem z31:∀ (ps:List Part),(sE ps).length=(sE ps).count 120+(ps.map fun p=>p.want.length-p.want.count 120).sum
 | []=>rfl
 | p::ps=>by
  have a:=z31 ps
  have b:p.want.count 120≤p.want.length:=List.count_le_length
  simp only[sE,List.flatMap_cons,List.length_append,List.count_append,List.map_cons,List.sum_cons]at a ⊢;omega
theorem ze1 {l:List Cmd}(hc:∀ c∈l,OA c=0){p:Part}(hp:p∈nA gA [] 0 l):∃k,∃hk:k<l.length,p=mA gA (l.take k) l[k] (WB [] 0 (l.take k)):=by
 obtain⟨k,hk⟩:=List.mem_iff_getElem?.1 hp;have hlt:k<l.length:=by
  have:=(List.getElem?_eq_some_iff.1 hk).1;rwa [zM]at this
 rw[CQ hlt]at hk;exact⟨k,hlt,(Option.some.inj hk).symm⟩
theorem z32 {l:List Cmd}(hc:∀ c∈l,OA c=0) :
 (VB (nA gA [] 0 l)).length=(tA (nA gA [] 0 l)).length∧(sE (nA gA [] 0 l)).length=(tA (nA gA [] 0 l)).length ∧
 (tA (nA gA [] 0 l)).length=(sE (nA gA [] 0 l)).count 120+maskN l:=by
 obtain⟨a,b⟩:=z33 (nA gA [] 0 l) (fun p hp=>by
  obtain⟨k,hk,rfl⟩:=ze1 hc hp;exact⟨(MW hc hk).1,(MW hc hk).2.1⟩)
 have c:=z31 (nA gA [] 0 l)
 have e:(nA gA [] 0 l).map (fun p=>p.want.length-p.want.count 120)=l.map fun c=>c.m.count 49:=by
  apply List.ext_getElem?
  intro k;rw[List.getElem?_map,List.getElem?_map];rcases Nat.lt_or_ge k l.length with hk|hk
  ·rw[CQ hk,List.getElem?_eq_getElem hk]
   have:=(MW hc hk).2.2;simp only[Option.map_some];congr 1
   omega
  ·rw[List.getElem?_eq_none (by rw[zM];exact hk),List.getElem?_eq_none hk];rfl
 rw[e]at c;exact⟨a,b,by rw[←b];exact c⟩
end Go.Am
end
section
/- What comes out of a program's scans: the program. -/
open Go
set_option linter.all false
set_option maxRecDepth 100000
namespace Go.Am
variable {h:aA} {K:kA}
attribute [-go_sem] PA splice
theorem ze0 {l:List Cmd}(hc:∀ c∈l,OA c=0){k:Nat}(hk:k<l.length):zA (mA gA (l.take k) l[k] (WB [] 0 (l.take k))).tdi=true:=by
 obtain⟨S,T⟩:=LW hc k (by omega)
 have h0:=hc _ (List.getElem_mem hk)
 have bz:∀n,zA (zs n)=true:=fun n=>by simp [zA,zs,mP]
 have ba:∀a b,zA a=true→zA b=true→zA (a++b)=true:=fun a b h1 h2=>by unfold zA at *;rw[List.all_append,h1,h2];rfl
 generalize WB [] 0 (l.take k)=state at T ⊢;generalize l.take k=pre at S ⊢;generalize l[k]=c at h0 ⊢;cases AE h0 with
 | set h hs e=>rw[oF gA (by omega)];rfl
 | pad h0 h1 hb hl e=>rw[oF gA h1];rfl
 | go h hs e=>
  rw[XJ gA h];exact bz _
 | idle h h0 h1 e=>
  rw[YJ gA h];exact ba _ _ (bz _) (bz _)
 | scan h hs e=>
  obtain⟨q1,q2,q3,q4,q5,q6⟩:=RG hs;rcases h with h|h
  ·have ep:mA gA pre c state=yC (SC gA c state 11 12 (DA pre 3).b (DA pre 4).b (DA pre 1).s.toNat):=by
    unfold mA;rw[if_neg (by omega),if_neg (by omega),if_pos h]
   rw[ep];show zA ((zs _++((DA pre 3).b++c.b++(DA pre 4).b))++zs _)=true
   exact ba _ _ (ba _ _ (bz _) (ba _ _ (ba _ _ (S.b1 3 (by omega) (by omega)).1 q2) (S.b1 4 (by omega) (by omega)).1)) (bz _)
  ·have ep:mA gA pre c state=yC (SC gA c state 4 5 (DA pre 5).b (DA pre 6).b (DA pre 2).s.toNat):=by
    unfold mA;rw[if_neg (by omega),if_neg (by omega),if_neg (by omega),if_pos h]
   rw[ep];show zA ((zs _++((DA pre 5).b++c.b++(DA pre 6).b))++zs _)=true
   exact ba _ _ (ba _ _ (bz _) (ba _ _ (ba _ _ (S.b1 5 (by omega) (by omega)).1 q2) (S.b1 6 (by omega) (by omega)).1)) (bz _)
theorem z6i {l:List Cmd}(hc:∀ c∈l,OA c=0):zA (VB (nA gA [] 0 l))=true:=by
 unfold zA VB;rw[List.all_flatMap];rw[List.all_eq_true];intro p hp;obtain⟨k,hk⟩:=List.mem_iff_getElem?.1 hp;have hlt:k<l.length:=by
  have:=(List.getElem?_eq_some_iff.1 hk).1;rwa [zM]at this
 rw[CQ hlt]at hk;cases hk;exact ze0 hc hlt
def ZC (ds:List TDev)(l:List Cmd):List UInt8:=qB ds 0 (NH ds) ((tA (nA gA [] 0 l)).zip (VB (nA gA [] 0 l)))
def PH (ds:List TDev)(l:List Cmd):List (List UInt8):=pD gA [] 0 l 0 (ZC ds l)
abbrev AR (us:List (List UInt8)):AV:=.p (.sl none (us.map PV.str))
structure ChOk (ds:List TDev):Prop where
 d:∀d∈ds,DevOk d
 n:(ds.map TDev.name).Nodup
 e:ds≠[]
 l:ds.length≤20
theorem chOk {ds:List TDev}(h:CE ds=0):ChOk ds:=by
 obtain⟨a,b,c,d⟩:=z7R h;exact⟨a,b,c,d⟩
theorem zg4 {ds:List TDev}{l:List Cmd}(hc:∀ c∈l,OA c=0):(ZC ds l).length=(tA (nA gA [] 0 l)).length:=by
 unfold ZC;rw[fX,List.length_zip,(z32 hc).1,Nat.min_self]
attribute [local go_sem] PG mK RH SH TH nK bX cX dX QH aK OG bK cK dK eK fK iK jK z28 z29 z2A
set_option maxHeartbeats 4000000 in
theorem zf1 (ds:List TDev)(hB:∀ d∈ds,DevB d)(hz:CE ds=0)(l:List Cmd)(hp:nC gA l=0) :
 eA X YL [qD ds,ACs l] h K=K (AR (PH ds l)) h []:=by
 refine CA ?_;rw[z7f rfl];obtain⟨hc,hn,hl⟩:=z2o hp;have O:=chOk hz
 have cd:=fun h K=>z2T (h:=h) (K:=K) ds hB (by have:=O.l;omega)
 rw[hz]at cd;have sg:=fun h K=>zf6 (h:=h) (K:=K) l hc hl
 obtain⟨a1,a2,a3,a4,a5⟩:=TW AM (xI hc) true hn;obtain⟨b1,b2,b3⟩:=a5 rfl;have fr:=z2l gA l (rel0 true) (xI hc) (by simpa using hn)
 have fr:((OB true).play gA l).frs=IE gA [] 0 l 0:=fr
 obtain⟨f1,f2,_⟩:=z32 hc;have TR:=fun h K=>zfp (h:=h) (K:=K) ds O.d O.e O.l cd (tA (nA gA [] 0 l)) (VB (nA gA [] 0 l)) f1.symm hn (z6h hc) (z6i hc)
 have tl:=zg4 (ds:=ds) hc
 have hR:qB ds 0 (NH ds) ((tA (nA gA [] 0 l)).zip (VB (nA gA [] 0 l)))=ZC ds l:=rfl
 rw[hR]at TR;have ql:=fun k hk hs=>z0Y gA (R:=ZC ds l) l (pre:=[]) (state:=0) (at_:=0) (by omega) k hk hs
 have qn:=fun k hk hs=>z27 gA (R:=ZC ds l) l (pre:=[]) (state:=0) (at_:=0) k hk hs
 have rl:(PH ds l).length=l.length:=z26 gA l [] 0 0 (ZC ds l)
 have hRV:pD gA [] 0 l 0 (ZC ds l)=PH ds l:=rfl
 rw[hRV]at ql qn;have fl:(IE gA [] 0 l 0).length=l.length:=z0Z gA l [] 0 0
 generalize PH ds l=RV at *;generalize ZC ds l=R at *;generalize IE gA [] 0 l 0=FR at *;generalize (OB true).play gA l=r at *;have cT:uE (AA r.tms)=some r.tms:=sR _
 have cI:uE (AA r.tdi)=some r.tdi:=sR _
 have wT:win (AA r.tms) 0 r.tms.length=AA r.tms:=dE (qI _)
 have wI:win (AA r.tdi) 0 r.tdi.length=AA r.tdi:=dE (qI _)
 rw[←b1,←b2]at TR;have lT:=qI r.tms
 have lI:=qI r.tdi
 have hHl:(hbx h).length=h.length+1:=by simp [hbx]
 have hT0:∀t:aA,(rh (hbx h) r t).take h.length=h:=fun t=>by
  unfold rh hbx;rw[List.append_assoc,GK]
 generalize hHH:hbx h=H at *;simp only[EO,go_sem,↓sg,sg,lT,lI,wT,wI,cT,cI,↓TR,TR];rw[hHH];refine nB (fun k:Nat=>⟨[(5,.ref (H.length+5) 0),(6,AS R),(8,.own (H.length+6) k 0 k),(29,ACs l),(30,AI l.length),(31,AI k)],rh H r [.row none ((RV.take k).map .str) 0],[]⟩) (fun k=>k≤l.length) (fun k=>l.length-k) 0 rfl (by omega) ?_
 intro k hk;rw[jI];have lml:((RV.take k).map PV.str).length=k:=by rw[List.length_map,List.length_take];omega
 have ms:k+1≤LA:=by unfold LA;omega
 rcases Nat.lt_or_ge k l.length with hlt|hge
 ·have hlt':(k:Int)<(l.length:Int):=by omega
  have hg:=sC jE hlt
  have w2:IntKind.i64.wrap ((k:Int)+1)=((k+1:Nat):Int):=GA _ (by omega) (by omega)
  have ql:=ql k hlt
  have qn:=qn k hlt
  have eT:∀s,RV[k]?=some s→(RV.take (k+1)).map PV.str=(RV.take k).map PV.str++[.str s]:=fun s hs=>by
   rw[List.take_add_one,hs,List.map_append];rfl
  generalize l[k]=c at *;cases hs:xC c with
  | true=>
   obtain⟨f,x1,x2,x3⟩:=ql hs;have is:(decide (c.k=7)||decide (c.k=8))=true:=by rcases EG.1 hs with e|e <;> simp [e]
   have gf:(r.frs.map eN)[k]?=some (eN f):=by rw[List.getElem?_map,fr,x1];rfl
   have ff:eN f = .int .i64 (f:Int):=rfl
   rw[ff]at gf;have flr:r.frs.length=l.length:=by rw[fr,fl]
   have lfm:(r.frs.map eN).length=l.length:=by rw[List.length_map,flr]
   have hlk:k<r.frs.length:=by omega
   have w3:IntKind.i64.wrap ((f:Int)+(c.b.length:Int))=((f+c.b.length:Nat):Int):=by rw[GA _ (by omega) (by omega)];omega
   have y1:f≤f+c.b.length:=by omega
   have y2:f+c.b.length-f=c.b.length:=by omega
   have e1:=eT _ x3
   obtain⟨k0,s0,cl0,b0,w0,m0⟩:=c;dsimp only at is w3 x2 y1 y2 hs e1;simp only[SO,MI,DU,dL,EU,eL,go_sem,splice,hlt',hg,sF,is,flr,lfm,hlk,gf,hlt,w3,x2,y1,y2,lml,ms,w2];exact⟨k+1,by rw[e1],by omega,by omega⟩
  | false=>
   have is:(decide (c.k=7)||decide (c.k=8))=false:=by
    cases q:(decide (c.k=7)||decide (c.k=8)) with
    | false=>rfl
    | true=>
     have:c.k=7∨c.k=8:=by simpa using q
     rw[EG.2 this]at hs;cases hs
   have e1:=eT _ (qn hs)
   obtain⟨k0,s0,cl0,b0,w0,m0⟩:=c;dsimp only at is hs e1;simp only[SO,MI,DU,dL,EU,eL,go_sem,splice,hlt',hg,sF,is,lml,ms,w2];exact⟨k+1,by rw[e1],by omega,by omega⟩
 ·have ek:k=l.length:=by omega
  subst ek;have e1:RV.take l.length=RV:=List.take_of_length_le (by omega)
  rw[e1]at lml ⊢;have wf:win (RV.map PV.str) 0 l.length=RV.map PV.str:=dE lml
  have hH6:h.length≤H.length+6:=by omega
  simp only[SO,MI,PZ,FO,go_sem,Nat.lt_irrefl,lml,wf,hT0,hH6]
end Go.Am
end
section
/- A register is read by scans,plainly. -/
open Go
set_option linter.all false
set_option maxRecDepth 100000
namespace Go.Am
def sU:List UInt8:=[117]
def sDt:List UInt8:=[100,97,116,97]
def XA (w:Nat):TDev:=⟨sU,2,0,[⟨sDt,w⟩],[⟨[48,48],sDt⟩]⟩
def mk8 (b:List UInt8):Cmd:=⟨8,0,0,b,[],[]⟩
def mk7:Cmd:=⟨7,0,0,[48,48],[],[]⟩
theorem z7M {w:Nat}(h1:1≤w)(h2:w≤1000):CE [XA w]=0:=by
 have e1:XC sU=true:=rfl
 have e2:XC sDt=true:=rfl
 have r1:zC [] ⟨sDt,(w:Int)⟩=0:=by
  unfold zC;dsimp only;rw[e2,if_neg (by simp),if_neg (fun h=>by
   rcases h with h|h|h
   ·exact absurd h (by decide)
   ·exact absurd h (by decide)
   ·cases h),if_neg (by omega)]
 have r2:nD [] (XA w).regs=0:=by
  show nD [] [⟨sDt,(w:Int)⟩]=0
  unfold nD;rw[r1];rfl
 have i1:wC (XA w) [] ⟨[48,48],sDt⟩=0:=by
  unfold wC;have hr:(bC (XA w) sDt).isSome=true:=by
   unfold bC;rw[if_neg (by decide),if_neg (fun h=>absurd h.1 (by decide))]
   rfl
  dsimp only;rw[hr];rfl
 have i2:TD (XA w) [] (XA w).ins=0:=by
  show TD (XA w) [] [⟨[48,48],sDt⟩]=0
  unfold TD;rw[i1];rfl
 have dd:BE [] (XA w)=0:=by
  unfold BE;rw[r2,i2];rfl
 unfold CE;rw[if_neg (by simp),if_neg (by simp)]
 unfold GF;rw[dd];rfl
theorem z7N (w:Nat):zF (XA w) [48,48]=zs w:=by
 have e:PB (XA w) [48,48]=⟨sDt,w⟩:=rfl
 unfold zF;rw[e];dsimp only;rw[if_neg (by decide),if_neg (by decide),Int.toNat_natCast]
theorem z3y (d:TDev)(i:List UInt8)(st:Nat)(h4:st=4∨st=11)(b:UInt8)(x:UInt8)(sr:List UInt8):ID st [d] [(i,x::sr)] b=([(i,sr++[b])],x):=by
 have e:yB st d (i,x::sr) b=((i,sr++[b]),x):=by
  unfold yB;rw[if_neg (by omega),if_neg (by omega),if_pos h4]
  rfl
 simp only[ID,e]
theorem z3z (d:TDev)(i:List UInt8)(st:Nat)(h4:st=4∨st=11):∀(bs sr:List UInt8),bs.length≤sr.length →
 qB [d] st [(i,sr)] ((zs bs.length).zip bs)=sr.take bs.length∧dH [d] st [(i,sr)] ((zs bs.length).zip bs)=(st,[(i,sr.drop bs.length++bs)])
 | [],sr,_=>by simp [zs,qB,dH]
 | b::bs,[],h=>by simp at h
 | b::bs,x::sr,h=>by
  have hst:stW st 48=st:=by rcases h4 with e|e <;> subst e <;> rfl
  have hl:bs.length≤(sr++[b]).length:=by simp at h ⊢;omega
  obtain⟨a1,a2⟩:=z3z d i st h4 bs (sr++[b]) hl;have e0:(zs (b::bs).length).zip (b::bs)=(48,b)::(zs bs.length).zip bs:=rfl
  have e1:=z3y d i st h4 b x sr
  have hl2:bs.length≤sr.length:=by simpa using h
  rw[e0];simp only[qB,dH,e1,hst,a1,a2,cG,if_pos h4];constructor
  ·rw[List.take_append_of_le_length hl2];rfl
  ·rw[List.drop_append_of_le_length hl2];simp
theorem zfN (d:TDev)(i:List UInt8)(st:Nat)(h4:st=4∨st=11)(bs sr:List UInt8)(hl:bs.length=sr.length)(hp:1≤bs.length)(r:List (UInt8 × UInt8)) :
 qB [d] st [(i,sr)] ((zs (bs.length-1)++[49]).zip bs++r)=sr++qB [d] (st+1) [(i,bs)] r:=by
 have hb:bs≠[]:=fun e=>by rw[e]at hp;simp at hp
 obtain⟨ini,x,rfl⟩:∃ini x,bs=ini++[x]:=⟨bs.dropLast,bs.getLast hb,(List.dropLast_concat_getLast hb).symm⟩;have hn:(ini++[x]).length-1=ini.length:=by simp
 have hl1:ini.length<sr.length:=by simp at hl;omega
 have ez:(zs ((ini++[x]).length-1)++[49]).zip (ini++[x])=(zs ini.length).zip ini++[(49,x)]:=by
  rw[hn,List.zip_append (by simp [zs])];rfl
 obtain⟨a1,a2⟩:=z3z d i st h4 ini sr (by omega)
 have hd:sr.drop ini.length=[sr[ini.length]]:=by
  rw[List.drop_eq_getElem_cons hl1,List.drop_eq_nil_of_le (by simp at hl;omega)]
 have hst:stW st 49=st+1:=by rcases h4 with e|e <;> subst e <;> rfl
 rw[ez,List.append_assoc,z2H,a1,a2];show sr.take ini.length++qB [d] st [(i,sr.drop ini.length++ini)] ((49,x)::r)=_
 rw[hd];have e1:=z3y d i st h4 x sr[ini.length] ini
 show _++qB [d] st [(i,sr[ini.length]::ini)] ((49,x)::r)=_
 simp only[qB,e1,hst,cG,if_pos h4];have:sr.take ini.length++[sr[ini.length]]=sr:=by
  rw[←List.take_succ_eq_append_getElem hl1,List.take_of_length_le (by simp at hl;omega)]
 conv=>rhs;rw[←this]
 rw[List.append_assoc];rfl
theorem p14:gA 1 4=[49,48,48]:=by kernel_rfl
theorem p51:gA 5 1=[49,48]:=by kernel_rfl
theorem z7U (w:Nat)(bs sr:List UInt8)(hl:bs.length=w)(hp:1≤w)(r:List (UInt8 × UInt8)) :
 qB [XA w] 1 [([48,48],sr)] (([49,48,48]++(zs (bs.length-1)++[49])++[49,48]).zip (zs 3++bs++zs 2)++r)=[122,122,122]++zs w++[122,122]++qB [XA w] 1 [([48,48],bs)] r:=by
 have ez:([49,48,48]++(zs (bs.length-1)++[49])++[49,48]).zip (zs 3++bs++zs 2)=[(49,48),(48,48),(48,48)]++(zs (bs.length-1)++[49]).zip bs++[(49,48),(48,48)]:=by
  rw[List.zip_append (by simp [zs];omega),List.zip_append (by simp [zs])]
  rfl
 have c:=z7N w
 have e3:yB 3 (XA w) ([48,48],sr) 48=(([48,48],zs w),48):=by
  unfold yB;rw[if_neg (by decide),if_pos rfl]
  dsimp only;rw[c]
 have e1:∀b,yB 1 (XA w) ([48,48],sr) b=(([48,48],sr),b):=fun b=>rfl
 have e2:∀b,yB 2 (XA w) ([48,48],sr) b=(([48,48],sr),b):=fun b=>rfl
 have s1:stW 1 49=2:=rfl
 have s2:stW 2 48=3:=rfl
 have s3:stW 3 48=4:=rfl
 have s5:stW 5 49=8:=rfl
 have s8:stW 8 48=1:=rfl
 have hzl:(zs w).length=w:=by simp [zs]
 rw[ez,List.append_assoc,List.append_assoc];simp only[List.cons_append,List.nil_append,qB,ID,e1,e2,e3,s1,s2,s3];rw[zfN (XA w) [48,48] 4 (.inl rfl) bs (zs w) (by omega) (by omega)]
 have e5:∀b,yB 5 (XA w) ([48,48],bs) b=(([48,48],bs),b):=fun b=>rfl
 have e8:∀b,yB 8 (XA w) ([48,48],bs) b=(([48,48],bs),b):=fun b=>rfl
 simp only[qB,ID,e5,e8,s5,s8];simp [cG]
theorem zba (w:Nat)(r:List (UInt8 × UInt8)) :
 qB [XA w] 0 (NH [XA w]) (([48,49,49,48,48,48,49,49,48]:List UInt8).zip [48,48,48,48,48,48,48,48,48]++r)=[122,122,122,122,122]++[49,48]++[122,122]++qB [XA w] 1 [([48,48],[48,48])] r:=rfl
end Go.Am
end
section
/- The reference: bits that are shifted. -/
open Go
set_option linter.all false
namespace Go.Am
variable {h:aA} {K:kA}
attribute [-go_sem] PA splice
end Go.Am
end
section
/- A register is read by scans,plainly: whole programs. -/
open Go
set_option linter.all false
set_option maxRecDepth 100000
namespace Go.Am
def kB (bs:List (List UInt8)):List Cmd:=mk7::bs.map mk8
theorem vX {pre:List Cmd}(h:∀ c∈pre,xC c=true){k:Int}(hk:1≤k∧k≤6):DA pre k=CG:=by
 unfold DA;have:(pre.reverse.find? fun c=>c.k==k)=none:=by
  rw[List.find?_eq_none];intro c hc;rcases EG.1 (h c (List.mem_reverse.1 hc)) with e|e <;> simp [e] <;> omega
 rw[this];rfl
theorem z2g {pre:List Cmd}(h:∀ c∈pre,xC c=true)(b:List UInt8)(hb:1≤b.length):(mA gA pre (mk8 b) 1).tms=[49,48,48]++(zs (b.length-1)++[49])++[49,48]∧(mA gA pre (mk8 b) 1).tdi=zs 3++b++zs 2∧(mA gA pre (mk8 b) 1).fr=3∧(mA gA pre (mk8 b) 1).st=1:=by
 have ep:mA gA pre (mk8 b) 1=yC (SC gA (mk8 b) 1 4 5 (DA pre 5).b (DA pre 6).b (DA pre 2).s.toNat):=rfl
 rw[ep,vX h (by omega),vX h (by omega),vX h (by omega)]
 have e1:(yC (SC gA (mk8 b) 1 4 5 CG.b CG.b CG.s.toNat)).tms=[49,48,48]++(zs (b.length-1)++[49])++[49,48]:=by
  show gA 1 4++zs (([]++b++[]).length-1)++[49]++gA 5 1=_
  rw[p14,p51,List.nil_append,List.append_nil];simp
 refine⟨e1,?_,?_,rfl⟩
 ·show(zs (gA 1 4).length++([]++b++[]))++zs ((yC (SC gA (mk8 b) 1 4 5 CG.b CG.b CG.s.toNat)).tms.length-(zs (gA 1 4).length++([]++b++[])).length)=_
  rw[e1,p14,List.nil_append,List.append_nil];congr 2
  simp [zs];omega
 ·show(gA 1 4).length+0=3
  rw[p14];rfl
theorem z2f:(mA gA [] mk7 0).tms=[48,49,49,48,48,48,49,49,48]∧(mA gA [] mk7 0).tdi=[48,48,48,48,48,48,48,48,48]∧(mA gA [] mk7 0).fr=5∧(mA gA [] mk7 0).st=1:=⟨by kernel_rfl,by kernel_rfl,by kernel_rfl,by kernel_rfl⟩
theorem zZ (w:Nat)(hw:1≤w)(R:List UInt8):∀(bs:List (List UInt8)) (pre:List Cmd) (at_:Nat) (sr:List UInt8),(∀c∈pre,xC c=true)→(∀b∈bs,b.length=w) →
 R.drop at_=qB [XA w] 1 [([48,48],sr)] ((tA (nA gA pre 1 (bs.map mk8))).zip (VB (nA gA pre 1 (bs.map mk8))))→pD gA pre 1 (bs.map mk8) at_ R=bs.map fun _=>zs w
 | [],_,_,_,_,_,_=>rfl
 | b::bs,pre,at_,sr,hp,hb,hR=>by
  have hbl:=hb b List.mem_cons_self
  obtain⟨e1,e2,e3,e4⟩:=z2g hp b (by omega)
  have hp':∀c∈pre++[mk8 b],xC c=true:=fun c hc=>by
   rcases List.mem_append.1 hc with h|h
   ·exact hp c h
   ·rw[List.mem_singleton.1 h];rfl
  have hz:(tA (nA gA pre 1 ((b::bs).map mk8))).zip (VB (nA gA pre 1 ((b::bs).map mk8)))=([49,48,48]++(zs (b.length-1)++[49])++[49,48]).zip (zs 3++b++zs 2)++(tA (nA gA (pre++[mk8 b]) 1 (bs.map mk8))).zip (VB (nA gA (pre++[mk8 b]) 1 (bs.map mk8))):=by
   show(tA (mA gA pre (mk8 b) 1::nA gA (pre++[mk8 b]) (mA gA pre (mk8 b) 1).st (bs.map mk8))).zip (VB (mA gA pre (mk8 b) 1::nA gA (pre++[mk8 b]) (mA gA pre (mk8 b) 1).st (bs.map mk8)))=_
   unfold tA VB;rw[List.flatMap_cons,List.flatMap_cons,e1,e2,e4,List.zip_append (by simp [zs];omega)]
  have hd:=z7U w b sr hbl hw ((tA (nA gA (pre++[mk8 b]) 1 (bs.map mk8))).zip (VB (nA gA (pre++[mk8 b]) 1 (bs.map mk8))))
  rw[hz,hd]at hR;have ih:=zZ w hw R bs (pre++[mk8 b]) (at_+(w+5)) b hp' (fun x hx=>hb x (List.mem_cons_of_mem _ hx)) (by
   rw[←List.drop_drop,hR,List.drop_append_of_le_length (by simp [zs]),List.drop_eq_nil_of_le (by simp [zs])]
   rfl)
  show(if xC (mk8 b)=true then win R (at_+(mA gA pre (mk8 b) 1).fr) b.length else [])::pD gA (pre++[mk8 b]) (mA gA pre (mk8 b) 1).st (bs.map mk8) (at_+(mA gA pre (mk8 b) 1).tms.length) R=_
  have hl:(mA gA pre (mk8 b) 1).tms.length=w+5:=by rw[e1];simp [zs];omega
  rw[e3,e4,hl,ih,if_pos (show xC (mk8 b)=true from rfl)]
  have hw2:win R (at_+3) b.length=zs w:=by
   unfold win;rw[←List.drop_drop,hR];show((zs w++[122,122])++_).take b.length=zs w
   rw[List.append_assoc,List.take_append_of_le_length (by simp [zs];omega),List.take_of_length_le (by simp [zs];omega)]
  rw[hw2];rfl
theorem res_T (w:Nat)(hw:1≤w)(bs:List (List UInt8))(hb:∀ b∈bs,b.length=w):PH [XA w] (kB bs)=[49,48]::bs.map fun _=>zs w:=by
 obtain⟨e1,e2,e3,e4⟩:=z2f;have hz:(tA (nA gA [] 0 (kB bs))).zip (VB (nA gA [] 0 (kB bs)))=([48,49,49,48,48,48,49,49,48]:List UInt8).zip [48,48,48,48,48,48,48,48,48]++(tA (nA gA [mk7] 1 (bs.map mk8))).zip (VB (nA gA [mk7] 1 (bs.map mk8))):=by
  show(tA (mA gA [] mk7 0::nA gA ([]++[mk7]) (mA gA [] mk7 0).st (bs.map mk8))).zip (VB (mA gA [] mk7 0::nA gA ([]++[mk7]) (mA gA [] mk7 0).st (bs.map mk8)))=_
  unfold tA VB;rw[List.flatMap_cons,List.flatMap_cons,e1,e2,e4,List.zip_append (by rfl)]
  rfl
 have hR:ZC [XA w] (kB bs)=[122,122,122,122,122]++[49,48]++[122,122]++qB [XA w] 1 [([48,48],[48,48])] ((tA (nA gA [mk7] 1 (bs.map mk8))).zip (VB (nA gA [mk7] 1 (bs.map mk8)))):=by
  unfold ZC;rw[hz,zba]
 have d9:=zZ w hw (ZC [XA w] (kB bs)) bs [mk7] 9 [48,48] (fun c hc=>by rw[List.mem_singleton.1 hc];rfl) hb (by rw[hR];rfl)
 unfold PH;show(if xC mk7=true then win (ZC [XA w] (kB bs)) (0+(mA gA [] mk7 0).fr) 2 else [])::pD gA ([]++[mk7]) (mA gA [] mk7 0).st (bs.map mk8) (0+(mA gA [] mk7 0).tms.length) (ZC [XA w] (kB bs))=_
 rw[e1,e3,e4];show win (ZC [XA w] (kB bs)) 5 2::pD gA [mk7] 1 (bs.map mk8) 9 (ZC [XA w] (kB bs))=_
 rw[d9];congr 1
theorem AZ (w:Nat)(hw:1≤w):∀(bs:List (List UInt8)) (pre:List Cmd),(∀c∈pre,xC c=true)→(∀b∈bs,b.length=w) →
 (tA (nA gA pre 1 (bs.map mk8))).length=bs.length*(w+5)∧(mB 1 (tA (nA gA pre 1 (bs.map mk8)))).count 4=bs.length*w
 | [],_,_,_=>by simp [nA,tA,mB]
 | b::bs,pre,hp,hb=>by
  have hbl:=hb b List.mem_cons_self
  obtain⟨e1,e2,e3,e4⟩:=z2g hp b (by omega)
  have hp':∀c∈pre++[mk8 b],xC c=true:=fun c hc=>by
   rcases List.mem_append.1 hc with h|h
   ·exact hp c h
   ·rw[List.mem_singleton.1 h];rfl
  obtain⟨a1,a2⟩:=AZ w hw bs (pre++[mk8 b]) hp' (fun x hx=>hb x (List.mem_cons_of_mem _ hx))
  have es:tA (nA gA pre 1 ((b::bs).map mk8))=([49,48,48]++(zs (b.length-1)++[49])++[49,48])++tA (nA gA (pre++[mk8 b]) 1 (bs.map mk8)):=by
   show tA (mA gA pre (mk8 b) 1::nA gA (pre++[mk8 b]) (mA gA pre (mk8 b) 1).st (bs.map mk8))=_
   unfold tA;rw[List.flatMap_cons,e1,e4]
  have v0:=VM (s:=4) rfl (b.length-1)
  have v1:mB 1 ([49,48,48]++(zs (b.length-1)++[49])++[49,48])=[1,2,3]++(List.replicate (b.length-1) 4++[4])++[5,8]∧JB 1 ([49,48,48]++(zs (b.length-1)++[49])++[49,48])=1:=by
   have a:JB 1 [49,48,48]=4:=rfl
   have b':JB 4 (zs (b.length-1)++[49])=5:=by rw[fF,v0.2];rfl
   refine⟨?_,?_⟩
   ·rw[bE,bE,bE,fF,a,b',v0.1,v0.2];rfl
   ·rw[fF,fF,a,b'];rfl
  rw[es,bE,v1.1,v1.2,List.length_append,List.count_append,a1,a2];have c4:([1,2,3]++(List.replicate (b.length-1) 4++[4])++[5,8]:List Nat).count 4=w:=by
   rw[List.count_append,List.count_append,List.count_append,List.count_replicate_self];show 0+(b.length-1+1)+0=w
   omega
  rw[c4];constructor
  ·simp only[List.length_append,List.length_cons,List.length_nil,zs,List.length_replicate]
   rw[Nat.add_mul];omega
  ·rw[List.length_cons,Nat.add_mul];omega
theorem z30 (w:Nat)(hw:1≤w)(bs:List (List UInt8))(hb:∀ b∈bs,b.length=w):(tA (nA gA [] 0 (kB bs))).length=9+bs.length*(w+5)∧(mB 0 (tA (nA gA [] 0 (kB bs)))).count 4=bs.length*w:=by
 obtain⟨e1,e2,e3,e4⟩:=z2f;obtain⟨a1,a2⟩:=AZ w hw bs [mk7] (fun c hc=>by rw[List.mem_singleton.1 hc];rfl) hb
 have es:tA (nA gA [] 0 (kB bs))=[48,49,49,48,48,48,49,49,48]++tA (nA gA [mk7] 1 (bs.map mk8)):=by
  show tA (mA gA [] mk7 0::nA gA ([]++[mk7]) (mA gA [] mk7 0).st (bs.map mk8))=_
  unfold tA;rw[List.flatMap_cons,e1,e4];rfl
 have v1:(mB 0 [48,49,49,48,48,48,49,49,48]).count 4=0:=by decide
 have v2:JB 0 [48,49,49,48,48,48,49,49,48]=1:=rfl
 rw[es,bE,v2,List.length_append,List.count_append,a1,a2,v1];exact⟨rfl,by omega⟩
theorem ze7 (w:Nat)(hw:1≤w)(h2:w≤100)(bs:List (List UInt8))(hb:∀ b∈bs,b.length=w∧zA b=true)(hn:bs.length<20):nC gA (kB bs)=0:=by
 have s1:=(z30 w hw bs (fun b h=>(hb b h).1)).1
 have m:bs.length*(w+5)≤20*105:=Nat.mul_le_mul (by omega) (by omega)
 have hc:rC (kB bs)=0:=by
  have:∀c∈kB bs,OA c=0:=fun c hc=>by
   rcases List.mem_cons.1 hc with e|e
   ·rw[e];rfl
   ·obtain⟨b,hbm,rfl⟩:=List.mem_map.1 e
    obtain⟨l1,l2⟩:=hb b hbm;have hne:b≠[]:=fun e=>by rw[e]at l1;simp at l1;omega
    have hs:YD (mk8 b)=0:=by
     unfold YD mk8;dsimp only;rw[if_neg hne,l2];have:¬2000<b.length:=by omega
     simp [this,zA]
    unfold OA;have ek:(mk8 b).k=8:=rfl
    rw[ek,hs];simp [mk8]
  have key:∀l:List Cmd,(∀c∈l,OA c=0)→rC l=0:=by
   intro l;induction l with
   | nil=>intro _;rfl
   | cons c l ih=>intro h;unfold rC;rw[h c List.mem_cons_self];simpa using ih fun d hd=>h d (List.mem_cons_of_mem _ hd)
  exact key _ this
 have hlen:(kB bs).length=bs.length+1:=by simp [kB]
 unfold nC;rw[hc,s1,hlen,if_neg (by omega),if_neg (by omega),if_neg (by omega)]
end Go.Am
end
section
/- Programs run: the program: Run. -/
open Go
set_option linter.all false
set_option maxRecDepth 100000
namespace Go.Am
variable {h:aA} {K:kA}
attribute [-go_sem] PA splice
def XF (ds:List TDev)(l:List Cmd):Int:=orL [CE ds,(nC gA l:Nat)]
theorem zf2 (ds:List TDev)(hB:∀ d∈ds,DevB d)(h3:ds.length≤1000)(l:List Cmd)(hok:∀ c∈l,CmdOk c)(hl:l.length≤1000000):eA X ZL [qD ds,ACs l] h K=K (AI (XF ds l)) h []:=by
 refine CA ?_;rw[z7g rfl];have q1:=fun h K=>z2T (h:=h) (K:=K) ds hB h3
 have q2:=fun h K=>z2S (h:=h) (K:=K) l hok hl
 have q3:=fun h K=>z2U (h:=h) (K:=K) [CE ds,(nC gA l:Nat)] (by simp)
 simp only[AL,List.map_cons,List.map_nil]at q3;unfold XF;simp only[GO,go_sem,↓q1,q1,↓q2,q2,↓q3,q3]
theorem zff {ds:List TDev}{l:List Cmd}(h:XF ds l=0):CE ds=0∧nC gA l=0:=by
 unfold XF at h;rw[orL2]at h;split at h
 ·rename_i q;exact absurd h q
 ·rename_i q;exact⟨by omega,by omega⟩
theorem zfs (ds:List TDev)(hB:∀ d∈ds,DevB d)(h3:ds.length≤1000)(l:List Cmd)(hok:∀ c∈l,CmdOk c)(hl:l.length≤1000000) :
 eA X XI [qD ds,ACs l] h K=K (.tup [AR (if XF ds l=0 then PH ds l else []),AI (XF ds l)]) h []:=by
 refine CA ?_;rw[z7b rfl];have q1:=fun h K=>zf2 (h:=h) (K:=K) ds hB h3 l hok hl
 by_cases e:XF ds l=0
 ·obtain⟨e1,e2⟩:=zff e
  have q2:=fun h K=>zf1 (h:=h) (K:=K) ds hB e1 l e2
  rw[if_pos e];rw[e]at q1 ⊢;simp only[aL,go_sem,↓q1,q1,↓q2,q2]
 ·rw[if_neg e]
  simp only[aL,go_sem,↓q1,q1,e,List.map_nil];rfl
end Go.Am
end
section
/- h10facts: a GB call,computed. -/
open Go
set_option linter.all false
namespace Go.Am
def orcP (f:Nat)(a:List AV):Option AV:=bif Nat.beq f jF then match a with
 | [.p (.int .i64 x),.p (.int .i64 y)]=>bif decide (0≤x)&&decide (x<16)&&decide (0≤y)&&decide (y<16) then some (.p (.str (gA x.toNat y.toNat))) else none
 | _=>none else none
theorem zc9:∀ f a v,orcP f a=some v→∀ h (K:kA),K v h []→eA X0 f a h K:=by
 intro f a v hv h K hK;unfold orcP at hv;cases hf:Nat.beq f jF with
 | false=>rw[hf]at hv;cases hv
 | true=>
  have hf':=Nat.eq_of_beq_eq_true hf
  rw[hf]at hv;subst hf';simp only[cond_true]at hv;split at hv
  ·rename_i x y
   cases hc:(decide (0≤x)&&decide (x<16)&&decide (0≤y)&&decide (y<16)) with
   | false=>rw[hc]at hv;cases hv
   | true=>
    rw[hc]at hv;simp only[cond_true,Option.some.injEq]at hv;simp only[Bool.and_eq_true,decide_eq_true_eq]at hc;obtain⟨a,rfl⟩:=Int.eq_ofNat_of_zero_le hc.1.1.1;obtain⟨b,rfl⟩:=Int.eq_ofNat_of_zero_le hc.1.2;have:=z1t (h:=h) (K:=K) zgX zgW a b (by omega) (by omega)
    rw[this];subst hv;exact hK
  ·cases hv
theorem zar:rL X0 orcP 1000 60 SI [] []=some (AB true,[],[]):=by kernel_rfl
theorem zie:eA X0 SI [] [] fun v h x=>v=AB true∧h=[]∧x=[]:=(z4h zc9 1000 60 zar _).2 ⟨rfl,rfl,rfl⟩
theorem zfv {h:aA}{K:kA}:eA X SI [] h K=K (AB true) h []:=fV (by kernel_rfl) rfl
end Go.Am
end
section
/- TopVectorsReadTests returns true. -/
open Go
set_option linter.all false
set_option maxRecDepth 100000
namespace Go.Am
variable {h:aA} {K:kA}
attribute [-go_sem] PA
def ND (t:List (List UInt8))(v:Nat):List UInt8:=t.flatMap fun s=>win s v 1
def EB (t:List (List UInt8))(m:Nat):List (List UInt8):=(List.range m).map (ND t)
theorem z3B {lg:Nat}:∀{t:List (List UInt8)},dG lg t=0→∀s∈t,zA s=true∧s.length=lg
 | [],_,s,hs=>by cases hs
 | x::r,h,s,hs=>by
  unfold dG at h;split at h
  ·cases h
  rename_i h1;split at h
  ·cases h
  split at h
  ·cases h
  rename_i h3;rcases List.mem_cons.1 hs with e|e
  ·subst e
   exact⟨by simpa using h1,by omega⟩
  ·exact z3B h s e
theorem z3Y {s:List UInt8}{v:Nat}(h:v<s.length):(win s v 1).length=1:=by unfold win;simp;omega
theorem hZ {t:List (List UInt8)}{v:Nat}(h:∀ s∈t,v<s.length):(ND t v).length=t.length:=by
 induction t with
 | nil=>rfl
 | cons s t ih=>
  have:=ih fun x hx=>h x (List.mem_cons_of_mem _ hx)
  unfold ND at this ⊢;rw[List.flatMap_cons,List.length_append,this,z3Y (h s List.mem_cons_self),List.length_cons];omega
theorem z79 {t:List (List UInt8)}{v:Nat}(h:∀ s∈t,zA s=true):zA (ND t v)=true:=by
 apply List.all_eq_true.2
 intro c hc;obtain⟨s,hs,hcs⟩:=List.mem_flatMap.1 hc;exact List.all_eq_true.1 (h s hs) c (List.mem_of_mem_drop (List.mem_of_mem_take hcs))
theorem ownA1 {f:Nat}{F:AFun}{id fz n:Nat}{sh:Sh}{xs:List PV}(hf:X.fn f=some F)(hr:F.byref=false)(hl:F.nparams=1)(hh:h[id]?=some (.row sh xs fz))(hn:xs.length=n):eA X f [.own id n 0 n] h K=eA X f [.p (.sl sh xs)] (frz h id n) K:=by
 subst hn;exact zY (X:=X) (a:=[.own id xs.length 0 xs.length]) (vs:=[.sl sh xs]) hf hr (by
  have:win xs 0 xs.length=xs:=dE rfl
  simp [qA,pur,rd,hh,this]) rfl (by simp [hl]) z1b
theorem ownA2 {f:Nat}{F:AFun}{id fz n:Nat}{sh:Sh}{xs:List PV}{v:PV}(hf:X.fn f=some F)(hr:F.byref=false)(hl:F.nparams=2)(hh:h[id]?=some (.row sh xs fz))(hn:xs.length=n):eA X f [.p v,.own id n 0 n] h K=eA X f [.p v,.p (.sl sh xs)] (frz h id n) K:=by
 subst hn;exact zY (X:=X) (a:=[.p v,.own id xs.length 0 xs.length]) (vs:=[v,.sl sh xs]) hf hr (by
  have:win xs 0 xs.length=xs:=dE rfl
  simp [qA,pur,rd,hh,this]) rfl (by simp [hl]) z1b
theorem z1a {o0:Obj}{sh:Sh}{xs:List PV}{fz n:Nat}:frz [o0,.row sh xs fz] 1 n=[o0,.row sh xs (max fz n)]:=rfl
attribute [-go_sem] NO CI tU PK uU QK OO DI kL oH vU RK wU SK
set_option maxHeartbeats 4000000 in
theorem law_TV (L:List Int){K:kA}:eA X cP [AL L] [] K=K (AB true) [] []:=by
 refine CA ?_;rw[z65 rfl];have p0:jB 100000 0:=by unfold jB;omega
 obtain⟨_,a2,⟨b1,b2,t,ht,hF,hm,rfl⟩,V⟩:=(zaE (L:=L) (a:=0) (OH p0 (by omega) (by omega))).hd (l:=[])
 obtain⟨ht1,ht2⟩:=ht;have TF:=fun h K=>z3c (h:=h) (K:=K) t (fun s hs=>by have:=ht2 s hs;omega) (by omega)
 rw[hF]at TF;unfold gI at hF;split at hF
 ·cases hF
 rename_i hne;split at hF
 ·cases hF
 have hT:=z3B hF
 generalize hmm:(t.headD []).length=m at *;have h0:(t.map PV.str)[0]?=some (.str (t.headD [])):=by
  cases t with
  | nil=>simp at hne
  | cons s r=>rfl
 have hcl:∀v,v<m→(ND t v).length=t.length:=fun v hv=>hZ fun s hs=>by rw[(hT s hs).2];exact hv
 have hcb:∀v,zA (ND t v)=true:=fun v=>z79 fun s hs=>(hT s hs).1
 have hcs:∀b∈EB t m,b.length=t.length∧zA b=true:=fun b hb=>by
  obtain⟨v,hv,rfl⟩:=List.mem_map.1 hb;exact⟨hcl v (List.mem_range.1 hv),hcb v⟩
 have hcn:(EB t m).length=m:=by simp [EB]
 have w1:max 1 (t.length:Int)=(t.length:Int):=by omega
 simp only[WN,go_sem,V,h0,hmm,w1];have tl5:t.length≤5:=ht1
 have t1:1≤t.length:=by omega
 have hd:=z7M t1 (by omega:t.length≤1000)
 have hpg:=ze7 t.length t1 (by omega) (EB t m) hcs (by omega)
 have hrs:=res_T t.length t1 (EB t m) (fun b hb=>(hcs b hb).1)
 have hsg:=(z30 t.length t1 (EB t m) (fun b hb=>(hcs b hb).1)).2
 have hok:∀c∈kB (EB t m),CmdOk c:=fun c hc=>by
  rcases List.mem_cons.1 hc with e|e
  ·rw[e];exact⟨by decide,by decide,by decide⟩
  ·obtain⟨b,hb,rfl⟩:=List.mem_map.1 e
   have:=(hcs b hb).1;exact⟨by show b.length≤_;omega,by show(0:Nat)≤_;omega,by show(0:Nat)≤_;omega⟩
 have hpl:(kB (EB t m)).length=m+1:=by simp [kB,hcn]
 have hB:∀d∈[XA t.length],DevB d:=fun d hd=>by
  rw[List.mem_singleton.1 hd];exact⟨by simp [XA,sU],by simp [XA],by simp [XA],fun r hr=>by simp [XA]at hr;rw[hr];simp [sDt],fun x hx=>by simp [XA]at hx;rw[hx];simp [sDt]⟩
 have hrun:XF [XA t.length] (kB (EB t m))=0:=by unfold XF;rw[hd,hpg];rfl
 have C1:=fun h K=>zfs (h:=h) (K:=K) [XA t.length] hB (by simp) (kB (EB t m)) hok (by omega)
 have C2:=fun h K=>zfr (h:=h) (K:=K) (kB (EB t m)) hok (by omega)
 rw[hrun,if_pos rfl,hrs]at C1;simp only[bitV,hpg,if_true,hsg,hcn]at C2;refine nB (fun v:Nat=>⟨[(4,tF t),(5,.p (.int .i64 (t.length:Nat))),(6,qD [XA t.length]),(7,.own 1 (v+1) 0 (v+1)),(39,.p (.int .i64 (m:Nat))),(40,AI v)],[MA L a2,.row (some 6) ((kB ((EB t m).take v)).map jE) 0],[]⟩) (fun v=>v≤m) (fun v=>m-v) 0 rfl (by omega) ?_
 intro v hv;rw[jI];have lm:((kB ((EB t m).take v)).map jE).length=v+1:=by
  rw[List.length_map];unfold kB;rw[List.length_cons,List.length_map,List.length_take,hcn];omega
 rcases Nat.lt_or_ge v m with hlt|hge
 ·have hlt':(v:Int)<(m:Int):=by omega
  simp only[OO,DI,go_sem,hlt'];refine nB (fun j:Nat=>⟨[(4,tF t),(5,.p (.int .i64 (t.length:Nat))),(6,qD [XA t.length]),(7,.own 1 (v+1) 0 (v+1)),(8,AI v),(9,AS (ND (t.take j) v)),(39,.p (.int .i64 (m:Nat))),(40,AI v),(43,tF t),(44,.p (.int .i64 (t.length:Nat))),(45,AI j)],[MA L a2,.row (some 6) ((kB ((EB t m).take v)).map jE) 0],[]⟩) (fun j=>j≤t.length) (fun j=>t.length-j) 0 rfl (by omega) ?_
  intro j hj;rcases Nat.lt_or_ge j t.length with jlt|jge
  ·have jlt':(j:Int)<(t.length:Int):=by omega
   have hg:=sC PV.str jlt
   have hs:=(hT _ (List.getElem_mem jlt)).2
   have w2:IntKind.i64.wrap ((j:Int)+1)=((j+1:Nat):Int):=GA _ (by omega) (by omega)
   have w3:IntKind.i64.wrap ((v:Int)+1)=((v+1:Nat):Int):=GA _ (by omega) (by omega)
   have ec:ND (t.take (j+1)) v=ND (t.take j) v++win t[j] v 1:=by
    unfold ND;rw[List.take_succ_eq_append_getElem jlt,List.flatMap_append];simp
   have cl:(ND (t.take j) v).length≤5:=by
    rw[hZ fun s hs=>by rw[(hT s (List.mem_of_mem_take hs)).2];exact hlt,List.length_take];omega
   have wl:(win t[j] v 1).length=1:=z3Y (by omega)
   have ml:(ND (t.take j) v).length+(win t[j] v 1).length≤xB:=by unfold xB;omega
   have y1:v≤v+1:=by omega
   have y2:v+1-v=1:=by omega
   have y3:v+1≤t[j].length:=by omega
   simp only[NO,CI,go_sem,jlt',jlt,hg,w2,w3,y1,y2,y3,ml];exact⟨j+1,by rw[ec],by omega,by omega⟩
  ·have ej:j=t.length:=by omega
   have jlt':¬(j:Int)<(t.length:Int):=by omega
   have et:t.take j=t:=List.take_of_length_le (by omega)
   have w3:IntKind.i64.wrap ((v:Int)+1)=((v+1:Nat):Int):=GA _ (by omega) (by omega)
   have ms:v+1+1≤LA:=by unfold LA;omega
   rw[et];simp only[NO,CI,tU,PK,uU,QK,go_sem,splice,jlt',lm,ms,w3];refine⟨v+1,?_,by omega,by omega⟩
   have e1:kB ((EB t m).take (v+1))=kB ((EB t m).take v)++[mk8 (ND t v)]:=by
    unfold kB;rw[List.take_succ_eq_append_getElem (by omega),List.map_append]
    simp [EB]
   rw[e1,List.map_append];rfl
 ·have ev:v=m:=by omega
  have hlt':¬(v:Int)<(m:Int):=by omega
  have et:(EB t m).take v=EB t m:=List.take_of_length_le (by omega)
  rw[et]at lm ⊢;have wf:win ((kB (EB t m)).map jE) 0 (v+1)=(kB (EB t m)).map jE:=dE lm
  rw[ev]at lm wf hlt' ⊢;simp only[OO,DI,go_sem,hlt'];rw[wU];simp only[SK,go_sem,lm,wf,↓C1,C1,↓C2,C2,h0,hmm];have aR:=fun(fz:Nat) (K:kA)=>ownA2 (h:=[MA L a2,Obj.row (some 6) ((kB (EB t m)).map jE) fz]) (K:=K) (v:=.sl (some 5) ([XA t.length].map dB)) (id:=1) (fz:=fz) (sh:=some 6) (f:=XI) z4d rfl rfl rfl lm
  rw[aR];simp only[z1a,↓C1,C1,go_sem];rw[ownA1 (id:=1) (sh:=some 6) (f:=WI) z4c rfl rfl rfl lm];have mm:t.length*m≤5*20:=Nat.mul_le_mul tl5 (by omega)
  have wm:IntKind.i64.wrap ((t.length:Int)*(m:Int))=((m*t.length:Nat):Int):=by
   rw[show(t.length:Int)*(m:Int)=((t.length*m:Nat):Int) by simp,GA _ (by omega) (by omega),Nat.mul_comm]
  simp only[z1a,↓C2,C2,go_sem,lm,wf,h0,hmm,wm,hcn];have rl:(([49,48]::(EB t m).map fun _=>zs t.length).map PV.str).length=m+1:=by rw[List.length_map,List.length_cons,List.length_map,hcn]
  have rz:=fun h K=>nX (h:=h) (K:=K) (t.length:Int) (by omega) (by omega)
  simp only[Int.toNat_natCast]at rz;have r0:(([49,48]::(EB t m).map fun _=>zs t.length).map PV.str)[0]?=some (.str [49,48]):=rfl
  have r1:∀i,0<i→i<m+1→(([49,48]::(EB t m).map fun _=>zs t.length).map PV.str)[i]?=some (.str (zs t.length)):=fun i hi h2=>by
   obtain⟨k,rfl⟩:∃k,i=k+1:=⟨i-1,by omega⟩
   rw[List.map_cons,List.getElem?_cons_succ,List.map_map,List.getElem?_map,List.getElem?_eq_getElem (by omega)]
   rfl
  generalize ([49,48]::(EB t m).map fun _=>zs t.length)=R at *
  generalize max (m+1) (m+1)=fz;refine nB (fun i:Nat=>⟨[(4,tF t),(5,.p (.int .i64 (t.length:Nat))),(98,AR R),(99,.p (.int .i64 ((m+1:Nat):Int))),(100,AI i)],[MA L a2,.row (some 6) ((kB (EB t m)).map jE) fz],[]⟩) (fun i=>i≤m+1) (fun i=>m+1-i) 0 rfl (by omega) ?_
  intro i hi;have w2:IntKind.i64.wrap ((i:Int)+1)=((i+1:Nat):Int):=GA _ (by omega) (by omega)
  rcases Nat.lt_or_ge i (m+1) with ilt|ige
  ·have ilt':(i:Int)<((m+1:Nat):Int):=by omega
   rcases Nat.eq_zero_or_pos i with i0|i0
   ·subst i0
    have z0:(0:Int)<((m+1:Nat):Int):=by omega
    have w1':IntKind.i64.wrap 1=1:=rfl
    simp only[kL,oH,go_sem,z0,ilt',ilt,rl,r0,Int.lt_irrefl,w2,w1'];exact⟨1,rfl,by omega,by omega⟩
   ·have i0':(0:Int)<(i:Int):=by omega
    have i1':¬(i:Int)=0:=by omega
    have ri:=r1 i i0 ilt
    simp only[kL,oH,go_sem,ilt',ilt,rl,ri,i0',i1',↓rz,rz,w2];exact⟨i+1,rfl,by omega,by omega⟩
  ·have ilt':¬(i:Int)<((m+1:Nat):Int):=by omega
   simp only[kL,oH,go_sem,ilt'];rw[vU];simp only[RK,go_sem,↓TF,TF,zfv]
end Go.Am
end
section
/- From a law that is true here tov the model's calls at what came in. -/
open Go
namespace Go.Am
variable {P:Program}
theorem law_nil {X:Ctx}(HX:Fits P X){f:Nat}{F:AFun}(hF:X.fn f=some F)(H:∀ L:List Int,eA X f [FQ L] [] fun v _ _=>v = .p (.bool true))(W:World)(hG:rD X.gl (imm [] [] W)) :
 Calls P f #[.slice none 0 0] W fun e W'=>e = .returned (.bool true)∧RowKit.Below W.heap.size W W':=by
 refine(SY HX hF (H []) (W:=W) (vs:=[.slice none 0 0]) hG rfl (fun j y v hy hv=>?_)).mono fun e W' he=>?_
 ·cases j with
  | zero=>cases hy;cases hv;exact z7u W
  | succ j=>cases hy
 ·cases e with
  | returned r=>
   obtain⟨⟨v,h,x,μ,hk,hr⟩,hb⟩:=he;subst hk;exact⟨by rw[hr.p_bool],hb⟩
  | panicked _=>exact he.elim
  | outgrown=>exact he.elim
theorem law_ints {X:Ctx}(HX:Fits P X){f:Nat}{F:AFun}(hF:X.fn f=some F)(H:∀ L:List Int,eA X f [FQ L] [] fun v _ _=>v = .p (.bool true)){W:World}(hG:rD X.gl (imm [] [] W)){a:Addr}{len cap:Nat}{zs:List Int}
 (hl:len≤cap) (hz:len≤zs.length) (hc:∀i,i<zs.length→W.cell? (a.add i)=some (.int .i64 (zs.getD i 0))) :
 Calls P f #[.slice (some a) len cap] W fun e W'=>e = .returned (.bool true)∧RowKit.Below W.heap.size W W':=by
 refine(SY HX hF (H (zs.take len)) (W:=W) (vs:=[.slice (some a) len cap]) hG rfl (fun j y v hy hv=>?_)).mono fun e W' he=>?_
 ·cases j with
  | zero=>
   cases hy;cases hv
   rcases Nat.eq_zero_or_pos len with h0|h0
   ·subst h0
    exact .p _ _ (.nils _ _ _)
   ·exact z7t (by simpa [Addr.add] using World.cell?_spot (hc 0 (by omega))) hl hz hc
  | succ j=>cases hy
 ·cases e with
  | returned r=>
   obtain⟨⟨v,h,x,μ,hk,hr⟩,hb⟩:=he;subst hk;exact⟨by rw[hr.p_bool],hb⟩
  | panicked _=>exact he.elim
  | outgrown=>exact he.elim
end Go.Am
namespace Go.ChangeShapes
open Go.RowKit Go.WideShapes
section
variable {H:Type} {enc:TypeId × Value→H} {P:Program}
end
end Go.ChangeShapes
end
section
/- The abstract machine,part L2: the kit's contracts asv rows. -/
set_option linter.unusedSimpArgs false
set_option linter.unusedVariables false
namespace Go.Am
variable {P:Program} {gl:Nat→Option PV}
open Go.Shelf
end Go.Am
end
