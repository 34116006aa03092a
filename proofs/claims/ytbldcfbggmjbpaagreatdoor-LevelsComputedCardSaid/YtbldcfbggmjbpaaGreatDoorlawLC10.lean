/- Texts of the proof, laid together: SpBrd14, SpBrd15, SpBrd16, SpBrq5, SpBrq6, SpBrq7, SpBrq8, SpBrq9, SpBrq10, PLev, SpBrq11, SpBrq12, SpBrq13, SpBrq14, SpBrq15, SpBdd, SpLawLC, Bridge, AmL2. -/
import Derived.KernelRfl
import Derived.ProofKit
import Derived.Shelf.Strconv.Itoa3
import Derived.Lib.LaidTab
import Derived.Test.YtbldcfbggmjbpaaGreatDoorlawLC9
set_option linter.all false
section
/- Clashes: the program. -/
open Go
set_option linter.all false
set_option maxRecDepth 100000
namespace Go.Am
variable {h:bA} {K:nA}
attribute [-go_sem] ZA kB wB uB
def eC (b:Brd)(bits:List Nm2):List Nm2:=(sA b).filter fun n=>decide ((zA n (lB b bits)).getD 0=3)
def zP (b:Brd)(bits:List Nm2):List Nm2×Int:=if kC b bits≠0 then([],kC b bits) else(eC b bits,0)
theorem znG (b:Brd)(bits:List Nm2)(ho:BrdOk b)(hb:BitsL bits):kA X QJ [.p b.pv,xB bits] h K=K (.tup [.p (.sl none ((zP b bits).1.map PV.str)),AI (zP b bits).2]) h []:=by
 refine IA ?_;rw[zdh rfl];have ck:=fun hh K=>GS (h:=hh) (K:=K) b bits ho hb
 simp only[Brd.pv]at ck;unfold zP;by_cases h1:kC b bits=0
 ·rw[if_neg (by simp [h1])]
  have lv:=fun hh K=>oZ (h:=hh) (K:=K) ho h1
  simp only[Brd.pv]at lv;simp only[JP,Brd.pv,go_sem,ck,h1,lv];have R:=eH (gE h1).1
  have hj:=R.j
  obtain⟨xs,x1,x2,x3,x4,sn⟩:=MS (h:=h++[qA b,qA b,BA PV.str RA (lB b bits),Obj.box [AV.mp (h.length+1+1)]]) b (by omega)
  simp only[Brd.pv]at sn;have hb0:Obj.box [AV.p (PV.sl (some 2) (List.map Prt.pv b.parts)),AV.p (PV.sl (some 3) (List.map Jon.pv b.joins)),AV.p (PV.sl (some 2) (List.map Pul.pv b.pulls))]=qA b:=rfl
  rw[hb0,sn];simp only[go_sem];have hx:xs=(sA b).map PV.str++xs.drop (sA b).length:=by
   have:xs.take (sA b).length=(sA b).map PV.str:=by rw[←x2];simp [win]
   rw[←this,List.take_append_drop]
  have lk:=fun(n:Nm2) (t:bA)=>iG (kk:=(none,[2])) (h:=h++qA b::qA b::BA PV.str RA (lB b bits)::t) (id:=h.length+2) (k:=n) (val:=RA) (l:=lB b bits) IG (by simp) JG (ok:=false) (z:=AI 0)
  simp only[cond_false]at lk;generalize hdr:xs.drop (sA b).length=tl at *;have ln0:((sA b).map PV.str).length=(sA b).length:=List.length_map ..
  have ltl:b.joins.length=((sA b).map PV.str).length+tl.length:=by rw[←x1,hx,List.length_append]
  have hst:ZB none tl:=fun x hx'=>x4 x (by rw[hx];exact List.mem_append_right _ hx')
  have hsn:ZB none ((sA b).map PV.str):=fun x hx'=>x4 x (by rw[hx];exact List.mem_append_left _ hx')
  let pf:PV→Bool:=fun v=>match v with | .str n=>!decide ((zA n (lB b bits)).getD 0=3)|_=>false
  have fl:((sA b).map PV.str).filter (fun x=>!pf x)=(eC b bits).map PV.str:=by
   unfold eC;rw[List.filter_map];congr 1
   refine List.filter_congr fun n _=>?_
   show(!(!decide _))=_
   rw[Bool.not_not]
  have TS:lT RJ [AV.ref (h.length+3) 0] pf ((sA b).map PV.str) (h.length+5) (h++[qA b,qA b,BA PV.str RA (lB b bits),Obj.box [AV.mp (h.length+1+1)],qA b,Obj.row none ((sA b).map PV.str++tl) 0]):=by
   intro o x hx' K';obtain⟨n,hn,rfl⟩:=List.mem_map.1 hx';refine IA ?_;rw[zdi rfl];have gv:((zA n (lB b bits)).map RA).getD (AI 0)=AI ((zA n (lB b bits)).getD 0):=by
    cases zA n (lB b bits) <;> rfl
   have lkn:=lk n
   rw[gv]at lkn;have pe:pf (.str n) = !decide ((zA n (lB b bits)).getD 0=3):=rfl
   generalize (zA n (lB b bits)).getD 0=v at *;generalize BA PV.str RA (lB b bits)=mo at *;generalize qA b=bo at *;simp only[iV,go_sem,lkn,pe]
  have DF:=fun K=>XZ (h:=h++[qA b,qA b,BA PV.str RA (lB b bits),Obj.box [AV.mp (h.length+1+1)],qA b,Obj.row none ((sA b).map PV.str++tl) 0]) (K:=K) (h.length+5) b.joins.length ((sA b).map PV.str) tl ltl hsn hst (by simp;omega) (by simp) TS
  rw[fl,ln0]at DF;subst hx;rw[DF];have es:WB (h.length+3) (AV.mp (h.length+1+1))=[]:=if_neg (show ¬h.length+3<h.length+3 by omega)
  have lc:(eC b bits).length≤b.joins.length:=by
   have:(eC b bits).length≤(sA b).length:=List.length_filter_le _ _
   omega
  have lt2:((eC b bits).map PV.str).length=(eC b bits).length:=List.length_map ..
  generalize hrow:(List.map PV.str (eC b bits)++(List.replicate ((sA b).length-((eC b bits).map PV.str).length) (PV.str [])++tl))=row at *;have wr:win row 0 (eC b bits).length=(eC b bits).map PV.str:=by
   rw[←hrow];unfold win;rw[List.drop_zero,List.take_append_of_le_length (by simp)]
   exact List.take_of_length_le (by simp)
  have rl:row.length=b.joins.length:=by
   have:(eC b bits).length≤(sA b).length:=List.length_filter_le _ _
   rw[←hrow];simp at ltl ⊢;omega
  simp only[lt2,go_sem,es,wr,rl,lc]
 ·rw[if_pos h1]
  simp only[JP,Brd.pv,go_sem,ck,h1]
end Go.Am
end
section
/- Captured: the program. -/
open Go
set_option linter.all false
set_option maxRecDepth 100000
namespace Go.Am
variable {h:bA} {K:nA}
attribute [-go_sem] ZA kB wB uB
def yM (b:Brd)(M:List (Nm2 × Int))(key:Nm2)(c:Cel)(z:UInt8):UInt8:=
 if c.kind≠1 then z else match yD b key c.pin with
  | some n=>if(zA n M).getD 0≠1∧(zA n M).getD 0≠2 then 48 else 49
  | none=>49
def UB (b:Brd)(M:List (Nm2 × Int))(p:Prt)(s:Nm2):Nm2:=(p.cells.zip s).map fun e=>yM b M p.key e.1 e.2
def vC (b:Brd)(bits:List Nm2):List Nm2:=(b.parts.zip bits).map fun e=>UB b (lB b bits) e.1 e.2
def capP (b:Brd)(bits:List Nm2):List Nm2×Int:=if kC b bits≠0 then([],kC b bits) else(vC b bits,0)
def H6 (h:bA)(b:Brd)(M:List (Nm2 × Int))(rows:List PV)(t:bA):bA:=h++qA b::qA b::BA PV.str RA M::qA b::BA spP OC (AC b.joins) :: .row none rows 0::t
def lC (b:Brd)(M:List (Nm2 × Int))(p:Prt)(s:Nm2)(k:Nat):List PV:=((UB b M p s).take k++s.drop k).map fun z=>PV.int .u8 z.toNat
theorem z27 {b:Brd}{M:List (Nm2 × Int)}{p:Prt}{s:Nm2}{k:Nat}(hk:k<p.cells.length)(hs:s.length=p.cells.length):(lC b M p s k).set k (PV.int .u8 (yM b M p.key p.cells[k] (s[k]'(by omega))).toNat)=lC b M p s (k+1):=by
 have hc:(UB b M p s).length=p.cells.length:=by simp [UB,hs]
 have hk':k<s.length:=by omega
 have e1:(UB b M p s).take (k+1)=(UB b M p s).take k++[yM b M p.key p.cells[k] (s[k]'hk')]:=by
  rw[List.take_succ_eq_append_getElem (by omega)]
  simp [UB]
 have e2:s.drop k=s[k]::s.drop (k+1):=List.drop_eq_getElem_cons hk'
 unfold lC;rw[e1,e2,List.map_append,List.map_append,List.map_append,List.set_append_right _ _ (by simp;omega)]
 have:k-(List.map (fun z:UInt8=>PV.int .u8 z.toNat) ((UB b M p s).take k)).length=0:=by simp;omega
 rw[this];simp only[List.map_cons,List.set_cons_zero,List.append_assoc,List.cons_append,List.nil_append,List.map_nil]
theorem z26 {b:Brd}{M:List (Nm2 × Int)}{p:Prt}{s:Nm2}{k:Nat}(hk:k<s.length)(hs:s.length=p.cells.length):(lC b M p s k).set k (PV.int .u8 (s[k]).toNat)=lC b M p s k:=by
 have hc:(UB b M p s).length=p.cells.length:=by simp [UB,hs]
 have e2:s.drop k=s[k]::s.drop (k+1):=List.drop_eq_getElem_cons hk
 unfold lC;rw[e2,List.map_append,List.set_append_right _ _ (by simp;omega)]
 have:k-(List.map (fun z:UInt8=>PV.int .u8 z.toNat) ((UB b M p s).take k)).length=0:=by simp;omega
 rw[this];simp only[List.map_cons,List.set_cons_zero]
theorem z25 {b:Brd}{M:List (Nm2 × Int)}{p:Prt}{s:Nm2}{k:Nat}(hk:k<s.length)(hs:s.length=p.cells.length):(lC b M p s k)[k]?=some (PV.int .u8 (s[k]).toNat):=by
 have hc:(UB b M p s).length=p.cells.length:=by simp [UB,hs]
 have e2:s.drop k=s[k]::s.drop (k+1):=List.drop_eq_getElem_cons hk
 unfold lC;rw[e2,List.map_append,List.getElem?_append_right (by simp;omega)]
 have:k-(List.map (fun z:UInt8=>PV.int .u8 z.toNat) ((UB b M p s).take k)).length=0:=by simp;omega
 rw[this];rfl
attribute [-go_sem] z5t IP
theorem znW {K:Ex→St→Prop}(b:Brd)(bits:List Nm2){M:List (Nm2 × Int)}{rows:List PV}{p:Prt}{s:Nm2}{i m:Nat}(hs:s.length=p.cells.length)(hl:p.cells.length≤1000)
 (fin:∀z,K (.exit 2) ⟨[(1,xB bits),(7,.mp (h.length+2)),(8,.mp (h.length+4)),(9,.own (h.length+5) m 0 m),(11,.ref (h.length+6) 0),(12,.own (h.length+7) s.length 0 s.length),(29,aC b.parts),(30,AI b.parts.length),(31,AI i),(42,qC p.cells),(43,AI p.cells.length),(44,AI p.cells.length),z],H6 h b M rows [p.bx,.row none ((UB b M p s).map fun z=>PV.int .u8 z.toNat) 0],[]⟩) :
 GA (kA X) X.gl (.scope RK) K [(1,xB bits),(7,.mp (h.length+2)),(8,.mp (h.length+4)),(9,.own (h.length+5) m 0 m),(11,.ref (h.length+6) 0),(12,.own (h.length+7) s.length 0 s.length),(29,aC b.parts),(30,AI b.parts.length),(31,AI i),(42,qC p.cells),(43,AI p.cells.length),(44,AI 0)] (H6 h b M rows [p.bx,.row none (lC b M p s 0) 0]) []:=by
 refine VA (fun k:Nat=>⟨[(1,xB bits),(7,.mp (h.length+2)),(8,.mp (h.length+4)),(9,.own (h.length+5) m 0 m),(11,.ref (h.length+6) 0),(12,.own (h.length+7) s.length 0 s.length),(29,aC b.parts),(30,AI b.parts.length),(31,AI i),(42,qC p.cells),(43,AI p.cells.length),(44,AI k)],H6 h b M rows [p.bx,.row none (lC b M p s k) 0],[]⟩) (fun k=>k≤p.cells.length) (fun k=>p.cells.length-k) 0 rfl (by omega) ?_
 intro k hk;have ln:(p.cells.map Cel.pv).length=p.cells.length:=List.length_map ..
 have hc:(UB b M p s).length=p.cells.length:=by simp [UB,hs]
 rcases Nat.lt_or_ge k p.cells.length with hlt|hge
 ·have g:=XA Cel.pv hlt
  have w2:IntKind.i64.wrap ((k:Int)+1)=((k+1:Nat):Int):=CA _ (by omega) (by omega)
  have c1:LA (some 4) 0 p.cells[k].pv=some p.cells[k].pv:=rfl
  have st:=z27 (b:=b) (M:=M) hlt hs
  have sk:=z26 (b:=b) (M:=M) (p:=p) (k:=k) (s:=s) (by omega) hs
  have rl:(lC b M p s k).length=s.length:=by simp [lC,hc];omega
  have kl:k<s.length:=by omega
  have rk:=z25 (b:=b) (M:=M) (p:=p) kl hs
  unfold yM at st;have lkM:=fun(n:Nm2) (t:bA)=>iG (kk:=(none,[2])) (h:=h++qA b::qA b::BA PV.str RA M::t) (id:=h.length+2) (k:=n) (val:=RA) (l:=M) IG (by simp) JG (ok:=false) (z:=AI 0)
  have lkN:=fun(q:Nm2×Nm2) (mo:Obj) (t:bA)=>iG (kk:=(some 2,[2,2])) (h:=h++qA b::qA b::mo::qA b::BA spP OC (AC b.joins)::t) (id:=h.length+4) (k:=q) (val:=OC) (l:=AC b.joins) tN (by simp) uN (ok:=true) (z:=.p (.str []))
  simp only[cond_false,cond_true]at lkM lkN;have gvM:∀n,((zA n M).map RA).getD (AI 0)=AI ((zA n M).getD 0):=fun n=>by cases zA n M <;> rfl
  generalize hcc:p.cells[k]=c at *;generalize hR1:lC b M p s (k+1)=R1 at *;generalize hR:lC b M p s k=R at *;have rk2:∀v,(R.set k v)[k]?=some v:=fun v=>by rw[List.getElem?_set_self (by omega)]
  simp only[Cel.pv,eI]at g c1;simp only[H6];by_cases hkind:c.kind=1
  ·rw[if_neg (by simp [hkind])]at st
   have hkp:=eq_true hkind
   have lkn:=lkN (p.key,c.pin)
   have gN:zA (p.key,c.pin) (AC b.joins)=yD b p.key c.pin:=ZQ _ _ _
   rw[gN]at lkn;simp only[spP]at lkn;cases hn:yD b p.key c.pin with
   | none=>
    rw[hn]at st lkn;have e49:(R.set k (.int .u8 49))=R1:=st
    generalize BA PV.str RA M=mo at *;generalize BA spP OC (AC b.joins)=no at *;generalize qA b=bo at *;simp only[H6,Prt.bx,go_sem,hlt,g,c1,w2,ln,hkp,lkn,Option.map_none,Option.getD_none,Option.isSome_none,rl,kl,rk,rk2,e49];exact⟨k+1,by rw[hR1],by omega,by omega⟩
   | some n=>
    rw[hn]at st lkn;dsimp only at st;have lm:=lkM n
    rw[gvM n]at lm;generalize (zA n M).getD 0=v at *;generalize BA PV.str RA M=mo at *;generalize BA spP OC (AC b.joins)=no at *;generalize qA b=bo at *;have rl2:(R.set k (.int .u8 49)).length=s.length:=by simp [rl]
    have ss:(R.set k (.int .u8 49)).set k (.int .u8 48)=R.set k (.int .u8 48):=List.set_set ..
    by_cases v1:v=1
    ·rw[if_neg (fun x=>x.1 v1)]at st
     have e49:(R.set k (.int .u8 49))=R1:=st
     have v1':=eq_true v1
     simp only[H6,Prt.bx,go_sem,hlt,g,c1,w2,ln,hkp,lkn,lm,Option.map_some,Option.getD_some,Option.isSome_some,OC,rl,rl2,kl,rk,rk2,v1'];refine⟨k+1,?_,by omega,by omega⟩
     rw[e49,hR1]
    ·by_cases v2:v=2
     ·rw[if_neg (fun x=>x.2 v2)]at st
      have e49:(R.set k (.int .u8 49))=R1:=st
      have v2':=eq_true v2
      simp only[H6,Prt.bx,go_sem,hlt,g,c1,w2,ln,hkp,lkn,lm,Option.map_some,Option.getD_some,Option.isSome_some,OC,rl,rl2,kl,rk,rk2,v1,v2'];refine⟨k+1,?_,by omega,by omega⟩
      rw[e49,hR1]
     ·rw[if_pos ⟨v1,v2⟩]at st
      have e48:(R.set k (.int .u8 48))=R1:=st
      simp only[H6,Prt.bx,go_sem,hlt,g,c1,w2,ln,hkp,lkn,lm,Option.map_some,Option.getD_some,Option.isSome_some,OC,rl,rl2,kl,rk,rk2,v1,v2,ss];refine⟨k+1,?_,by omega,by omega⟩
      rw[e48,hR1]
  ·rw[if_pos hkind,sk]at st
   generalize BA PV.str RA M=mo at *;generalize BA spP OC (AC b.joins)=no at *;generalize qA b=bo at *;simp only[H6,Prt.bx,go_sem,hlt,g,c1,w2,ln,hkind,rl,kl];refine⟨k+1,?_,by omega,by omega⟩
   rw[st,hR1]
 ·have e:k=p.cells.length:=by omega
  subst e;have:lC b M p s p.cells.length=(UB b M p s).map fun z=>PV.int .u8 z.toNat:=by
   unfold lC;rw[List.take_of_length_le (by omega),List.drop_eq_nil_of_le (by omega),List.append_nil]
  rw[this];simp only[H6,go_sem,Nat.lt_irrefl];exact fin _
end Go.Am
end
section
/- Captured: the program,all parts. -/
open Go
set_option linter.all false
set_option maxRecDepth 100000
namespace Go.Am
variable {h:bA} {K:nA}
attribute [-go_sem] ZA kB wB uB
theorem toB2:∀ s:List UInt8,pG (bB s)=some s
 | []=>rfl
 | c::r=>by
  have ih:=toB2 r
  unfold bB at ih ⊢;rw[List.map_cons];unfold pG;rw[ih];have:((c.toNat:Int))<256:=by have:=c.toNat_lt;omega
  rw[if_pos ⟨by omega,this⟩]
  simp
theorem z24 {b:Brd}{bits:List Nm2}(h:bits.length=b.parts.length):(vC b bits).length=b.parts.length:=by unfold vC;simp [h]
theorem znD (b:Brd)(bits:List Nm2)(ho:BrdOk b)(hb:BitsL bits):kA X PJ [.p b.pv,xB bits] h K=K (.tup [.p (.sl none ((capP b bits).1.map PV.str)),AI (capP b bits).2]) h []:=by
 refine IA ?_;rw[zde rfl];have ck:=fun hh K=>GS (h:=hh) (K:=K) b bits ho hb
 simp only[Brd.pv]at ck;unfold capP;by_cases h1:kC b bits=0
 ·rw[if_neg (by simp [h1])]
  have R:=eH (gE h1).1
  have hj:=R.j
  have hp40:=R.p
  have lv:=fun hh K=>oZ (h:=hh) (K:=K) ho h1
  have nt:=fun hh K=>z85 (h:=hh) (K:=K) b (by omega) R.w
  simp only[Brd.pv]at lv nt;have ln:(b.parts.map Prt.pv).length=b.parts.length:=List.length_map ..
  simp only[FM,Brd.pv,go_sem,ck,h1,lv,nt,ln];obtain⟨f1,f2,f3⟩:=gE h1;have bo:=xM h1
  have cl:=z24 f2
  generalize hM:lB b bits=M at *;refine VA (fun k:Nat=>⟨[(1,xB bits),(7,.mp (h.length+2)),(8,.mp (h.length+4)),(9,.own (h.length+5) k 0 k),(29,aC b.parts),(30,AI b.parts.length),(31,AI k)],H6 h b M (((vC b bits).take k).map PV.str) [],[]⟩) (fun k=>k≤b.parts.length) (fun k=>b.parts.length-k) 0 rfl (by omega) ?_
  intro k hk;rcases Nat.lt_or_ge k b.parts.length with hlt|hge
  ·have g:=XA Prt.pv hlt
   have w2:IntKind.i64.wrap ((k:Int)+1)=((k+1:Nat):Int):=CA _ (by omega) (by omega)
   have c1:LA (some 2) 0 b.parts[k].pv=some b.parts[k].pv:=rfl
   obtain⟨s,hs,hsl,_⟩:=bo.l k hlt;have gs:(bits.map PV.str)[k]?=some (.str s):=by rw[List.getElem?_map,hs];rfl
   have kb:k<bits.length:=by omega
   have tk:(vC b bits).take (k+1)=(vC b bits).take k++[UB b M b.parts[k] s]:=by
    rw[List.take_succ_eq_append_getElem (by omega)]
    have:bits[k]=s:=by rw[List.getElem?_eq_getElem kb]at hs;exact Option.some.inj hs
    simp [vC,hM,this]
   have c200:=R.c _ (List.getElem_mem hlt)
   have tl:(((vC b bits).take k).map PV.str).length=k:=by simp;omega
   generalize hp:b.parts[k]=p at *;have cr0:lC b M p s 0=s.map fun z=>PV.int .u8 z.toNat:=by unfold lC;simp
   have hcs:(UB b M p s).length=s.length:=by simp [UB,hsl]
   have lc:(p.cells.map Cel.pv).length=p.cells.length:=List.length_map ..
   simp only[Prt.pv]at g c1;generalize hrows:((vC b bits).take k).map PV.str=rows at *;have km:k+1≤WA:=by unfold WA;omega
   have sm:s.length≤WA:=by unfold WA;omega
   have e0:=fun K fin=>znW (h:=h) (K:=K) b bits (M:=M) (rows:=rows) (p:=p) (s:=s) (i:=k) (m:=k) hsl (by omega) fin
   rw[cr0]at e0;simp only[H6,go_sem,hlt,g,c1,w2,gs,lc,sm];refine e0 (wA 2 _) fun z=>?_
   have hcm:(UB b M p s).map (fun z=>PV.int .u8 z.toNat)=bB (UB b M p s):=rfl
   rw[hcm];generalize hC:UB b M p s=cs at *;have bl:(bB cs).length=s.length:=by simp [bB,hcs]
   have wb:win (bB cs) 0 s.length=bB cs:=rD bl
   have tb:=toB2 cs
   simp only[H6,Prt.bx,go_sem,w2,tl,km,bl,wb,tb];refine⟨k+1,?_,by omega,by omega⟩
   rw[tk,List.map_append,hrows];rfl
  ·have e:k=b.parts.length:=by omega
   subst e;rw[List.take_of_length_le (by omega)]
   have wf:win ((vC b bits).map PV.str) 0 b.parts.length=(vC b bits).map PV.str:=rD (by simp [cl])
   simp only[H6,go_sem,Nat.lt_irrefl,cl,wf]
 ·rw[if_pos h1]
  simp only[FM,Brd.pv,go_sem,ck,h1]
end Go.Am
end
section
/- The reference: a board's fault,the joins' order. -/
open Go
set_option linter.all false
set_option maxRecDepth 100000
namespace Go.Am
variable {h:bA} {K:nA}
attribute [-go_sem] ZA kB wB uB
attribute [-go_sem] KJ lH LJ mH MJ nH
theorem zn8 {K:Ex→St→Prop}(b:Brd)(ho:BrdOk b)(hq:∀ p∈b.parts,∀ c∈p.cells,ED c=dC c)(env:List (Nat × AV))(b1:aA env 1 = .ref h.length 0)(v:Int)
 (hv:(if SD b≠0 then SD b else if(100:Int)<(sA b).length then 2 else HE (sA b) none b.pulls)=v)
 (fin:∀H,K .ret ⟨[(2,AI v)],h++H,[]⟩) :
 NW (kA X) X.gl WN ⟨env,h++[qA b],[]⟩ K:=by
 rw[MJ];have ln:(b.joins.map Jon.pv).length=b.joins.length:=List.length_map ..
 have hj:=ho.j
 have hl:=hj.l
 have h1000:¬(1000:Int)<b.joins.length:=by omega
 unfold SD at hv;simp only[if_neg h1000]at hv;unfold qA;simp only[nH,b1,go_sem,ln,h1000];refine VA (fun k:Nat=>⟨[(1,.ref h.length 0),(48,.p (.sl (some 3) (b.joins.map Jon.pv))),(49,AI b.joins.length),(50,AI k)],h++[qA b],[]⟩) (fun k=>k≤b.joins.length∧dD b (b.joins.take k).getLast? (b.joins.drop k)=dD b none b.joins) (fun k=>b.joins.length-k) 0 rfl ⟨by omega,rfl⟩ ?_
 rintro k ⟨hk,hp⟩
 have cT:∀A B:Prop,oA (AB true) A B=A:=fun _ _=>rfl
 have cF:∀A B:Prop,oA (AB false) A B=B:=fun _ _=>rfl
 have eT:oUn .not (AB false)=some (AB true):=rfl
 have eF:oUn .not (AB true)=some (AB false):=rfl
 have stop:∀z,z≠0→z=dD b none b.joins→v=z:=fun z hz e=>by
  subst e;rw[←hv];simp only[hz,ne_eq,not_false_eq_true,if_true]
 rcases Nat.lt_or_ge k b.joins.length with hlt|hge
 ·have g:=XA Jon.pv hlt
  have c1:LA (some 3) 0 b.joins[k].pv=some b.joins[k].pv:=rfl
  have w2:IntKind.i64.wrap ((k:Int)+1)=((k+1:Nat):Int):=CA _ (by omega) (by omega)
  rw[List.drop_eq_getElem_cons hlt,fX]at hp;have lg:(b.joins.take (k+1)).getLast?=some b.joins[k]:=by rw[gG (by omega),List.getElem?_eq_getElem hlt]
  have hx:=hj.n _ (List.getElem_mem hlt)
  have KY:=fun h K=>qZ (h:=h) (K:=K) b.joins[k].net (by omega)
  have PN:=fun h K=>zoo (h:=h) (K:=K) b b.joins[k].part b.joins[k].pin hq ho.c
  have BN:=fun(y:Jon) h K=>z8r (h:=h) (K:=K) y b.joins[k]
  generalize hxx:b.joins[k]=x at *;simp only[Jon.pv]at g c1;simp only[Brd.pv]at PN;unfold qA;have el:jA .lss (.p (.int .i64 (k:Int))) (.p (.int .i64 (b.joins.length:Int)))=some (AB true):=by simp only[go_sem,hlt]
  cases hkey:TB x.net with
  | false=>
   rw[hkey,if_pos rfl]at hp;rw[hkey]at KY;have:=stop 5 (by omega) hp
   subst this;cases k with
   | zero=>
    have ez:jA .gtr (.p (.int .i64 0)) (.p (.int .i64 0))=some (AB false):=rfl
    have hlt0:(0:Int)<b.joins.length:=by omega
    have el0:jA .lss (.p (.int .i64 0)) (.p (.int .i64 (b.joins.length:Int)))=some (AB true):=el
    simp only[go_sem,↓el,↓el0,show((0:Nat):Int)=0 from rfl,hlt,g,c1,↓KY,KY,↓eT,↓eF,↓cT,↓cF,↓ez,ez,Int.lt_irrefl,hlt0]
    exact fin _
   | succ m=>
    have ez:jA .gtr (.p (.int .i64 ((m+1:Nat):Int))) (.p (.int .i64 0))=some (AB true):=by simp only[go_sem,show(0:Int)<((m+1:Nat):Int) by omega]
    simp only[go_sem,↓el,hlt,g,c1,↓KY,KY,↓eT,↓eF,↓cT,↓cF,↓ez,ez,show(0:Int)<((m+1:Nat):Int) by omega]
    exact fin _
  | true=>
   rw[hkey,if_neg (by simp)]at hp
   rw[hkey]at KY;cases hpin:OG b x.part x.pin with
   | false=>
    rw[hpin,if_pos rfl]at hp;rw[hpin]at PN;have:=stop 8 (by omega) hp
    subst this;cases k with
    | zero=>
     have ez:jA .gtr (.p (.int .i64 0)) (.p (.int .i64 0))=some (AB false):=rfl
     have hlt0:(0:Int)<b.joins.length:=by omega
     have el0:jA .lss (.p (.int .i64 0)) (.p (.int .i64 (b.joins.length:Int)))=some (AB true):=el
     simp only[go_sem,↓el,↓el0,show((0:Nat):Int)=0 from rfl,hlt,g,c1,↓KY,KY,↓eT,↓eF,↓cT,↓cF,↓ez,ez,Int.lt_irrefl,hlt0,↓PN,PN]
     exact fin _
    | succ m=>
     have ez:jA .gtr (.p (.int .i64 ((m+1:Nat):Int))) (.p (.int .i64 0))=some (AB true):=by simp only[go_sem,show(0:Int)<((m+1:Nat):Int) by omega]
     simp only[go_sem,↓el,hlt,g,c1,↓KY,KY,↓eT,↓eF,↓cT,↓cF,↓ez,ez,show(0:Int)<((m+1:Nat):Int) by omega,↓PN,PN]
     exact fin _
   | true=>
    rw[hpin,if_neg (by simp)]at hp
    rw[hpin]at PN;cases k with
    | zero=>
     rw[List.take_zero,List.getLast?_nil,if_neg (by simp)]at hp
     have hlt0:(0:Int)<b.joins.length:=by omega
     have ez:jA .gtr (.p (.int .i64 0)) (.p (.int .i64 0))=some (AB false):=rfl
     have el0:jA .lss (.p (.int .i64 0)) (.p (.int .i64 (b.joins.length:Int)))=some (AB true):=el
     simp only[go_sem,↓el,↓el0,show((0:Nat):Int)=0 from rfl,hlt,hlt0,↓ez,ez,g,c1,↓KY,KY,↓eT,↓eF,↓cT,↓cF,↓PN,PN,Int.lt_irrefl,show((0:Nat):Int)=0 from rfl,show IntKind.i64.wrap 1=1 from rfl]
     refine⟨1,rfl,⟨by omega,?_⟩,by omega⟩
     rw[lg];exact hp
    | succ m=>
     have hm:m<b.joins.length:=by omega
     have gm:=XA Jon.pv hm
     have cm:LA (some 3) 0 b.joins[m].pv=some b.joins[m].pv:=rfl
     have wm:IntKind.i64.wrap (((m+1:Nat):Int)-1)=(m:Int):=by rw[CA _ (by omega) (by omega)];omega
     have p1:(0:Int)<((m+1:Nat):Int):=by omega
     have ez:jA .gtr (.p (.int .i64 ((m+1:Nat):Int))) (.p (.int .i64 0))=some (AB true):=by simp only[go_sem,p1]
     rw[gG (by omega),List.getElem?_eq_getElem hm]at hp
     generalize b.joins[m]=y at *;have BN':=BN y
     have c0:LA none 0 y.pv=some (.str y.net):=rfl
     have c01:LA none 1 y.pv=some (.str y.part):=rfl
     have c02:LA none 2 y.pv=some (.str y.pin):=rfl
     simp only[Jon.pv]at gm cm c0 c01 c02;have jn:=zkv x y
     by_cases hc:GB x y≤0
     ·rw[if_pos (by simp [hc])]at hp
      have hc2:(0≤GB y x)=True:=eq_true (jn.1 hc)
      have:=stop 7 (by omega) hp
      subst this;simp only[go_sem,↓el,hlt,g,c1,↓KY,KY,↓eT,↓eF,↓cT,↓cF,↓PN,PN,↓ez,ez,show(0:Int)<((m+1:Nat):Int) by omega,p1,wm,hm,gm,cm,c0,c01,c02,↓BN',BN',hc2]
      exact fin _
     ·rw[if_neg (by simp [hc])]at hp
      have hc2:(0≤GB y x)=False:=eq_false (fun z=>hc (jn.2 z))
      simp only[go_sem,↓el,hlt,g,c1,↓KY,KY,↓eT,↓eF,↓cT,↓cF,↓PN,PN,↓ez,ez,show(0:Int)<((m+1:Nat):Int) by omega,p1,wm,hm,gm,cm,c0,c01,c02,↓BN',BN',hc2,w2]
      refine⟨m+1+1,rfl,⟨by omega,?_⟩,by omega⟩
      rw[lg];exact hp
 ·have e:k=b.joins.length:=by omega
  subst e;rw[List.drop_length]at hp;have z:dD b none b.joins=0:=hp.symm
  simp only[go_sem,Nat.lt_irrefl];refine zn7 b ho (z6U z) (z6T z) _ rfl v ?_ fin;rw[←hv];simp only[z,ne_eq,not_true_eq_false,if_false];cases twJ [] b.joins <;> simp
theorem z8p (b:Brd)(ho:BrdOk b):kA X YF [.p b.pv] h K=K (AI (PC b)) h []:=by
 refine IA ?_;rw[zdM rfl];have ln:(b.parts.map Prt.pv).length=b.parts.length:=List.length_map ..
 unfold PC;by_cases h40:(40:Int)<b.parts.length
 ·rw[if_pos h40]
  simp only[RM,Brd.pv,go_sem,ln,h40]
 rw[if_neg h40];simp only[RM,Brd.pv,go_sem,ln,h40];refine VA (fun k:Nat=>⟨[(1,.ref h.length 0),(3,AS (LI (b.parts.take k))),(19,aC b.parts),(20,AI b.parts.length),(21,AI k)],h++[qA b],[]⟩) (fun k=>k≤b.parts.length∧NC (b.parts.take k).getLast? (b.parts.drop k)=NC none b.parts) (fun k=>b.parts.length-k) 0 rfl ⟨by omega,rfl⟩ ?_
 rintro k ⟨hk,hp⟩
 unfold qA;rcases Nat.lt_or_ge k b.parts.length with hlt|hge
 ·have g:=XA Prt.pv hlt
  have c1:LA (some 2) 0 b.parts[k].pv=some b.parts[k].pv:=rfl
  have w2:IntKind.i64.wrap ((k:Int)+1)=((k+1:Nat):Int):=CA _ (by omega) (by omega)
  rw[List.drop_eq_getElem_cons hlt,LY]at hp;have lg:(b.parts.take (k+1)).getLast?=some b.parts[k]:=by rw[gG (by omega),List.getElem?_eq_getElem hlt]
  have lk2:LI (b.parts.take (k+1))=b.parts[k].key:=by unfold LI;rw[lg];rfl
  have xm:=List.getElem_mem hlt
  generalize hxx:b.parts[k]=x at *;have KY:=fun h K=>qZ (h:=h) (K:=K) x.key (by have:=ho.k x xm;omega)
  have CF:=fun h K=>zov (h:=h) (K:=K) x (uP ho.c xm).1 (uP ho.c xm).2
  simp only[Prt.pv]at g c1 CF;cases hkey:TB x.key with
  | false=>
   rw[hkey,if_pos rfl]at hp;rw[hkey]at KY;rw[←hp];simp only[go_sem,hlt,g,c1,↓KY,KY]
  | true=>
   have xne:=z6V hkey
   rw[hkey,if_neg (by simp)]at hp
   rw[hkey]at KY;replace hp:(if decide (vA x.key (LI (b.parts.take k))≤0)=true then 7 else if nD x.cells≠0 then nD x.cells else NC (some x) (b.parts.drop (k+1)))=NC none b.parts:=by
    unfold LI;cases hgl:(b.parts.take k).getLast? with
    | none=>
     rw[hgl]at hp;rw[show decide (vA x.key ((Option.map Prt.key none).getD [])≤0)=false from decide_eq_false (z2W xne)]
     exact hp
    | some q=>rw[hgl]at hp;exact hp
   have le:=gR x.key (LI (b.parts.take k))
   generalize LI (b.parts.take k)=la at *;by_cases hc:vA x.key la≤0
   ·rw[if_pos (by simp [hc])]at hp
    rw[←hp];simp only[go_sem,hlt,g,c1,↓KY,KY,le,hc]
   ·rw[if_neg (by simp [hc])]at hp
    generalize hz:nD x.cells=z at *;by_cases q:z=0
    ·rw[if_neg (by simp [q])]at hp
     subst q;simp only[go_sem,hlt,g,c1,↓KY,KY,le,hc,↓CF,CF,w2];refine⟨k+1,?_,⟨by omega,?_⟩,by omega⟩
     ·rw[lk2]
     ·rw[lg];exact hp
    ·rw[if_pos q]at hp
     rw[←hp,if_pos q];have e12:jA .neq (.p (.int .i64 z)) (.p (.int .i64 0))=some (AB true):=by simp only[go_sem,q]
     simp only[go_sem,hlt,g,c1,↓KY,KY,le,hc,↓CF,CF,↓e12]
 ·have e:k=b.parts.length:=by omega
  subst e;rw[List.drop_length]at hp;have z:NC none b.parts=0:=hp.symm
  rw[if_neg (by simp [z])]
  simp only[go_sem,Nat.lt_irrefl];refine zn8 b ho (zmH z) _ rfl _ rfl (fun H=>?_)
  simp only[go_sem]
end Go.Am
end
section
/- The reference: bits' fault,the net of a pin. -/
open Go
set_option linter.all false
set_option maxRecDepth 100000
namespace Go.Am
variable {h:bA} {K:nA}
attribute [-go_sem] ZA kB wB uB
theorem znA (b:Brd)(bits:List Nm2)(ho:BrdOk b)(hb:BitsL bits):kA X cK [.p b.pv,xB bits] h K=K (AI (kC b bits)) h []:=by
 refine IA ?_;rw[zdL rfl];have ln:(b.parts.map Prt.pv).length=b.parts.length:=List.length_map ..
 have lb:(bits.map PV.str).length=bits.length:=List.length_map ..
 have ck:=fun hh K=>z8p (h:=hh) (K:=K) b ho
 simp only[Brd.pv]at ck;unfold kC;have hn:=hb.n
 by_cases h1:PC b=0
 ·rw[if_neg (by simp [h1])]
  by_cases h2:bits.length=b.parts.length
  ·rw[if_neg (by simp [h2])]
   have h2':((bits.length:Int)=b.parts.length)=True:=eq_true (by omega)
   simp only[HJ,Brd.pv,go_sem,ck,h1,ln,lb,h2'];refine VA (fun k:Nat=>⟨[(2,.ref h.length 0),(19,xB bits),(20,AI bits.length),(21,AI k)],h++[qA b],[]⟩) (fun k=>k≤bits.length∧∀j (j1:j<bits.length) (j2:j<b.parts.length),j<k→okB bits[j] b.parts[j]=true) (fun k=>bits.length-k) 0 rfl ⟨by omega,fun j _ _ hj=>absurd hj (by omega)⟩ ?_
   rintro k ⟨hk,hpre⟩
   rcases Nat.lt_or_ge k bits.length with hlt|hge
   ·have hlt2:k<b.parts.length:=by omega
    have g1:=XA PV.str hlt
    have g2:=XA Prt.pv hlt2
    have hs:bits[k].length≤1000000:=hb.l _ (List.getElem_mem hlt)
    have w2:IntKind.i64.wrap ((k:Int)+1)=((k+1:Nat):Int):=CA _ (by omega) (by omega)
    have ihk:=hpre
    have okd:okB bits[k] b.parts[k]=(decide (bits[k].length=b.parts[k].cells.length)&&KD bits[k]):=rfl
    have bad:=fun h=>HU (b:=b) (bits:=bits) hlt hlt2 h
    have nxt:okB bits[k] b.parts[k]=true→∀j (j1:j<bits.length) (j2:j<b.parts.length),j<k+1→okB bits[j] b.parts[j]=true:=fun h j j1 j2 hj=>by
     by_cases e:j=k
     ·subst e;exact h
     ·exact hpre j j1 j2 (by omega)
    generalize okB bits[k] b.parts[k]=ok at *;generalize bits[k]=s at *;generalize b.parts[k]=p at *;have lc:(p.cells.map Cel.pv).length=p.cells.length:=List.length_map ..
    have sB:=fun hh K=>znC (h:=hh) (K:=K) s hs
    simp only[Prt.pv]at g2;cases hB:KD s with
    | false=>
     rw[bad (by rw[okd,hB,Bool.and_false])]
     simp only[qA,go_sem,hlt,hlt2,g1,g2,w2,ln,lb,lc,sB,hB]
    | true=>
     by_cases hle:s.length=p.cells.length
     ·have e1:((s.length:Int)=p.cells.length)=True:=eq_true (by omega)
      rw[decide_eq_true hle,hB,Bool.true_and]at okd;simp only[qA,go_sem,hlt,hlt2,g1,g2,w2,ln,lb,lc,e1,sB,hB];exact⟨k+1,rfl,⟨hlt,nxt okd⟩,by omega⟩
     ·have e1:((s.length:Int)=p.cells.length)=False:=eq_false (by omega)
      rw[decide_eq_false hle,Bool.false_and]at okd;rw[bad okd];simp only[qA,go_sem,hlt,hlt2,g1,g2,w2,ln,lb,lc,e1,sB,hB]
   ·have e:k=bits.length:=by omega
    subst e;rw[z1V fun j j1 j2=>hpre j j1 j2 j1]
    simp only[go_sem,Nat.lt_irrefl]
  ·rw[if_pos h2]
   have h2':((bits.length:Int)=b.parts.length)=False:=eq_false (by omega)
   simp only[HJ,Brd.pv,go_sem,ck,h1,ln,lb,h2']
 ·rw[if_pos h1]
  simp only[HJ,Brd.pv,go_sem,ck,h1,ln,lb]
theorem zjA {l:List Jon}{P:Jon→Bool}{k:Nat}(hk:k<l.length)(h:∀ j (hj:j<l.length),j<k→P l[j]=false):l.find? P=if P l[k]=true then some l[k] else(l.drop (k+1)).find? P:=by
 have e:l=l.take k++l[k]::l.drop (k+1):=by
  rw[←List.drop_eq_getElem_cons hk,List.take_append_drop]
 conv=>lhs;rw[e]
 rw[List.find?_append];have:(l.take k).find? P=none:=by
  rw[List.find?_eq_none];intro x hx;obtain⟨j,hj,rfl⟩:=List.mem_iff_getElem.1 hx;rw[List.length_take]at hj;rw[List.getElem_take,h j (by omega) (by omega)];simp
 rw[this,Option.none_or,List.find?_cons];cases P l[k] <;> simp
theorem z8w (b:Brd)(part pin:Nm2)(hj:b.joins.length≤100000):kA X xH [.p b.pv,AS part,AS pin] h K=K (AS ((yD b part pin).getD [])) h []:=by
 refine IA ?_;rw[zdT rfl];have ln:(b.joins.map Jon.pv).length=b.joins.length:=List.length_map ..
 simp only[nQ,Brd.pv,go_sem,ln];refine VA (fun k:Nat=>⟨[(1,AS part),(2,AS pin),(10,.p (.sl (some 3) (b.joins.map Jon.pv))),(11,AI b.joins.length),(12,AI k)],h++[qA b],[]⟩) (fun k=>k≤b.joins.length∧∀j (hj:j<b.joins.length),j<k→(decide (b.joins[j].part=part)&&decide (b.joins[j].pin=pin))=false) (fun k=>b.joins.length-k) 0 rfl ⟨by omega,fun j _ h=>absurd h (by omega)⟩ ?_
 rintro k ⟨hk,hp⟩
 unfold qA;rcases Nat.lt_or_ge k b.joins.length with hlt|hge
 ·have g:=XA Jon.pv hlt
  have c1:LA (some 3) 0 b.joins[k].pv=some b.joins[k].pv:=rfl
  have w2:IntKind.i64.wrap ((k:Int)+1)=((k+1:Nat):Int):=CA _ (by omega) (by omega)
  have fd:=zjA (P:=fun j=>decide (j.part=part)&&decide (j.pin=pin)) hlt hp
  have nx:(decide (b.joins[k].part=part)&&decide (b.joins[k].pin=pin))=false→∀j (hj:j<b.joins.length),j<k+1→(decide (b.joins[j].part=part)&&decide (b.joins[j].pin=pin))=false:=fun h j hj hjk=>by
   by_cases e:j=k
   ·subst e;exact h
   ·exact hp j hj (by omega)
  have na:yD b part pin=(b.joins.find? fun j=>decide (j.part=part)&&decide (j.pin=pin)).map Jon.net:=rfl
  generalize b.joins[k]=x at *;simp only[Jon.pv]at g c1;by_cases h1:x.part=part
  ·have h1':=eq_true h1
   by_cases h2:x.pin=pin
   ·have h2':=eq_true h2
    rw[fd,if_pos (by simp [h1,h2])]at na
    rw[na];simp only[go_sem,hlt,g,c1,w2,h1',h2'];rfl
   ·simp only[go_sem,hlt,g,c1,w2,h1',h2]
    exact⟨k+1,rfl,⟨hlt,nx (by simp [h2])⟩,by omega⟩
  ·simp only[go_sem,hlt,g,c1,w2,h1]
   exact⟨k+1,rfl,⟨hlt,nx (by simp [h1])⟩,by omega⟩
 ·have e:k=b.joins.length:=by omega
  subst e;have na:yD b part pin=none:=by
   unfold yD;rw[Option.map_eq_none_iff,List.find?_eq_none];intro x hx;obtain⟨j,hj,rfl⟩:=List.mem_iff_getElem.1 hx;rw[hp j hj hj];simp
  rw[na];simp only[go_sem,Nat.lt_irrefl];rfl
end Go.Am
end
section
/- The reference: the cells of a kind on a net. -/
open Go
set_option linter.all false
set_option maxRecDepth 100000
namespace Go.Am
variable {h:bA} {K:nA}
attribute [-go_sem] ZA kB wB uB
def YD (b:Brd)(p:Nat × Nat):PV:=.agg [.str (((b.parts[p.1]?).map Prt.key).getD []),.int .i64 p.2]
def RB (b:Brd)(P:List (Nm2 × (Nat × Nat)))(net:Nm2):List PV:=(grp P net).map (YD b)
theorem zoU (b:Brd)(P:List (Nm2 × (Nat × Nat)))(m:Nm2)(p:Nat × Nat)(net:Nm2):RB b (P++[(m,p)]) net=if net=m then RB b P net++[YD b p] else RB b P net:=by
 unfold RB;rw[z6B];split
 ·rw[List.map_append];rfl
 ·rfl
theorem zoT (b:Brd)(P:List (Nm2 × (Nat × Nat)))(net:Nm2):(RB b P net).length≤P.length:=by
 unfold RB;rw[List.length_map];exact bR P net
attribute [-go_sem] RQ JJ
def SH (h:bA)(b:Brd)(rows:List PV)(t:bA):bA:=h++qA b :: .row (some 2) rows 0::t
theorem zo9 {K:Ex→St→Prop}(b:Brd)(kind:Int)(net:Nm2)(hnet:net≠[]){i:Nat}{p:Prt}(hi:b.parts[i]?=some p)(hj:b.joins.length≤100000)(hl:p.cells.length≤1000){P0:List (Nm2 × (Nat × Nat))}(hP:P0.length≤1000000)
 (fin:∀z,K (.exit 2) ⟨[(1,AS net),(2,AI kind),(3,.ref h.length 0),(7,.own (h.length+1) (RB b (P0++inL b kind i p p.cells.length) net).length 0 (RB b (P0++inL b kind i p p.cells.length) net).length),(9,.ref (h.length+2) 0),(13,aC b.parts),(14,AI b.parts.length),(15,AI i),(20,qC p.cells),(21,AI p.cells.length),(22,AI p.cells.length),z],SH h b (RB b (P0++inL b kind i p p.cells.length) net) [p.bx],[]⟩) :
 GA (kA X) X.gl (.scope BL) K [(1,AS net),(2,AI kind),(3,.ref h.length 0),(7,.own (h.length+1) (RB b P0 net).length 0 (RB b P0 net).length),(9,.ref (h.length+2) 0),(13,aC b.parts),(14,AI b.parts.length),(15,AI i),(20,qC p.cells),(21,AI p.cells.length),(22,AI 0)] (SH h b (RB b P0 net) [p.bx]) []:=by
 refine VA (fun k:Nat=>⟨[(1,AS net),(2,AI kind),(3,.ref h.length 0),(7,.own (h.length+1) (RB b (P0++inL b kind i p k) net).length 0 (RB b (P0++inL b kind i p k) net).length),(9,.ref (h.length+2) 0),(13,aC b.parts),(14,AI b.parts.length),(15,AI i),(20,qC p.cells),(21,AI p.cells.length),(22,AI k)],SH h b (RB b (P0++inL b kind i p k) net) [p.bx],[]⟩) (fun k=>k≤p.cells.length) (fun k=>p.cells.length-k) 0 (by simp [inL]) (by omega) ?_
 intro k hk;have ln:(p.cells.map Cel.pv).length=p.cells.length:=List.length_map ..
 rcases Nat.lt_or_ge k p.cells.length with hlt|hge
 ·have g:=XA Cel.pv hlt
  have w2:IntKind.i64.wrap ((k:Int)+1)=((k+1:Nat):Int):=CA _ (by omega) (by omega)
  have c1:LA (some 4) 0 p.cells[k].pv=some p.cells[k].pv:=rfl
  have is:=z6D (b:=b) (kind:=kind) (i:=i) hlt
  have NA:=fun hh K=>z8w (h:=hh) (K:=K) b p.key p.cells[k].pin hj
  have sb:=zoT b (P0++inL b kind i p k) net
  have ib:=bX b kind i p k
  generalize hcc:p.cells[k]=c at *;simp only[Cel.pv,eI]at g c1;simp only[Brd.pv]at NA;have sv:YD b (i,k) = .agg [.str p.key,.int .i64 k]:=by unfold YD;rw[hi];rfl
  unfold wG at is;have nn:decide (net=[])=false:=decide_eq_false hnet
  have step:∀(P1:List (Nm2×(Nat×Nat))),P0++inL b kind i p (k+1)=P1→RB b (P0++inL b kind i p (k+1)) net=RB b P1 net:=fun P1 e=>by rw[e]
  by_cases hkind:c.kind=kind
  ·have hkp:=eq_true hkind
   rw[if_pos hkind]at is;cases hn:yD b p.key c.pin with
   | none=>
    rw[hn]at is NA;have e1:P0++inL b kind i p (k+1)=P0++inL b kind i p k:=by rw[is];simp
    have d0:decide (([]:Nm2)=net)=false:=decide_eq_false fun e=>hnet e.symm
    simp only[Option.getD_none]at NA;have sx:∀T:List PV,T=RB b (P0++inL b kind i p (k+1)) net→T=T:=fun _ _=>rfl
    generalize hR1:RB b (P0++inL b kind i p (k+1)) net=R1 at *;have hRR:R1=RB b (P0++inL b kind i p k) net:=by rw[←hR1,e1]
    generalize RB b (P0++inL b kind i p k) net=R at *;simp only[SH,qA,Prt.bx,go_sem,hlt,g,c1,w2,ln,hkp,hnet,nn,↓NA,NA,d0];exact⟨k+1,by rw[hR1,hRR],by omega,by omega⟩
   | some n=>
    rw[hn]at is NA;simp only[Option.getD_some]at NA;have e1:P0++inL b kind i p (k+1)=(P0++inL b kind i p k)++[(n,(i,k))]:=by rw[is];simp
    have sn:=zoU b (P0++inL b kind i p k) n (i,k) net
    rw[←e1,sv]at sn;generalize hR1:RB b (P0++inL b kind i p (k+1)) net=R1 at *;generalize RB b (P0++inL b kind i p k) net=R at *;by_cases hnn:n=net
    ·have hnp:=eq_true hnn
     rw[if_pos hnn.symm]at sn;have km:R.length+1≤WA:=by unfold WA;simp at sb ⊢;omega
     simp only[SH,qA,Prt.bx,go_sem,hlt,g,c1,w2,ln,hkp,hnet,nn,↓NA,NA,hnp,km];refine⟨k+1,?_,by omega,by omega⟩
     rw[hR1,sn];simp
    ·rw[if_neg (fun e=>hnn e.symm)]at sn
     simp only[SH,qA,Prt.bx,go_sem,hlt,g,c1,w2,ln,hkp,hnet,nn,↓NA,NA,hnn];exact⟨k+1,by rw[hR1,sn],by omega,by omega⟩
  ·rw[if_neg hkind]at is
   have e1:P0++inL b kind i p (k+1)=P0++inL b kind i p k:=by rw[is];simp
   generalize hR1:RB b (P0++inL b kind i p (k+1)) net=R1 at *;have hRR:R1=RB b (P0++inL b kind i p k) net:=by rw[←hR1,e1]
   generalize RB b (P0++inL b kind i p k) net=R at *;simp only[SH,qA,Prt.bx,go_sem,hlt,g,c1,w2,ln,hkind];exact⟨k+1,by rw[hR1,hRR],by omega,by omega⟩
 ·have e:k=p.cells.length:=by omega
  subst e;generalize hR:RB b (P0++inL b kind i p p.cells.length) net=R at *;simp only[SH,go_sem,Nat.lt_irrefl];exact fin _
theorem znR (b:Brd)(kind:Int)(net:Nm2)(hnet:net≠[])(hj:b.joins.length≤100000)(hp:b.parts.length≤900)(hc:∀ p∈b.parts,p.cells.length≤1000) :
 kA X kK [.p b.pv,AS net,AI kind] h K=K (.p (.sl (some 2) (RB b (EB b kind b.parts.length) net))) h []:=by
 refine IA ?_;rw[zdX rfl];have ln:(b.parts.map Prt.pv).length=b.parts.length:=List.length_map ..
 simp only[pQ,Brd.pv,go_sem,ln];refine VA (fun k:Nat=>⟨[(1,AS net),(2,AI kind),(3,.ref h.length 0),(7,.own (h.length+1) (RB b (EB b kind k) net).length 0 (RB b (EB b kind k) net).length),(13,aC b.parts),(14,AI b.parts.length),(15,AI k)],SH h b (RB b (EB b kind k) net) [],[]⟩) (fun k=>k≤b.parts.length) (fun k=>b.parts.length-k) 0 (by simp [EB,RB,grp];rfl) (by omega) ?_
 intro k hk;rcases Nat.lt_or_ge k b.parts.length with hlt|hge
 ·have g:=XA Prt.pv hlt
  have c1:LA (some 2) 0 b.parts[k].pv=some b.parts[k].pv:=rfl
  have w2:IntKind.i64.wrap ((k:Int)+1)=((k+1:Nat):Int):=CA _ (by omega) (by omega)
  have os:=sR (b:=b) (kind:=kind) hlt
  have ol:=DN b kind k (by omega) hc
  have pc:=hc _ (List.getElem_mem hlt)
  have gi:b.parts[k]?=some b.parts[k]:=List.getElem?_eq_getElem hlt
  have e0:=fun K fin=>zo9 (h:=h) (K:=K) b kind net hnet (i:=k) gi hj pc (P0:=EB b kind k) (by omega) fin
  rw[←os]at e0;generalize hpp:b.parts[k]=p at *;simp only[Prt.pv]at g c1;have lp:(p.cells.map Cel.pv).length=p.cells.length:=List.length_map ..
  generalize RB b (EB b kind k) net=R at *;generalize hR1:RB b (EB b kind (k+1)) net=R1 at *;simp only[SH,go_sem];rw[RQ];simp only[JJ,qA,go_sem,hlt,g,c1,w2,lp];refine e0 (wA 2 _) fun z=>?_
  simp only[SH,Prt.bx,go_sem,w2];exact⟨k+1,by rw[hR1];rfl,by omega,by omega⟩
 ·have e:k=b.parts.length:=by omega
  subst e;generalize hR:RB b (EB b kind b.parts.length) net=R at *;have wf:win R 0 R.length=R:=rD rfl
  simp only[SH,go_sem];rw[RQ];simp only[JJ,go_sem,Nat.lt_irrefl,wf]
end Go.Am
end
section
/- The reference: what a cell says,what drives. -/
open Go
set_option linter.all false
set_option maxRecDepth 100000
namespace Go.Am
variable {h:bA} {K:nA}
attribute [-go_sem] ZA kB wB uB
theorem z7G {l:List Prt}(hs:PE l){i:Nat}(hi:i<l.length):OH l l[i].key=i:=by
 rw[eO,z6f hs hi rfl,if_pos hi]
theorem z86 (b:Brd)(bits:List Nm2)(hs:PE b.parts)(hl:b.parts.length≤100000){i k:Nat}(hi:i<b.parts.length){s:Nm2}(hb:bits[i]?=some s)(hk:k<s.length)(hz:∀ z∈s,z=48∨z=49) :
 kA X yH [.p b.pv,xB bits,.p (YD b (i,k))] h K=K (AI (EC s k)) h []:=by
 refine IA ?_;rw[zej rfl];have PA:=fun hh K=>kZ (h:=hh) (K:=K) b b.parts[i].key hl
 simp only[z7G hs hi]at PA;have gb:(bits.map PV.str)[i]?=some (.str s):=by rw[List.getElem?_map,hb];rfl
 have gz:s[k]?=some s[k]:=List.getElem?_eq_getElem hk
 have bv:EC s k=bz s[k]:=by unfold EC;rw[List.getD_eq_getElem?_getD,gz];rfl
 have z1:=NU (hz _ (List.getElem_mem hk))
 have z2:=MU s[k]
 have sv:YD b (i,k) = .agg [.str b.parts[i].key,.int .i64 k]:=by unfold YD;rw[List.getElem?_eq_getElem hi];rfl
 rw[sv,bv];generalize s[k]=z at *;generalize b.parts[i].key=key at *;simp only[Brd.pv]at PA;simp only[gW,Brd.pv,go_sem,↓PA,PA,gb,gz,z1,z2]
def SF (s:Nm2)(c:Cel):Bool:=decide (c.ctl<0)||decide (EC s c.ctl.toNat≠c.off)
theorem zol (b:Brd)(bits:List Nm2)(hs:PE b.parts)(hl:b.parts.length≤100000){i k:Nat}(hi:i<b.parts.length)(hk:k<b.parts[i].cells.length){s:Nm2}(hb:bits[i]?=some s)(hc:b.parts[i].cells[k].ctl<s.length)(hz:∀ z∈s,z=48∨z=49) :
 kA X mK [.p b.pv,xB bits,.p (YD b (i,k))] h K=K (AB (SF s b.parts[i].cells[k])) h []:=by
 refine IA ?_;rw[zdZ rfl];have PA:=fun hh K=>kZ (h:=hh) (K:=K) b b.parts[i].key hl
 simp only[z7G hs hi]at PA;have VO:=fun(m:Nat) (hm:m<s.length) hh K=>z86 (h:=hh) (K:=K) b bits hs hl hi hb hm hz
 have gp:=XA Prt.pv hi
 have gc:=XA Cel.pv hk
 have sv:∀k:Nat,YD b (i,k) = .agg [.str b.parts[i].key,.int .i64 k]:=fun k=>by unfold YD;rw[List.getElem?_eq_getElem hi];rfl
 simp only[sv]at VO ⊢;generalize hP:b.parts[i]=P at *;generalize hcc:P.cells[k]=c at *;have c1:LA (some 4) 0 c.pv=some c.pv:=rfl
 simp only[Brd.pv]at PA VO;simp only[Prt.pv]at gp;simp only[Cel.pv,eI]at gc c1;unfold SF;by_cases hneg:c.ctl<0
 ·have hn:=eq_true hneg
  rw[decide_eq_true hneg,Bool.true_or];simp only[TM,Brd.pv,go_sem,↓PA,PA,gp,gc,c1,hn]
 ·obtain⟨m,hm⟩:=Int.eq_ofNat_of_zero_le (show 0≤c.ctl by omega)
  have ml:m<s.length:=by omega
  have VM:=VO m ml
  have hn:((m:Int)<0)=False:=eq_false (by omega)
  rw[decide_eq_false hneg,Bool.false_or,hm,Int.toNat_natCast];rw[hm]at gc c1;by_cases ho:EC s m=c.off
  ·have ho':=eq_true ho
   simp only[TM,Brd.pv,go_sem,↓PA,PA,gp,gc,c1,hn,↓VM,VM,ho',ho]
  ·simp only[TM,Brd.pv,go_sem,↓PA,PA,gp,gc,c1,hn,↓VM,VM,ho]
end Go.Am
end
section
/- The reference: a net's level. -/
open Go
set_option linter.all false
set_option maxRecDepth 100000
namespace Go.Am
variable {h:bA} {K:nA}
attribute [-go_sem] ZA kB wB uB
attribute [-go_sem] HW oH
def dqV (b:Brd)(bits:List Nm2)(p:Nat × Nat):Option Int:=
 match (b.parts[p.1]?).bind (fun x=>x.cells[p.2]?),bits[p.1]? with
 | some c,some s=>if SF s c=true then some (EC s p.2) else none
 | _,_=>none
def NB (b:Brd)(bits:List Nm2)(l:List (Nat × Nat))(v:Int):Nat:=(l.filter fun p=>decide (dqV b bits p=some v)).length
theorem DP (b:Brd)(bits:List Nm2)(l:List (Nat × Nat))(p:Nat × Nat)(v:Int):NB b bits (l++[p]) v=NB b bits l v+if dqV b bits p=some v then 1 else 0:=by
 unfold NB;rw[List.filter_append,List.length_append];by_cases h:dqV b bits p=some v <;> simp [h]
def RG (l:List Pul)(net:Nm2):Int:=((l.find? fun p=>decide (p.net=net)).map Pul.level).getD 2
def xN (b:Brd)(bits:List Nm2)(pl:List (Nat × Nat))(net:Nm2):Int:=
 if 0<NB b bits pl 0∧0<NB b bits pl 1 then 3 else if 0<NB b bits pl 0 then 0 else if 0<NB b bits pl 1 then 1 else RG b.pulls net
theorem zjB {l:List Pul}{P:Pul→Bool}{k:Nat}(hk:k<l.length)(h:∀ j (hj:j<l.length),j<k→P l[j]=false):l.find? P=if P l[k]=true then some l[k] else(l.drop (k+1)).find? P:=by
 have e:l=l.take k++l[k]::l.drop (k+1):=by
  rw[←List.drop_eq_getElem_cons hk,List.take_append_drop]
 conv=>lhs;rw[e]
 rw[List.find?_append];have:(l.take k).find? P=none:=by
  rw[List.find?_eq_none];intro x hx;obtain⟨j,hj,rfl⟩:=List.mem_iff_getElem.1 hx;rw[List.length_take]at hj;rw[List.getElem_take,h j (by omega) (by omega)];simp
 rw[this,Option.none_or,List.find?_cons];cases P l[k] <;> simp
theorem zo0 {K:Ex→St→Prop}(b:Brd)(net:Nm2)(c0 c1:Int)(hl:b.pulls.length≤100000)(hv:∀ p∈b.pulls,p.level=0∨p.level=1)
 (fin:∀H,K .ret ⟨[(6,AI (RG b.pulls net))],h++H,[]⟩) (fin2:∀z,RG b.pulls net=2→K (.exit 3) ⟨[(2,AS net),(51,.p (.sl (some 2) (b.pulls.map Pul.pv))),(52,AI b.pulls.length),(53,AI b.pulls.length),z],h++[qA b,.box [AI c0,AI c1]],[]⟩) :
 GA (kA X) X.gl (.scope EL) K [(2,AS net),(51,.p (.sl (some 2) (b.pulls.map Pul.pv))),(52,AI b.pulls.length),(53,AI 0)] (h++[qA b,.box [AI c0,AI c1]]) []:=by
 have ln:(b.pulls.map Pul.pv).length=b.pulls.length:=List.length_map ..
 refine VA (fun k:Nat=>⟨[(2,AS net),(51,.p (.sl (some 2) (b.pulls.map Pul.pv))),(52,AI b.pulls.length),(53,AI k)],h++[qA b,.box [AI c0,AI c1]],[]⟩) (fun k=>k≤b.pulls.length∧∀j (hj:j<b.pulls.length),j<k→decide (b.pulls[j].net=net)=false) (fun k=>b.pulls.length-k) 0 rfl ⟨by omega,fun j _ h=>absurd h (by omega)⟩ ?_
 rintro k ⟨hk,hp⟩
 generalize qA b=bo at *;rcases Nat.lt_or_ge k b.pulls.length with hlt|hge
 ·have g:=XA Pul.pv hlt
  have c1':LA (some 2) 0 b.pulls[k].pv=some b.pulls[k].pv:=rfl
  have w2:IntKind.i64.wrap ((k:Int)+1)=((k+1:Nat):Int):=CA _ (by omega) (by omega)
  have fd:=zjB (P:=fun p=>decide (p.net=net)) hlt hp
  have hv':=hv _ (List.getElem_mem hlt)
  have nx:decide (b.pulls[k].net=net)=false→∀j (hj:j<b.pulls.length),j<k+1→decide (b.pulls[j].net=net)=false:=fun h j hj hjk=>by
   by_cases e:j=k
   ·subst e;exact h
   ·exact hp j hj (by omega)
  have pq:RG b.pulls net=((b.pulls.find? fun p=>decide (p.net=net)).map Pul.level).getD 2:=rfl
  generalize b.pulls[k]=x at *;simp only[Pul.pv,eI]at g c1';by_cases h1:x.net=net
  ·have h1':=eq_true h1
   rw[fd,if_pos (by simp [h1])]at pq
   rw[pq]at fin;rcases hv' with e|e
   ·rw[e]at g c1'
    simp only[go_sem,hlt,g,c1',w2,h1'];have:=fin [bo,.box [AI c0,AI c1]];simp only[Option.map_some,Option.getD_some,e]at this;exact this
   ·rw[e]at g c1'
    simp only[go_sem,hlt,g,c1',w2,h1'];have:=fin [bo,.box [AI c0,AI c1]];simp only[Option.map_some,Option.getD_some,e]at this;exact this
  ·simp only[go_sem,hlt,g,c1',w2,h1]
   exact⟨k+1,rfl,⟨hlt,nx (by simp [h1])⟩,by omega⟩
 ·have e:k=b.pulls.length:=by omega
  subst e;have pq:RG b.pulls net=2:=by
   unfold RG;rw[show b.pulls.find? (fun p=>decide (p.net=net))=none from by
    rw[List.find?_eq_none];intro x hx;obtain⟨j,hj,rfl⟩:=List.mem_iff_getElem.1 hx;rw[hp j hj hj];simp]
   rfl
  simp only[go_sem,Nat.lt_irrefl];exact fin2 _ pq
theorem zot (b:Brd)(bits:List Nm2)(ho:BitsOk b bits)(hs:PE b.parts)(net:Nm2)(hnet:net≠[])(hj:b.joins.length≤100000)(hp:b.parts.length≤900)(hc:∀ p∈b.parts,p.cells.length≤1000)(hu:b.pulls.length≤100000)(hv:∀ p∈b.pulls,p.level=0∨p.level=1) :
 kA X uF [.p b.pv,xB bits,AS net] h K=K (AI (xN b bits (grp (EB b 2 b.parts.length) net) net)) h []:=by
 refine IA ?_;rw[zee rfl];have SO:=fun hh K=>znR (h:=hh) (K:=K) b 2 net hnet hj hp hc
 have hmem:∀p∈grp (EB b 2 b.parts.length) net,∃(h1:p.1<b.parts.length),p.2<b.parts[p.1].cells.length:=fun p hp=>by
  obtain⟨q1,q2,_⟩:=EN (Nat.le_refl _) (ZW hp);exact⟨q1,q2⟩
 have hlen:(grp (EB b 2 b.parts.length) net).length≤900000:=by
  have h1:=bR (EB b 2 b.parts.length) net
  have h2:=DN b 2 b.parts.length (Nat.le_refl _) hc
  omega
 unfold RB at SO;generalize grp (EB b 2 b.parts.length) net=pl at *;have ln:(pl.map (YD b)).length=pl.length:=List.length_map ..
 have DV:=fun {i k:Nat} (hi:i<b.parts.length) (hk:k<b.parts[i].cells.length) {s:Nm2} (hb:bits[i]?=some s) (hc:b.parts[i].cells[k].ctl<s.length) (hz:∀z∈s,z=48∨z=49) hh K=>zol (h:=hh) (K:=K) b bits hs (by omega) hi hk hb hc hz
 have VO:=fun {i k:Nat} (hi:i<b.parts.length) {s:Nm2} (hb:bits[i]?=some s) (hk:k<s.length) (hz:∀z∈s,z=48∨z=49) hh K=>z86 (h:=hh) (K:=K) b bits hs (by omega) hi hb hk hz
 simp only[Brd.pv]at SO DV VO;simp only[qQ,Brd.pv,go_sem,↓SO,SO,ln];refine VA (fun k:Nat=>⟨[(1,xB bits),(2,AS net),(3,.ref h.length 0),(7,.ref (h.length+1) 0),(14,.p (.sl (some 2) (pl.map (YD b)))),(15,AI pl.length),(16,AI k)],h++[qA b,.box [AI (NB b bits (pl.take k) 0),AI (NB b bits (pl.take k) 1)]],[]⟩) (fun k=>k≤pl.length) (fun k=>pl.length-k) 0 rfl (by omega) ?_
 intro k hk;rcases Nat.lt_or_ge k pl.length with hlt|hge
 ·have g:=XA (YD b) hlt
  have w2:IntKind.i64.wrap ((k:Int)+1)=((k+1:Nat):Int):=CA _ (by omega) (by omega)
  have tk:pl.take (k+1)=pl.take k++[pl[k]]:=List.take_succ_eq_append_getElem hlt
  have n0:=DP b bits (pl.take k) pl[k] 0
  have n1:=DP b bits (pl.take k) pl[k] 1
  rw[←tk]at n0 n1;obtain⟨pp,pc⟩:=hmem pl[k] (List.getElem_mem hlt);obtain⟨s,hss,hsl,hsz⟩:=ho.l pl[k].1 pp;have hctl:=ho.c b.parts[pl[k].1] (List.getElem_mem pp) b.parts[pl[k].1].cells[pl[k].2] (List.getElem_mem pc)
  have b0:NB b bits (pl.take k) 0≤k:=by unfold NB;refine Nat.le_trans (List.length_filter_le _ _) ?_;simp;omega
  have b1:NB b bits (pl.take k) 1≤k:=by unfold NB;refine Nat.le_trans (List.length_filter_le _ _) ?_;simp;omega
  generalize hq:pl[k]=q at *;obtain⟨qi,qj⟩:=q;dsimp only at pp pc hss hsl hctl;have D:=fun hh K=>DV pp pc hss (by omega) hsz hh K
  have V:=fun hh K=>VO (k:=qj) pp hss (by omega) hsz hh K
  have dq:dqV b bits (qi,qj)=if SF s b.parts[qi].cells[qj]=true then some (EC s qj) else none:=by
   unfold dqV;simp only[List.getElem?_eq_getElem pp,Option.bind_some,List.getElem?_eq_getElem pc,hss]
  have bv:EC s qj=0∨EC s qj=1:=by unfold EC bz;split <;> simp
  have sv:YD b (qi,qj) = .agg [.str b.parts[qi].key,.int .i64 qj]:=by unfold YD;rw[List.getElem?_eq_getElem pp];rfl
  rw[sv]at g D V;have c1:LA (some 2) 0 (PV.agg [.str b.parts[qi].key,.int .i64 (qj:Int)])=some (.agg [.str b.parts[qi].key,.int .i64 (qj:Int)]):=rfl
  rw[dq]at n0 n1;have w0:IntKind.i64.wrap ((NB b bits (pl.take k) 0:Int)+1)=((NB b bits (pl.take k) 0+1:Nat):Int):=CA _ (by omega) (by omega)
  have w1:IntKind.i64.wrap ((NB b bits (pl.take k) 1:Int)+1)=((NB b bits (pl.take k) 1+1:Nat):Int):=CA _ (by omega) (by omega)
  generalize NB b bits (pl.take k) 0=m0 at *;generalize NB b bits (pl.take k) 1=m1 at *;generalize b.parts[qi].key=key at *;cases hd:SF s b.parts[qi].cells[qj]with
  | false=>
   rw[hd]at n0 n1 D;simp only[Bool.false_eq_true,if_false,reduceCtorEq,Nat.add_zero]at n0 n1;simp only[qA,go_sem,hlt,g,c1,w2,ln,↓D,D];exact⟨k+1,by rw[n0,n1],by omega,by omega⟩
  | true=>
   rw[hd]at n0 n1 D;rcases bv with e|e
   ·rw[e]at n0 n1 V
    have n0':NB b bits (pl.take (k+1)) 0=m0+1:=by simpa using n0
    have n1':NB b bits (pl.take (k+1)) 1=m1:=by simpa using n1
    simp only[qA,go_sem,hlt,g,c1,w2,ln,↓D,D,↓V,V,w0];exact⟨k+1,by rw[n0',n1'],by omega,by omega⟩
   ·rw[e]at n0 n1 V
    have n0':NB b bits (pl.take (k+1)) 0=m0:=by simpa using n0
    have n1':NB b bits (pl.take (k+1)) 1=m1+1:=by simpa using n1
    simp only[qA,go_sem,hlt,g,c1,w2,ln,↓D,D,↓V,V,w1];exact⟨k+1,by rw[n0',n1'],by omega,by omega⟩
 ·have e:k=pl.length:=by omega
  subst e;rw[List.take_length];unfold xN;generalize NB b bits pl 0=m0 at *;generalize NB b bits pl 1=m1 at *;simp only[go_sem,Nat.lt_irrefl];rw[HW];have lu:(b.pulls.map Pul.pv).length=b.pulls.length:=List.length_map ..
  by_cases z0:0<m0
  ·have q0:((0:Int)<(m0:Int))=True:=eq_true (by omega)
   by_cases z1:0<m1
   ·have q1:((0:Int)<(m1:Int))=True:=eq_true (by omega)
    rw[if_pos ⟨z0,z1⟩];simp only[oH,qA,go_sem,q0,q1]
   ·have q1:((0:Int)<(m1:Int))=False:=eq_false (by omega)
    rw[if_neg (fun x=>z1 x.2),if_pos z0]
    simp only[oH,qA,go_sem,q0,q1]
  ·have q0:((0:Int)<(m0:Int))=False:=eq_false (by omega)
   rw[if_neg (fun x=>z0 x.1),if_neg z0]
   by_cases z1:0<m1
   ·have q1:((0:Int)<(m1:Int))=True:=eq_true (by omega)
    rw[if_pos z1];simp only[oH,qA,go_sem,q0,q1]
   ·have q1:((0:Int)<(m1:Int))=False:=eq_false (by omega)
    rw[if_neg z1];simp only[oH,qA,go_sem,q0,q1,lu];refine zo0 (K:=wA 3 _) b net m0 m1 hu hv (fun H=>?_) (fun z hz=>?_)
    ·simp only[go_sem]
    ·simp only[go_sem,hz]
end Go.Am
end
section
/- The reference: the levels. -/
open Go
set_option linter.all false
set_option maxRecDepth 100000
namespace Go.Am
variable {h:bA} {K:nA}
attribute [-go_sem] ZA kB wB uB
structure BrdG (b:Brd):Prop where
 r:BrdR b
 s:PE b.parts
 j:XB ltS (b.joins.map Jon.net)=b.joins.map Jon.net
 n:∀n∈sA b,n≠[]
 v:∀p∈b.pulls,p.level=0∨p.level=1
 u:(b.pulls.map Pul.net).Nodup
 m:∀p∈b.pulls,p.net∈sA b
theorem z7N (nets:List Nm2):∀(l:List Pul) (p:Option Pul),HE nets p l=0→(∀q,p=some q→∀x∈l,vA q.net x.net<0)∧l.Pairwise (fun x y=>vA x.net y.net<0)∧∀x∈l,(x.level=0∨x.level=1)∧x.net∈nets
 | [],p,_=>⟨fun _ _ _ h=>(by cases h),List.Pairwise.nil,fun _ h=>(by cases h)⟩
 | x::r,p,h=>by
  rw[TY]at h;cases hk:nets.contains x.net with
  | false=>rw[hk,if_pos rfl]at h;cases h
  | true=>
   rw[hk,if_neg (by simp)]at h
   cases hl:inB 0 x.level 1 with
   | false=>rw[hl,if_pos rfl]at h;cases h
   | true=>
    rw[hl,if_neg (by simp)]at h
    have hlv:x.level=0∨x.level=1:=by unfold inB at hl;simp only[Bool.and_eq_true,decide_eq_true_eq]at hl;omega
    have px:(∀q,p=some q→vA q.net x.net<0)∧HE nets (some x) r=0:=by
     cases p with
     | none=>exact⟨fun _ h=>(by cases h),by rw[if_neg (by simp)]at h;exact h⟩
     | some q=>
      by_cases hc:vA x.net q.net≤0
      ·rw[if_pos (by simp [hc])]at h;cases h
      ·rw[if_neg (by simp [hc])]at h
       have:=wE x.net q.net;exact⟨fun q' e=>by cases e;omega,h⟩
    obtain⟨i1,i2,i3⟩:=z7N nets r (some x) px.2;have i1':=i1 x rfl
    refine⟨fun q hq y hy=>?_,List.pairwise_cons.2 ⟨i1',i2⟩,fun y hy=>?_⟩
    ·rcases List.mem_cons.1 hy with e|hy
     ·rw[e];exact px.1 q hq
     ·exact jI (px.1 q hq) (i1' y hy)
    ·rcases List.mem_cons.1 hy with e|hy
     ·rw[e];exact⟨hlv,by simpa using hk⟩
     ·exact i3 y hy
theorem nJ {b:Brd}(h:PC b=0):BrdG b:=by
 have R:=eH h
 unfold PC at h;by_cases h1:(40:Int)<b.parts.length
 ·rw[if_pos h1]at h;cases h
 rw[if_neg h1]at h;by_cases h2:NC none b.parts=0
 ·rw[if_neg (by simp [h2])]at h
  by_cases h3:SD b=0
  ·rw[if_neg (by simp [h3])]at h
   have j0:dD b none b.joins=0:=by
    unfold SD at h3;by_cases j1:(1000:Int)<b.joins.length
    ·rw[if_pos j1]at h3;cases h3
    rw[if_neg j1]at h3;by_cases j2:dD b none b.joins=0
    ·exact j2
    ·rw[if_pos j2]at h3;exact absurd h3 j2
   by_cases h4:(100:Int)<(sA b).length
   ·rw[if_pos h4]at h;cases h
   rw[if_neg h4]at h;obtain⟨_,p2,p3⟩:=z7N _ _ none h;refine⟨R,(ZL b.parts none h2).2.1,z6U j0,z6T j0,fun p hp=>(p3 p hp).1,?_,fun p hp=>(p3 p hp).2⟩
   rw[List.nodup_iff_pairwise_ne,List.pairwise_map];refine p2.imp fun {x y} q e=>?_
   rw[e,vJ]at q;omega
  ·rw[if_pos h3]at h;exact absurd h h3
 ·rw[if_pos h2]at h;exact absurd h h2
def wD (b:Brd)(bits:List Nm2)(n:Nm2):Int:=xN b bits (grp (EB b 2 b.parts.length) n) n
theorem nZ {b:Brd}{bits:List Nm2}(ho:BrdOk b)(hf:kC b bits=0){n:Nm2}(hn:n≠[]):kA X uF [.p b.pv,xB bits,AS n] h K=K (AI (wD b bits n)) h []:=by
 have G:=nJ (gE hf).1
 exact zot b bits (xM hf) G.s n hn (by have:=G.r.j;omega) (by have:=G.r.p;omega) (fun p hp=>by have:=G.r.c p hp;omega) (by have:=ho.p;omega) G.v
def XE (b:Brd)(bits:List Nm2):List Int:=(sA b).map (wD b bits)
theorem znM {b:Brd}{bits:List Nm2}(ho:BrdOk b)(hf:kC b bits=0):kA X iK [.p b.pv,xB bits] h K=K (.p (.sl none ((XE b bits).map eI))) h []:=by
 refine IA ?_;rw[zdS rfl];have G:=nJ (gE hf).1
 have hj:=ho.j.l
 obtain⟨xs,x1,x2,x3,x4,sn⟩:=jZ (h:=h++[qA b,Obj.row none [] 0]) b hj G.j;have LV:=fun(n:Nm2) (hn:n≠[]) hh K=>nZ (h:=hh) (K:=K) ho hf hn
 simp only[Brd.pv]at sn LV;have hb0:Obj.box [AV.p (PV.sl (some 2) (List.map Prt.pv b.parts)),AV.p (PV.sl (some 3) (List.map Jon.pv b.joins)),AV.p (PV.sl (some 2) (List.map Pul.pv b.pulls))]=qA b:=rfl
 simp only[mQ,Brd.pv,go_sem];rw[hb0,sn];simp only[go_sem];have xg:∀k (hk:k<(sA b).length),xs[k]?=some (.str (sA b)[k]):=fun k hk=>by
  have:=congrArg (fun l=>l[k]?) x2
  simp only[win,List.drop_zero,List.getElem?_take,hk,if_true,List.getElem?_map,List.getElem?_eq_getElem hk,Option.map_some]at this;exact this
 refine VA (fun k:Nat=>⟨[(1,xB bits),(2,.ref h.length 0),(5,.own (h.length+1) k 0 k),(9,.own (h.length+3) b.joins.length 0 (sA b).length),(10,AI (sA b).length),(11,AI k)],h++[qA b,Obj.row none (((XE b bits).take k).map eI) 0,qA b,.row none xs 0],[]⟩) (fun k=>k≤(sA b).length) (fun k=>(sA b).length-k) 0 rfl (by omega) ?_
 intro k hk;have ll:(XE b bits).length=(sA b).length:=List.length_map ..
 rcases Nat.lt_or_ge k (sA b).length with hlt|hge
 ·have g:=xg k hlt
  have w2:IntKind.i64.wrap ((k:Int)+1)=((k+1:Nat):Int):=CA _ (by omega) (by omega)
  have kj:k<b.joins.length:=by omega
  have tk:(XE b bits).take (k+1)=(XE b bits).take k++[wD b bits (sA b)[k]]:=by
   rw[List.take_succ_eq_append_getElem (by omega)];simp [XE]
  have tl:(((XE b bits).take k).map eI).length=k:=by simp;omega
  have LN:=fun hh K=>LV (sA b)[k] (G.n _ (List.getElem_mem hlt)) hh K
  generalize wD b bits (sA b)[k]=v at *;generalize (sA b)[k]=n at *;generalize hrow:((XE b bits).take k).map eI=row at *;have km:k+1≤WA:=by unfold WA;omega
  simp only[qA,go_sem,hlt,g,x1,x3,kj,↓LN,LN,w2,tl,km];refine⟨k+1,?_,by omega,by omega⟩
  rw[tk,List.map_append,hrow];rfl
 ·have e:k=(sA b).length:=by omega
  subst e;rw[List.take_of_length_le (by omega)]
  have wf:win ((XE b bits).map eI) 0 (sA b).length=(XE b bits).map eI:=rD (by simp [ll])
  simp only[go_sem,Nat.lt_irrefl,ll,wf]
end Go.Am
end
section
/- Boards: the program's levels are the reference's,plainly. -/
set_option linter.all false
namespace Go.Am
theorem zoQ {α:Type}{P:List α→Prop}(h0:P [])(h1:∀ xs x,P xs→P (xs++[x]))(l:List α):P l:=by
 have key:∀l:List α,P l.reverse:=by
  intro l;induction l with
  | nil=>exact h0
  | cons x l ih=>rw[List.reverse_cons];exact h1 _ _ ih
 have:=key l.reverse;rwa [List.reverse_reverse]at this
theorem z66 (n:Nm2):∀(l:List Nm2) (M:List (Nm2×Int)),zA n (l.foldl (fun M n=>oB n 2 M) M)=if n∈l then some 2 else zA n M
 | [],M=>by simp
 | x::r,M=>by
  rw[List.foldl_cons,z66 n r];by_cases h:n∈r
  ·simp [h]
  ·rw[if_neg h,FH]
   by_cases e:n=x
   ·simp [e]
   ·simp [e,h]
theorem z67 (n:Nm2):∀(l:List Pul) (M:List (Nm2×Int)),(l.map Pul.net).Nodup→zA n (nE M l)=((l.find? fun p=>decide (p.net=n)).map Pul.level).or (zA n M)
 | [],M,_=>rfl
 | p::r,M,hd=>by
  rw[List.map_cons,List.nodup_cons]at hd;have e:nE M (p::r)=nE (oB p.net p.level M) r:=rfl
  rw[e,z67 n r _ hd.2,FH,List.find?_cons];by_cases h:p.net=n
  ·have hr:r.find? (fun q=>decide (q.net=n))=none:=by
    rw[List.find?_eq_none];intro q hq;have:¬q.net=n:=fun z=>hd.1 (by rw[h,←z];exact List.mem_map_of_mem hq)
    simp [this]
   rw[hr];simp [h]
  ·have h':¬n=p.net:=fun z=>h z.symm
   simp [h,h']
theorem zjR {b:Brd}(G:BrdG b){n:Nm2}(hn:n∈sA b):zA n (EE b)=some (RG b.pulls n):=by
 unfold EE;rw[z67 n b.pulls _ G.u];unfold WE;rw[z66,if_pos hn];unfold RG;cases b.pulls.find? (fun p=>decide (p.net=n)) <;> rfl
theorem zfd (b:Brd)(bits:List Nm2)(pl:List (Nat × Nat))(hm:∀ p∈pl,∃ c s,(b.parts[p.1]?).bind (fun x=>x.cells[p.2]?)=some c∧bits[p.1]?=some s) :
 FC b bits pl=if 0<NB b bits pl 0∧0<NB b bits pl 1 then some 3 else if 0<NB b bits pl 0 then some 0 else if 0<NB b bits pl 1 then some 1 else none:=by
 revert hm
 refine zoQ (P:=fun pl=>(∀p∈pl,∃c s,(b.parts[p.1]?).bind (fun x=>x.cells[p.2]?)=some c∧bits[p.1]?=some s)→FC b bits pl=if 0<NB b bits pl 0∧0<NB b bits pl 1 then some 3 else if 0<NB b bits pl 0 then some 0 else if 0<NB b bits pl 1 then some 1 else none) (fun _=>rfl) (fun xs x ih hm=>?_) pl
 have ih':=ih fun p hp=>hm p (by simp [hp])
 obtain⟨c,s,hc,hs⟩:=hm x (by simp)
 rw[z5s,DP,DP,ih'];have dq:dqV b bits x=if SF s c=true then some (EC s x.2) else none:=by unfold dqV;rw[hc,hs]
 rw[dq];unfold cN;rw[hc,hs];dsimp only;have bv:EC s x.2=0∨EC s x.2=1:=by unfold EC bz;split <;> simp
 generalize NB b bits xs 0=m0 at *;generalize NB b bits xs 1=m1 at *;have db:SF s c=true↔¬(0≤c.ctl∧EC s c.ctl.toNat=c.off):=by
  unfold SF;simp only[Bool.or_eq_true,decide_eq_true_eq,ne_eq];constructor
  ·rintro (h|h) ⟨a,b⟩
   ·omega
   ·exact h b
  ·intro h
   by_cases a:c.ctl<0
   ·exact .inl a
   ·exact .inr fun e=>h ⟨by omega,e⟩
 by_cases hq:0≤c.ctl∧EC s c.ctl.toNat=c.off
 ·have hd:¬SF s c=true:=fun z=>(db.1 z) hq
  rw[if_pos hq,if_neg hd];simp
 ·have hd:SF s c=true:=db.2 hq
  rw[if_neg hq,if_pos hd];rcases bv with e|e
  ·rw[e]
   by_cases z0:0<m0 <;> by_cases z1:0<m1 <;> simp [z0,z1]
  ·rw[e]
   by_cases z0:0<m0 <;> by_cases z1:0<m1 <;> simp [z0,z1]
theorem zmR {b:Brd}{bits:List Nm2}(ho:BitsOk b bits)(n:Nm2):∀p∈grp (EB b 2 b.parts.length) n,∃c s,(b.parts[p.1]?).bind (fun x=>x.cells[p.2]?)=some c∧bits[p.1]?=some s:=fun p hp=>by
 obtain⟨q1,q2,_⟩:=EN (Nat.le_refl _) (ZW hp);dsimp only at q1 q2;obtain⟨s,hs,_⟩:=ho.l p.1 q1;exact⟨b.parts[p.1].cells[p.2],s,by rw[List.getElem?_eq_getElem q1];simp [q2],hs⟩
theorem nX {b:Brd}{bits:List Nm2}(hf:kC b bits=0){n:Nm2}(hn:n∈sA b):zA n (lB b bits)=some (wD b bits n):=by
 have G:=nJ (gE hf).1
 unfold lB;rw[YW (fun n v=>(FC b bits (grp (EB b 2 b.parts.length) n)).getD v),zjR G hn,Option.map_some,zfd b bits _ (zmR (xM hf) n)]
 unfold wD xN;congr 1
 generalize NB b bits (grp (EB b 2 b.parts.length) n) 0=m0;generalize NB b bits (grp (EB b 2 b.parts.length) n) 1=m1;by_cases z0:0<m0 <;> by_cases z1:0<m1 <;> simp [z0,z1]
theorem zlW {b:Brd}{bits:List Nm2}(hf:kC b bits=0):xD b bits=XE b bits:=by
 unfold xD XE;refine List.map_congr_left fun n hn=>?_
 rw[nX hf hn];rfl
end Go.Am
end
section
/- The reference: clashes. -/
open Go
set_option linter.all false
set_option maxRecDepth 100000
namespace Go.Am
variable {h:bA} {K:nA}
attribute [-go_sem] ZA kB wB uB
theorem zeH {b:Brd}{bits:List Nm2}(hf:kC b bits=0):eC b bits=(sA b).filter fun n=>decide (wD b bits n=3):=by
 unfold eC;refine List.filter_congr fun n hn=>?_
 rw[nX hf hn];rfl
theorem znH {b:Brd}{bits:List Nm2}(ho:BrdOk b)(hf:kC b bits=0):kA X eK [.p b.pv,xB bits] h K=K (.p (.sl none ((eC b bits).map PV.str))) h []:=by
 refine IA ?_;rw[zdP rfl];have G:=nJ (gE hf).1
 have hj:=ho.j.l
 have LV:=fun(n:Nm2) (hn:n≠[]) hh K=>nZ (h:=hh) (K:=K) ho hf hn
 obtain⟨xs,x1,x2,x3,x4,sn⟩:=jZ (h:=h++[qA b,.box [xB bits]]) b hj G.j;simp only[Brd.pv]at sn LV;have hb0:Obj.box [AV.p (PV.sl (some 2) (List.map Prt.pv b.parts)),AV.p (PV.sl (some 3) (List.map Jon.pv b.joins)),AV.p (PV.sl (some 2) (List.map Pul.pv b.pulls))]=qA b:=rfl
 simp only[VV,Brd.pv,go_sem];rw[hb0,sn];simp only[go_sem];have hx:xs=(sA b).map PV.str++xs.drop (sA b).length:=by
  have:xs.take (sA b).length=(sA b).map PV.str:=by rw[←x2];simp [win]
  rw[←this,List.take_append_drop]
 generalize hdr:xs.drop (sA b).length=tl at *;have ln0:((sA b).map PV.str).length=(sA b).length:=List.length_map ..
 have ltl:b.joins.length=((sA b).map PV.str).length+tl.length:=by rw[←x1,hx,List.length_append]
 have hst:ZB none tl:=fun x hx'=>x4 x (by rw[hx];exact List.mem_append_right _ hx')
 have hsn:ZB none ((sA b).map PV.str):=fun x hx'=>x4 x (by rw[hx];exact List.mem_append_left _ hx')
 let pf:PV→Bool:=fun v=>match v with | .str n=>!decide (wD b bits n=3)|_=>false
 have fl:((sA b).map PV.str).filter (fun x=>!pf x)=(eC b bits).map PV.str:=by
  rw[zeH hf,List.filter_map];congr 1
  refine List.filter_congr fun n _=>?_
  show(!(!decide _))=_
  rw[Bool.not_not]
 have TS:lT fK [AV.ref h.length 0,AV.ref (h.length+1) 0] pf ((sA b).map PV.str) (h.length+3) (h++[qA b,.box [xB bits],qA b,Obj.row none ((sA b).map PV.str++tl) 0]):=by
  intro o x hx' K';obtain⟨n,hn,rfl⟩:=List.mem_map.1 hx';refine IA ?_;rw[zdQ rfl];have LN:=fun hh K=>LV n (G.n n hn) hh K
  have pe:pf (.str n) = !decide (wD b bits n=3):=rfl
  generalize wD b bits n=v at *;simp only[WV,qA,go_sem,↓LN,LN,pe]
 have DF:=fun K=>XZ (h:=h++[qA b,.box [xB bits],qA b,Obj.row none ((sA b).map PV.str++tl) 0]) (K:=K) (h.length+3) b.joins.length ((sA b).map PV.str) tl ltl hsn hst (by simp;omega) (by simp) TS
 rw[fl,ln0]at DF;subst hx;rw[DF];have lc:(eC b bits).length≤b.joins.length:=by
  have:(eC b bits).length≤(sA b).length:=List.length_filter_le _ _
  omega
 have lt2:((eC b bits).map PV.str).length=(eC b bits).length:=List.length_map ..
 generalize hrow:(List.map PV.str (eC b bits)++(List.replicate ((sA b).length-((eC b bits).map PV.str).length) (PV.str [])++tl))=row at *;have wr:win row 0 (eC b bits).length=(eC b bits).map PV.str:=by
  rw[←hrow];unfold win;rw[List.drop_zero,List.take_append_of_le_length (by simp)]
  exact List.take_of_length_le (by simp)
 have rl:row.length=b.joins.length:=by
  have:(eC b bits).length≤(sA b).length:=List.length_filter_le _ _
  rw[←hrow];simp at ltl ⊢;omega
 simp only[lt2,go_sem,wr,rl,lc]
end Go.Am
end
section
/- The reference: captured bits of a part. -/
open Go
set_option linter.all false
set_option maxRecDepth 100000
namespace Go.Am
variable {h:bA} {K:nA}
attribute [-go_sem] ZA kB wB uB
theorem zmq {b:Brd}{part pin n:Nm2}(h:yD b part pin=some n):n∈sA b:=by
 unfold yD at h;obtain⟨j,hj,rfl⟩:=Option.map_eq_some_iff.1 h;unfold sA;exact z3c (fun x y h=>by simpa [eqN] using h) (List.mem_map_of_mem (List.mem_of_find?_eq_some hj))
theorem zlV {b:Brd}{bits:List Nm2}(G:BrdG b)(n:Nm2):wD b bits n=0∨wD b bits n=1∨wD b bits n=2∨wD b bits n=3:=by
 unfold wD xN;split
 ·simp
 ·split
  ·simp
  ·split
   ·simp
   ·unfold RG
    cases hf:b.pulls.find? (fun p=>decide (p.net=n)) with
    | none=>simp
    | some p=>
     have:=G.v p (List.mem_of_find?_eq_some hf);simp only[Option.map_some,Option.getD_some];rcases this with e|e <;> simp [e]
def CH (h:bA)(b:Brd)(rows:List PV)(t:bA):bA:=h++qA b :: .row none rows 0::t
attribute [-go_sem] z5w kQ
theorem znV {K:Ex→St→Prop}{b:Brd}{bits:List Nm2}(ho:BrdOk b)(hf:kC b bits=0){rows:List PV}{p:Prt}{s:Nm2}{i m:Nat}(hs:s.length=p.cells.length)(hl:p.cells.length≤1000)
 (fin:∀z,K (.exit 2) ⟨[(1,xB bits),(2,.ref h.length 0),(5,.own (h.length+1) m 0 m),(7,.ref (h.length+2) 0),(8,.own (h.length+3) s.length 0 s.length),(14,aC b.parts),(15,AI b.parts.length),(16,AI i),(27,qC p.cells),(28,AI p.cells.length),(29,AI p.cells.length),z],CH h b rows [p.bx,.row none ((UB b (lB b bits) p s).map fun z=>PV.int .u8 z.toNat) 0],[]⟩) :
 GA (kA X) X.gl (.scope tL) K [(1,xB bits),(2,.ref h.length 0),(5,.own (h.length+1) m 0 m),(7,.ref (h.length+2) 0),(8,.own (h.length+3) s.length 0 s.length),(14,aC b.parts),(15,AI b.parts.length),(16,AI i),(27,qC p.cells),(28,AI p.cells.length),(29,AI 0)] (CH h b rows [p.bx,.row none (lC b (lB b bits) p s 0) 0]) []:=by
 have G:=nJ (gE hf).1
 refine VA (fun k:Nat=>⟨[(1,xB bits),(2,.ref h.length 0),(5,.own (h.length+1) m 0 m),(7,.ref (h.length+2) 0),(8,.own (h.length+3) s.length 0 s.length),(14,aC b.parts),(15,AI b.parts.length),(16,AI i),(27,qC p.cells),(28,AI p.cells.length),(29,AI k)],CH h b rows [p.bx,.row none (lC b (lB b bits) p s k) 0],[]⟩) (fun k=>k≤p.cells.length) (fun k=>p.cells.length-k) 0 rfl (by omega) ?_
 intro k hk;have ln:(p.cells.map Cel.pv).length=p.cells.length:=List.length_map ..
 have hc:(UB b (lB b bits) p s).length=p.cells.length:=by simp [UB,hs]
 rcases Nat.lt_or_ge k p.cells.length with hlt|hge
 ·have g:=XA Cel.pv hlt
  have w2:IntKind.i64.wrap ((k:Int)+1)=((k+1:Nat):Int):=CA _ (by omega) (by omega)
  have c1:LA (some 4) 0 p.cells[k].pv=some p.cells[k].pv:=rfl
  have st:=z27 (b:=b) (M:=lB b bits) hlt hs
  have sk:=z26 (b:=b) (M:=lB b bits) (p:=p) (k:=k) (s:=s) (by omega) hs
  have rl:(lC b (lB b bits) p s k).length=s.length:=by simp [lC,hc];omega
  have kl:k<s.length:=by omega
  have rk:=z25 (b:=b) (M:=lB b bits) (p:=p) kl hs
  unfold yM at st;have NA:=fun hh K=>z8w (h:=hh) (K:=K) b p.key p.cells[k].pin (by have:=G.r.j;omega)
  have LV:=fun(n:Nm2) (hn:n≠[]) hh K=>nZ (h:=hh) (K:=K) ho hf hn
  have LE:=fun(n:Nm2) (hn:n∈sA b)=>nX hf hn
  generalize hcc:p.cells[k]=c at *;generalize hR1:lC b (lB b bits) p s (k+1)=R1 at *;generalize hR:lC b (lB b bits) p s k=R at *;have rk2:∀v,(R.set k v)[k]?=some v:=fun v=>by rw[List.getElem?_set_self (by omega)]
  have rl2:(R.set k (.int .u8 49)).length=s.length:=by simp [rl]
  have ss:(R.set k (.int .u8 49)).set k (.int .u8 48)=R.set k (.int .u8 48):=List.set_set ..
  simp only[Cel.pv,eI]at g c1;simp only[Brd.pv]at NA LV;simp only[CH];by_cases hkind:c.kind=1
  ·rw[if_neg (by simp [hkind])]at st
   have hkp:=eq_true hkind
   cases hn:yD b p.key c.pin with
   | none=>
    rw[hn]at st NA;have e49:(R.set k (.int .u8 49))=R1:=st
    have d0:decide (([]:Nm2)=[])=true:=rfl
    simp only[Option.getD_none]at NA;simp only[qA,Prt.bx,go_sem,hlt,g,c1,w2,ln,hkp,↓NA,NA,d0,rl,kl,rk,rk2,e49];exact⟨k+1,by rw[hR1],by omega,by omega⟩
   | some n=>
    rw[hn]at st NA;have nm:=zmq hn
    have nn:=G.n n nm
    have LN:=fun hh K=>LV n nn hh K
    have hlv:(zA n (lB b bits)).getD 0=wD b bits n:=by rw[LE n nm];rfl
    have cs:=zlV (bits:=bits) G n
    dsimp only at st;rw[hlv]at st;simp only[Option.getD_some]at NA;have d0:decide (n=[])=false:=decide_eq_false nn
    generalize wD b bits n=v at *;rcases cs with e|e|e|e
    ·subst e
     rw[if_pos ⟨by omega,by omega⟩]at st
     have e48:(R.set k (.int .u8 48))=R1:=st
     simp only[qA,Prt.bx,go_sem,hlt,g,c1,w2,ln,hkp,↓NA,NA,nn,d0,↓LN,LN,rl,rl2,kl,rk,rk2,ss];exact⟨k+1,by rw[e48,hR1],by omega,by omega⟩
    ·subst e
     rw[if_neg (by simp)]at st
     have e49:(R.set k (.int .u8 49))=R1:=st
     simp only[qA,Prt.bx,go_sem,hlt,g,c1,w2,ln,hkp,↓NA,NA,nn,d0,↓LN,LN,rl,rl2,kl,rk,rk2,ss];exact⟨k+1,by rw[e49,hR1],by omega,by omega⟩
    ·subst e
     rw[if_neg (by simp)]at st
     have e49:(R.set k (.int .u8 49))=R1:=st
     simp only[qA,Prt.bx,go_sem,hlt,g,c1,w2,ln,hkp,↓NA,NA,nn,d0,↓LN,LN,rl,rl2,kl,rk,rk2,ss];exact⟨k+1,by rw[e49,hR1],by omega,by omega⟩
    ·subst e
     rw[if_pos ⟨by omega,by omega⟩]at st
     have e48:(R.set k (.int .u8 48))=R1:=st
     simp only[qA,Prt.bx,go_sem,hlt,g,c1,w2,ln,hkp,↓NA,NA,nn,d0,↓LN,LN,rl,rl2,kl,rk,rk2,ss];exact⟨k+1,by rw[e48,hR1],by omega,by omega⟩
  ·rw[if_pos hkind,sk]at st
   simp only[qA,Prt.bx,go_sem,hlt,g,c1,w2,ln,hkind,rl,kl];exact⟨k+1,by rw[st,hR1],by omega,by omega⟩
 ·have e:k=p.cells.length:=by omega
  subst e;have:lC b (lB b bits) p s p.cells.length=(UB b (lB b bits) p s).map fun z=>PV.int .u8 z.toNat:=by
   unfold lC;rw[List.take_of_length_le (by omega),List.drop_eq_nil_of_le (by omega),List.append_nil]
  rw[this];simp only[CH,go_sem,Nat.lt_irrefl];exact fin _
end Go.Am
end
section
/- The reference: captured bits. -/
open Go
set_option linter.all false
set_option maxRecDepth 100000
namespace Go.Am
variable {h:bA} {K:nA}
attribute [-go_sem] ZA kB wB uB
theorem znE {b:Brd}{bits:List Nm2}(ho:BrdOk b)(h1:kC b bits=0):kA X dK [.p b.pv,xB bits] h K=K (.p (.sl none ((vC b bits).map PV.str))) h []:=by
 refine IA ?_;rw[zdO rfl];have G:=nJ (gE h1).1
 have R:=G.r
 have hp40:=R.p
 have ln:(b.parts.map Prt.pv).length=b.parts.length:=List.length_map ..
 obtain⟨f1,f2,f3⟩:=gE h1;have bo:=xM h1
 have cl:=z24 f2
 simp only[jQ,Brd.pv,go_sem,ln];refine VA (fun k:Nat=>⟨[(1,xB bits),(2,.ref h.length 0),(5,.own (h.length+1) k 0 k),(14,aC b.parts),(15,AI b.parts.length),(16,AI k)],CH h b (((vC b bits).take k).map PV.str) [],[]⟩) (fun k=>k≤b.parts.length) (fun k=>b.parts.length-k) 0 rfl (by omega) ?_
 intro k hk;rcases Nat.lt_or_ge k b.parts.length with hlt|hge
 ·have g:=XA Prt.pv hlt
  have w2:IntKind.i64.wrap ((k:Int)+1)=((k+1:Nat):Int):=CA _ (by omega) (by omega)
  have c1:LA (some 2) 0 b.parts[k].pv=some b.parts[k].pv:=rfl
  obtain⟨s,hs,hsl,_⟩:=bo.l k hlt;have gs:(bits.map PV.str)[k]?=some (.str s):=by rw[List.getElem?_map,hs];rfl
  have kb:k<bits.length:=by omega
  have tk:(vC b bits).take (k+1)=(vC b bits).take k++[UB b (lB b bits) b.parts[k] s]:=by
   rw[List.take_succ_eq_append_getElem (by omega)]
   have:bits[k]=s:=by rw[List.getElem?_eq_getElem kb]at hs;exact Option.some.inj hs
   simp [vC,this]
  have c200:=R.c _ (List.getElem_mem hlt)
  have tl:(((vC b bits).take k).map PV.str).length=k:=by simp;omega
  generalize hp:b.parts[k]=p at *;have cr0:lC b (lB b bits) p s 0=s.map fun z=>PV.int .u8 z.toNat:=by unfold lC;simp
  have hcs:(UB b (lB b bits) p s).length=s.length:=by simp [UB,hsl]
  have lc:(p.cells.map Cel.pv).length=p.cells.length:=List.length_map ..
  simp only[Prt.pv]at g c1;generalize hrows:((vC b bits).take k).map PV.str=rows at *;have km:k+1≤WA:=by unfold WA;omega
  have sm:s.length≤WA:=by unfold WA;omega
  have e0:=fun K fin=>znV (h:=h) (K:=K) ho h1 (rows:=rows) (p:=p) (s:=s) (i:=k) (m:=k) hsl (by omega) fin
  rw[cr0]at e0;simp only[CH,qA,go_sem,hlt,g,c1,w2,gs,lc,sm];refine e0 (wA 2 _) fun z=>?_
  have hcm:(UB b (lB b bits) p s).map (fun z=>PV.int .u8 z.toNat)=bB (UB b (lB b bits) p s):=rfl
  rw[hcm];generalize hC:UB b (lB b bits) p s=cs at *;have bl:(bB cs).length=s.length:=by simp [bB,hcs]
  have wb:win (bB cs) 0 s.length=bB cs:=rD bl
  have tb:=toB2 cs
  simp only[CH,Prt.bx,go_sem,w2,tl,km,bl,wb,tb];refine⟨k+1,?_,by omega,by omega⟩
  rw[tk,List.map_append,hrows];rfl
 ·have e:k=b.parts.length:=by omega
  subst e;rw[List.take_of_length_le (by omega)]
  have wf:win ((vC b bits).map PV.str) 0 b.parts.length=(vC b bits).map PV.str:=rD (by simp [cl])
  simp only[CH,go_sem,Nat.lt_irrefl,cl,wf]
end Go.Am
end
section
/- The reference: quiet bits of a part. -/
open Go
set_option linter.all false
set_option maxRecDepth 100000
namespace Go.Am
variable {h:bA} {K:nA}
attribute [-go_sem] ZA kB wB uB
theorem z29 {l:List Cel}{c:Cel}(h:tC l c=0)(hk:c.kind=2):(c.off=0∨c.off=1)∧(0≤c.ctl→DE l c.ctl=3):=by
 unfold tC at h;rw[decide_eq_true hk]at h;have g1:inB 0 c.off 1=true∨inB 0 c.off 1=false:=by cases inB 0 c.off 1 <;> simp
 have g2:decide (DE l c.ctl=3)=true∨decide (DE l c.ctl=3)=false:=by cases decide (DE l c.ctl=3) <;> simp
 have g3:decide (c.ctl = -1)=true∨decide (c.ctl = -1)=false:=by cases decide (c.ctl = -1) <;> simp
 refine⟨?_,fun h0=>?_⟩
 ·rcases g1 with e|e
  ·unfold inB at e;simp only[Bool.and_eq_true,decide_eq_true_eq]at e;omega
  ·rw[e]at h
   exfalso;revert h
   generalize inB 1 c.kind 4=b1;generalize dC c=b2;generalize TB c.pin=b3;generalize decide (DE l c.ctl=3)=b7;generalize decide (c.ctl = -1)=b5;generalize inB 0 c.ctl (l.length-1)=b6;generalize decide (c.off=0)=b9;generalize decide (c.pin=[])=bp;unfold FB;cases b1 <;> cases b2 <;> cases b3 <;> cases b5 <;> cases b6 <;> cases b7 <;> cases b9 <;> cases bp <;> decide
 ·have e5:decide (c.ctl = -1)=false:=decide_eq_false (by omega)
  rcases g2 with e|e
  ·simpa using e
  ·rw[e,e5]at h
   exfalso;revert h
   generalize inB 1 c.kind 4=b1;generalize dC c=b2;generalize TB c.pin=b3;generalize inB 0 c.off 1=b8;generalize inB 0 c.ctl (l.length-1)=b6;generalize decide (c.off=0)=b9;generalize decide (c.pin=[])=bp;unfold FB;cases b1 <;> cases b2 <;> cases b3 <;> cases b6 <;> cases b8 <;> cases b9 <;> cases bp <;> decide
structure PrtG (p:Prt):Prop where
 o:∀c∈p.cells,c.kind=2→c.off=0∨c.off=1
 k:∀c∈p.cells,c.kind=2→0≤c.ctl→DE p.cells c.ctl=3
theorem zo3 (p:Prt)(G:PrtG p)(hl:p.cells.length≤1000)(i:Nat):kA X qK [.p p.pv,AI i] h K=K (.p (.int .u8 ((if yB p.cells ((i:Int),1)>yB p.cells ((i:Int),0) then 49 else 48:UInt8).toNat))) h []:=by
 refine IA ?_;rw[zei rfl];have ln:(p.cells.map Cel.pv).length=p.cells.length:=List.length_map ..
 simp only[tQ,Prt.pv,go_sem,ln];refine VA (fun k:Nat=>⟨[(1,AI i),(5,AI ((yB (p.cells.take k) ((i:Int),1):Int)-yB (p.cells.take k) ((i:Int),0))),(9,qC p.cells),(10,AI p.cells.length),(11,AI k)],h++[p.bx],[]⟩) (fun k=>k≤p.cells.length) (fun k=>p.cells.length-k) 0 rfl (by omega) ?_
 intro k hk;rcases Nat.lt_or_ge k p.cells.length with hlt|hge
 ·have g:=XA Cel.pv hlt
  have c1:LA (some 4) 0 p.cells[k].pv=some p.cells[k].pv:=rfl
  have w2:IntKind.i64.wrap ((k:Int)+1)=((k+1:Nat):Int):=CA _ (by omega) (by omega)
  have tk:p.cells.take (k+1)=p.cells.take k++[p.cells[k]]:=List.take_succ_eq_append_getElem hlt
  have n1:=cV (p.cells.take k) p.cells[k] ((i:Int),1)
  have n0:=cV (p.cells.take k) p.cells[k] ((i:Int),0)
  rw[←tk]at n0 n1;have b0:yB (p.cells.take k) ((i:Int),0)≤k:=by unfold yB;refine Nat.le_trans (List.length_filter_le _ _) ?_;simp;omega
  have b1:yB (p.cells.take k) ((i:Int),1)≤k:=by unfold yB;refine Nat.le_trans (List.length_filter_le _ _) ?_;simp;omega
  have ho:=G.o _ (List.getElem_mem hlt)
  generalize yB (p.cells.take k) ((i:Int),0)=m0 at *;generalize yB (p.cells.take k) ((i:Int),1)=m1 at *;generalize p.cells[k]=c at *;simp only[Cel.pv,eI]at g c1;unfold PK at n0 n1;by_cases hkind:c.kind=2
  ·have hkp:=eq_true hkind
   by_cases hc:c.ctl=(i:Int)
   ·have hcp:=eq_true hc
    have hcc:c.kind=2∧0≤c.ctl:=⟨hkind,by omega⟩
    rw[if_pos hcc,hc]at n0 n1;rcases ho hkind with e|e
    ·have n0':yB (p.cells.take (k+1)) ((i:Int),0)=m0+1:=by rw[n0,e];simp
     have n1':yB (p.cells.take (k+1)) ((i:Int),1)=m1:=by rw[n1,e];simp
     have a1:IntKind.i64.wrap (2*0)=0:=rfl
     have a2:IntKind.i64.wrap (0-1) = -1:=rfl
     have a3:IntKind.i64.wrap (((m1:Int)-m0) + -1)=(m1:Int)-((m0+1:Nat):Int):=by rw[CA _ (by omega) (by omega)];omega
     rw[e,hc]at g c1;simp only[Prt.bx,go_sem,hlt,g,c1,w2,ln,hkp];have q1:IntKind.i64.wrap (IntKind.i64.wrap 0-1) = -1:=rfl
     exact⟨k+1,by rw[n0',n1',q1,a3],by omega,by omega⟩
    ·have n0':yB (p.cells.take (k+1)) ((i:Int),0)=m0:=by rw[n0,e];simp
     have n1':yB (p.cells.take (k+1)) ((i:Int),1)=m1+1:=by rw[n1,e];simp
     have a1:IntKind.i64.wrap (2*1)=2:=rfl
     have a2:IntKind.i64.wrap (2-1)=1:=rfl
     have a3:IntKind.i64.wrap (((m1:Int)-m0)+1)=((m1+1:Nat):Int)-(m0:Int):=by rw[CA _ (by omega) (by omega)];omega
     rw[e,hc]at g c1;simp only[Prt.bx,go_sem,hlt,g,c1,w2,ln,hkp];have q1:IntKind.i64.wrap (IntKind.i64.wrap 2-1)=1:=rfl
     exact⟨k+1,by rw[n0',n1',q1,a3],by omega,by omega⟩
   ·have n0':yB (p.cells.take (k+1)) ((i:Int),0)=m0:=by
     rw[n0,if_neg,Nat.add_zero];split
     ·intro e;simp at e;exact hc e.1
     ·simp
    have n1':yB (p.cells.take (k+1)) ((i:Int),1)=m1:=by
     rw[n1,if_neg,Nat.add_zero];split
     ·intro e;simp at e;exact hc e.1
     ·simp
    simp only[Prt.bx,go_sem,hlt,g,c1,w2,ln,hkp,hc];exact⟨k+1,by rw[n0',n1'],by omega,by omega⟩
  ·have hcc:¬(c.kind=2∧0≤c.ctl):=fun x=>hkind x.1
   rw[if_neg hcc]at n0 n1;have n0':yB (p.cells.take (k+1)) ((i:Int),0)=m0:=by rw[n0];simp
   have n1':yB (p.cells.take (k+1)) ((i:Int),1)=m1:=by rw[n1];simp
   simp only[Prt.bx,go_sem,hlt,g,c1,w2,ln,hkind];exact⟨k+1,by rw[n0',n1'],by omega,by omega⟩
 ·have e:k=p.cells.length:=by omega
  subst e;rw[List.take_length];generalize yB p.cells ((i:Int),0)=m0 at *;generalize yB p.cells ((i:Int),1)=m1 at *;by_cases hm:m1>m0
  ·have q:((0:Int)<(m1:Int)-m0)=True:=eq_true (by omega)
   rw[if_pos hm];simp only[go_sem,Nat.lt_irrefl,q];rfl
  ·have q:((0:Int)<(m1:Int)-m0)=False:=eq_false (by omega)
   rw[if_neg hm];simp only[go_sem,Nat.lt_irrefl,q];rfl
end Go.Am
end
section
/- The reference: quiet bits. -/
open Go
set_option linter.all false
set_option maxRecDepth 100000
namespace Go.Am
variable {h:bA} {K:nA}
attribute [-go_sem] ZA kB wB uB
def QH2 (h:bA)(b:Brd)(rows:List PV)(t:bA):bA:=h++qA b :: .row none rows 0::t
theorem cnt_0 {p:Prt}(G:PrtG p){k:Nat}(hk:k<p.cells.length)(hn:¬ p.cells[k].kind=3)(v:Int):yB p.cells ((k:Int),v)=0:=by
 unfold yB;rw[List.length_eq_zero_iff,List.filter_eq_nil_iff];intro c hc;simp only[decide_eq_true_eq];unfold PK;split
 ·rename_i h
  intro e;simp at e;have:=G.k c hc h.1 h.2;unfold DE at this;rw[e.1,Int.toNat_natCast,List.getElem?_eq_getElem hk]at this;exact hn (by simpa using this)
 ·intro e;cases e
theorem zo2 {K:Ex→St→Prop}(b:Brd){rows:List PV}{p:Prt}(G:PrtG p)(hl:p.cells.length≤1000){i m:Nat}
 (fin:∀z,K (.exit 2) ⟨[(3,.own (h.length+1) m 0 m),(5,.ref (h.length+2) 0),(6,.own (h.length+3) p.cells.length 0 p.cells.length),(10,aC b.parts),(11,AI b.parts.length),(12,AI i),(22,qC p.cells),(23,AI p.cells.length),(24,AI p.cells.length),z],QH2 h b rows [p.bx,.row none (bB (aB p)) 0],[]⟩) :
 GA (kA X) X.gl (.scope yL) K [(3,.own (h.length+1) m 0 m),(5,.ref (h.length+2) 0),(6,.own (h.length+3) p.cells.length 0 p.cells.length),(10,aC b.parts),(11,AI b.parts.length),(12,AI i),(22,qC p.cells),(23,AI p.cells.length),(24,AI 0)] (QH2 h b rows [p.bx,.row none (bB (List.replicate p.cells.length 48)) 0]) []:=by
 refine VA (fun k:Nat=>⟨[(3,.own (h.length+1) m 0 m),(5,.ref (h.length+2) 0),(6,.own (h.length+3) p.cells.length 0 p.cells.length),(10,aC b.parts),(11,AI b.parts.length),(12,AI i),(22,qC p.cells),(23,AI p.cells.length),(24,AI k)],QH2 h b rows [p.bx,.row none (zC (aB p) (List.replicate p.cells.length 48) k) 0],[]⟩) (fun k=>k≤p.cells.length) (fun k=>p.cells.length-k) 0 (by unfold zC;rfl) (by omega) ?_
 intro k hk;have ln:(p.cells.map Cel.pv).length=p.cells.length:=List.length_map ..
 have lq:(aB p).length=p.cells.length:=by simp [aB]
 rcases Nat.lt_or_ge k p.cells.length with hlt|hge
 ·have g:=XA Cel.pv hlt
  have w2:IntKind.i64.wrap ((k:Int)+1)=((k+1:Nat):Int):=CA _ (by omega) (by omega)
  have c1:LA (some 4) 0 p.cells[k].pv=some p.cells[k].pv:=rfl
  have kq:k<(aB p).length:=by omega
  have kr:k<(List.replicate p.cells.length (48:UInt8)).length:=by simp;omega
  have m1:=z7o kq kr
  have m2:=z7n kq kr
  have m3:=z7m (A:=aB p) (by omega) kr
  have ml:(zC (aB p) (List.replicate p.cells.length 48) k).length=p.cells.length:=by simp [zC,bB];omega
  have q0:(aB p)[k]=if yB p.cells ((k:Int),1)>yB p.cells ((k:Int),0) then 49 else 48:=by simp [aB]
  have r0:(List.replicate p.cells.length (48:UInt8))[k]=48:=List.getElem_replicate ..
  rw[q0]at m1 m2;rw[r0]at m2 m3;have QV:=fun hh K=>zo3 (h:=hh) (K:=K) p G hl k
  have z0:=fun hn=>cnt_0 G hlt hn
  generalize hm1:zC (aB p) (List.replicate p.cells.length 48) (k+1)=R1 at *;generalize zC (aB p) (List.replicate p.cells.length 48) k=R at *;generalize hcc:p.cells[k]=c at *;simp only[Cel.pv,eI]at g c1;simp only[Prt.pv]at QV;simp only[QH2];by_cases hkind:c.kind=3
  ·have hkp:=eq_true hkind
   generalize (if yB p.cells ((k:Int),1)>yB p.cells ((k:Int),0) then(49:UInt8) else 48)=v at *;simp only[Prt.bx,go_sem,hlt,g,c1,w2,ln,hkp,↓QV,QV,m3,ml,m1];exact⟨k+1,by rw[hm1],by omega,by omega⟩
  ·have e0:=z0 hkind 0
   have e1:=z0 hkind 1
   rw[e0,e1,if_neg (by omega)]at m2
   simp only[Prt.bx,go_sem,hlt,g,c1,w2,ln,hkind];exact⟨k+1,by rw[hm1,m2 rfl],by omega,by omega⟩
 ·have e:k=p.cells.length:=by omega
  subst e;have me:zC (aB p) (List.replicate p.cells.length 48) p.cells.length=bB (aB p):=by
   unfold zC;rw[List.take_of_length_le (by omega),List.drop_eq_nil_of_le (by simp),List.append_nil]
  rw[me];simp only[QH2,go_sem,Nat.lt_irrefl];exact fin _
theorem zmG {b:Brd}(h:PC b=0):∀p∈b.parts,PrtG p:=fun p hp=>by
 unfold PC at h;by_cases h1:(40:Int)<b.parts.length
 ·rw[if_pos h1]at h;cases h
 rw[if_neg h1]at h;by_cases h2:NC none b.parts=0
 ·have hc:=((ZL b.parts none h2).2.2 p hp).2
  unfold nD at hc;by_cases c1:(200:Int)<p.cells.length
  ·rw[if_pos c1]at hc;cases hc
  rw[if_neg c1]at hc;by_cases c2:pD (tC p.cells) p.cells=0
  ·exact⟨fun c hc hk=>(z29 (CK c2 c hc) hk).1,fun c hc hk=>(z29 (CK c2 c hc) hk).2⟩
  ·rw[if_pos c2]at hc;exact absurd hc c2
 ·rw[if_pos h2]at h;exact absurd h h2
theorem z8z (b:Brd)(h1:PC b=0):kA X jK [.p b.pv] h K=K (.p (.sl none ((b.parts.map aB).map PV.str))) h []:=by
 refine IA ?_;rw[zdW rfl];have R:=eH h1
 have hp40:=R.p
 have ln:(b.parts.map Prt.pv).length=b.parts.length:=List.length_map ..
 simp only[oQ,Brd.pv,go_sem,ln];refine VA (fun k:Nat=>⟨[(3,.own (h.length+1) k 0 k),(10,aC b.parts),(11,AI b.parts.length),(12,AI k)],QH2 h b (((b.parts.map aB).take k).map PV.str) [],[]⟩) (fun k=>k≤b.parts.length) (fun k=>b.parts.length-k) 0 rfl (by omega) ?_
 intro k hk;rcases Nat.lt_or_ge k b.parts.length with hlt|hge
 ·have g:=XA Prt.pv hlt
  have w2:IntKind.i64.wrap ((k:Int)+1)=((k+1:Nat):Int):=CA _ (by omega) (by omega)
  have c1:LA (some 2) 0 b.parts[k].pv=some b.parts[k].pv:=rfl
  have tk:(b.parts.map aB).take (k+1)=(b.parts.map aB).take k++[aB b.parts[k]]:=by
   rw[List.take_succ_eq_append_getElem (by simpa using hlt)];simp
  have c200:=R.c _ (List.getElem_mem hlt)
  have tl:(((b.parts.map aB).take k).map PV.str).length=k:=by simp;omega
  have PG:=zmG h1 _ (List.getElem_mem hlt)
  generalize hp:b.parts[k]=p at *;have lc:(p.cells.map Cel.pv).length=p.cells.length:=List.length_map ..
  have rp:=fun hh K=>z82 (h:=hh) (K:=K) [48] p.cells.length (by omega) (by simp;omega) (by omega)
  have l48:(List.replicate p.cells.length (48:UInt8)).length=p.cells.length:=List.length_replicate
  have lm:p.cells.length≤WA:=by unfold WA;omega
  simp only[repQ,Int.toNat_natCast]at rp;simp only[Prt.pv]at g c1;generalize hrows:((b.parts.map aB).take k).map PV.str=rows at *;have km:k+1≤WA:=by unfold WA;omega
  have e0:=fun K fin=>zo2 (h:=h) (K:=K) b (rows:=rows) (p:=p) PG (by omega) (i:=k) (m:=k) fin
  have lq:(aB p).length=p.cells.length:=by simp [aB]
  simp only[QH2,qA,go_sem,hlt,g,c1,w2,lc,rp,l48,lm];refine e0 (wA 2 _) fun z=>?_
  generalize hC:aB p=cs at *;have bl:(bB cs).length=p.cells.length:=by simp [bB,lq]
  have wb:win (bB cs) 0 p.cells.length=bB cs:=rD bl
  have tb:=toB3 cs
  simp only[QH2,Prt.bx,go_sem,w2,tl,km,bl,wb,tb];refine⟨k+1,?_,by omega,by omega⟩
  rw[tk,List.map_append,hrows];rfl
 ·have e:k=b.parts.length:=by omega
  subst e;rw[List.take_of_length_le (by simp)]
  have lq:((b.parts.map aB).map PV.str).length=b.parts.length:=by simp
  have wf:win ((b.parts.map aB).map PV.str) 0 b.parts.length=(b.parts.map aB).map PV.str:=rD lq
  generalize (b.parts.map aB).map PV.str=rows at *;simp only[QH2,go_sem,Nat.lt_irrefl,lq,wf]
end Go.Am
end
section
/- boarded: a fC call,computed. -/
open Go
set_option linter.all false
namespace Go.Am
def orc0 (f:Nat)(a:List AV):Option AV:=none
theorem zmB:∀ f a v,orc0 f a=some v→∀h (K:nA),K v h []→kA X0 f a h K:=by
 intro f a v hv;cases hv
theorem zcU:iN X0 orc0 1000 60 vI [] []=some (AB true,[],[]):=by kernel_rfl
theorem zr2:kA X0 vI [] [] fun v h x=>v=AB true∧h=[]∧x=[]:=(z9o zmB 1000 60 zcU _).2 ⟨rfl,rfl,rfl⟩
theorem znT {h:bA}{K:nA}:kA X vI [] h K=K (AB true) h []:=oX (by kernel_rfl) rfl
end Go.Am
end
section
/- LevelsComputed returns true. -/
open Go
set_option linter.all false
set_option maxRecDepth 100000
namespace Go.Am
variable {h:bA} {K:nA}
attribute [-go_sem] ZA kB wB uB
theorem IS (l:List Nm2)(hl:l.length≤1000000):kA X vF [xB l,xB l] h K=K (AB true) h []:=by
 refine IA ?_;rw[zes rfl];have ln:(l.map PV.str).length=l.length:=List.length_map ..
 simp only[yQ,go_sem,ln];refine VA (fun k:Nat=>⟨[(0,xB l),(1,xB l),(12,AI l.length),(13,AI k)],h,[]⟩) (fun k=>k≤l.length) (fun k=>l.length-k) 0 rfl (by simp) ?_
 intro k hk;rcases Nat.lt_or_ge k l.length with hlt|hge
 ·have hg:=XA PV.str hlt
  have w2:IntKind.i64.wrap ((k:Int)+1)=((k+1:Nat):Int):=CA _ (by omega) (by omega)
  simp only[go_sem,hlt,hg,w2,ln];exact⟨k+1,rfl,by omega,by omega⟩
 ·have e1:k=l.length:=by omega
  subst e1;simp only[go_sem,Nat.lt_irrefl]
set_option maxHeartbeats 2000000 in
theorem law_LC (L:List Int){K:nA}:kA X WQ [AL L] [] K=K (AB true) [] []:=by
 refine IA ?_;rw[zd8 rfl];obtain⟨_,a1,⟨b,E,rfl,h1,h2⟩,V1⟩:=(zjL (L:=L) (a:=0) (by unfold uA;omega)).hd (l:=[])
 have ho:=zcW E
 have hp40:b.parts.length≤40:=by have:=E.p;omega
 have hc200:∀p∈b.parts,p.cells.length≤200:=fun p hp=>by have:=(E.e p hp).2.1;omega
 have V2:=fun(l:bA) K=>(zjM (L:=L) b (a:=a1) hp40 hc200 (by unfold uA;omega)).hd (l:=l) (K:=K)
 have hb:=(zcT (L:=L) (a:=a1) hp40 hc200).1
 generalize (uG b L a1).1=bits at *;generalize (uG b L a1).2=a2 at *;have C0:=fun hh K=>GS (h:=hh) (K:=K) b bits ho hb
 have C1:=fun hh K=>znL (h:=hh) (K:=K) b bits ho hb
 have C2:=fun hh K=>znD (h:=hh) (K:=K) b bits ho hb
 have C3:=fun hh K=>znG (h:=hh) (K:=K) b bits ho hb
 have C4:=fun hh K=>znP (h:=hh) (K:=K) b ho
 have C5:=fun hh K=>znA (h:=hh) (K:=K) b bits ho hb
 have C6:=fun hh K=>z8p (h:=hh) (K:=K) b ho
 have D1:=fun hh K=>znT (h:=hh) (K:=K)
 have ln1:(sA b).length≤12:=by
  have:=z3a eqN (b.joins.map Jon.net);have hj:=E.j
  unfold sA;simp at this;omega
 have l1:(xD b bits).length≤1000000000:=by unfold xD;rw[List.length_map];omega
 have l2:(eC b bits).length≤1000000:=by
  have:=List.length_filter_le (fun n=>decide ((zA n (lB b bits)).getD 0=3)) (sA b)
  unfold eC;omega
 have l3:(vC b bits).length≤1000000:=by unfold vC;rw[List.length_map,List.length_zip];have:=E.p;omega
 have l4:(b.parts.map aB).length≤1000000:=by rw[List.length_map];have:=E.p;omega
 have EI:=fun hh K=>z8s (h:=hh) (K:=K) (xD b bits) (xD b bits) l1
 have EI0:∀(hh:bA) (K:nA),kA X DI [.p (.sl none []),.p (.sl none [])] hh K=K (AB true) hh []:=fun hh K=>z8s (h:=hh) (K:=K) [] [] (by simp)
 have E2:=fun hh K=>IS (h:=hh) (K:=K) (eC b bits) l2
 have E3:=fun hh K=>IS (h:=hh) (K:=K) (vC b bits) l3
 have E4:=fun hh K=>IS (h:=hh) (K:=K) (b.parts.map aB) l4
 have E0:∀(hh:bA) (K:nA),kA X vF [.p (.sl none []),.p (.sl none [])] hh K=K (AB true) hh []:=fun hh K=>IS (h:=hh) (K:=K) [] (by simp)
 unfold iR at C1;unfold capP at C2;unfold zP at C3;unfold xS at C4;by_cases hf:kC b bits=0
 ·have hg:=(gE hf).1
  have Q1:=fun hh K=>znM (h:=hh) (K:=K) ho hf
  have Q2:=fun hh K=>znE (h:=hh) (K:=K) ho hf
  have Q3:=fun hh K=>znH (h:=hh) (K:=K) ho hf
  have Q4:=fun hh K=>z8z (h:=hh) (K:=K) b hg
  rw[←zlW hf]at Q1;rw[if_neg (by simp [hf])]at C1 C2 C3
  rw[if_neg (by simp [hg])]at C4
  rw[hf]at C0 C5;rw[hg]at C6;dsimp only at C1 C2 C3 C4;simp only[Brd.pv]at V1 V2 C0 C1 C2 C3 C4 C5 C6 Q1 Q2 Q3 Q4;generalize xD b bits=w1 at *;generalize eC b bits=w2 at *;generalize vC b bits=w3 at *;generalize b.parts.map aB=w4 at *;generalize b.parts.map Prt.pv=ps at *;generalize b.joins.map Jon.pv=js at *;generalize b.pulls.map Pul.pv=us at *;simp only[CJ,go_sem,↓V1,V1,↓V2,V2,↓C0,C0,↓C1,C1,↓C2,C2,↓C3,C3,↓C4,C4,↓C5,C5,↓C6,C6,↓Q1,Q1,↓Q2,Q2,↓Q3,Q3,↓Q4,Q4,↓EI,EI,↓E2,E2,↓E3,E3,↓E4,E4,↓D1,D1]
 ·rw[if_pos hf]at C1 C2 C3
  by_cases hg:PC b=0
  ·have Q4:=fun hh K=>z8z (h:=hh) (K:=K) b hg
   rw[if_neg (by simp [hg])]at C4
   rw[hg]at C6;dsimp only at C1 C2 C3 C4;simp only[Brd.pv,List.map_nil]at V1 V2 C0 C1 C2 C3 C4 C5 C6 Q4;generalize kC b bits=f at *;generalize b.parts.map aB=w4 at *;generalize b.parts.map Prt.pv=ps at *;generalize b.joins.map Jon.pv=js at *;generalize b.pulls.map Pul.pv=us at *;simp only[CJ,go_sem,↓V1,V1,↓V2,V2,↓C0,C0,↓C1,C1,↓C2,C2,↓C3,C3,↓C4,C4,↓C5,C5,↓C6,C6,↓Q4,Q4,hf,↓EI0,EI0,↓E0,E0,↓E4,E4,↓D1,D1]
  ·rw[if_pos hg]at C4
   dsimp only at C1 C2 C3 C4;simp only[Brd.pv,List.map_nil]at V1 V2 C0 C1 C2 C3 C4 C5 C6;generalize kC b bits=f at *;generalize PC b=g at *;generalize b.parts.map Prt.pv=ps at *;generalize b.joins.map Jon.pv=js at *;generalize b.pulls.map Pul.pv=us at *;simp only[CJ,go_sem,↓V1,V1,↓V2,V2,↓C0,C0,↓C1,C1,↓C2,C2,↓C3,C3,↓C4,C4,↓C5,C5,↓C6,C6,hf,hg,↓EI0,EI0,↓E0,E0,↓D1,D1]
end Go.Am
end
section
/- From a law that is true here tov the model's calls at what came in. -/
open Go
namespace Go.Am
variable {P:Program}
theorem law_nil {X:Ctx}(HX:Fits P X){f:Nat}{F:AFun}(hF:X.fn f=some F)(H:∀ L:List Int,kA X f [tS L] [] fun v _ _=>v = .p (.bool true))(W:World)(hG:cE X.gl (imm [] [] W)) :
 Calls P f #[.slice none 0 0] W fun e W'=>e = .returned (.bool true)∧RowKit.Below W.heap.size W W':=by
 refine(z23 HX hF (H []) (W:=W) (vs:=[.slice none 0 0]) hG rfl (fun j y v hy hv=>?_)).mono fun e W' he=>?_
 ·cases j with
  | zero=>cases hy;cases hv;exact zeC W
  | succ j=>cases hy
 ·cases e with
  | returned r=>
   obtain⟨⟨v,h,x,μ,hk,hr⟩,hb⟩:=he;subst hk;exact⟨by rw[hr.p_bool],hb⟩
  | panicked _=>exact he.elim
  | outgrown=>exact he.elim
theorem law_ints {X:Ctx}(HX:Fits P X){f:Nat}{F:AFun}(hF:X.fn f=some F)(H:∀ L:List Int,kA X f [tS L] [] fun v _ _=>v = .p (.bool true)){W:World}(hG:cE X.gl (imm [] [] W)){a:Addr}{len cap:Nat}{zs:List Int}
 (hl:len≤cap) (hz:len≤zs.length) (hc:∀i,i<zs.length→W.cell? (a.add i)=some (.int .i64 (zs.getD i 0))) :
 Calls P f #[.slice (some a) len cap] W fun e W'=>e = .returned (.bool true)∧RowKit.Below W.heap.size W W':=by
 refine(z23 HX hF (H (zs.take len)) (W:=W) (vs:=[.slice (some a) len cap]) hG rfl (fun j y v hy hv=>?_)).mono fun e W' he=>?_
 ·cases j with
  | zero=>
   cases hy;cases hv
   rcases Nat.eq_zero_or_pos len with h0|h0
   ·subst h0
    exact .p _ _ (.nils _ _ _)
   ·exact zeB (by simpa [Addr.add] using World.cell?_spot (hc 0 (by omega))) hl hz hc
  | succ j=>cases hy
 ·cases e with
  | returned r=>
   obtain⟨⟨v,h,x,μ,hk,hr⟩,hb⟩:=he;subst hk;exact⟨by rw[hr.p_bool],hb⟩
  | panicked _=>exact he.elim
  | outgrown=>exact he.elim
end Go.Am
namespace Go.ChangeShapes
open Go.RowKit Go.WideShapes
section
variable {H:Type} {enc:TypeId × Value→H} {P:Program}
end
end Go.ChangeShapes
end
section
/- The abstract machine,part L2: the kit's contracts asv rows. -/
set_option linter.unusedSimpArgs false
set_option linter.unusedVariables false
namespace Go.Am
variable {P:Program} {gl:Nat→Option PV}
open Go.Shelf
end Go.Am
end
