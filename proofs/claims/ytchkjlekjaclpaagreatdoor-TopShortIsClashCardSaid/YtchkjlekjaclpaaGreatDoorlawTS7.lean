/- Texts of the proof, laid together: SpBrd4, SpBrd5, PSplit, PTxt, PNum, PFlt, PFltR, SpIdx, AmL4, AmL5, SpSplit, SpLines, SpNum, SpNums, SpQNum, SpFlt1, SpFlt2, SpWords, SpBrd6, SpLawTS, Bridge, AmL2. -/
import Derived.Shelf.Strings.Repeat
import Derived.Shelf.Strings.SlTrimAscii
import Derived.Shelf.Spec.TrailingZeros
import Derived.Shelf.Strings.Count
import Derived.Shelf.Strings.OnBuilder
import Derived.KernelRfl
import Derived.ProofKit
import Derived.Shelf.Strconv.Itoa3
import Derived.Lib.LaidTab
import Derived.Test.YtchkjlekjaclpaaGreatDoorlawTS6
set_option linter.all false
section
/- A board's joins: their order,and what is wrong with them: the program. -/
open Go
set_option linter.all false
set_option maxRecDepth 100000
namespace Go.Am
variable {h:aA} {K:kA}
theorem or3 (a b c:Int):orL [a,b,c]=if a≠0 then a else if b≠0 then b else c:=by
 unfold orL orL orL;by_cases h1:a=0
 ·subst h1
  by_cases h2:b=0
  ·subst h2
   by_cases h3:c=0 <;> simp [orL,h3]
  ·simp [h2]
 ·simp [h1]
theorem zbW (x y:Jon):gA X gG [.p x.pv,.p y.pv] h K=K (AI (dI x y)) h []:=by
 refine cB ?_;rw[z3w rfl];have q1:=fun h K=>qL (h:=h) (K:=K) x.net y.net
 have q2:=fun h K=>qL (h:=h) (K:=K) x.part y.part
 have q3:=fun h K=>qL (h:=h) (K:=K) x.pin y.pin
 have q4:=fun h K=>zcc (h:=h) (K:=K) [xA x.net y.net,xA x.part y.part,xA x.pin y.pin] (by simp)
 rw[or3]at q4;simp only[AL,List.map_cons,List.map_nil]at q4;unfold dI;simp only[HM,Jon.pv,go_sem,↓q1,q1,↓q2,q2,↓q3,q3,↓q4,q4]
def Jon.bx (j:Jon):Obj:=.box [AS j.net,AS j.part,AS j.pin]
def spP (s:List UInt8 × List UInt8):PV:=.agg [.str s.1,.str s.2]
def SD (b:Bool):AV:=.p (.bool b)
theorem uV:BH spP:=fun a b=>by
 obtain⟨a1,a2⟩:=a;obtain⟨b1,b2⟩:=b;have e:decide ((a1,a2)=(b1,b2))=(decide (a1=b1)&&(decide (a2=b2)&&true)):=by rw[Bool.eq_iff_iff];simp
 rw[e];rfl
theorem vV {s:List UInt8 × List UInt8}:UB (some 2,[2,2]) (.p (spP s))=some (spP s):=by simp [spP,UB,PV.key,PV.shp,PV.sc,PV.cells,PV.kind]
def cD (l:List Jon):List ((List UInt8×List UInt8)×Bool):=l.map fun x=>((x.part,x.pin),true)
theorem XN (x:Jon):∀l:List Jon,aB (x.part,x.pin) (cD l)=if l.any (lE x) then some true else none
 | []=>rfl
 | y::l=>by
  have ih:=XN x l
  unfold cD at ih ⊢;rw[List.map_cons];unfold aB;rw[ih,List.any_cons];have e:((x.part,x.pin)=(y.part,y.pin))↔lE x y=true:=by
   unfold lE;simp only[Prod.mk.injEq,Bool.and_eq_true,decide_eq_true_eq];exact⟨fun h=>⟨h.1.symm,h.2.symm⟩,fun h=>⟨h.1.symm,h.2.symm⟩⟩
  by_cases hc:lE x y=true
  ·rw[if_pos (e.2 hc),hc];rfl
  ·have hf:lE x y=false:=by simpa using hc
   rw[if_neg (fun z=>hc (e.1 z)),hf,Bool.false_or]
theorem zdF (l:List Jon)(x:Jon)(h:l.any (lE x)=false):zC (x.part,x.pin) true (cD l)=cD (l++[x]):=by
 have:zB (x.part,x.pin) (cD l)=none:=by
  have e:=zdM (k:=(x.part,x.pin)) (l:=cD l)
  rw[XN,h]at e;simpa using e
 rw[wP this];unfold cD;simp
theorem zd7 (seen:List Jon)(x:Jon)(r:List Jon):twJ seen (x::r)=if seen.any (lE x) then true else twJ (seen++[x]) r:=rfl
theorem z8E (b:Brd)(p:Option Jon)(x:Jon)(r:List Jon):IE b p (x::r)=if cC x.net=false then 5 else if KI b x.part x.pin=false then 8 else if(match p with|some q=>decide (dI x q≤0)|none=>false)=true then 7 else IE b (some x) r:=rfl
attribute [-go_sem] yB gC
attribute [-go_sem] ZJ cG
theorem zcg {K:Ex→St→Prop}(b:Brd)(hl:b.joins.length≤100000)(env:List (Nat × AV))(b1:bA env 1 = .ref h.length 0)
 (f6:twJ [] b.joins=true→∀H,K .ret ⟨[(2,AI 6)],h++H,[]⟩) (f0:twJ [] b.joins=false→∀H,K .ret ⟨[(2,AI 0)],h++H,[]⟩) :
 NW (gA X) X.gl sI ⟨env,h++[YA b],[]⟩ K:=by
 rw[ZJ];have ln:(b.joins.map Jon.pv).length=b.joins.length:=List.length_map ..
 unfold YA;simp only[cG,b1,go_sem,ln];refine kC (fun k:Nat=>⟨[(5,.mp (h.length+1)),(51,.p (.sl (some 3) (b.joins.map Jon.pv))),(52,AI b.joins.length),(53,AI k)],h++[YA b,lB spP SD (cD (b.joins.take k))],[]⟩) (fun k=>k≤b.joins.length∧twJ (b.joins.take k) (b.joins.drop k)=twJ [] b.joins) (fun k=>b.joins.length-k) 0 rfl ⟨by omega,rfl⟩ ?_
 rintro k ⟨hk,hp⟩
 rcases Nat.lt_or_ge k b.joins.length with hlt|hge
 ·have g:=eC Jon.pv hlt
  have c1:IA (some 3) 0 b.joins[k].pv=some b.joins[k].pv:=rfl
  have w2:IntKind.i64.wrap ((k:Int)+1)=((k+1:Nat):Int):=eB _ (by omega) (by omega)
  rw[List.drop_eq_getElem_cons hlt,zd7]at hp;have tk:b.joins.take (k+1)=b.joins.take k++[b.joins[k]]:=List.take_succ_eq_append_getElem hlt
  rw[←tk]at hp;generalize hx:b.joins[k]=x at *;generalize b.joins.take k=S at *;generalize hb:YA b=bo at *;have lk:=fun(hp:aA) (e:hp[h.length+1]?=some (lB spP SD (cD S)))=>cO (kk:=(some 2,[2,2])) (k:=(x.part,x.pin)) uV e vV (ok:=false) (z:=SD false)
  have up:=fun(hp:aA) (e:hp[h.length+1]?=some (lB spP SD (cD S)))=>KV (kk:=(some 2,[2,2])) (k:=(x.part,x.pin)) uV e vV (v:=true) rfl
  have l1:=fun t=>lk (h++bo::lB spP SD (cD S)::t) (by simp)
  have u1:=fun t=>up (h++bo::lB spP SD (cD S)::t) (by simp)
  rw[XN]at l1;simp only[SD,spP,cond_false,TB,AV.top]at l1 u1;simp only[Jon.pv]at g c1;cases hc:S.any (lE x) with
  | true=>
   rw[hc,if_pos rfl]at hp;rw[hc]at l1;simp only[if_true,Option.map_some,Option.getD_some,SD]at l1;simp only[go_sem,hlt,g,c1,l1];exact f6 hp.symm _
  | false=>
   rw[hc,if_neg (by simp)]at hp
   rw[hc]at l1;have us:=zdF S x hc
   simp only[Bool.false_eq_true,if_false,Option.map_none,Option.getD_none,SD]at l1;have nl0:¬h.length+1<0:=by omega
   simp only[nl0,if_false]at u1;rw[us]at u1;simp only[go_sem,hlt,g,c1,l1,u1,w2];refine⟨k+1,?_,⟨by omega,hp⟩,by omega⟩
   rw[tk]
 ·have e:k=b.joins.length:=by omega
  subst e;rw[List.drop_length,List.take_length]at hp;simp only[go_sem,Nat.lt_irrefl];exact f0 hp.symm _
end Go.Am
end
section
/- A board's joins,its nets,the whole of it: the program. -/
open Go
set_option linter.all false
set_option maxRecDepth 100000
namespace Go.Am
variable {h:aA} {K:kA}
attribute [-go_sem] yB gC ZJ cG
structure JonsOk (b:Brd):Prop where
 l:b.joins.length≤12
 n:∀j∈b.joins,j.net.length≤1000000
theorem FG {α:Type}{l:List α}{k:Nat}(hk:k+1≤l.length):(l.take (k+1)).getLast?=l[k]?:=by
 rw[List.take_succ_eq_append_getElem (by omega),List.getLast?_append,List.getElem?_eq_getElem (by omega)]
 simp
theorem zcf (b:Brd)(hs:eF b.parts)(ho:AH b)(hj:JonsOk b):gA X lG [.p b.pv] h K=K (AI (HE b)) h []:=by
 refine cB ?_;rw[z33 rfl];have ln:(b.joins.map Jon.pv).length=b.joins.length:=List.length_map ..
 have hl:=hj.l
 unfold HE;have h1000:¬(1000:Int)<b.joins.length:=by omega
 rw[if_neg h1000];simp only[MJ,Brd.pv,go_sem,ln,h1000];refine kC (fun k:Nat=>⟨[(1,.ref h.length 0),(14,.p (.sl (some 3) (b.joins.map Jon.pv))),(15,AI b.joins.length),(16,AI k)],h++[YA b],[]⟩) (fun k=>k≤b.joins.length∧IE b (b.joins.take k).getLast? (b.joins.drop k)=IE b none b.joins) (fun k=>b.joins.length-k) 0 rfl ⟨by omega,rfl⟩ ?_
 rintro k ⟨hk,hp⟩
 rcases Nat.lt_or_ge k b.joins.length with hlt|hge
 ·have g:=eC Jon.pv hlt
  have c1:IA (some 3) 0 b.joins[k].pv=some b.joins[k].pv:=rfl
  have w2:IntKind.i64.wrap ((k:Int)+1)=((k+1:Nat):Int):=eB _ (by omega) (by omega)
  rw[List.drop_eq_getElem_cons hlt,z8E]at hp;have lg:(b.joins.take (k+1)).getLast?=some b.joins[k]:=by rw[FG (by omega),List.getElem?_eq_getElem hlt]
  have hx:=hj.n _ (List.getElem_mem hlt)
  have KY:=fun h K=>jP (h:=h) (K:=K) b.joins[k].net (by omega)
  have PN:=fun h K=>zci (h:=h) (K:=K) b b.joins[k].part b.joins[k].pin hs ho
  have BN:=fun(y:Jon) h K=>zbW (h:=h) (K:=K) b.joins[k] y
  generalize hxx:b.joins[k]=x at *;simp only[Jon.pv]at g c1 BN;simp only[Brd.pv]at PN;unfold YA;cases hkey:cC x.net with
  | false=>
   rw[hkey,if_pos rfl]at hp;rw[hkey]at KY;rw[←hp];simp only[go_sem,hlt,g,c1,↓KY,KY]
  | true=>
   rw[hkey,if_neg (by simp)]at hp
   rw[hkey]at KY;cases hpin:KI b x.part x.pin with
   | false=>
    rw[hpin,if_pos rfl]at hp;rw[hpin]at PN;rw[←hp];simp only[go_sem,hlt,g,c1,↓KY,KY,↓PN,PN]
   | true=>
    rw[hpin,if_neg (by simp)]at hp
    rw[hpin]at PN;cases k with
    | zero=>
     rw[List.take_zero,List.getLast?_nil,if_neg (by simp)]at hp
     have hlt0:(0:Int)<b.joins.length:=by omega
     simp only[go_sem,hlt,hlt0,g,c1,↓KY,KY,↓PN,PN,Int.lt_irrefl,show((0:Nat):Int)=0 from rfl,show IntKind.i64.wrap 1=1 from rfl]
     refine⟨1,rfl,⟨by omega,?_⟩,by omega⟩
     rw[lg];exact hp
    | succ m=>
     have hm:m<b.joins.length:=by omega
     have gm:=eC Jon.pv hm
     have cm:IA (some 3) 0 b.joins[m].pv=some b.joins[m].pv:=rfl
     have wm:IntKind.i64.wrap (((m+1:Nat):Int)-1)=(m:Int):=by rw[eB _ (by omega) (by omega)];omega
     have p1:(0:Int)<((m+1:Nat):Int):=by omega
     rw[FG (by omega),List.getElem?_eq_getElem hm]at hp
     generalize b.joins[m]=y at *;have BN':=BN y
     simp only[Jon.pv]at gm cm BN';by_cases hc:dI x y≤0
     ·rw[if_pos (by simp [hc])]at hp
      rw[←hp];simp only[go_sem,hlt,g,c1,↓KY,KY,↓PN,PN,p1,wm,hm,gm,cm,↓BN',BN',hc]
     ·rw[if_neg (by simp [hc])]at hp
      simp only[go_sem,hlt,g,c1,↓KY,KY,↓PN,PN,p1,wm,hm,gm,cm,↓BN',BN',hc,w2];refine⟨m+1+1,rfl,⟨by omega,?_⟩,by omega⟩
      rw[lg];exact hp
 ·have e:k=b.joins.length:=by omega
  subst e;rw[List.drop_length]at hp;have z:IE b none b.joins=0:=hp.symm
  rw[if_neg (by simp [z])]
  simp only[go_sem,Nat.lt_irrefl];refine zcg b (by omega) _ rfl (fun ht H=>?_) (fun ht H=>?_)
  ·rw[ht];simp only[go_sem]
  ·rw[ht];simp only[go_sem]
theorem z9S (us:List (List UInt8)):∀x∈us.map PV.str,∀y∈us.map PV.str,eA .eql (.p x) (.p y)=some (AB (eqN (unS x) (unS y))):=fun x hx y hy=>by
 obtain⟨a,_,rfl⟩:=List.mem_map.1 hx;obtain⟨b,_,rfl⟩:=List.mem_map.1 hy;simp only[go_sem];rfl
theorem z9T (us:List (List UInt8)):∀x∈us.map PV.str,∀y∈us.map PV.str,eA .neq (.p x) (.p y)=some (AB (!eqN (unS x) (unS y))):=fun x hx y hy=>by
 obtain⟨a,_,rfl⟩:=List.mem_map.1 hx;obtain⟨b,_,rfl⟩:=List.mem_map.1 hy;simp only[go_sem];rfl
theorem zbV (us:List (List UInt8))(id:Nat)(hl:us.length≤100000)(hh:h[id]?=some (.row none (us.map PV.str) 0)) :
 ∃xs:List PV,xs.length=us.length∧win xs 0 (mB eqN us).length=(mB eqN us).map PV.str∧(mB eqN us).length≤us.length∧LD none xs∧∀K:kA,gA X xF [.own id us.length 0 us.length] h K=K (.own id us.length 0 (mB eqN us).length) (h.set id (.row none xs 0)) []:=by
 have ec:mB (fun x y=>eqN (unS x) (unS y)) (us.map PV.str)=(mB eqN us).map PV.str:=z4h PV.str (fun x y=>rfl) _
 have cl:=z4g eqN us
 have C:=fun K=>dZ (h:=h) (K:=K) id (us.map PV.str) lX (by simpa using hl) hh (q:=fun x y=>eqN (unS x) (unS y)) (z9S us) (z9T us)
 rw[ec]at C;simp only[List.length_map]at C;refine⟨_,by simp;omega,by simp [win],cl,fun x hx=>?_,C⟩
 rcases List.mem_append.1 hx with hx|hx
 ·exact lX x hx
 ·rw[(List.mem_replicate.1 hx).2];rfl
theorem zch (b:Brd)(hl:b.joins.length≤100000):∃xs:List PV,xs.length=b.joins.length∧win xs 0 (fC b).length=(fC b).map PV.str∧(fC b).length≤b.joins.length∧LD none xs ∧
 ∀K:kA,gA X AD [.p b.pv] h K=K (.own (h.length+1) b.joins.length 0 (fC b).length) (h++[YA b,.row none xs 0]) []:=by
 have nl:(b.joins.map Jon.net).length=b.joins.length:=List.length_map ..
 obtain⟨xs,x1,x2,x3,x4,C⟩:=zbV (h:=h++[YA b,.row none ((b.joins.map Jon.net).map PV.str) 0]) (b.joins.map Jon.net) (h.length+1) (by simpa using hl) (by simp)
 rw[nl]at C x1 x3;have es:∀o,(h++[YA b,.row none ((b.joins.map Jon.net).map PV.str) 0]).set (h.length+1) o=h++[YA b,o]:=fun o=>by rw[List.set_append_right _ _ (by omega)];simp
 rw[es]at C;refine⟨xs,x1,x2,x3,x4,fun K=>cB ?_⟩
 rw[z34 rfl];have ln:(b.joins.map Jon.pv).length=b.joins.length:=List.length_map ..
 simp only[NJ,Brd.pv,go_sem,ln];refine kC (fun k:Nat=>⟨[(3,.own (h.length+1) k 0 k),(7,.p (.sl (some 3) (b.joins.map Jon.pv))),(8,AI b.joins.length),(9,AI k)],h++[YA b,.row none (((b.joins.map Jon.net).take k).map PV.str) 0],[]⟩) (fun k=>k≤b.joins.length) (fun k=>b.joins.length-k) 0 (by simp;rfl) (by omega) ?_
 intro k hk;unfold YA;rcases Nat.lt_or_ge k b.joins.length with hlt|hge
 ·have g:=eC Jon.pv hlt
  have c1:IA (some 3) 0 b.joins[k].pv=some b.joins[k].pv:=rfl
  have w2:IntKind.i64.wrap ((k:Int)+1)=((k+1:Nat):Int):=eB _ (by omega) (by omega)
  have hn:k<(b.joins.map Jon.net).length:=by simpa using hlt
  have tk:(b.joins.map Jon.net).take (k+1)=(b.joins.map Jon.net).take k++[b.joins[k].net]:=by rw[List.take_succ_eq_append_getElem hn];simp
  have tl:(((b.joins.map Jon.net).take k).map PV.str).length=k:=by simp;omega
  have hm:k+1≤oB:=by unfold oB;omega
  generalize b.joins[k]=x at *;simp only[Jon.pv]at g c1;simp only[go_sem,hlt,g,c1,w2,tl,hm];refine⟨k+1,?_,by omega,by omega⟩
  rw[tk];simp
 ·have e:k=b.joins.length:=by omega
  subst e;have t0:(b.joins.map Jon.net).take b.joins.length=b.joins.map Jon.net:=List.take_of_length_le (by simp)
  unfold YA at C;unfold fC;rw[t0];generalize (b.joins.map Jon.net).map PV.str=us at *;simp only[go_sem,Nat.lt_irrefl,↓C,C];exact List.take_of_length_le (by simp;omega)
theorem xV (a b:List UInt8):(Op.bytesLess a b||decide (a=b))=decide (xA a b≤0):=by
 rw[nR,Bool.eq_iff_iff];unfold ltS;simp only[Bool.or_eq_true,decide_eq_true_eq];constructor
 ·rintro (h|h)
  ·omega
  ·rw[h,GJ];omega
 ·intro h
  by_cases e:xA a b=0
  ·exact .inr (zM e)
  ·exact .inl (by omega)
end Go.Am
end
section
/- A text split at a byte. -/
set_option linter.all false
namespace Go.Am
end Go.Am
end
section
/- A text read line by line. -/
set_option linter.all false
namespace Go.Am
end Go.Am
end
section
/- Numbers in texts. -/
set_option linter.all false
namespace Go.Am
end Go.Am
end
section
/- Faults of nets: what the words mean,in plain Lean. -/
set_option linter.all false
namespace Go.Am
structure Flt where
 kind:Int
 nets:List Int
 deriving DecidableEq
end Go.Am
end
section
/- Faults read: the program's line and the reference's line agree. -/
set_option linter.all false
namespace Go.Am
end Go.Am
end
section
/- Where a byte stands in a text. -/
open Go
set_option linter.all false
namespace Go.Am
variable {h:aA} {K:kA}
end Go.Am
end
section
/- The abstract machine,part L4: strings.Repeat,strings.Trim,math/bits.TrailingZeros64 asv rows. -/
set_option linter.all false
namespace Go.Am
variable {P:Program} {gl:Nat→Option PV}
open Go.Shelf
theorem z2L {w w':World}(h:Go.RowKit.Below w.heap.size w w'):WExt w w':=⟨h.size,fun b hb=>h.block b hb,by unfold zed;rw[h.os,h.tape,h.output]⟩
theorem z98 (s cs:List UInt8):Go.Lib.trimS s cs=sX s cs:=rfl
theorem trimRow {ρ:Ren}(L:Go.Proofs.Lays.n160 P ρ)(h116:(P.info? (ρ.t 116)).map (fun i=>(i.zero,i.size))=some (some (.agg (Array.replicate 256 (.bool false))),256))(he:∀ us w,(callFunc (ρ.f 160) us).run P w = .ok (.enter (ρ.f 160) us) w):PureRow P gl (ρ.f 160) trimS where
 enter:=he
 run M w vs r us hc hb hG hl hr hs:=by
  unfold trimS at hs;split at hs
  ·rename_i s cs
   split at hs
   ·rename_i hbd
    match us,hl with
    | [u,v],_=>
     have q:=hr 0 _ u rfl rfl
     cases q;have q2:=hr 1 _ v rfl rfl
     cases q2;simp only[Option.some.injEq]at hs
     subst hs;have hsz:∀l:List UInt8,(⟨l.toArray⟩:ByteArray).size=l.length:=fun l=>by simp [ByteArray.size]
     refine(Go.Proofs.Any.strings_Trim_laid L h116 ⟨s.toArray⟩ ⟨cs.toArray⟩ w (by rw[hsz];omega) (by rw[hsz];omega) (Go.Proofs.ascii_of_all hbd.2.2)).mono fun e w' h=>?_
     obtain⟨rfl,h⟩:=h;exact⟨_,rfl,z2L h,by rw[←z98];exact .p _ _ (.str _)⟩
   ·cases hs
  ·cases hs
end Go.Am
end
section
/- The abstract machine,part L5: strings.Count at one byte,strings.Join asv rows. -/
set_option linter.all false
namespace Go.Am
variable {P:Program} {gl:Nat→Option PV}
open Go.Shelf
end Go.Am
end
section
/- Texts split at a byte. -/
open Go
set_option linter.all false
namespace Go.Am
variable {h:aA} {K:kA}
end Go.Am
end
section
/- Lines of a text. -/
open Go
set_option linter.all false
namespace Go.Am
variable {h:aA} {K:kA}
end Go.Am
end
section
/- Numbers read. -/
open Go
set_option linter.all false
namespace Go.Am
variable {h:aA} {K:kA}
end Go.Am
end
section
/- Several numbers read. -/
open Go
set_option linter.all false
namespace Go.Am
variable {h:aA} {K:kA}
end Go.Am
end
section
/- Numbers read,the reference's way. -/
open Go
set_option linter.all false
namespace Go.Am
variable {h:aA} {K:kA}
end Go.Am
end
section
/- Tests and faults: what is wrong with them,both ways. -/
open Go
set_option linter.all false
namespace Go.Am
variable {h:aA} {K:kA}
end Go.Am
end
section
/- Faults: what is wrong with them,both ways. -/
open Go
set_option linter.all false
namespace Go.Am
variable {h:aA} {K:kA}
def Flt.pv (f:Flt):PV:=.agg [eI f.kind,.sl none (f.nets.map eI)]
attribute [-go_sem] RJ
end Go.Am
end
section
/- Where a string stands among strings;words. -/
open Go
set_option linter.all false
namespace Go.Am
variable {h:aA} {K:kA}
theorem z0e {v:AV}(l:List (List UInt8))(hv:Shows none v (l.map PV.str) h)(x:List UInt8)(hl:l.length≤1000000):gA X FE [v,AS x] h K=K (AI (if l.findIdx (fun y=>decide (y=x))<l.length then(l.findIdx (fun y=>decide (y=x)):Int) else -1)) h []:=by
 refine cB ?_;rw[z3J];have vl:=hv.len
 rw[List.length_map]at vl;simp only[WJ,go_sem,vl];refine kC (fun k:Nat=>⟨[(0,v),(1,AS x),(7,AI l.length),(8,AI k)],h,[]⟩) (fun k=>k≤l.length∧∀y∈l.take k,decide (y=x)=false) (fun k=>l.length-k) 0 rfl (by simp) ?_
 rintro k ⟨hk,hn⟩
 rcases Nat.lt_or_ge k l.length with hlt|hge
 ·obtain⟨a,ha,hb⟩:=hv.get k (by simpa using hlt)
  rw[List.getElem_map]at hb;have w2:IntKind.i64.wrap ((k:Int)+1)=((k+1:Nat):Int):=eB _ (by omega) (by omega)
  by_cases hpk:x=l[k]
  ·have hf:l.findIdx (fun y=>decide (y=x))=k:=by
    rw[List.findIdx_eq hlt];refine⟨by simp [hpk],fun j hj=>?_⟩
    have:=hn l[j] (by rw[List.mem_take_iff_getElem];exact⟨j,by omega,rfl⟩)
    simpa using this
   simp only[go_sem,hlt,ha,hb,hpk.symm,w2];simp only[hf,hlt,if_true]
  ·simp only[go_sem,hlt,ha,hb,hpk,w2]
   refine⟨k+1,rfl,⟨by omega,fun y hy=>?_⟩,by omega⟩
   rw[List.take_succ_eq_append_getElem hlt,List.mem_append,List.mem_singleton]at hy;rcases hy with hy|hy
   ·exact hn y hy
   ·rw[hy];simp;exact fun e=>hpk e.symm
 ·have e1:k=l.length:=by omega
  subst e1;simp only[go_sem,Nat.lt_irrefl];rw[List.take_length]at hn;have:¬l.findIdx (fun y=>decide (y=x))<l.length:=by
   rw[Nat.not_lt,Nat.le_iff_lt_or_eq];right
   exact(List.findIdx_eq_length.2 (fun y hy=>by simp [hn y hy])).symm
  rw[if_neg this]
theorem eZ {v:AV}(l:List (List UInt8))(hv:∀ h':aA,h'=h→Shows none v (l.map PV.str) h')(x:List UInt8)(hl:l.length≤1000000):gA X EE [v,AS x] h K=K (AB (l.contains x)) h []:=by
 refine cB ?_;rw[z3H];have e:=fun K=>z0e (h:=h) (K:=K) l (hv h rfl) x hl
 have hd:decide (0≤(if l.findIdx (fun y=>decide (y=x))<l.length then(l.findIdx (fun y=>decide (y=x)):Int) else -1))=l.contains x:=by
  rw[Bool.eq_iff_iff,decide_eq_true_eq,List.contains_iff_mem];constructor
  ·intro hq
   split at hq
   ·rename_i hlt
    have:=List.findIdx_getElem (w:=hlt);simp only[decide_eq_true_eq]at this;exact this ▸ List.getElem_mem hlt
   ·omega
  ·intro hm
   rw[if_pos (List.findIdx_lt_length_of_exists ⟨x,hm,by simp⟩)];omega
 simp only[pN,go_sem,e,hd]
end Go.Am
end
section
/- A board,whole: the program. -/
open Go
set_option linter.all false
set_option maxRecDepth 100000
namespace Go.Am
variable {h:aA} {K:kA}
attribute [-go_sem] yB gC
theorem iW (p:Option Prt)(x:Prt)(r:List Prt):JC p (x::r)=if cC x.key=false then 5 else if(match p with|some q=>decide (xA x.key q.key≤0)|none=>false)=true then 7 else if TD x.cells≠0 then TD x.cells else JC (some x) r:=rfl
theorem zbj (nets:List (List UInt8))(p:Option Pul)(x:Pul)(r:List Pul):jH nets p (x::r)=if nets.contains x.net=false then 8 else if inB 0 x.level 1=false then 1 else if(match p with|some q=>decide (xA x.net q.net≤0)|none=>false)=true then 7 else jH nets (some x) r:=rfl
theorem jW:∀ (l:List Prt)(p:Option Prt),JC p l=0→(∀q,p=some q→∀x∈l,xA q.key x.key<0)∧eF l∧∀x∈l,cC x.key=true∧TD x.cells=0
 | [],p,_=>⟨fun _ _ _ h=>(by cases h),List.Pairwise.nil,fun _ h=>(by cases h)⟩
 | x::r,p,h=>by
  rw[iW]at h;cases hk:cC x.key with
  | false=>rw[hk,if_pos rfl]at h;cases h
  | true=>
   rw[hk,if_neg (by simp)]at h
   generalize hb:(match p with|some q=>decide (xA x.key q.key≤0)|none=>false)=c7 at h
   cases c7 with
   | true=>rw[if_pos rfl]at h;cases h
   | false=>
    rw[if_neg (by simp)]at h
    by_cases hc:TD x.cells=0
    ·rw[if_neg (by simp [hc])]at h
     obtain⟨i1,i2,i3⟩:=jW r (some x) h;have i1':=i1 x rfl
     have px:∀q,p=some q→xA q.key x.key<0:=fun q hq=>by
      subst hq;simp only[decide_eq_false_iff_not]at hb;have:=AM x.key q.key;omega
     refine⟨fun q hq y hy=>?_,List.pairwise_cons.2 ⟨i1',i2⟩,fun y hy=>?_⟩
     ·rcases List.mem_cons.1 hy with e|hy
      ·rw[e];exact px q hq
      ·exact BM (px q hq) (i1' y hy)
     ·rcases List.mem_cons.1 hy with e|hy
      ·rw[e];exact⟨hk,hc⟩
      ·exact i3 y hy
    ·rw[if_pos hc]at h;exact absurd h hc
structure BrdOk (b:Brd):Prop where
 c:AH b
 j:JonsOk b
 p:b.pulls.length≤1000
 k:∀p∈b.parts,p.key.length≤1000000
attribute [-go_sem] yN bG
theorem zbU {K:Ex→St→Prop}(b:Brd)(ho:BrdOk b)(hs:eF b.parts)(env:List (Nat × AV))(b1:bA env 1 = .ref h.length 0)(v:Int)
 (hv:(if HE b≠0 then HE b else if(100:Int)<(fC b).length then 2 else jH (fC b) none b.pulls)=v)
 (fin:∀H,K .ret ⟨[(2,AI v)],h++H,[]⟩) :
 NW (gA X) X.gl nI ⟨env,h++[YA b],[]⟩ K:=by
 rw[yN];have JF:=fun h K=>zcf (h:=h) (K:=K) b hs ho.c ho.j
 have ln:(b.pulls.map Pul.pv).length=b.pulls.length:=List.length_map ..
 have hl:=ho.p
 obtain⟨xs,x1,x2,x3,x4,NM⟩:=zch (h:=h++[YA b]) b (by have:=ho.j.l;omega)
 simp only[Brd.pv]at JF NM;unfold YA at NM ⊢;by_cases hz:HE b=0
 ·rw[if_neg (by simp [hz])]at hv
  rw[hz]at JF;have j12:=ho.j.l
  have h100:¬(100:Int)<(fC b).length:=by omega
  rw[if_neg h100]at hv;simp only[bG,b1,go_sem,↓JF,JF,↓NM,NM,h100,ln];refine kC (fun k:Nat=>⟨[(1,.ref h.length 0),(7,.own (h.length+1+1) b.joins.length 0 (fC b).length),(59,.p (.sl (some 2) (b.pulls.map Pul.pv))),(60,AI b.pulls.length),(61,AI k)],h++[YA b,YA b,.row none xs 0],[]⟩) (fun k=>k≤b.pulls.length∧jH (fC b) (b.pulls.take k).getLast? (b.pulls.drop k)=v) (fun k=>b.pulls.length-k) 0 (by first|rfl|skip) ⟨by omega,hv⟩ ?_
  rintro k ⟨hk,hp⟩
  have SH:∀T:aA,Shows none (.own (h.length+1+1) b.joins.length 0 (fC b).length) ((fC b).map PV.str) (h++YA b::YA b :: .row none xs 0::T):=fun T=>by
   have:=zcz (h:=h++YA b::YA b :: .row none xs 0::T) (id:=h.length+1+1) (off:=0) (len:=(fC b).length) (fz:=0) x4 (by rw[List.getElem?_append_right (by omega),show h.length+1+1-h.length=2 by omega];rfl) (by omega)
   rw[x1,x2]at this;exact this
  have CT:=fun(T:aA) (s:List UInt8) K=>eZ (h:=h++YA b::YA b :: .row none xs 0::T) (K:=K) (fC b) (fun h' e=>by rw[e];exact SH T) s (by omega)
  unfold YA at CT ⊢;rcases Nat.lt_or_ge k b.pulls.length with hlt|hge
  ·have g:=eC Pul.pv hlt
   have c1:IA (some 2) 0 b.pulls[k].pv=some b.pulls[k].pv:=rfl
   have w2:IntKind.i64.wrap ((k:Int)+1)=((k+1:Nat):Int):=eB _ (by omega) (by omega)
   rw[List.drop_eq_getElem_cons hlt,zbj]at hp;have lg:(b.pulls.take (k+1)).getLast?=some b.pulls[k]:=by rw[FG (by omega),List.getElem?_eq_getElem hlt]
   generalize hxx:b.pulls[k]=x at *;have CX:=fun T K=>CT T x.net K
   have OB:=fun h K=>pL (h:=h) (K:=K) x.level 0 1
   simp only[Pul.pv,eI]at g c1;cases hcn:(fC b).contains x.net with
   | false=>
    rw[hcn,if_pos rfl]at hp;rw[hcn]at CX;subst hp;simp only[go_sem,hlt,g,c1,↓CX,CX];exact fin _
   | true=>
    rw[hcn,if_neg (by simp)]at hp
    rw[hcn]at CX;cases hlv:inB 0 x.level 1 with
    | false=>
     rw[hlv,if_pos rfl]at hp;rw[hlv]at OB;subst hp;simp only[go_sem,hlt,g,c1,↓CX,CX,↓OB,OB];exact fin _
    | true=>
     rw[hlv,if_neg (by simp)]at hp
     rw[hlv]at OB;cases k with
     | zero=>
      rw[List.take_zero,List.getLast?_nil,if_neg (by simp)]at hp
      have hlt0:(0:Int)<b.pulls.length:=by omega
      simp only[go_sem,hlt,hlt0,g,c1,↓CX,CX,↓OB,OB,Int.lt_irrefl,show((0:Nat):Int)=0 from rfl,show IntKind.i64.wrap 1=1 from rfl]
      refine⟨1,rfl,⟨by omega,?_⟩,by omega⟩
      rw[lg];exact hp
     | succ m=>
      have hm:m<b.pulls.length:=by omega
      have gm:=eC Pul.pv hm
      have cm:IA none 0 b.pulls[m].pv=some (.str b.pulls[m].net):=rfl
      have wm:IntKind.i64.wrap (((m+1:Nat):Int)-1)=(m:Int):=by rw[eB _ (by omega) (by omega)];omega
      have p1:(0:Int)<((m+1:Nat):Int):=by omega
      rw[FG (by omega),List.getElem?_eq_getElem hm]at hp
      generalize b.pulls[m]=y at *;have le:=xV x.net y.net
      by_cases hc:xA x.net y.net≤0
      ·rw[if_pos (by simp [hc])]at hp
       subst hp;simp only[go_sem,hlt,g,c1,↓CX,CX,↓OB,OB,p1,wm,hm,gm,cm,le,hc];exact fin _
      ·rw[if_neg (by simp [hc])]at hp
       simp only[go_sem,hlt,g,c1,↓CX,CX,↓OB,OB,p1,wm,hm,gm,cm,le,hc,w2];refine⟨m+1+1,rfl,⟨by omega,?_⟩,by omega⟩
       rw[lg];exact hp
  ·have e:k=b.pulls.length:=by omega
   subst e;rw[List.drop_length]at hp;have z:v=0:=hp.symm
   subst z;simp only[go_sem,Nat.lt_irrefl];exact fin _
 ·rw[if_pos hz]at hv
  subst hv;have e12:eA .neq (.p (.int .i64 (HE b))) (.p (.int .i64 0))=some (AB true):=by simp only[go_sem,hz]
  simp only[bG,b1,go_sem,↓JF,JF,↓e12];exact fin _
theorem wR {b:Brd}(ho:AH b){p:Prt}(hp:p∈b.parts):(∀c∈p.cells,c.pin.length≤1000000)∧p.cells.length≤100000:=⟨(ho.2 p hp).2,(ho.2 p hp).1⟩
theorem zbT (b:Brd)(ho:BrdOk b):gA X AE [.p b.pv] h K=K (AI (pM b)) h []:=by
 refine cB ?_;rw[z3v rfl];have ln:(b.parts.map Prt.pv).length=b.parts.length:=List.length_map ..
 unfold pM;by_cases h40:(40:Int)<b.parts.length
 ·rw[if_pos h40]
  simp only[KH,Brd.pv,go_sem,ln,h40]
 rw[if_neg h40];simp only[KH,Brd.pv,go_sem,ln,h40];refine kC (fun k:Nat=>⟨[(1,.ref h.length 0),(15,yH b.parts),(16,AI b.parts.length),(17,AI k)],h++[YA b],[]⟩) (fun k=>k≤b.parts.length∧JC (b.parts.take k).getLast? (b.parts.drop k)=JC none b.parts) (fun k=>b.parts.length-k) 0 rfl ⟨by omega,rfl⟩ ?_
 rintro k ⟨hk,hp⟩
 unfold YA;rcases Nat.lt_or_ge k b.parts.length with hlt|hge
 ·have g:=eC Prt.pv hlt
  have c1:IA (some 2) 0 b.parts[k].pv=some b.parts[k].pv:=rfl
  have w2:IntKind.i64.wrap ((k:Int)+1)=((k+1:Nat):Int):=eB _ (by omega) (by omega)
  rw[List.drop_eq_getElem_cons hlt,iW]at hp;have lg:(b.parts.take (k+1)).getLast?=some b.parts[k]:=by rw[FG (by omega),List.getElem?_eq_getElem hlt]
  have xm:=List.getElem_mem hlt
  generalize hxx:b.parts[k]=x at *;have KY:=fun h K=>jP (h:=h) (K:=K) x.key (by have:=ho.k x xm;omega)
  have CF:=fun h K=>zbY (h:=h) (K:=K) x (wR ho.c xm).1 (wR ho.c xm).2
  simp only[Prt.pv]at g c1 CF;cases hkey:cC x.key with
  | false=>
   rw[hkey,if_pos rfl]at hp;rw[hkey]at KY;rw[←hp];simp only[go_sem,hlt,g,c1,↓KY,KY]
  | true=>
   rw[hkey,if_neg (by simp)]at hp
   rw[hkey]at KY;generalize hz:TD x.cells=z at *;have stp:(if z≠0 then z else JC (some x) (b.parts.drop (k+1)))=JC none b.parts→((z≠0∧JC none b.parts=z)∨(z=0∧JC (some x) (b.parts.drop (k+1))=JC none b.parts)):=fun e=>by
    by_cases q:z=0
    ·right;rw[if_neg (by simp [q])]at e;exact⟨q,e⟩
    ·left;rw[if_pos q]at e;exact⟨q,e.symm⟩
   cases k with
   | zero=>
    rw[List.take_zero,List.getLast?_nil,if_neg (by simp)]at hp
    have hlt0:(0:Int)<b.parts.length:=by omega
    rcases stp hp with⟨q,e⟩|⟨q,e⟩
    ·rw[e,if_pos q]
     have e12:eA .neq (.p (.int .i64 z)) (.p (.int .i64 0))=some (AB true):=by simp only[go_sem,q]
     simp only[go_sem,hlt,hlt0,g,c1,↓KY,KY,Int.lt_irrefl,show((0:Nat):Int)=0 from rfl,↓CF,CF,↓e12]
    ·subst q
     simp only[go_sem,hlt,hlt0,g,c1,↓KY,KY,Int.lt_irrefl,show((0:Nat):Int)=0 from rfl,↓CF,CF,show IntKind.i64.wrap 1=1 from rfl]
     refine⟨1,rfl,⟨by omega,?_⟩,by omega⟩
     rw[lg];exact e
   | succ m=>
    have hm:m<b.parts.length:=by omega
    have gm:=eC Prt.pv hm
    have cm:IA none 0 b.parts[m].pv=some (.str b.parts[m].key):=rfl
    have wm:IntKind.i64.wrap (((m+1:Nat):Int)-1)=(m:Int):=by rw[eB _ (by omega) (by omega)];omega
    have p1:(0:Int)<((m+1:Nat):Int):=by omega
    rw[FG (by omega),List.getElem?_eq_getElem hm]at hp
    generalize b.parts[m]=y at *;have le:=xV x.key y.key
    by_cases hc:xA x.key y.key≤0
    ·rw[if_pos (by simp [hc])]at hp
     rw[←hp,if_pos (by decide)]
     simp only[go_sem,hlt,g,c1,↓KY,KY,p1,wm,hm,gm,cm,le,hc]
    ·rw[if_neg (by simp [hc])]at hp
     rcases stp hp with⟨q,e⟩|⟨q,e⟩
     ·rw[e,if_pos q]
      have e12:eA .neq (.p (.int .i64 z)) (.p (.int .i64 0))=some (AB true):=by simp only[go_sem,q]
      simp only[go_sem,hlt,g,c1,↓KY,KY,p1,wm,hm,gm,cm,le,hc,↓CF,CF,↓e12]
     ·subst q
      simp only[go_sem,hlt,g,c1,↓KY,KY,p1,wm,hm,gm,cm,le,hc,↓CF,CF,w2];refine⟨m+1+1,rfl,⟨by omega,?_⟩,by omega⟩
      rw[lg];exact e
 ·have e:k=b.parts.length:=by omega
  subst e;rw[List.drop_length]at hp;have z:JC none b.parts=0:=hp.symm
  rw[if_neg (by simp [z])]
  simp only[go_sem,Nat.lt_irrefl];refine zbU b ho (jW _ _ z).2.1 _ rfl _ rfl fun H=>?_
  simp only[go_sem]
end Go.Am
end
section
/- TopShortIsClash returns true. -/
open Go
set_option linter.all false
set_option maxRecDepth 100000
namespace Go.Am
variable {h:aA} {K:kA}
def cel0 (k:Int)(p:UInt8):Cel:=⟨k,[p],-1,0⟩
def jn0 (a b:UInt8):Jon:=⟨[110],[a],[b]⟩
def bd0:Brd:=⟨[⟨[117],[cel0 2 97,cel0 2 98]⟩,⟨[118],[cel0 1 97,cel0 1 98]⟩],[jn0 117 97,jn0 117 98,jn0 118 97,jn0 118 98],[]⟩
theorem z2G:pM bd0=0:=by kernel_rfl
theorem z2H:BrdOk bd0:=by
 refine⟨?_,⟨?_,?_⟩,?_,?_⟩
 ·unfold AH;decide
 all_goals decide
def cel (k:Int)(p:UInt8):PV:=.agg [.int .i64 k,.str [p],.int .i64 (-1),.int .i64 0]
def jn (a b:UInt8):PV:=.agg [.str [110],.str [a],.str [b]]
def BD:PV:=.agg [.sl (some 2) [.agg [.str [117],.sl (some 4) [cel 2 97,cel 2 98]],.agg [.str [118],.sl (some 4) [cel 1 97,cel 1 98]]],.sl (some 3) [jn 117 97,jn 117 98,jn 118 97,jn 118 98],.sl (some 2) []]
theorem z2I:bd0.pv=BD:=rfl
def IC (f:Nat)(a:List AV):Option AV:=bif Nat.beq f AE then match a with
 | [.p q]=>bif PV.same q BD then some (AI 0) else none
 | _=>none else none
theorem ZC:∀ f a v,IC f a=some v→∀h (K:kA),K v h []→gA X f a h K:=by
 intro f a v hv h K hK;unfold IC at hv;cases hf:Nat.beq f AE with
 | false=>rw[hf]at hv;cases hv
 | true=>
  have hf':=Nat.eq_of_beq_eq_true hf
  rw[hf]at hv;subst hf';simp only[cond_true]at hv;split at hv
  ·rename_i q
   cases hc:PV.same q BD with
   | false=>rw[hc]at hv;cases hv
   | true=>
    rw[hc]at hv;simp only[cond_true,Option.some.injEq]at hv;have:=PV.same_eq _ _ hc;subst this;rw[←z2I,zbT bd0 z2H,z2G];subst hv;exact hK
  ·cases hv
def bxC:List AV:=[.p (.sl (some 2) [.agg [.str [117],.sl (some 4) [.agg [.int .i64 2,.str [97],.int .i64 (-1),.int .i64 0],.agg [.int .i64 2,.str [98],.int .i64 (-1),.int .i64 0]]],.agg [.str [118],.sl (some 4) [.agg [.int .i64 1,.str [97],.int .i64 (-1),.int .i64 0],.agg [.int .i64 1,.str [98],.int .i64 (-1),.int .i64 0]]]]),.p (.sl (some 3) [.agg [.str [110],.str [117],.str [97]],.agg [.str [110],.str [117],.str [98]],.agg [.str [110],.str [118],.str [97]],.agg [.str [110],.str [118],.str [98]]]),.sl0 (some 2)]
theorem z3s:([.p (.sl (some 2) [.agg [.str [117],.sl (some 4) [.agg [.int .i64 2,.str [97],.int .i64 (-1),.int .i64 0],.agg [.int .i64 2,.str [98],.int .i64 (-1),.int .i64 0]]],.agg [.str [118],.sl (some 4) [.agg [.int .i64 1,.str [97],.int .i64 (-1),.int .i64 0],.agg [.int .i64 1,.str [98],.int .i64 (-1),.int .i64 0]]]]),.p (.sl (some 3) [.agg [.str [110],.str [117],.str [97]],.agg [.str [110],.str [117],.str [98]],.agg [.str [110],.str [118],.str [97]],.agg [.str [110],.str [118],.str [98]]]),.sl0 (some 2)]:List AV)=bxC:=rfl
def hp0 (L:List Int):aA:=[SA L 2,.box bxC]
def RH:PV:=.agg [.int .i64 3,.sl none [.int .i64 0,.int .i64 1]]
set_option maxRecDepth 1000000
def rC (p q c:UInt8):AV:=.tup [.p (.sl none [.str [p,q],.str [c,c]]),AI 0]
def rR (c:UInt8):AV:=.tup [.p (.sl none [.str [c],.str [c]]),AI 0]
theorem z3T (L:List Int):aC X IC 1000 60 ZD [.agg bxC,.p (.sl none [.str [48,48],.str [48,48]])] (hp0 L)=some (rC 48 48 48,hp0 L,[]):=by kernel_rfl
theorem z3Y (L:List Int):aC X IC 1000 60 aE [.agg bxC,.p (.sl none [.str [48,48],.str [48,48]])] (hp0 L)=some (.tup [.p (.sl none []),AI 0],hp0 L,[]):=by kernel_rfl
theorem zb4 (L:List Int):aC X IC 1000 60 jD [.p (.sl none [.str [48],.str [48]]),.p RH] (hp0 L)=some (rR 48,hp0 L,[]):=by kernel_rfl
theorem z3U (L:List Int):aC X IC 1000 60 ZD [.agg bxC,.p (.sl none [.str [48,49],.str [48,48]])] (hp0 L)=some (rC 48 49 48,hp0 L,[]):=by kernel_rfl
theorem z3Z (L:List Int):aC X IC 1000 60 aE [.agg bxC,.p (.sl none [.str [48,49],.str [48,48]])] (hp0 L)=some (.tup [.p (.sl none [.str [110]]),AI 0],hp0 L,[]):=by kernel_rfl
theorem zb5 (L:List Int):aC X IC 1000 60 jD [.p (.sl none [.str [48],.str [49]]),.p RH] (hp0 L)=some (rR 48,hp0 L,[]):=by kernel_rfl
theorem z3V (L:List Int):aC X IC 1000 60 ZD [.agg bxC,.p (.sl none [.str [49,48],.str [48,48]])] (hp0 L)=some (rC 49 48 48,hp0 L,[]):=by kernel_rfl
theorem z4a (L:List Int):aC X IC 1000 60 aE [.agg bxC,.p (.sl none [.str [49,48],.str [48,48]])] (hp0 L)=some (.tup [.p (.sl none [.str [110]]),AI 0],hp0 L,[]):=by kernel_rfl
theorem zb6 (L:List Int):aC X IC 1000 60 jD [.p (.sl none [.str [49],.str [48]]),.p RH] (hp0 L)=some (rR 48,hp0 L,[]):=by kernel_rfl
theorem z3W (L:List Int):aC X IC 1000 60 ZD [.agg bxC,.p (.sl none [.str [49,49],.str [48,48]])] (hp0 L)=some (rC 49 49 49,hp0 L,[]):=by kernel_rfl
theorem z4b (L:List Int):aC X IC 1000 60 aE [.agg bxC,.p (.sl none [.str [49,49],.str [48,48]])] (hp0 L)=some (.tup [.p (.sl none []),AI 0],hp0 L,[]):=by kernel_rfl
theorem zb7 (L:List Int):aC X IC 1000 60 jD [.p (.sl none [.str [49],.str [49]]),.p RH] (hp0 L)=some (rR 49,hp0 L,[]):=by kernel_rfl
theorem lW (L:List Int)(a:Int)(hp:PC 0 a):oD [[48],[49]] L a=[48]∨oD [[48],[49]] L a=[49]:=by
 have:=QV L a 2 (by omega) (by omega)
 unfold oD;have h2:(wC L a 2).toNat=0∨(wC L a 2).toNat=1:=by omega
 simp only[List.length_cons,List.length_nil];rcases h2 with e|e <;> simp [e]
theorem SW (k:Int)(p:List UInt8):gA X dE [AI k,AS p] h K=K (.p (.agg [.int .i64 k,.str p,.int .i64 (-1),.int .i64 0])) h []:=by
 refine cB ?_;rw[z3D rfl];simp only[kN,go_sem]
set_option maxHeartbeats 0 in
theorem law_TS (L:List Int){K:kA}:gA X iK [AL L] [] K=K (AB true) [] []:=by
 refine cB ?_;rw[z3C rfl];have p0:PC 0 0:=by unfold PC;omega
 have p1:PC 0 1:=by unfold PC;omega
 have h1:=lW L 0 p0
 have h2:=lW L 1 p1
 simp (config:={ maxSteps:=4000000 }) only[jN,↓SW,SW,go_sem,p0,p1];rw[z3s];generalize oD [[48],[49]] L 0=P at *;generalize oD [[48],[49]] L 1=Q at *;have cap00:=fun K=>propext (KC ZC 1000 60 (z3T L) K)
 have cap01:=fun K=>propext (KC ZC 1000 60 (z3U L) K)
 have cap10:=fun K=>propext (KC ZC 1000 60 (z3V L) K)
 have cap11:=fun K=>propext (KC ZC 1000 60 (z3W L) K)
 have cla00:=fun K=>propext (KC ZC 1000 60 (z3Y L) K)
 have cla01:=fun K=>propext (KC ZC 1000 60 (z3Z L) K)
 have cla10:=fun K=>propext (KC ZC 1000 60 (z4a L) K)
 have cla11:=fun K=>propext (KC ZC 1000 60 (z4b L) K)
 have res00:=fun K=>propext (KC ZC 1000 60 (zb4 L) K)
 have res01:=fun K=>propext (KC ZC 1000 60 (zb5 L) K)
 have res10:=fun K=>propext (KC ZC 1000 60 (zb6 L) K)
 have res11:=fun K=>propext (KC ZC 1000 60 (zb7 L) K)
 have ld:ldB (some 3) 0 (hp0 L)[1]?=some (.agg bxC):=rfl
 simp only[rC,rR,RH]at cap00 cap01 cap10 cap11 res00 res01 res10 res11;rw[show([SA L 2,Obj.box bxC]:aA)=hp0 L from rfl]
 have hl:hp0 L=hp0 L:=rfl
 have m1:2≤IG:=by decide
 rcases h1 with e1|e1 <;> rcases h2 with e2|e2 <;> rw[e1,e2]
 all_goals
  simp only[List.cons_append,List.nil_append,List.length_cons,List.length_nil,Nat.zero_add,Nat.reduceAdd,m1,if_true,cap00,cap01,cap10,cap11,cla00,cla01,cla10,cla11,res00,res01,res10,res11];simp (config:={ maxSteps:=4000000 }) only[go_sem,ld,cap00,cap01,cap10,cap11,cla00,cla01,cla10,cla11,res00,res01,res10,res11,zcd];have d1:decide (([48]:List UInt8)=[49])=false:=rfl
  have d2:decide (([49]:List UInt8)=[48])=false:=rfl
  have es:TB 1 (AV.agg bxC)=[]:=rfl
  rw[if_pos m1];simp only[d1,d2,es,Bool.not_false,decide_true,cond_true,if_true,hp0,go_sem]
end Go.Am
end
section
/- From a law that is true here tov the model's calls at what came in. -/
open Go
namespace Go.Am
variable {P:Program}
theorem law_nil {X:Ctx}(HX:Fits P X){f:Nat}{F:AFun}(hF:X.fn f=some F)(H:∀ L:List Int,gA X f [dL L] [] fun v _ _=>v = .p (.bool true))(W:World)(hG:AC X.gl (imm [] [] W)) :
 Calls P f #[.slice none 0 0] W fun e W'=>e = .returned (.bool true)∧RowKit.Below W.heap.size W W':=by
 refine(tR HX hF (H []) (W:=W) (vs:=[.slice none 0 0]) hG rfl (fun j y v hy hv=>?_)).mono fun e W' he=>?_
 ·cases j with
  | zero=>cases hy;cases hv;exact z3S W
  | succ j=>cases hy
 ·cases e with
  | returned r=>
   obtain⟨⟨v,h,x,μ,hk,hr⟩,hb⟩:=he;subst hk;exact⟨by rw[hr.p_bool],hb⟩
  | panicked _=>exact he.elim
  | outgrown=>exact he.elim
theorem law_ints {X:Ctx}(HX:Fits P X){f:Nat}{F:AFun}(hF:X.fn f=some F)(H:∀ L:List Int,gA X f [dL L] [] fun v _ _=>v = .p (.bool true)){W:World}(hG:AC X.gl (imm [] [] W)){a:Addr}{len cap:Nat}{zs:List Int}
 (hl:len≤cap) (hz:len≤zs.length) (hc:∀i,i<zs.length→W.cell? (a.add i)=some (.int .i64 (zs.getD i 0))) :
 Calls P f #[.slice (some a) len cap] W fun e W'=>e = .returned (.bool true)∧RowKit.Below W.heap.size W W':=by
 refine(tR HX hF (H (zs.take len)) (W:=W) (vs:=[.slice (some a) len cap]) hG rfl (fun j y v hy hv=>?_)).mono fun e W' he=>?_
 ·cases j with
  | zero=>
   cases hy;cases hv
   rcases Nat.eq_zero_or_pos len with h0|h0
   ·subst h0
    exact .p _ _ (.nils _ _ _)
   ·exact z3R (by simpa [Addr.add] using World.cell?_spot (hc 0 (by omega))) hl hz hc
  | succ j=>cases hy
 ·cases e with
  | returned r=>
   obtain⟨⟨v,h,x,μ,hk,hr⟩,hb⟩:=he;subst hk;exact⟨by rw[hr.p_bool],hb⟩
  | panicked _=>exact he.elim
  | outgrown=>exact he.elim
end Go.Am
namespace Go.ChangeShapes
open Go.RowKit Go.WideShapes
section
variable {H:Type} {enc:TypeId × Value→H} {P:Program}
end
end Go.ChangeShapes
end
section
/- The abstract machine,part L2: the kit's contracts asv rows. -/
set_option linter.unusedSimpArgs false
set_option linter.unusedVariables false
namespace Go.Am
variable {P:Program} {gl:Nat→Option PV}
open Go.Shelf
end Go.Am
end
