/- Texts of the proof, laid together: SpPdqT, SpEMrg4, SpEMrg5, SpEMrg7, SpEMrg8, SpEMrg6, AmK, SpRun, SpCts, SpSortN, PBusy, SpBusy, SpWtg, PBoo, PRefQ, SpQFlo3, SpQFlo10, SpEMrg9, SpEMrg10, SpStnd, SpLawET, SpPath, SpReady, SpLawUN, SpQFlo11, SpEMrg11, SpLawEM, Bridge. -/
import Derived.KernelRfl
import Derived.ProofKit
import Derived.Test.YtnhfefichkmpcaalawEM7
set_option linter.all false
section
/- Sorting 13 or 14 entries,whole: printed by program. -/
open Go
set_option linter.unusedSimpArgs false
namespace Go.Am
attribute [-go_sem] PV.cells splice
variable {h:aA} {K:jA}
theorem z74 (id:Nat)(l:List PV)(hs:TB (some 8) l)(hl:l.length≤12)(hh:h[id]?=some (.row (some 8) l 0)){g:Nat}{caps:List AV}{c:PV→PV→Int}(hc:Cmps g caps c l id h) :
 cA X sI [.own id l.length 0 l.length,.fn g caps] h K=K (.tup []) (h.set id (.row (some 8) (WA (ltC c) l) 0)) []:=by
 refine MA ?_;rw[BY];have w0:IntKind.u64.wrap (l.length:Int)=l.length:=z3U _ (by omega) (by omega)
 obtain⟨m,hm⟩:=zgv (l.length:Int) (by omega) (by omega)
 have is:=fun K=>z1P (h:=h) (K:=K) id l.length l [] rfl hs (by omega) (by rw[List.append_nil];exact hh) hc
 simp only[List.append_nil]at is;have key:∀K:jA,cA X vE [.own id l.length 0 l.length,AI 0,AI l.length,AI m,.fn g caps] h K=K (.tup []) (h.set id (.row (some 8) (WA (ltC c) l) 0)) []:=by
  intro K;refine MA ?_;rw[XR];simp only[hJ,go_sem];refine qB (fun _:Unit=>⟨[(0,.own id l.length 0 l.length),(1,AI 0),(2,AI l.length),(3,AI m),(4,.fn g caps),(10,AB true),(11,AB true)],h,[]⟩) (fun _=>True) (fun _=>0) () rfl trivial ?_
  intro _ _;have w1:IntKind.i64.wrap ((l.length:Int)-0)=l.length:=by rw[BA _ (by omega) (by omega)];omega
  have b1:((l.length:Int)≤12):=by omega
  simp only[go_sem,w1,b1,is]
 simp only[gO,go_sem,w0,hm,key]
attribute [-go_sem] zT IL
theorem z2G (id n:Nat)(m:Int)(pre l tl:List PV)(hn:n=pre.length+l.length+tl.length)(hs:TB (some 8) l)(hl:n≤1000)(h12:l.length≤12)(hh:h[id]?=some (.row (some 8) (pre++(l++tl)) 0)){g:Nat}{caps:List AV}{c:PV→PV→Int}(hc:fE g caps c l) :
 cA X vE [.own id n 0 n,AI pre.length,AI ((pre.length+l.length:Nat):Int),AI m,.fn g caps] h K=K (.tup []) (h.set id (.row (some 8) (pre++(WA (ltC c) l++tl)) 0)) []:=by
 refine MA ?_;rw[XR];have is:=fun K=>z1O (h:=h) (K:=K) id n pre l tl hn hs hl hh (g:=g) (caps:=caps) (c:=c) (fun o x hx y hy K=>hc _ x hx y hy K)
 simp only[hJ,go_sem];refine qB (fun _:Unit=>⟨[(0,.own id n 0 n),(1,AI pre.length),(2,AI ((pre.length+l.length:Nat):Int)),(3,AI m),(4,.fn g caps),(10,AB true),(11,AB true)],h,[]⟩) (fun _=>True) (fun _=>0) () rfl trivial ?_
 intro _ _;have w1:IntKind.i64.wrap (((pre.length+l.length:Nat):Int)-pre.length)=l.length:=by rw[BA _ (by omega) (by omega)];omega
 have b1:((l.length:Int)≤12):=by omega
 simp only[go_sem,w1,b1,is]
set_option maxRecDepth 20000 in
theorem len_4 (x:Int)(hx:x=13∨x=14)(h:aA)(K:jA):cA X nI [AU x] h K=K (AI 4) h []:=by
 have b1:¬(4294967296≤x):=by omega
 have b2:¬(65536≤x):=by omega
 have b3:¬(256≤x):=by omega
 have w:IntKind.u8.wrap x=x:=by simp [IntKind.wrap,IntKind.bits,IntKind.signed];omega
 obtain⟨b,hb⟩:=z3M x.toNat (by omega)
 have b4:IntKind.i64.wrap (0+IntKind.i64.wrap b.toNat)=4:=by
  rcases hx with rfl|rfl
  ·have e:some (4:UInt8)=some b:=hb
   cases e;rfl
  ·have e:some (4:UInt8)=some b:=hb
   cases e;rfl
 have hn:=eM (k:=.u8) (show 0≤x by omega)
 have key:∀(h:aA) (K:jA),cA X oI [AU x] h K=K (AI (IntKind.i64.wrap (0+IntKind.i64.wrap b.toNat))) h []:=by
  intro h K;refine MA ?_;rw[zY rfl];simp only[rL,go_sem,b1,b2,b3,w,hn,hb]
 rw[b4]at key;refine MA ?_;rw[yY rfl];simp only[ON,go_sem,key]
inductive PdqAt (c:PV→PV→Int) (l R:List PV):Nat→Nat→Prop
 | start:R=l→PdqAt c l R 0 l.length
 | side (pre w tl:List PV):w.length≤12→R=pre++(w++tl)→R.length=l.length→(∀x∈w,x∈l)→pre++(WA (ltC c) w++tl)=WA (ltC c) l→PdqAt c l R pre.length (pre.length+w.length)
theorem cY {c:PV→PV→Int}(o:Ordr c):∀(l:List PV),(∀(i:Nat) (x y:PV),l[i]?=some x→l[i+1]?=some y→¬c y x<0)→l.Pairwise fun x y=>c x y≤0
 | [],_=>List.Pairwise.nil
 | [x],_=>by simp
 | x::y::r,h=>by
  have ih:=cY o (y::r) fun i a b ha hb=>h (i+1) a b ha hb
  have h0:=h 0 x y rfl rfl
  have hn:=o.neg x y
  refine List.pairwise_cons.2 ⟨fun z hz=>?_,ih⟩
  rcases List.mem_cons.1 hz with rfl|hz
  ·omega
  ·have:=(List.pairwise_cons.1 ih).1 z hz
   exact o.trans x y z (by omega) this
theorem zf6 {c:PV→PV→Int}(o:Ordr c){l:List PV}(hd:l.Pairwise fun x y=>c x y≠0)(h:∀ (i:Nat) (x y:PV),l[i]?=some x→l[i+1]?=some y→¬ c y x<0):WA (ltC c) l=l:=by
 refine xQ o (SM o hd) ?_ fun x=>NF
 unfold ZE;refine((cY o l h).and hd).imp fun {a b} h=>?_
 omega
theorem zhC {K:Ex→St→Prop}{e:List (Nat × AV)}(id q:Nat)(l A B:List PV)(p:PV)(bp:Bool)(hs:TB (some 8) l)(hn:l.length=13∨l.length=14)(hid:id<h.length){g:Nat}{caps:List AV}{c:PV→PV→Int}(hc:fE g caps c l)
 (hlen:A.length+(B.length+1)=l.length) (nA:1≤A.length) (nB:1≤B.length) (mA:∀x∈A,x∈l) (mB:∀x∈B,x∈l) (l1:WA (ltC c) A++p::WA (ltC c) B=WA (ltC c) l)
 (pt:∀K:jA,cA X oH [.own id l.length 0 l.length,AI 0,AI l.length,AI q,.fn g caps] h K=K (.tup [AI (A.length:Nat),AB bp]) (h.set id (.row (some 8) (A++p::B) 0)) [])
 (a0:bA e 0 = .own id l.length 0 l.length) (a1:bA e 1=AI 0) (a2:bA e 2=AI l.length) (a3:bA e 3=AI 4) (a4:bA e 4 = .fn g caps) (a12:bA e 12=AI l.length) (a13:bA e 13=AI q)
 (fin:∀(R:List PV) (a b:Nat) (u:Bool),PdqAt c l R a b→b-a≤12→K .normal ⟨[(0,.own id l.length 0 l.length),(1,AI a),(2,AI b),(3,AI 4),(4,.fn g caps),(10,AB true),(11,AB u)],h.set id (.row (some 8) R 0),[]⟩) :
 NW (cA X) X.gl xM ⟨e,h,[]⟩ K:=by
 have hst:∀o,(h.set id o)[id]?=some o:=fun o=>tD hid
 have w2:IntKind.i64.wrap ((A.length:Int)-0)=A.length:=by rw[BA _ (by omega) (by omega)];omega
 have w3:IntKind.i64.wrap ((l.length:Int)-A.length)=((B.length+1:Nat):Int):=by rw[BA _ (by omega) (by omega)];omega
 have w4:IntKind.i64.wrap ((l.length:Int).tdiv 8)=1:=by rcases hn with e|e <;> rw[e] <;> rfl
 have w5:IntKind.i64.wrap ((A.length:Int)+1)=((A.length+1:Nat):Int):=BA _ (by omega) (by omega)
 have lA:=PJ (ltC c) A
 have lB:=PJ (ltC c) B
 have r1:=fun K=>z2G (h:=h.set id (.row (some 8) (A++p::B) 0)) (K:=K) id l.length 4 [] A (p::B) (by simp;omega) (fun x hx=>hs x (mA x hx)) (by omega) (by omega) (hst _) (g:=g) (caps:=caps) (c:=c) (fun h x hx y hy K=>hc h x (mA x hx) y (mA y hy) K)
 have r2:=fun K=>z2G (h:=h.set id (.row (some 8) (A++p::B) 0)) (K:=K) id l.length 4 (A++[p]) B [] (by simp;omega) (fun x hx=>hs x (mB x hx)) (by omega) (by omega) (by rw[hst];simp) (g:=g) (caps:=caps) (c:=c) (fun h x hx y hy K=>hc h x (mB x hx) y (mB y hy) K)
 simp only[List.length_nil,Nat.zero_add,List.nil_append,List.length_append,List.length_cons,List.append_nil,List.set_set,List.append_assoc,List.cons_append,show(([]:List PV).length:Int)=0 from rfl,show((0:Nat):Int)=0 from rfl]at r1 r2
 have eB:A.length+1+B.length=l.length:=by omega
 rw[eB]at r2;rw[zT];by_cases hAB:A.length<B.length+1
 ·have z:(1:Int)≤A.length:=by omega
  simp only[a0,a1,a2,a3,a4,a12,a13,IL,go_sem,Int.lt_irrefl,↓pt,pt,w2,w3,w4,w5,hAB,z,r1];have f:=fin (WA (ltC c) A++p::B) (A.length+1) (A.length+1+B.length) bp
  rw[eB]at f;refine f ?_ (by omega)
  have:=PdqAt.side (c:=c) (l:=l) (R:=WA (ltC c) A++p::B) (WA (ltC c) A++[p]) B [] (by omega) (by simp) (by simp [lA];omega) mB (by simpa using l1)
  simp only[List.length_append,List.length_cons,List.length_nil,lA]at this;have e2:A.length+(0+1)+B.length=l.length:=by omega
  rw[e2]at this;exact this
 ·have z:(1:Int)≤((B.length+1:Nat):Int):=by omega
  simp only[a0,a1,a2,a3,a4,a12,a13,IL,go_sem,Int.lt_irrefl,↓pt,pt,w2,w3,w4,w5,hAB,z,r2];refine fin (A++p::WA (ltC c) B) 0 A.length bp ?_ (by omega)
  have:=PdqAt.side (c:=c) (l:=l) (R:=A++p::WA (ltC c) B) [] A (p::WA (ltC c) B) (by omega) (by simp) (by simp [lB];omega) mA (by simpa using l1)
  simpa using this
theorem zhB (id:Nat)(l:List PV)(hs:TB (some 8) l)(hn:l.length=13∨l.length=14)(hh:h[id]?=some (.row (some 8) l 0)){g:Nat}{caps:List AV}{c:PV→PV→Int}(hc:fE g caps c l)(o:Ordr c)(hd:l.Pairwise fun x y=>c x y≠0) :
 cA X vE [.own id l.length 0 l.length,AI 0,AI l.length,AI 4,.fn g caps] h K=K (.tup []) (h.set id (.row (some 8) (WA (ltC c) l) 0)) []:=by
 refine MA ?_;rw[XR];have hid:=xE hh
 have hst:∀o,(h.set id o)[id]?=some o:=fun o=>tD hid
 simp only[hJ,go_sem];refine qB (fun t:List PV×Nat×Nat×Bool×Bool=>⟨[(0,.own id l.length 0 l.length),(1,AI t.2.1),(2,AI t.2.2.1),(3,AI 4),(4,.fn g caps),(10,AB t.2.2.2.1),(11,AB t.2.2.2.2)],h.set id (.row (some 8) t.1 0),[]⟩) (fun t=>PdqAt c l t.1 t.2.1 t.2.2.1∧(12<t.2.2.1-t.2.1→t=(l,0,l.length,true,true))) (fun t=>if 12<t.2.2.1-t.2.1 then 1 else 0) (l,0,l.length,true,true) (by rw[FG hh];rfl) ⟨.start rfl,fun _=>rfl⟩ ?_
 rintro⟨R,a,b,x,y⟩ ⟨hA,hB⟩
 dsimp only at hA hB ⊢;by_cases hbig:12<b-a
 ·cases hB hbig
  rw[FG hh];obtain⟨v,hv,ch⟩:=z9V id l hs hn hh hc;obtain⟨bi,hbi,pi⟩:=zh5 id l hs (by omega) (by omega) hh hc
  have dne:∀i j (hi:i<l.length) (hj:j<l.length),i<j→c l[i] l[j]≠0:=fun i j hi hj hij=>List.pairwise_iff_getElem.1 hd i j hi hj hij
  obtain⟨hq,_,⟨a1,ha1,_,hlt⟩,⟨b1,hb1,_,hgt⟩⟩:=zgB o (L:=l) (i:=3) (j:=6) (k:=9) (by omega) (by omega) (by omega) (dne _ _ _ _ (by omega)) (dne _ _ _ _ (by omega)) (dne _ _ _ _ (by omega))
  generalize rC c l 3 6 9=q at *;obtain⟨A,B,bp,pm,pA,pB,pt⟩:=zhA id q l hs (by omega) (by omega) hh hq hc
  have w1:IntKind.i64.wrap ((l.length:Int)-0)=l.length:=by rw[BA _ (by omega) (by omega)];omega
  have b12:¬((l.length:Int)≤12):=by omega
  have srt:=zf5 o hd pm pA pB
  have ma1:l[a1]∈A++l[q]::B:=pm.mem_iff.2 (List.getElem_mem ha1)
  have mb1:l[b1]∈A++l[q]::B:=pm.mem_iff.2 (List.getElem_mem hb1)
  have ngt:=o.neg l[q] l[b1]
  have rq:=o.refl l[q]
  have hlen:=pm.length_eq
  simp only[List.length_append,List.length_cons]at hlen;have nA:1≤A.length:=by
   rcases List.mem_append.1 ma1 with h1|h1
   ·exact List.length_pos_of_mem h1
   ·rcases List.mem_cons.1 h1 with h1|h1
    ·rw[h1]at hlt;omega
    ·have:=pB _ h1;simp [ltC]at this;omega
  have nB:1≤B.length:=by
   rcases List.mem_append.1 mb1 with h1|h1
   ·have:=pA _ h1;simp [ltC]at this;omega
   ·rcases List.mem_cons.1 h1 with h1|h1
    ·rw[h1]at hgt;omega
    ·exact List.length_pos_of_mem h1
  have mA:∀x∈A,x∈l:=fun x hx=>pm.mem_iff.1 (by simp [hx])
  have mB:∀x∈B,x∈l:=fun x hx=>pm.mem_iff.1 (by simp [hx])
  have mp:l[q]∈l:=List.getElem_mem hq
  generalize hp:l[q]=p at *;have e1:∀v:Int,v=0∨v=1→¬v=2:=fun v h=>by omega
  have v2:=e1 v hv
  have w2:IntKind.i64.wrap ((A.length:Int)-0)=A.length:=by rw[BA _ (by omega) (by omega)];omega
  have w3:IntKind.i64.wrap ((l.length:Int)-A.length)=((B.length+1:Nat):Int):=by rw[BA _ (by omega) (by omega)];omega
  have w4:IntKind.i64.wrap ((l.length:Int).tdiv 8)=1:=by rcases hn with e|e <;> rw[e] <;> rfl
  have w5:IntKind.i64.wrap ((A.length:Int)+1)=((A.length+1:Nat):Int):=BA _ (by omega) (by omega)
  have k1:=fun(K:Ex→St→Prop) (e:List (Nat×AV))=>zhC (h:=h) (K:=K) (e:=e) id q l A B p bp hs hn hid hc (by omega) nA nB mA mB srt pt
  clear pt srt pm pA pB dne hc ma1 mb1 mA mB;have nx:∀(e:List (Nat×AV)),bA e 0 = .own id l.length 0 l.length→bA e 1=AI 0→bA e 2=AI l.length→bA e 3=AI 4→bA e 4 = .fn g caps→bA e 12=AI l.length→bA e 13=AI q →
   ∀Kf,NW (cA X) X.gl xM ⟨e,h,[]⟩ (OA 1 (xH (fun t:List PV×Nat×Nat×Bool×Bool=>⟨[(0,.own id l.length 0 l.length),(1,AI t.2.1),(2,AI t.2.2.1),(3,AI 4),(4,.fn g caps),(10,AB t.2.2.2.1),(11,AB t.2.2.2.2)],h.set id (.row (some 8) t.1 0),[]⟩) (fun t=>PdqAt c l t.1 t.2.1 t.2.2.1∧(12<t.2.2.1-t.2.1→t=(l,0,l.length,true,true))) (fun t=>if 12<t.2.2.1-t.2.1 then 1 else 0) Kf (l,0,l.length,true,true))):=by
   intro e a0 a1 a2 a3 a4 a12 a13 Kf;refine k1 _ e a0 a1 a2 a3 a4 a12 a13 fun R a b u hR hab=>?_
   simp only[go_sem];exact⟨(R,a,b,true,u),rfl,⟨hR,fun h=>by dsimp only at h;omega⟩,by dsimp only;rw[if_neg (by omega),if_pos (by omega)];decide⟩
  have z0:((0:Nat):Int)=0:=rfl
  rcases hv with rfl|rfl
  ·simp only[go_sem,z0,w1,b12,↓ch,ch]
   exact nx _ rfl rfl rfl rfl rfl rfl rfl _
  ·cases bi with
   | true=>
    simp only[go_sem,z0,w1,b12,↓ch,ch,↓pi,pi];rw[zf6 o hd (hbi rfl),FG hh]
   | false=>
    simp only[go_sem,z0,w1,b12,↓ch,ch,↓pi,pi];exact nx _ rfl rfl rfl rfl rfl rfl rfl _
 ·cases hA with
  | start e=>omega
  | side pre w tl h12 e1 e2 e3 e4=>
   have hn':l.length=pre.length+w.length+tl.length:=by rw[←e2,e1];simp;omega
   have is:=fun K=>z1O (h:=h.set id (.row (some 8) R 0)) (K:=K) id l.length pre w tl hn' (fun x hx=>hs x (e3 x hx)) (by omega) (by rw[hst,e1]) (g:=g) (caps:=caps) (c:=c) (fun o x hx y hy K=>hc _ x (e3 x hx) y (e3 y hy) K)
   rw[e4]at is;have w1:IntKind.i64.wrap (((pre.length+w.length:Nat):Int)-pre.length)=w.length:=by rw[BA _ (by omega) (by omega)];omega
   have b1:((w.length:Int)≤12):=by omega
   simp only[List.set_set]at is;simp only[go_sem,w1,b1,is]
theorem z73 (id:Nat)(l:List PV)(hs:TB (some 8) l)(hl:l.length≤14)(hh:h[id]?=some (.row (some 8) l 0)){g:Nat}{caps:List AV}{c:PV→PV→Int}(hc:fE g caps c l)(o:Ordr c)(hd:l.Pairwise fun x y=>c x y≠0) :
 cA X sI [.own id l.length 0 l.length,.fn g caps] h K=K (.tup []) (h.set id (.row (some 8) (WA (ltC c) l) 0)) []:=by
 by_cases h12:l.length≤12
 ·exact z74 id l hs h12 hh fun o x hx y hy K=>hc _ x hx y hy K
 ·refine MA ?_
  rw[BY];have w0:IntKind.u64.wrap (l.length:Int)=l.length:=z3U _ (by omega) (by omega)
  have hm:=fun h K=>len_4 l.length (by omega) h K
  have key:=fun K=>zhB (h:=h) (K:=K) id l hs (by omega) hh hc o hd
  simp only[gO,go_sem,w0,↓hm,hm,↓key,key]
end Go.Am
end
section
/- Entries eC: the reference's walk. -/
open Go
set_option linter.all false
namespace Go.Am
variable {h:aA} {K:jA}
attribute [-go_sem] iB
theorem s_ME1 (o x:Ent)(id:Nat)(hx:h[id]?=some x.box):cA X rI [.p o.pv,.ref id 0] h K=K (AB (oB o x)) h []:=by
 refine MA ?_;rw[z9j rfl];have hid:=xE hx
 have hx':∀l,(h++l)[id]?=some x.box:=fun l=>by rw[YT hid];exact hx
 have q:=fun h K=>z31 (h:=h) (K:=K) o x
 simp only[Ent.pv,eI]at q;simp only[JS,go_sem,hx',Ent.box,Ent.pv,eI,↓q,q]
def gB (a b:List Ent)(k:Nat):List Ent:=a++(b.take k).filter (mC a)
def LF (x:Ent)(y:PV):Bool:=oB (yC y) x
theorem zhn (a b:List Ent)(k:Nat):(gB a b k).length≤a.length+b.length:=by
 unfold gB;have h1:=List.length_filter_le (mC a) (b.take k)
 have h2:(b.take k).length≤b.length:=by simp;omega
 simp only[List.length_append];omega
theorem xU {a b:List Ent}{k:Nat}{x:Ent}(hx:x∈gB a b k):x∈a∨x∈b.take k:=by
 unfold gB at hx;rcases List.mem_append.1 hx with h|h
 ·exact .inl h
 ·exact .inr (List.mem_filter.1 h).1
theorem zho {a b:List Ent}{k:Nat}(hk:k<b.length):gB a b (k+1)=gB a b k++(if mC a b[k] then [b[k]] else []):=by
 unfold gB;rw[List.take_succ_eq_append_getElem hk,List.filter_append,←List.append_assoc];congr 1
 simp only[List.filter_cons,List.filter_nil]
theorem z3N {b:List Ent}{k:Nat}(pb:b.Pairwise fun o x=>oB o x=false)(hk:k<b.length){x:Ent}(hx:x∈b.take k):oB x b[k]=false:=by
 obtain⟨j,hj,rfl⟩:=List.mem_take_iff_getElem.1 hx;exact List.pairwise_iff_getElem.1 pb j k (by omega) hk (by omega)
theorem zfh {a b:List Ent}{k:Nat}(pb:b.Pairwise fun o x=>oB o x=false)(hk:k<b.length)(hn:mC a b[k]=true):xG (LF b[k]) ((gB a b k).map Ent.pv) = -1:=by
 unfold xG;rw[if_neg];rw[Nat.not_lt,Nat.le_iff_lt_or_eq];right
 refine(List.findIdx_eq_length.2 fun y hy=>?_).symm
 obtain⟨o,ho,rfl⟩:=List.mem_map.1 hy;unfold LF;rw[vD];rcases xU ho with h|h
 ·unfold mC at hn
  simp only[Bool.not_eq_true',List.any_eq_false,Bool.not_eq_true]at hn;exact hn o h
 ·exact z3N pb hk h
theorem zfi {a b:List Ent}{k:Nat}(pb:b.Pairwise fun o x=>oB o x=false)(hk:k<b.length)(hn:mC a b[k]=false):∃(i:Nat) (hi:i<(gB a b k).length),xG (LF b[k]) ((gB a b k).map Ent.pv)=i∧(gB a b k)[i]∈a∧oB (gB a b k)[i] b[k]=true:=by
 unfold mC at hn;simp only[Bool.not_eq_false',List.any_eq_true]at hn;obtain⟨y,hy,hc⟩:=hn;have hlt:((gB a b k).map Ent.pv).findIdx (LF b[k])<((gB a b k).map Ent.pv).length:=by
  refine List.findIdx_lt_length_of_exists ⟨y.pv,List.mem_map.2 ⟨y,by unfold gB;simp [hy],rfl⟩,?_⟩
  unfold LF;rw[vD];exact hc
 have hi:((gB a b k).map Ent.pv).findIdx (LF b[k])<(gB a b k).length:=by simpa using hlt
 refine⟨_,hi,by unfold xG;rw[if_pos hlt],?_⟩
 have hp:=List.findIdx_getElem (w:=hlt)
 revert hp hi
 generalize ((gB a b k).map Ent.pv).findIdx (LF b[k])=i at *;intro hi hp;simp only[List.getElem_map]at hp;unfold LF at hp;rw[vD]at hp;refine⟨?_,hp⟩;rcases xU (List.getElem_mem hi) with h|h
 ·exact h
 ·have:=z3N pb hk h
  rw[hp]at this;cases this
def oU (a b:List Ent)(k:Nat):Prop:=∀x∈b.take k,∀y∈a,oB y x=true→eqE y x=true
theorem zha {a b:List Ent}(hn:oU a b b.length):UG a b=false:=by
 unfold UG;rw[List.any_eq_false];intro x hx;rw[Bool.not_eq_true,List.any_eq_false];intro y hy;have:=hn x (by rw[List.take_length];exact hx) y hy
 cases hc:oB y x with
 | true=>simp [this hc]
 | false=>simp
theorem zaq {a b:List Ent}{x y:Ent}(hx:x∈b)(hy:y∈a)(hc:oB y x=true)(hs:eqE y x=false):UG a b=true:=by
 unfold UG;exact List.any_eq_true.2 ⟨x,hx,List.any_eq_true.2 ⟨y,hy,by simp [hc,hs]⟩⟩
theorem rQ (l:List Ent)(hl:l.length≤1000000):cA X uE [yA l] h K=K (.own h.length l.length 0 l.length) (h++[.row (some 8) (l.map Ent.pv) 0]) []:=by
 refine MA ?_;rw[z9s rfl];simp only[NS];refine⟨_,_,_,⟨rfl,rfl,rfl⟩,?_⟩;cases l with
 | nil=>
  simp only[AL,yA,List.map_nil,List.length_nil,go_sem];exact List.take_of_length_le (by simp)
 | cons x r=>
  have hm:r.length+1≤xB:=by simp only[List.length_cons]at hl;unfold xB;omega
  simp only[AL,yA,List.map_cons,List.length_cons,go_sem,hm];exact List.take_of_length_le (by simp)
theorem ordPV:Ordr fun x y:PV=>IA (yC x) (yC y):=⟨fun x y=>AG.neg _ _,fun x y z h1 h2=>AG.trans _ _ _ h1 h2⟩
set_option maxHeartbeats 2000000 in
theorem xV (a b:List Ent)(ha:wA a=0)(hb:wA b=0)(hl:a.length+b.length≤1000)(hl2:(a++b.filter (mC a)).length≤14) :
 cA X GF [yA a,yA b] h K=K (.tup [yA (KC a b).1,AI (KC a b).2]) h []:=by
 refine MA ?_;rw[z9i rfl];obtain⟨sa,pa,fa⟩:=aH ha;obtain⟨sb,pb,fb⟩:=aH hb;have cl:=fun h K=>rQ (h:=h) (K:=K) a (by omega)
 simp only[YN,go_sem,↓cl,cl];refine qB (fun k:Nat=>⟨[(6,.own h.length (gB a b k).length 0 (gB a b k).length),(12,yA b),(13,AI b.length),(14,AI k)],h++[.row (some 8) ((gB a b k).map Ent.pv) 0],[]⟩) (fun k=>k≤b.length∧oU a b k) (fun k=>b.length-k) 0 (by simp [gB]) ⟨by omega,by simp [oU]⟩ ?_
 rintro k ⟨hk,hn⟩
 have ol:=zhn a b k
 rcases Nat.lt_or_ge k b.length with hlt|hge
 ·have g2:=PB Ent.pv hlt
  have c2:aB (some 8) 0 b[k].pv=some b[k].pv:=rfl
  have w2:IntKind.i64.wrap ((k:Int)+1)=((k+1:Nat):Int):=BA _ (by omega) (by omega)
  have bm:b[k]∈b:=List.getElem_mem hlt
  have tells:NQ rI [.ref (h.length+1) 0] (LF b[k]) ((gB a b k).map Ent.pv) (h++[.row (some 8) ((gB a b k).map Ent.pv) 0,b[k].box]):=by
   intro y hy K;obtain⟨o,ho,rfl⟩:=List.mem_map.1 hy;unfold LF;rw[vD];exact s_ME1 o b[k] (h.length+1) (by simp)
  have ix:=fun K=>sW (h:=h++[.row (some 8) ((gB a b k).map Ent.pv) 0,b[k].box]) (K:=K) (ziW (id:=h.length) (fz:=0) jI (by simp)) tells (by simp;omega)
  simp only[List.length_map,Ent.box]at ix;simp only[Ent.pv,eI]at g2 c2;have os:=zho (a:=a) hlt
  cases hnew:mC a b[k]with
  | true=>
   rw[zfh pb hlt hnew]at ix;rw[hnew,if_pos rfl]at os;have hm:(gB a b k).length+1≤xB:=by unfold xB;omega
   simp only[go_sem,hlt,g2,c2,Ent.pv,eI,↓ix,ix,w2,hm];refine⟨k+1,?_,⟨by omega,?_⟩,by omega⟩
   ·rw[os];simp [Ent.pv,eI]
   ·intro x hx y hy hc
    rw[List.take_succ_eq_append_getElem hlt,List.mem_append,List.mem_singleton]at hx;rcases hx with hx|rfl
    ·exact hn x hx y hy hc
    ·unfold mC at hnew
     simp only[Bool.not_eq_true',List.any_eq_false,Bool.not_eq_true]at hnew;rw[hnew y hy]at hc;cases hc
  | false=>
   obtain⟨i,hi,hix,him,hic⟩:=zfi pb hlt hnew;rw[hix]at ix;rw[hnew,if_neg (by simp),List.append_nil]at os
   have g3:=PB Ent.pv hi
   have c3:aB (some 8) 0 (gB a b k)[i].pv=some (gB a b k)[i].pv:=rfl
   have sr:=FO (gB a b k)[i] b[k]
   have b1:¬((i:Int)<0):=by omega
   simp only[Ent.pv,eI]at g3 c3 sr;by_cases hs:(gB a b k)[i]=b[k]
   ·simp only[hs,decide_true,Bool.not_true]at sr
    rw[hs]at g3 c3;simp only[go_sem,hlt,g2,c2,Ent.pv,eI,↓ix,ix,w2,b1,hi,g3,c3,sr];refine⟨k+1,?_,⟨by omega,?_⟩,by omega⟩
    ·rw[os]
    ·intro x hx y hy hc
     rw[List.take_succ_eq_append_getElem hlt,List.mem_append,List.mem_singleton]at hx;rcases hx with hx|rfl
     ·exact hn x hx y hy hc
     ·have e:y=(gB a b k)[i]:=jQ pa hy him (by rw[hs];exact hc)
      rw[e,hs];exact z0H _
   ·have hs':decide ((gB a b k)[i]=b[k])=false:=by simp [hs]
    simp only[hs',Bool.not_false]at sr;simp only[go_sem,hlt,g2,c2,Ent.pv,eI,↓ix,ix,w2,b1,hi,g3,c3,sr];have hcf:=zaq bm him hic (by simp [eqE,hs])
    simp only[KC,hcf,if_true,List.map_nil,yA]
 ·have ek:k=b.length:=by omega
  subst ek;have oe:gB a b b.length=a++b.filter (mC a):=by unfold gB;rw[List.take_length]
  have hcf:=zha hn
  rw[←oe]at hl2;have dp:(gB a b b.length).Pairwise fun x y=>IA x y≠0:=by
   rw[oe,List.pairwise_append];refine⟨sa.imp fun h=>by omega,(sb.filter _).imp fun h=>by omega,fun x hx y hy h=>?_⟩
   have h1:=(List.mem_filter.1 hy).2
   unfold mC at h1;simp only[Bool.not_eq_true',List.any_eq_false]at h1;exact h1 x hx (DT h)
  have hh:(h++[Obj.row (some 8) ((gB a b b.length).map Ent.pv) 0])[h.length]?=some (.row (some 8) ((gB a b b.length).map Ent.pv) 0):=by simp
  have st:=fun K=>z73 (h:=h++[Obj.row (some 8) ((gB a b b.length).map Ent.pv) 0]) (K:=K) h.length ((gB a b b.length).map Ent.pv) jI (by simp;omega) hh (g:=FD) (caps:=[]) (c:=fun x y=>IA (yC x) (yC y))
   (fun h x hx y hy K=>by
    obtain⟨p,hp,rfl⟩:=List.mem_map.1 hx;obtain⟨q,hq,rfl⟩:=List.mem_map.1 hy;dsimp only;rw[vD,vD];have tm:∀z∈gB a b b.length,EntB z:=fun z hz=>by
     rcases xU hz with h1|h1
     ·exact BF (fa z h1)
     ·exact BF (fb z (List.mem_of_mem_take h1))
    exact vV p q (tm p hp) (tm q hq)) ordPV (by
    rw[List.pairwise_map];exact dp.imp fun h=>by simpa only[vD] using h)
  have em:WA (ltC fun x y=>IA (yC x) (yC y)) ((gB a b b.length).map Ent.pv)=(WA (ltO IA) (gB a b b.length)).map Ent.pv:=z1Z Ent.pv (fun x y=>by simp only[ltC,ltO,vD]) _
  rw[em]at st;have e0:∀o,(h++[Obj.row (some 8) ((gB a b b.length).map Ent.pv) 0]).set h.length o=h++[o]:=fun o=>by rw[List.set_append_right _ _ (by simp)];simp
  simp only[e0,List.length_map]at st;have il:=PJ (ltO IA) (gB a b b.length)
  have b1:¬((2000:Int)<((gB a b b.length).length:Int)):=by omega
  have hw:win ((WA (ltO IA) (gB a b b.length)).map Ent.pv) 0 (gB a b b.length).length=(WA (ltO IA) (gB a b b.length)).map Ent.pv:=VF (by simp [il])
  simp only[go_sem,Nat.lt_irrefl,↓st,st,b1,il,hw];simp only[KC,hcf,oe];simp
end Go.Am
end
section
/- An entry written: zD ways. -/
open Go
set_option linter.all false
namespace Go.Am
variable {h:aA} {K:jA}
attribute [-go_sem] iB splice
def wB (site:List UInt8)(l:List Ent):Int:=l.foldl (fun m y=>if y.site=site then max m y.no else m) 0
theorem pU (site:List UInt8):∀(l:List Ent) (m:Int),(∀y∈l,y.no≤1000000)→0≤m→m≤1000000→0≤l.foldl (fun m y=>if y.site=site then max m y.no else m) m∧l.foldl (fun m y=>if y.site=site then max m y.no else m) m≤1000000
 | [],m,_,h0,h1=>⟨h0,h1⟩
 | y::r,m,hy,h0,h1=>by
  have h2:=hy y (by simp)
  rw[List.foldl_cons];refine pU site r _ (fun z hz=>hy z (by simp [hz])) ?_ ?_ <;> (split <;> omega)
theorem z2w (site:List UInt8){l:List Ent}{k:Nat}(hk:k<l.length):wB site (l.take (k+1))=if l[k].site=site then max (wB site (l.take k)) l[k].no else wB site (l.take k):=by
 unfold wB;rw[List.take_succ_eq_append_getElem hk,List.foldl_append];rfl
def QB (l:List Ent)(x:Ent):Ent:={ x with no:=wB x.site l+1 }
def yG (l:List Ent)(x:Ent):Bool:=match l.getLast? with
 | some y=>decide (IA x y≤0)
 | none=>false
def OB (l:List Ent)(x:Ent):List Ent×Int:=
 if x.no≠0 then([],3)
 else if JB (QB l x)≠0 then([],JB (QB l x))
 else if yG l (QB l x)=true then([],7)
 else(l++[QB l x],0)
def HG (l:List Ent)(x:Ent):List Ent×Int:=if wA l≠0 then([],wA l) else OB l x
attribute [-go_sem] zO ML
theorem wr_k3 {K:Ex→St→Prop}(l:List Ent)(x:Ent)(hx:EntOk x)(hl:l.length≤1000)(b:List (Nat × AV))(n0:x.no=0)(nb:0≤wB x.site l∧wB x.site l≤1000000)(hB:∀ y∈l,EntB y)
 (b0:bA b 0=yA l) (b3:bA b 3 = .ref h.length 0)
 (fin1:(OB l x).1=[]→∀H,K .ret ⟨[(4,yA []),(5,AI (OB l x).2)],h++H,[]⟩) (fin2:(OB l x).2=0→∀o r:Obj,o = .row (some 8) ((OB l x).1.map Ent.pv) 0→K .ret ⟨[(4,.own (h.length+1) (OB l x).1.length 0 (OB l x).1.length),(5,AI 0)],h++[r,o],[]⟩) :
 NW (cA X) X.gl FK ⟨b,h++[.box [AS x.site,AI (wB x.site l),AI x.time,AI x.kind,AS x.board,AS x.step,AS x.of,AI x.other]],[]⟩ K:=by
 rw[zO];have w1:IntKind.i64.wrap (wB x.site l+1)=wB x.site l+1:=BA _ (by omega) (by omega)
 have nn:(QB l x).pv = .agg [.str x.site,eI (wB x.site l+1),eI x.time,eI x.kind,.str x.board,.str x.step,.str x.of,eI x.other]:=rfl
 have nk:EntOk (QB l x):=⟨hx.s,hx.b,hx.p,hx.o⟩
 have sp:splice [AS x.site,AI (wB x.site l),AI x.time,AI x.kind,AS x.board,AS x.step,AS x.of,AI x.other] 1 [AI (wB x.site l+1)]=[AS x.site,AI (wB x.site l+1),AI x.time,AI x.kind,AS x.board,AS x.step,AS x.of,AI x.other]:=rfl
 have st:∀(k:AV→aA→Esc→Prop),(pK (rA 1 none (AV.ref h.length 0)) fun t1=>pK (oA none t1 (h++[Obj.box [AS x.site,AI (wB x.site l),AI x.time,AI x.kind,AS x.board,AS x.step,AS x.of,AI x.other]])) fun t2=>
  pK (eA .add t2 (AI 1)) fun t3=>pK (rA 1 none (AV.ref h.length 0)) fun t4=>wK (GA none t4 t3 (h++[Obj.box [AS x.site,AI (wB x.site l),AI x.time,AI x.kind,AS x.board,AS x.step,AS x.of,AI x.other]])) fun t5 h6 y7=>
  pK (oA (some 8) (AV.ref h.length 0) h6) fun t8=>k t8 h6 y7)=k (.p (QB l x).pv) (h++[Obj.box [AS x.site,AI (wB x.site l+1),AI x.time,AI x.kind,AS x.board,AS x.step,AS x.of,AI x.other]]) []:=by
  intro k;rw[nn];simp only[go_sem,w1,sp,eI]
 have ef:=fun h K=>z3z (h:=h) (K:=K) (QB l x) nk
 unfold OB at fin1 fin2;rw[if_neg (by simp [n0])]at fin1 fin2
 have cl:=fun h K=>rQ (h:=h) (K:=K) l (by omega)
 have b2000:¬(2000:Int)≤(l.length:Int):=by omega
 have hm:l.length+1≤xB:=by unfold xB;omega
 rw[b0,b3];unfold ML;rw[st];dsimp only;rw[ef];by_cases h1:JB (QB l x)=0
 ·rw[if_neg (by simp [h1])]at fin1 fin2
  rw[h1];have hx8:(h++[Obj.box [AS x.site,AI (wB x.site l+1),AI x.time,AI x.kind,AS x.board,AS x.step,AS x.of,AI x.other]])[h.length]?=some (Obj.box [AS x.site,AI (wB x.site l+1),AI x.time,AI x.kind,AS x.board,AS x.step,AS x.of,AI x.other]):=by simp
  cases hl0:l.getLast? with
  | none=>
   have el:l.length=0:=by rw[List.getLast?_eq_none_iff.1 hl0];rfl
   have lz:¬(0:Int)<(l.length:Int):=by omega
   have le:yG l (QB l x)=false:=by unfold yG;rw[hl0]
   rw[if_neg (by simp [le])]at fin2
   simp only[go_sem,lz,↓cl,cl,b2000,hm];have Z:=fin2 rfl (.row (some 8) ((l++[QB l x]).map Ent.pv) 0) (Obj.box [AS x.site,AI (wB x.site l+1),AI x.time,AI x.kind,AS x.board,AS x.step,AS x.of,AI x.other]) rfl
   simp only[List.map_append,List.map_cons,List.map_nil,nn,List.length_append,List.length_cons,List.length_nil,eI,Nat.zero_add]at Z;exact Z
  | some y=>
   have hy:y∈l:=List.mem_of_getLast? hl0
   have hp:0<l.length:=List.length_pos_of_mem hy
   have lz:(0:Int)<(l.length:Int):=by omega
   have w2:IntKind.i64.wrap ((l.length:Int)-1)=((l.length-1:Nat):Int):=by rw[BA _ (by omega) (by omega)];omega
   have hlt:l.length-1<l.length:=by omega
   have gl:=PB Ent.pv hlt
   have ey:l[l.length-1]=y:=by rw[List.getLast?_eq_getElem?,List.getElem?_eq_getElem hlt]at hl0;exact Option.some.inj hl0
   rw[ey]at gl;have cy:aB (some 8) 0 y.pv=some y.pv:=rfl
   have le:yG l (QB l x)=decide (IA (QB l x) y≤0):=by unfold yG;rw[hl0]
   have cp:=fun h K=>DV (h:=h) (K:=K) (QB l x) y
   simp only[Ent.pv,eI]at gl cy;simp only[nn]at cp;simp only[Ent.pv,eI]at cp;by_cases hc:IA (QB l x) y≤0
   ·rw[if_pos (by simp [le,hc])]at fin1
    have hc':=hc
    simp only[go_sem,lz,w2,hlt,gl,cy,↓cp,cp,hc'];exact fin1 rfl _
   ·rw[if_neg (by simp [le,hc])]at fin2
    have hc':=hc
    simp only[go_sem,lz,w2,hlt,gl,cy,↓cp,cp,hc',↓cl,cl,b2000,hm];have Z:=fin2 rfl (.row (some 8) ((l++[QB l x]).map Ent.pv) 0) (Obj.box [AS x.site,AI (wB x.site l+1),AI x.time,AI x.kind,AS x.board,AS x.step,AS x.of,AI x.other]) rfl
    simp only[List.map_append,List.map_cons,List.map_nil,nn,List.length_append,List.length_cons,List.length_nil,eI,Nat.zero_add]at Z;exact Z
 ·rw[if_pos h1]at fin1
  dsimp only at fin1;have e12:eA .neq (.p (.int .i64 (JB (QB l x)))) (.p (.int .i64 0))=some (AB true):=by simp only[go_sem,h1]
  rw[e12,oP,IN];exact fin1 rfl _
end Go.Am
end
section
/- An entry written: the reference. -/
open Go
set_option linter.all false
namespace Go.Am
variable {h:aA} {K:jA}
attribute [-go_sem] iB splice
attribute [-go_sem] yO uL
theorem wq_k3 {K:Ex→St→Prop}(l:List Ent)(x:Ent)(hx:EntOk x)(hl:l.length≤1000)(b:List (Nat × AV))(n0:x.no=0)(nb:0≤wB x.site l∧wB x.site l≤1000000)(hB:∀ y∈l,EntB y)
 (b0:bA b 0=yA l) (b3:bA b 3 = .ref h.length 0)
 (fin1:(OB l x).1=[]→∀H,K .ret ⟨[(4,yA []),(5,AI (OB l x).2)],h++H,[]⟩) (fin2:(OB l x).2=0→∀o r:Obj,o = .row (some 8) ((OB l x).1.map Ent.pv) 0→K .ret ⟨[(4,.own (h.length+1) (OB l x).1.length 0 (OB l x).1.length),(5,AI 0)],h++[r,o],[]⟩) :
 NW (cA X) X.gl iK ⟨b,h++[.box [AS x.site,AI (wB x.site l),AI x.time,AI x.kind,AS x.board,AS x.step,AS x.of,AI x.other]],[]⟩ K:=by
 rw[yO];have w1:IntKind.i64.wrap (wB x.site l+1)=wB x.site l+1:=BA _ (by omega) (by omega)
 have nn:(QB l x).pv = .agg [.str x.site,eI (wB x.site l+1),eI x.time,eI x.kind,.str x.board,.str x.step,.str x.of,eI x.other]:=rfl
 have nk:EntOk (QB l x):=⟨hx.s,hx.b,hx.p,hx.o⟩
 have sp:splice [AS x.site,AI (wB x.site l),AI x.time,AI x.kind,AS x.board,AS x.step,AS x.of,AI x.other] 1 [AI (wB x.site l+1)]=[AS x.site,AI (wB x.site l+1),AI x.time,AI x.kind,AS x.board,AS x.step,AS x.of,AI x.other]:=rfl
 have st:∀(k:AV→aA→Esc→Prop),(pK (rA 1 none (AV.ref h.length 0)) fun t1=>pK (oA none t1 (h++[Obj.box [AS x.site,AI (wB x.site l),AI x.time,AI x.kind,AS x.board,AS x.step,AS x.of,AI x.other]])) fun t2=>
  pK (eA .add t2 (AI 1)) fun t3=>pK (rA 1 none (AV.ref h.length 0)) fun t4=>wK (GA none t4 t3 (h++[Obj.box [AS x.site,AI (wB x.site l),AI x.time,AI x.kind,AS x.board,AS x.step,AS x.of,AI x.other]])) fun t5 h6 y7=>
  pK (oA (some 8) (AV.ref h.length 0) h6) fun t8=>k t8 h6 y7)=k (.p (QB l x).pv) (h++[Obj.box [AS x.site,AI (wB x.site l+1),AI x.time,AI x.kind,AS x.board,AS x.step,AS x.of,AI x.other]]) []:=by
  intro k;rw[nn];simp only[go_sem,w1,sp,eI]
 have ef:=fun h K=>z3h (h:=h) (K:=K) (QB l x) nk
 unfold OB at fin1 fin2;rw[if_neg (by simp [n0])]at fin1 fin2
 have cl:=fun h K=>rQ (h:=h) (K:=K) l (by omega)
 have b2000:¬(2000:Int)≤(l.length:Int):=by omega
 have hm:l.length+1≤xB:=by unfold xB;omega
 rw[b0,b3];unfold uL;rw[st];dsimp only;rw[ef];by_cases h1:JB (QB l x)=0
 ·rw[if_neg (by simp [h1])]at fin1 fin2
  rw[h1];have hx8:(h++[Obj.box [AS x.site,AI (wB x.site l+1),AI x.time,AI x.kind,AS x.board,AS x.step,AS x.of,AI x.other]])[h.length]?=some (Obj.box [AS x.site,AI (wB x.site l+1),AI x.time,AI x.kind,AS x.board,AS x.step,AS x.of,AI x.other]):=by simp
  cases hl0:l.getLast? with
  | none=>
   have el:l.length=0:=by rw[List.getLast?_eq_none_iff.1 hl0];rfl
   have lz:¬(0:Int)<(l.length:Int):=by omega
   have le:yG l (QB l x)=false:=by unfold yG;rw[hl0]
   rw[if_neg (by simp [le])]at fin2
   simp only[go_sem,lz,↓cl,cl,b2000,hm];have Z:=fin2 rfl (.row (some 8) ((l++[QB l x]).map Ent.pv) 0) (Obj.box [AS x.site,AI (wB x.site l+1),AI x.time,AI x.kind,AS x.board,AS x.step,AS x.of,AI x.other]) rfl
   simp only[List.map_append,List.map_cons,List.map_nil,nn,List.length_append,List.length_cons,List.length_nil,eI,Nat.zero_add]at Z;exact Z
  | some y=>
   have hy:y∈l:=List.mem_of_getLast? hl0
   have hp:0<l.length:=List.length_pos_of_mem hy
   have lz:(0:Int)<(l.length:Int):=by omega
   have w2:IntKind.i64.wrap ((l.length:Int)-1)=((l.length-1:Nat):Int):=by rw[BA _ (by omega) (by omega)];omega
   have hlt:l.length-1<l.length:=by omega
   have gl:=PB Ent.pv hlt
   have ey:l[l.length-1]=y:=by rw[List.getLast?_eq_getElem?,List.getElem?_eq_getElem hlt]at hl0;exact Option.some.inj hl0
   rw[ey]at gl;have cy:aB (some 8) 0 y.pv=some y.pv:=rfl
   have le:yG l (QB l x)=decide (IA (QB l x) y≤0):=by unfold yG;rw[hl0]
   have cp:=fun h K=>vV (h:=h) (K:=K) y (QB l x) (hB y hy) (BF h1)
   have cn:=CT (QB l x) y
   simp only[Ent.pv,eI]at gl cy;simp only[nn]at cp;simp only[Ent.pv,eI]at cp;by_cases hc:IA (QB l x) y≤0
   ·rw[if_pos (by simp [le,hc])]at fin1
    have hc':0≤IA y (QB l x):=by omega
    simp only[go_sem,lz,w2,hlt,gl,cy,↓cp,cp,hc'];exact fin1 rfl _
   ·rw[if_neg (by simp [le,hc])]at fin2
    have hc':¬0≤IA y (QB l x):=by omega
    simp only[go_sem,lz,w2,hlt,gl,cy,↓cp,cp,hc',↓cl,cl,b2000,hm];have Z:=fin2 rfl (.row (some 8) ((l++[QB l x]).map Ent.pv) 0) (Obj.box [AS x.site,AI (wB x.site l+1),AI x.time,AI x.kind,AS x.board,AS x.step,AS x.of,AI x.other]) rfl
    simp only[List.map_append,List.map_cons,List.map_nil,nn,List.length_append,List.length_cons,List.length_nil,eI,Nat.zero_add]at Z;exact Z
 ·rw[if_pos h1]at fin1
  dsimp only at fin1;have e12:eA .neq (.p (.int .i64 (JB (QB l x)))) (.p (.int .i64 0))=some (AB true):=by simp only[go_sem,h1]
  rw[e12,oP,IN];exact fin1 rfl _
end Go.Am
end
section
/- An entry written: the reference's loops. -/
open Go
set_option linter.all false
namespace Go.Am
variable {h:aA} {K:jA}
attribute [-go_sem] iB
attribute [-go_sem] yO uL
theorem zku {K:Ex→St→Prop}(l:List Ent)(x:Ent)(hx:EntOk x)(hl:l.length≤1000)(n0:x.no=0)(hB:∀ y∈l,EntB y)
 (fin1:(OB l x).1=[]→∀H,K .ret ⟨[(4,yA []),(5,AI (OB l x).2)],h++H,[]⟩) (fin2:(OB l x).2=0→∀o r:Obj,o = .row (some 8) ((OB l x).1.map Ent.pv) 0→K .ret ⟨[(4,.own (h.length+1) (OB l x).1.length 0 (OB l x).1.length),(5,AI 0)],h++[r,o],[]⟩) :
 YA (cA X) X.gl (.scope FI) (OA 0 (TA (cA X) X.gl iK K)) [(0,yA l),(3,.ref h.length 0),(12,yA l),(13,AI l.length),(14,AI 0)] (h++[.box [AS x.site,AI 0,AI x.time,AI x.kind,AS x.board,AS x.step,AS x.of,AI x.other]]) []:=by
 refine qB (fun k:Nat=>⟨[(0,yA l),(3,.ref h.length 0),(12,yA l),(13,AI l.length),(14,AI k)],h++[.box [AS x.site,AI (wB x.site (l.take k)),AI x.time,AI x.kind,AS x.board,AS x.step,AS x.of,AI x.other]],[]⟩) (fun k=>k≤l.length) (fun k=>l.length-k) 0 rfl (by omega) ?_
 intro k hk;have nb:∀j,0≤wB x.site (l.take j)∧wB x.site (l.take j)≤1000000:=fun j=>pU x.site _ 0 (fun y hy=>(hB y (List.mem_of_mem_take hy)).n.2) (by omega) (by omega)
 rcases Nat.lt_or_ge k l.length with hlt|hge
 ·have g:=PB Ent.pv hlt
  have c1:aB (some 8) 0 l[k].pv=some l[k].pv:=rfl
  have w2:IntKind.i64.wrap ((k:Int)+1)=((k+1:Nat):Int):=BA _ (by omega) (by omega)
  have ns:=z2w x.site hlt
  have hb:=hB _ (List.getElem_mem hlt)
  simp only[Ent.pv,eI]at g c1;by_cases he:l[k].site=x.site
  ·rw[if_pos he]at ns
   have he':=eq_true he
   simp only[go_sem,hlt,g,c1,w2,he'];exact⟨k+1,by rw[ns],by omega,by omega⟩
  ·rw[if_neg he]at ns
   simp only[go_sem,hlt,g,c1,w2,he];exact⟨k+1,by rw[ns],by omega,by omega⟩
 ·have e:k=l.length:=by omega
  subst e;simp only[go_sem,Nat.lt_irrefl,List.take_length];have nb':=nb l.length
  rw[List.take_length]at nb';exact wq_k3 l x hx hl _ n0 nb' hB rfl rfl fin1 fin2
theorem CV (l:List Ent)(x:Ent)(hr:∀ y∈l,EntOk y)(hx:EntOk x)(hl:l.length≤1000)(hB:∀ y∈l,EntB y):cA X HF [yA l,.p x.pv] h K=K (.tup [yA (OB l x).1,AI (OB l x).2]) h []:=by
 refine MA ?_;rw[z9m rfl];by_cases n0:x.no=0
 ·simp only[tL,Ent.pv,eI,go_sem,n0]
  refine zku l x hx hl n0 hB (fun e1 H=>?_) (fun h2 o r ho=>?_)
  ·simp only[go_sem]
   rw[e1];rfl
  ·subst ho
   simp only[go_sem,h2];rw[VF (by simp)]
 ·have e2:OB l x=([],3):=by unfold OB;rw[if_pos n0]
  rw[e2];have e12:eA .neq (.p (.int .i64 x.no)) (.p (.int .i64 0))=some (AB true):=by simp only[go_sem,n0]
  simp only[tL,Ent.pv,eI,go_sem,↓e12];rfl
end Go.Am
end
section
/- An entry written: the loops. -/
open Go
set_option linter.all false
namespace Go.Am
variable {h:aA} {K:jA}
attribute [-go_sem] iB
attribute [-go_sem] zO ML
theorem zkv {K:Ex→St→Prop}(l:List Ent)(x:Ent)(hx:EntOk x)(hl:l.length≤1000)(n0:x.no=0)(hB:∀ y∈l,EntB y)
 (fin1:(OB l x).1=[]→∀H,K .ret ⟨[(4,yA []),(5,AI (OB l x).2)],h++H,[]⟩) (fin2:(OB l x).2=0→∀o r:Obj,o = .row (some 8) ((OB l x).1.map Ent.pv) 0→K .ret ⟨[(4,.own (h.length+1) (OB l x).1.length 0 (OB l x).1.length),(5,AI 0)],h++[r,o],[]⟩) :
 YA (cA X) X.gl (.scope HI) (OA 0 (TA (cA X) X.gl FK K)) [(0,yA l),(3,.ref h.length 0),(18,yA l),(19,AI l.length),(20,AI 0)] (h++[.box [AS x.site,AI 0,AI x.time,AI x.kind,AS x.board,AS x.step,AS x.of,AI x.other]]) []:=by
 refine qB (fun k:Nat=>⟨[(0,yA l),(3,.ref h.length 0),(18,yA l),(19,AI l.length),(20,AI k)],h++[.box [AS x.site,AI (wB x.site (l.take k)),AI x.time,AI x.kind,AS x.board,AS x.step,AS x.of,AI x.other]],[]⟩) (fun k=>k≤l.length) (fun k=>l.length-k) 0 rfl (by omega) ?_
 intro k hk;have nb:∀j,0≤wB x.site (l.take j)∧wB x.site (l.take j)≤1000000:=fun j=>pU x.site _ 0 (fun y hy=>(hB y (List.mem_of_mem_take hy)).n.2) (by omega) (by omega)
 rcases Nat.lt_or_ge k l.length with hlt|hge
 ·have g:=PB Ent.pv hlt
  have c1:aB (some 8) 0 l[k].pv=some l[k].pv:=rfl
  have w2:IntKind.i64.wrap ((k:Int)+1)=((k+1:Nat):Int):=BA _ (by omega) (by omega)
  have ns:=z2w x.site hlt
  have hb:=hB _ (List.getElem_mem hlt)
  simp only[Ent.pv,eI]at g c1;by_cases he:l[k].site=x.site
  ·rw[if_pos he]at ns
   have he':=eq_true he
   simp only[go_sem,hlt,g,c1,w2,he'];exact⟨k+1,by rw[ns],by omega,by omega⟩
  ·rw[if_neg he]at ns
   simp only[go_sem,hlt,g,c1,w2,he];exact⟨k+1,by rw[ns],by omega,by omega⟩
 ·have e:k=l.length:=by omega
  subst e;simp only[go_sem,Nat.lt_irrefl,List.take_length];have nb':=nb l.length
  rw[List.take_length]at nb';exact wr_k3 l x hx hl _ n0 nb' hB rfl rfl fin1 fin2
theorem BV (l:List Ent)(x:Ent)(hr:∀ y∈l,EntOk y)(hx:EntOk x)(hl:l.length≤1000):cA X HJ [yA l,.p x.pv] h K=K (.tup [yA (HG l x).1,AI (HG l x).2]) h []:=by
 refine MA ?_;rw[z9D rfl];have q1:=fun h K=>JM (h:=h) (K:=K) l hr (by omega)
 unfold HG;by_cases he:wA l=0
 ·rw[if_neg (by simp [he])]
  rw[he]at q1;have hB:∀y∈l,EntB y:=fun y hy=>BF ((aH he).2.2 y hy)
  by_cases n0:x.no=0
  ·simp only[jJ,Ent.pv,eI,go_sem,↓q1,q1,n0]
   refine zkv l x hx hl n0 hB (fun e1 H=>?_) (fun h2 o r ho=>?_)
   ·simp only[go_sem]
    rw[e1];rfl
   ·subst ho
    simp only[go_sem,h2];rw[VF (by simp)]
  ·have e2:OB l x=([],3):=by unfold OB;rw[if_pos n0]
   rw[e2];have e12:eA .neq (.p (.int .i64 x.no)) (.p (.int .i64 0))=some (AB true):=by simp only[go_sem,n0]
   simp only[jJ,Ent.pv,eI,go_sem,↓q1,q1,↓e12];rfl
 ·rw[if_pos he]
  have e12:eA .neq (.p (.int .i64 (wA l))) (.p (.int .i64 0))=some (AB true):=by simp only[go_sem,he]
  simp only[jJ,Ent.pv,eI,go_sem,↓q1,q1,↓e12];rfl
end Go.Am
end
section
/- The abstract machine,part K: slices.Sorted(maps.Keys(m)) at a map keyed by strings: its keys,sorted;met by the kit's contract. -/
set_option linter.all false
namespace Go.Am
variable {P:Program} {gl:Nat→Option PV}
def sortS (ss:List (List UInt8)):List (List UInt8):=ss.mergeSort fun x y=>decide (x≤y)
end Go.Am
end
section
/- Which boards run,by site: the program. -/
open Go
set_option linter.all false
set_option maxRecDepth 100000
namespace Go.Am
variable {h:aA} {K:jA}
structure SmI (S:Flo) (n:Nat):Prop where
 bn:(S.sm.map (·.2)).Nodup
 bl:∀e∈S.sm,e.2<S.ck
 ln:S.sm.length≤n
 kl:∀e∈S.sm,e.1.1.length≤1000000
theorem SmI.sub {S S':Flo}{n:Nat}(I:SmI S n)(h:S'.sm.Sublist S.sm)(hc:S'.ck=S.ck):SmI S' (n+1):=
 ⟨I.bn.sublist (h.map _),fun e he=>by rw[hc];exact I.bl e (h.subset he),by have:=h.length_le;have:=I.ln;omega,fun e he=>I.kl e (h.subset he)⟩
theorem SmI.up {S:Flo}{n:Nat}(I:SmI S n):SmI S (n+1):=I.sub (List.Sublist.refl _) rfl
attribute [-go_sem] iB aC jC kD
attribute [local go_sem] PE GE HE IE JE KE LE NE OE QE RE SE TE UE VE XE
def sV (F:Flo):List (Nm×Nm):=(sortS (F.sm.map fun e=>e.1.1)).map fun s=>(s,(vA (asS F.sm) s).getD [])
end Go.Am
end
section
/- How many boards are in each state: the program. -/
open Go
set_option linter.all false
set_option maxRecDepth 100000
namespace Go.Am
variable {h:aA} {K:jA}
abbrev kC:Int→PV:=fun n=>.int .i64 n
abbrev vC:Int→AV:=fun n=>AI n
attribute [-go_sem] iB aC jC kD VJ WJ
def GC (h:aA)(steps:List Nm)(tries:Int)(m:List (Int × Int)):aA:=h++[.box [WC steps,AI tries],CB kC vC m]
section
variable {steps:List Nm} {tries:Int} {m m':List (Int × Int)} {o0 o1 o2 o3 o4 o5 o6 o7 o:Obj} {B l l2:aA} {G:Nat}
end
def HC (h:aA)(steps:List Nm)(tries:Int)(F:Flo)(G:Nat)(m:List (Int × Int))(l:aA):aA:=
 FH (GC h steps tries m) (flB steps tries) (CB PV.str refA (mapB (G+8) F.bs)) (dobj F.sm F.ck) (.row (some 5) (F.ends.map EndP.pv) 0) (.row (some 3) (F.runs.map RunP.pv) 0) (.row none (F.ref.map eI) 0) (.row none (F.why.map eI) 0)
  (.box [WC steps,AI tries,.mp (G+1),.mp (G+2),.own (G+3) F.ends.length 0 F.ends.length,.own (G+4) F.runs.length 0 F.runs.length,.own (G+5) F.ref.length 0 F.ref.length,.own (G+6) F.why.length 0 F.why.length]) (boxB F.bs) l
section
variable {steps:List Nm} {tries:Int} {F:Flo} {m m':List (Int × Int)} {o:Obj} {l l2:aA} {G:Nat}
end
end Go.Am
end
section
/- Sorting texts by a comparison: printed by program. -/
open Go
set_option linter.unusedSimpArgs false
namespace Go.Am
attribute [-go_sem] PV.cells splice
variable {h:aA} {K:jA}
end Go.Am
end
section
/- For how long a site runs boards,plainly. -/
open Go
set_option linter.all false
set_option maxRecDepth 100000
namespace Go.Am
def CH:Int→Int→List RunP→Prop
 | lo,hi,[]=>lo≤hi
 | lo,hi,r::rest=>lo≤r.frm∧r.frm≤r.til∧0≤r.til∧CH r.til hi rest
theorem pW:∀ {l:List RunP}{lo hi hi':Int},CH lo hi l→hi≤hi'→CH lo hi' l
 | [],lo,hi,hi',h,g=>by unfold CH at *;omega
 | r::rest,lo,hi,hi',h,g=>⟨h.1,h.2.1,h.2.2.1,pW h.2.2.2 g⟩
def AE (frm_ til_:Int)(r:RunP):Int:=max 0 (min (if r.til<0 then til_ else r.til) til_-max r.frm frm_)
def vQ (rs:List RunP)(busy:Bool)(T:Int):Prop:=if busy then ∃pre r,rs=pre++[r]∧CH 0 r.frm pre∧r.til<0∧0≤r.frm∧r.frm≤T else CH 0 T rs
theorem ziY {rs:List RunP}{busy:Bool}{T T':Int}(h:vQ rs busy T)(g:T≤T'):vQ rs busy T':=by
 unfold vQ at *;cases busy with
 | true=>
  obtain⟨pre,r,a,b,c,d,e⟩:=h;exact⟨pre,r,a,b,c,d,by omega⟩
 | false=>exact pW h g
def ofS (s:Nm)(l:List RunP):List RunP:=l.filter fun r=>decide (r.site=s)
structure BI (p:FlP) (T:Int):Prop where
 inv:∃q,Inv p q
 st:∀s,vQ (ofS s p.runs) (vA p.sites s).isSome T
 si:∀b st,vA p.bs b=some st→0≤st.since∧st.since≤T
 en:∀e∈p.ends,0≤e.frm∧e.frm≤e.til∧e.til≤T
theorem BI.mono {p:FlP}{T T':Int}(h:BI p T)(g:T≤T'):BI p T':=
 ⟨h.inv,fun s=>ziY (h.st s) g,fun b st hb=>by have:=h.si b st hb;omega,fun e he=>by have:=h.en e he;omega⟩
theorem ZT {a b:Ent}(h:gtE a b):a.time≤b.time:=by
 unfold gtE IA at h;by_cases t:IB b.time a.time=0
 ·have:=yF.1 t;omega
 ·rw[if_pos t,xF]at h;omega
end Go.Am
end
section
/- For how long a site runs boards: the program. -/
open Go
set_option linter.all false
set_option maxRecDepth 100000
namespace Go.Am
variable {h:aA} {K:jA}
attribute [-go_sem] iB aC jC kD
section
variable {fb:Obj} {steps:List Nm} {tries:Int} {S:Flo} {o o':Obj} {l:aA}
end
end Go.Am
end
section
/- Which boards wait for a step: the program. -/
open Go
set_option linter.all false
set_option maxRecDepth 100000
namespace Go.Am
variable {h:aA} {K:jA}
attribute [-go_sem] iB aC jC kD VJ WJ
attribute [local go_sem] PE GE HE IE JE KE LE NE OE QE RE SE TE UE VE XE
section
variable {fb o:Obj} {steps:List Nm} {tries:Int} {S:Flo} {l l2:aA}
end
section
variable {fb o:Obj} {steps:List Nm} {tries:Int} {S:Flo} {l l2 r:aA}
end
end Go.Am
end
section
/- Each board is in one state,each site runs at most one: plainly. -/
open Go
set_option linter.all false
set_option maxRecDepth 100000
namespace Go.Am
structure BoI (S:Flo) (N:List Nm):Prop where
 st:∀e∈S.bs,1≤e.2.state∧e.2.state≤5
 nm:∀e∈S.bs,e.1.board∈N
theorem BoI.put {S S':Flo}{N:List Nm}(I:BoI S N){i:Nat}{e:Ent × Sta}(he:S.bs[i]?=some e){s:Sta}(hs:1≤s.state∧s.state≤5)(hb:S'.bs=S.bs.set i (e.1,s)):BoI S' N where
 st y hy:=by
  rw[hb]at hy;rcases eP hy with h|h
  ·exact I.st y h
  ·rw[h];exact hs
 nm y hy:=by
  rw[hb]at hy;rcases eP hy with h|h
  ·exact I.nm y h
  ·rw[h];exact I.nm e (List.mem_of_getElem? he)
theorem ziy {F:Flo}{s k:Nm}(hk:k≠[]∨(vA (asS F.sm) s).isSome=true):(s,k)∈sV F↔vA (asS F.sm) s=some k:=by
 unfold sV;rw[List.mem_map];constructor
 ·rintro⟨y,hy,e⟩
  simp only[Prod.mk.injEq]at e;obtain⟨rfl,e⟩:=e;have hy2:y∈F.sm.map fun e=>e.1.1:=(List.mergeSort_perm _ _).mem_iff.1 hy
  cases h:vA (asS F.sm) y with
  | some v=>rw[h]at e;rw[←e];rfl
  | none=>
   exfalso;obtain⟨z,hz,rfl⟩:=List.mem_map.1 hy2;unfold vA asS at h;rw[Option.map_eq_none_iff,List.find?_eq_none]at h;exact h z.1 (List.mem_map_of_mem hz) (by simp)
 ·intro h
  refine⟨s,(List.mergeSort_perm _ _).mem_iff.2 ?_,by rw[h];rfl⟩
  obtain⟨z,hz,e⟩:=List.mem_map.1 (WT h);rw[List.mem_map];exact⟨z,hz,by rw[e]⟩
theorem z1I {bs:oE}{k:Nm}{st:Sta}(h:vA (asA bs) k=some st):∃e∈bs,e.1.board=k∧e.2=st:=by
 obtain⟨e,he,h2⟩:=List.mem_map.1 (WT h);simp only[Prod.mk.injEq]at h2;exact⟨e,he,h2⟩
def b4N:List Nm:=[[98,49],[98,50],[98,51],[98,52]]
structure Boo (F:Flo) (steps:List Nm):Prop where
 fl:∃n,FlI F steps n
 bo:BoI F b4N
 iv:∃q,Inv F.P q
theorem Boo.len {F:Flo}{steps:List Nm}(B:Boo F steps):F.bs.length≤4:=by
 obtain⟨n,I⟩:=B.fl;have:=I.nb.length_le_of_subset (l₂:=b4N) (fun k hk=>by obtain⟨e,he,rfl⟩:=List.mem_map.1 hk;exact B.bo.nm e he)
 rw[List.length_map]at this;exact this
theorem Boo.st {F:Flo}{steps:List Nm}(B:Boo F steps){k:Nm}{st:Sta}(h:vA (asA F.bs) k=some st):1≤st.state∧st.state≤5:=by
 obtain⟨e,he,_,e2⟩:=z1I h;rw[←e2];exact B.bo.st e he
theorem Boo.step {F:Flo}{steps:List Nm}(B:Boo F steps){k:Nm}{st:Sta}(h:vA (asA F.bs) k=some st)(h1:st.state=1):st.step∈steps:=by
 obtain⟨n,I⟩:=B.fl;obtain⟨e,he,_,e2⟩:=z1I h;rw[←e2];exact I.st e he (.inl (by rw[e2];exact h1))
theorem Boo.runs {F:Flo}{steps:List Nm}(B:Boo F steps){k:Nm}{st:Sta}(hk:k≠[])(h:vA (asA F.bs) k=some st):(st.site,k)∈sV F↔st.state=2:=by
 obtain⟨q,I⟩:=B.iv;rw[ziy (.inl hk)];have:=I.sts st.site k;show vA (asS F.sm) st.site=some k↔_
 rw[show vA (asS F.sm) st.site=vA F.P.sites st.site from rfl,this]
 constructor
 ·rintro⟨s2,h2,h3,_⟩
  have:vA F.P.bs k=some st:=h
  rw[this]at h2;cases h2;exact h3
 ·intro h2
  exact⟨st,h,h2,rfl⟩
end Go.Am
end
section
/- The reference's floor,plainly: which entries count,what is followed. -/
open Go
set_option linter.all false
namespace Go.Am
def FC (l:List Ent)(at_:Int)(i:Nat):Bool:=(VA (upL l at_)).getD i false
theorem TY {U:List Ent}{i:Nat}(h:U.length≤i):(VA U).getD i false=false:=by
 rw[List.getD_eq_getElem?_getD,List.getElem?_eq_none (by rw[rE];exact h)];rfl
theorem zab (U:List Ent)(i:Nat)(hi:i<U.length):(VA U).getD i false = !(((U.drop (i+1)).zip (VA (U.drop (i+1)))).any fun y=>y.2&&GG y.1 U[i]):=by
 have h1:=pS U i
 rw[List.drop_eq_getElem_cons hi,VA]at h1;have h2:=congrArg (fun l=>l[0]?) h1
 simp only[List.getElem?_drop,Nat.add_zero,List.getElem?_cons_zero]at h2;rw[List.getD_eq_getElem?_getD,h2];rfl
theorem zad (U:List Ent){i:Nat}(hi:i<U.length):(VA U).getD i false=true↔∀k (hk:k<U.length),i<k→((VA U).getD k false&&GG U[k] U[i])=false:=by
 rw[zab U i hi,Bool.not_eq_true',List.any_eq_false,←pS];have hz:(U.drop (i+1)).zip ((VA U).drop (i+1))=(sF U).drop (i+1):=by
  unfold sF List.zip;rw[List.drop_zipWith]
 rw[hz];have cg:∀k (hk:k<U.length),(VA U).getD k false=(VA U)[k]'(by rw[rE];exact hk):=fun k hk=>by
  rw[List.getD_eq_getElem?_getD,List.getElem?_eq_getElem (by rw[rE];exact hk)];rfl
 constructor
 ·intro h k hk hik
  have hm:(U[k],(VA U)[k]'(by rw[rE];exact hk))∈(sF U).drop (i+1):=by
   rw[List.mem_drop_iff_getElem];refine⟨k-(i+1),by rw[fW];omega,?_⟩
   have e:i+1+(k-(i+1))=k:=by omega
   rw[←z4p hk];congr 1
  have:=h _ hm;rw[cg k hk];simpa using this
 ·intro h y hy
  rw[List.mem_drop_iff_getElem]at hy;obtain⟨j,hj,e⟩:=hy;rw[fW]at hj;have hk:i+1+j<U.length:=by omega
  rw[z4p hk]at e;have:=h (i+1+j) hk (by omega)
  rw[cg _ hk]at this;rw[←e];simpa using this
theorem zQ (l:List Ent)(at_:Int):∀n,n≤l.length→upK l at_ n≤n∧(∀i (hi:i<l.length),upK l at_ n≤i→i<n→at_<l[i].time)∧(∀h:upK l at_ n-1<l.length,upK l at_ n≠0→l[upK l at_ n-1].time≤at_)
 | 0,_=>⟨Nat.le_refl _,fun i _ _ h=>by omega,fun _ h=>absurd rfl h⟩
 | n+1,hn=>by
  obtain⟨h1,h2,h3⟩:=zQ l at_ n (by omega)
  have hlt:n<l.length:=by omega
  have e:((l[n]?).map Ent.time).getD 0=l[n].time:=by rw[List.getElem?_eq_getElem hlt];rfl
  by_cases c:at_<l[n].time
  ·have eu:upK l at_ (n+1)=upK l at_ n:=by unfold upK;rw[e,if_pos c];cases n <;> rfl
   rw[eu];refine⟨by omega,fun i hi g1 g2=>?_,h3⟩
   by_cases hin:i=n
   ·subst hin;exact c
   ·exact h2 i hi g1 (by omega)
  ·have eu:upK l at_ (n+1)=n+1:=by unfold upK;rw[e,if_neg c]
   rw[eu];exact⟨Nat.le_refl _,fun i _ g1 g2=>by omega,fun _ _=>by simpa using Int.not_lt.1 c⟩
theorem z3Z (l:List Ent)(at_:Int):(upL l at_).length=upK l at_ l.length:=by
 unfold upL;rw[List.length_take];have:=(zQ l at_ l.length (Nat.le_refl _)).1;omega
theorem AQ (l:List Ent)(at_:Int):(upL l at_).length≤l.length:=by rw[z3Z];exact(zQ l at_ l.length (Nat.le_refl _)).1
theorem z3Y {l:List Ent}{at_:Int}{i:Nat}(hi:i<(upL l at_).length):(upL l at_)[i]=l[i]'(Nat.lt_of_lt_of_le hi (AQ l at_)):=by
 exact List.getElem_take
theorem z4a {l:List Ent}(hs:l.Pairwise fun a b=>a.time≤b.time)(at_:Int)(i:Nat)(hi:i<l.length):i<(upL l at_).length↔l[i].time≤at_:=by
 obtain⟨h1,h2,h3⟩:=zQ l at_ l.length (Nat.le_refl _);rw[z3Z];constructor
 ·intro h
  have hb:upK l at_ l.length-1<l.length:=by omega
  have h4:=h3 hb (by omega)
  by_cases e:i=upK l at_ l.length-1
  ·subst e;exact h4
  ·have:=List.pairwise_iff_getElem.1 hs i (upK l at_ l.length-1) hi hb (by omega)
   omega
 ·intro h
  rcases Nat.lt_or_ge i (upK l at_ l.length) with g|g
  ·exact g
  ·have:=h2 i hi g hi;omega
def lF (l:List Ent)(at_:Int):List Nat:=(List.range l.length).filter (FC l at_)
def hY:AllQ:=⟨⟨[],[]⟩,[],[]⟩
def theQ (steps:List Nm)(tries:Int)(U:List Ent):AllQ:=goQ steps tries hY 0 (sF U)
theorem zfm (l:List Ent)(at_:Int):lF l at_=(List.range' 0 (upL l at_).length).filter fun i=>(VA (upL l at_)).getD i false:=by
 unfold lF;have hl:=AQ l at_
 have e:List.range l.length=List.range' 0 (upL l at_).length++List.range' (upL l at_).length (l.length-(upL l at_).length):=by
  have:=List.range'_append_1 (s:=0) (m:=(upL l at_).length) (n:=l.length-(upL l at_).length);rw[Nat.zero_add]at this;rw[List.range_eq_range',this];congr 1;omega
 rw[e,List.filter_append];have e2:(List.range' (upL l at_).length (l.length-(upL l at_).length)).filter (FC l at_)=[]:=by
  rw[List.filter_eq_nil_iff];intro i hi;rw[List.mem_range'_1]at hi;unfold FC;rw[TY hi.1];simp
 rw[e2,List.append_nil];rfl
theorem OO (steps:List Nm)(tries:Int)(h0:steps≠[]):∀(l:List (Ent×Bool)) (S:Flo) (i n:Nat) (a:AllP),FlI S steps n→S.P=a.w→S.ref=a.ref.map (fun(j:Nat)=>(j:Int))→S.why=a.why →
 (Flo.go steps tries S i l).P=(goP steps tries a i l).w∧(Flo.go steps tries S i l).ref=(goP steps tries a i l).ref.map (fun(j:Nat)=>(j:Int))∧(Flo.go steps tries S i l).why=(goP steps tries a i l).why
 | [],S,i,n,a,I,h1,h2,h3=>⟨h1,h2,h3⟩
 | (x,c)::r,S,i,n,a,I,h1,h2,h3=>by
  have e1:Flo.go steps tries S i ((x,c)::r)=if c=false∨x.kind=7 then Flo.go steps tries S (i+1) r else Flo.go steps tries (S.step steps tries i x) (i+1) r:=rfl
  rw[e1];unfold goP;by_cases hs:c=false∨x.kind=7
  ·rw[if_pos hs,if_pos hs]
   exact OO steps tries h0 r S (i+1) (n+1) a I.up h1 h2 h3
  ·rw[if_neg hs,if_neg hs]
   obtain⟨s1,s2,s3,s4⟩:=zjr (tries:=tries) I h0 i x;rw[h1]at s2 s3 s4;by_cases hz:(fD steps tries a.w x).2≠0
   ·rw[if_pos hz]at s3 s4 ⊢
    exact OO steps tries h0 r _ (i+1) (n+1) _ s1 s2 (by rw[s3,h2];simp) (by rw[s4,h3])
   ·rw[if_neg hz]at s3 s4 ⊢
    exact OO steps tries h0 r _ (i+1) (n+1) _ s1 s2 (by rw[s3,h2]) (by rw[s4,h3])
structure Both (F:Flo) (q:AllQ):Prop where
 inv:Inv F.P q.w
 ref:F.ref=q.ref.map (fun(j:Nat)=>(j:Int))
 why:F.why=q.why
theorem zD (steps:List Nm)(tries:Int)(h0:steps≠[]){U:List Ent}(hf:∀ x∈U,JB x=0):Both (zjD steps tries U) (theQ steps tries U):=by
 obtain⟨p1,p2,p3⟩:=OO steps tries h0 (sF U) flo0 0 0 ⟨⟨[],[],[],[]⟩,[],[]⟩ (flI0 steps) rfl rfl rfl;obtain⟨i1,i2,i3⟩:=aM steps tries (sF U) ⟨⟨[],[],[],[]⟩,[],[]⟩ hY 0 (fun y hy=>zej (hf y.1 (List.of_mem_zip hy).1)) inv0 rfl rfl
 exact⟨by rw[p1];exact i1,by rw[p2,i2];rfl,by rw[p3,i3];rfl⟩
end Go.Am
end
section
/- The reference: which entries count. -/
open Go
set_option linter.all false
set_option maxRecDepth 100000
namespace Go.Am
variable {h:aA} {K:jA}
attribute [-go_sem] iB aC jC kD VJ WJ splice
set_option maxHeartbeats 4000000 in
theorem z3y (l:List Ent)(hl:l.length≤1000000)(hs:l.Pairwise fun a b=>a.time≤b.time)(at_:Int):∀(m i:Nat) (h:aA) (K:jA),i<l.length→l.length-i≤m →
 cA X fH [yA l,AI i,AI at_] h K=K (AB (FC l at_ i)) h []
 | 0,i,h,K,hi,hm=>by omega
 | m+1,i,h,K,hi,hm=>by
  have IH:=fun(k:Nat) h K (h1:i<k) (h2:k<l.length)=>z3y l hl hs at_ m k h K h2 (by omega)
  refine MA ?_;rw[z9n rfl];have hgi:=PB Ent.pv hi
  have i0:aB none 0 (Ent.pv l[i])=some (.str l[i].site):=rfl
  have i1:aB none 1 (Ent.pv l[i])=some (eI l[i].no):=rfl
  have i2:aB none 2 (Ent.pv l[i])=some (eI l[i].time):=rfl
  have up:=z4a hs at_ i hi
  have wi:IntKind.i64.wrap ((i:Int)+1)=((i+1:Nat):Int):=BA _ (by omega) (by omega)
  by_cases ht:at_<l[i].time
  ·have e:FC l at_ i=false:=by unfold FC;rw[TY (by omega)]
   rw[e];simp only[vL,go_sem,hi,hgi,i2,ht]
  ·have hu:i<(upL l at_).length:=up.2 (by omega)
   have ci:=zad (upL l at_) hu
   simp only[vL,go_sem,hi,hgi,i2,ht,wi];refine qB (fun k:Nat=>⟨[(0,yA l),(1,AI i),(2,AI at_),(7,AI k)],h,[]⟩) (fun k=>i<k∧k≤l.length∧∀j (hj:j<(upL l at_).length),i<j→j<k→((VA (upL l at_)).getD j false&&GG (upL l at_)[j] (upL l at_)[i])=false) (fun k=>l.length-k) (i+1) rfl ⟨by omega,by omega,fun j _ h1 h2=>by omega⟩ ?_
   rintro k ⟨hik,hk,hp⟩
   have fin:(∀j (hj:j<(upL l at_).length),i<j→¬j<k→False)→FC l at_ i=true:=fun hx=>ci.2 fun j hj hij=>by
    by_cases hjk:j<k
    ·exact hp j hj hij hjk
    ·exact(hx j hj hij hjk).elim
   rcases Nat.lt_or_ge k l.length with hlt|hge
   ·have hgk:=PB Ent.pv hlt
    have k2:aB none 2 (Ent.pv l[k])=some (eI l[k].time):=rfl
    have k3:aB none 3 (Ent.pv l[k])=some (eI l[k].kind):=rfl
    have k6:aB none 6 (Ent.pv l[k])=some (.str l[k].of):=rfl
    have k7:aB none 7 (Ent.pv l[k])=some (eI l[k].other):=rfl
    have wk:IntKind.i64.wrap ((k:Int)+1)=((k+1:Nat):Int):=BA _ (by omega) (by omega)
    have upk:=z4a hs at_ k hlt
    have IHk:=fun h K=>IH k h K hik hlt
    by_cases tk:l[k].time≤at_
    ·have huk:k<(upL l at_).length:=upk.2 tk
     have gk:=z3Y huk
     have gi:=z3Y hu
     have next:((VA (upL l at_)).getD k false&&GG (upL l at_)[k] (upL l at_)[i])=false→∀j (hj:j<(upL l at_).length),i<j→j<k+1→((VA (upL l at_)).getD j false&&GG (upL l at_)[j] (upL l at_)[i])=false:=fun e j hj h1 h2=>by
      by_cases ejk:j=k
      ·subst ejk;exact e
      ·exact hp j hj h1 (by omega)
     have un:GG (upL l at_)[k] (upL l at_)[i]=(decide (l[k].kind=7)&&decide (l[k].of=l[i].site)&&decide (l[k].other=l[i].no)):=by rw[gk,gi];rfl
     rw[un]at next;by_cases c1:l[k].kind=7
     ·by_cases c2:l[k].of=l[i].site
      ·by_cases c3:l[k].other=l[i].no
       ·cases c4:FC l at_ k with
        | true=>
         have e:FC l at_ i=false:=by
          cases hc:FC l at_ i with
          | false=>rfl
          | true=>
           have:=ci.1 hc k huk hik;rw[un]at this;unfold FC at c4;rw[c4,decide_eq_true c1,decide_eq_true c2,decide_eq_true c3]at this;cases this
         rw[c4]at IHk;rw[e];simp only[go_sem,hlt,hi,hgk,hgi,i0,i1,k2,k3,k6,k7,tk,eq_true c1,eq_true c2,eq_true c3,↓IHk,IHk]
        | false=>
         rw[c4]at IHk;simp only[go_sem,hlt,hi,hgk,hgi,i0,i1,k2,k3,k6,k7,tk,eq_true c1,eq_true c2,eq_true c3,↓IHk,IHk,wk];exact⟨k+1,rfl,⟨by omega,by omega,next (by unfold FC at c4;rw[c4];rfl)⟩,by omega⟩
       ·simp only[go_sem,hlt,hi,hgk,hgi,i0,i1,k2,k3,k6,k7,tk,eq_true c1,eq_true c2,c3,wk]
        exact⟨k+1,rfl,⟨by omega,by omega,next (by rw[decide_eq_false c3];simp)⟩,by omega⟩
      ·simp only[go_sem,hlt,hi,hgk,hgi,i0,i1,k2,k3,k6,k7,tk,eq_true c1,c2,wk]
       exact⟨k+1,rfl,⟨by omega,by omega,next (by rw[decide_eq_false c2];simp)⟩,by omega⟩
     ·simp only[go_sem,hlt,hi,hgk,hgi,i0,i1,k2,k3,k6,k7,tk,c1,wk]
      exact⟨k+1,rfl,⟨by omega,by omega,next (by rw[decide_eq_false c1];simp)⟩,by omega⟩
    ·have e:FC l at_ i=true:=fin fun j hj h1 h2=>tk (upk.1 (by omega))
     rw[e];simp only[go_sem,hlt,hi,hgk,hgi,k2,tk]
   ·have ek:k=l.length:=by omega
    subst ek;have c0:¬(l.length:Int)<(l.length:Int):=by omega
    have e:FC l at_ i=true:=fin fun j hj h1 h2=>by have:=AQ l at_;omega
    rw[e];simp only[go_sem,Nat.lt_irrefl,c0]
def cE (l:List Ent)(at_:Int)(k:Nat):List Nat:=(List.range k).filter (FC l at_)
theorem zfk (l:List Ent)(at_:Int)(k:Nat):cE l at_ (k+1)=cE l at_ k++if FC l at_ k=true then [k] else []:=by
 unfold cE;rw[List.range_succ,List.filter_append,List.filter_cons,List.filter_nil]
theorem zfj (l:List Ent)(at_:Int)(k:Nat):(cE l at_ k).length≤k:=by
 unfold cE;have:=List.length_filter_le (FC l at_) (List.range k);rw[List.length_range]at this;exact this
set_option maxHeartbeats 4000000 in
theorem uV (l:List Ent)(hl:l.length≤1000000)(hs:l.Pairwise fun a b=>a.time≤b.time)(at_:Int) :
 cA X fF [yA l,AI at_] h K=K (AL ((lF l at_).map fun(i:Nat)=>(i:Int))) h []:=by
 refine MA ?_;rw[z9c rfl];have cl:(l.map Ent.pv).length=l.length:=List.length_map ..
 simp only[VN,go_sem,cl];refine qB (fun k:Nat=>⟨[(0,yA l),(1,AI at_),(5,.own h.length (cE l at_ k).length 0 (cE l at_ k).length),(8,AI l.length),(9,AI k)],h++[.row none ((cE l at_ k).map fun(i:Nat)=>eI (i:Int)) 0],[]⟩) (fun k=>k≤l.length) (fun k=>l.length-k) 0 rfl (by omega) ?_
 intro k hk;rcases Nat.lt_or_ge k l.length with hlt|hge
 ·have hc:(k:Int)<(l.length:Int):=by omega
  have wk:IntKind.i64.wrap ((k:Int)+1)=((k+1:Nat):Int):=BA _ (by omega) (by omega)
  have C:=fun h K=>z3y l hl hs at_ l.length k h K hlt (by omega)
  have hx:=zfk l at_ k
  have hle:=zfj l at_ k
  have ml:((cE l at_ k).map fun(i:Nat)=>eI (i:Int)).length=(cE l at_ k).length:=List.length_map ..
  have m1:(cE l at_ k).length+1≤xB:=by unfold xB;omega
  cases hcn:FC l at_ k with
  | true=>
   rw[hcn]at C;rw[hcn,if_pos rfl]at hx;simp only[go_sem,hc,hlt,↓C,C,wk,m1,ml];refine⟨k+1,?_,by omega,by omega⟩
   rw[hx];simp
  | false=>
   rw[hcn]at C;rw[hcn,if_neg (by simp),List.append_nil]at hx
   simp only[go_sem,hc,hlt,↓C,C,wk,m1,ml];refine⟨k+1,?_,by omega,by omega⟩
   rw[hx]
 ·have ek:k=l.length:=by omega
  subst ek;have c0:¬(l.length:Int)<(l.length:Int):=by omega
  have wf:win ((cE l at_ l.length).map fun(i:Nat)=>eI (i:Int)) 0 (cE l at_ l.length).length=(cE l at_ l.length).map fun(i:Nat)=>eI (i:Int):=VF (by simp)
  simp only[go_sem,c0,Nat.lt_irrefl,wf];rw[AL,List.map_map];rfl
end Go.Am
end
section
/- What the laws of boards followed ask besides: flows drawn,faults,equal lists. -/
open Go
set_option linter.all false
set_option maxRecDepth 100000
namespace Go.Am
variable {h:aA} {K:jA} {L:List Int} {a:Int}
attribute [-go_sem] iB
attribute [-go_sem] sT
theorem zi4 (steps:List Nm)(tries:Int)(hl:steps.length≤1000)(hk:∀ s∈steps,s.length≤1000000):cA X wJ [NH steps tries] h K=K (AI (PO steps tries)) h []:=by
 refine MA ?_;rw[z9g rfl];unfold PO;by_cases h0:steps.length=0
 ·have h0':(steps.length:Int)=0:=by omega
  simp only[dJ,go_sem,eq_true h0',h0]
 have h0':¬(steps.length:Int)=0:=by omega
 by_cases h1:(20:Int)<steps.length
 ·simp only[dJ,go_sem,h0',h0,h1]
 simp only[dJ,go_sem,h0',h0,h1];refine qB (fun k:Nat=>⟨[(1,.ref h.length 0),(16,WC steps),(17,AI steps.length),(18,AI k)],h++[.box [WC steps,AI tries]],[]⟩) (fun k=>k≤steps.length∧iF (steps.take k) (steps.drop k)=iF [] steps) (fun k=>steps.length-k) 0 rfl ⟨by omega,rfl⟩ ?_
 rintro k ⟨hkl,hp⟩
 rcases Nat.lt_or_ge k steps.length with hlt|hge
 ·have hg:=PB PV.str hlt
  have cw:∀v:List UInt8,aB none 0 (PV.str v)=some (PV.str v):=fun _=>rfl
  have w2:IntKind.i64.wrap ((k:Int)+1)=((k+1:Nat):Int):=BA _ (by omega) (by omega)
  have ky:=fun h K=>MM (h:=h) (K:=K) steps[k] (by have:=hk _ (List.getElem_mem hlt);omega)
  have ct:=fun h K=>qW (h:=h) (K:=K) (steps.take k) (fun h' _=>strS _) steps[k] (by simp;omega)
  have hw:win (steps.map PV.str) 0 k=(steps.take k).map PV.str:=by simp [win,List.map_take]
  have hk2:k≤steps.length:=by omega
  rw[List.drop_eq_getElem_cons hlt,iF]at hp;cases h2:LB steps[k]with
  | false=>
   rw[if_pos h2]at hp;simp only[go_sem,hlt,hg,cw,↓ky,ky,h2];rw[←hp];first|done|rfl
  | true=>
   rw[if_neg (by simp [h2])]at hp
   cases h3:(steps.take k).contains steps[k]with
   | true=>
    rw[if_pos h3]at hp;rw[h3]at ct;simp only[go_sem,hlt,hg,cw,↓ky,ky,h2,hw,hk2,↓ct,ct];rw[←hp];first|done|rfl
   | false=>
    rw[if_neg (by rw[h3];simp),←List.take_succ_eq_append_getElem hlt]at hp
    rw[h3]at ct;simp only[go_sem,hlt,hg,cw,↓ky,ky,h2,hw,hk2,↓ct,ct,w2];exact⟨k+1,rfl,⟨by omega,hp⟩,by omega⟩
 ·have ek:k=steps.length:=by omega
  subst ek;rw[List.drop_length]at hp;have hz:iF [] steps=0:=by rw[←hp];rfl
  rw[if_neg (by simp [hz])]
  simp only[go_sem,Nat.lt_irrefl];rw[sT];cases h4:inB 1 tries 10 with
  | false=>simp only[XN,go_sem,DE,h4];first|done|rfl
  | true=>simp only[XN,go_sem,DE,h4];first|done|rfl
theorem yV (n:Int):cA X xJ [AI n] h K=K (AI (LD n)) h []:=by
 refine MA ?_;rw[z9l rfl];unfold LD;cases h1:lE n with
 | false=>simp only[ZN,go_sem,RF,h1,Bool.false_eq_true]
 | true=>simp only[ZN,go_sem,RF,h1]
theorem zi6 (n:Nat)(hn:n≤1048576):cA X TL [.sl0 none,AI n] h K=K (.own h.length 0 0 0) (h++[.row none [] 0]) []:=by
 refine fU (X:=X) (by kernel_rfl) ?_
 show wH GRL PRL TL [.sl0 none,AI n] h=_
 exact z2h (by kernel_rfl) (by omega) (by omega)
def lsn (xs:List PV):PV:=.sl none xs
theorem zi1 (ls:List (List PV))(hs:∀ l∈ls,TB none l)(hl:ls.length≤1000)(hn:ls.flatten.length≤1000000) :
 cA X AJ [.p (.sl none (ls.map lsn))] h K=K (.own h.length ls.flatten.length 0 ls.flatten.length) (h++[.row none ls.flatten 0]) []:=by
 refine MA ?_;rw[z9v rfl];simp only[dO,go_sem];refine qB (fun k:Nat=>⟨[(0,.p (.sl none (ls.map lsn))),(3,AI (ls.take k).flatten.length),(9,.p (.sl none (ls.map lsn))),(10,AI ls.length),(11,AI k)],h,[]⟩) (fun k=>k≤ls.length) (fun k=>ls.length-k) 0 rfl (by omega) ?_
 intro k hk;rcases Nat.lt_or_ge k ls.length with hlt|hge
 ·have g2:=PB lsn hlt
  have f1:=z1u hlt
  have f2:=PT ls (k+1)
  have w2:IntKind.i64.wrap ((k:Int)+1)=((k+1:Nat):Int):=BA _ (by omega) (by omega)
  have w3:IntKind.i64.wrap (((ls.take k).flatten.length:Int)+(ls[k].length:Int))=((ls.take (k+1)).flatten.length:Int):=by
   rw[f1,List.length_append];have:(ls.take k).flatten.length+ls[k].length≤1000000:=by rw[f1,List.length_append]at f2;omega
   rw[BA _ (by omega) (by omega)];omega
  have b1:¬(((ls.take (k+1)).flatten.length:Int)<0):=by omega
  simp only[go_sem,hlt,g2,lsn,w3,b1,w2];exact⟨k+1,rfl,by omega,by omega⟩
 ·have ek:k=ls.length:=by omega
  subst ek;have q:=fun h K=>zi6 (h:=h) (K:=K) ls.flatten.length (by omega)
  have tl:ls.take ls.length=ls:=List.take_length
  simp only[go_sem,Nat.lt_irrefl,tl,↓q,q];refine qB (fun k:Nat=>⟨[(6,.own h.length (ls.take k).flatten.length 0 (ls.take k).flatten.length),(25,.p (.sl none (ls.map lsn))),(26,AI ls.length),(27,AI k)],h++[.row none (ls.take k).flatten 0],[]⟩) (fun k=>k≤ls.length) (fun k=>ls.length-k) 0 rfl (by omega) ?_
  intro k hk;rcases Nat.lt_or_ge k ls.length with hlt|hge
  ·have g2:=PB lsn hlt
   have f1:=z1u hlt
   have f2:=PT ls (k+1)
   have w2:IntKind.i64.wrap ((k:Int)+1)=((k+1:Nat):Int):=BA _ (by omega) (by omega)
   have hm:(ls.take k).flatten.length+ls[k].length≤xB:=by rw[f1,List.length_append]at f2;unfold xB;omega
   have hm0:ls[k].length≤xB:=by omega
   simp only[go_sem,hlt,g2,lsn,w2,hm,hm0];exact⟨k+1,by rw[f1];simp,by omega,by omega⟩
  ·have ek:k=ls.length:=by omega
   subst ek;simp only[go_sem,Nat.lt_irrefl,tl];rw[List.take_of_length_le (by simp)]
end Go.Am
end
section
/- Which entries count: the program's walk;an entry drawn. -/
open Go
set_option linter.all false
set_option maxRecDepth 100000
namespace Go.Am
variable {h:aA} {K:jA} {L:List Int} {a:Int}
attribute [-go_sem] iB
def aD (U:List Ent)(k:Nat):List Nat:=(List.range k).filter fun i=>(VA U).getD i false
theorem zfo (U:List Ent)(k:Nat):aD U (k+1)=aD U k++(if(VA U).getD k false=true then [k] else []):=by
 unfold aD;rw[List.range_succ,List.filter_append,List.filter_cons,List.filter_nil]
theorem zfn (U:List Ent)(k:Nat):(aD U k).length≤k:=by
 unfold aD;have:=List.length_filter_le (fun i=>(VA U).getD i false) (List.range k)
 rw[List.length_range]at this;exact this
def sE (l:List Ent)(at_:Int):List Int×Int:=if orL [wA l,LD at_]≠0 then([],orL [wA l,LD at_]) else((lF l at_).map fun(i:Nat)=>(i:Int),0)
theorem tV (l:List Ent)(at_:Int)(hr:∀ y∈l,EntOk y)(hl:l.length≤1000):cA X GJ [yA l,AI at_] h K=K (.tup [AL (sE l at_).1,AI (sE l at_).2]) h []:=by
 refine MA ?_;rw[z9B rfl];have q1:=fun h K=>JM (h:=h) (K:=K) l hr (by omega)
 have q2:=fun h K=>ziC (h:=h) (K:=K) at_
 have q3:=fun h K=>z3j (h:=h) (K:=K) [wA l,LD at_] (by simp)
 simp only[AL,List.map_cons,List.map_nil]at q3;unfold sE;by_cases he:orL [wA l,LD at_]=0
 ·rw[if_neg (by simp [he])]
  rw[he]at q3;have q4:=fun h K=>ziF (h:=h) (K:=K) l at_ (by omega)
  have ul:=AQ l at_
  have q5:=fun h K=>ziA (h:=h) (K:=K) (upL l at_) (by omega)
  have cl:((VA (upL l at_)).map UB).length=(upL l at_).length:=by rw[List.length_map,rE]
  have fin:lF l at_=aD (upL l at_) (upL l at_).length:=by rw[zfm];unfold aD;rw[List.range_eq_range']
  rw[fin];generalize hU:upL l at_=U at *;have hcb:(VA U).length=U.length:=rE U
  simp only[KL,go_sem,↓q1,q1,↓q2,q2,↓q3,q3,↓q4,q4,↓q5,q5,cl,hcb];refine qB (fun k:Nat=>⟨[(7,.own h.length (aD U k).length 0 (aD U k).length),(22,.p (.sl none ((VA U).map UB))),(23,AI U.length),(24,AI k)],h++[.row none ((aD U k).map fun(i:Nat)=>eI (i:Int)) 0],[]⟩) (fun k=>k≤U.length) (fun k=>U.length-k) 0 rfl (by omega) ?_
  intro k hk;rcases Nat.lt_or_ge k U.length with hlt|hge
  ·have hc:(k:Int)<(U.length:Int):=by omega
   have wk:IntKind.i64.wrap ((k:Int)+1)=((k+1:Nat):Int):=BA _ (by omega) (by omega)
   have hkc:k<(VA U).length:=by omega
   have g:=PB UB hkc
   have gd:(VA U).getD k false=(VA U)[k]:=by rw[List.getD_eq_getElem?_getD,List.getElem?_eq_getElem hkc];rfl
   have hx:=zfo U k
   rw[gd]at hx;have hle:=zfn U k
   have ml:((aD U k).map fun(i:Nat)=>eI (i:Int)).length=(aD U k).length:=List.length_map ..
   have m1:(aD U k).length+1≤xB:=by unfold xB;omega
   cases hcn:(VA U)[k]with
   | true=>
    rw[hcn]at g hx;rw[if_pos rfl]at hx;simp only[UB]at g;simp only[go_sem,hc,hlt,g,wk,m1,ml];refine⟨k+1,?_,by omega,by omega⟩
    rw[hx];simp
   | false=>
    rw[hcn]at g hx;rw[if_neg (by simp),List.append_nil]at hx
    simp only[UB]at g;simp only[go_sem,hc,hlt,g,wk,m1,ml];refine⟨k+1,?_,by omega,by omega⟩
    rw[hx]
  ·have e:k=U.length:=by omega
   subst e;have ml:((aD U U.length).map fun(i:Nat)=>eI (i:Int)).length=(aD U U.length).length:=List.length_map ..
   have hw:win ((aD U U.length).map fun(i:Nat)=>eI (i:Int)) 0 (aD U U.length).length=(aD U U.length).map fun(i:Nat)=>eI (i:Int):=VF (by simp)
   simp only[go_sem,Int.lt_irrefl,ml,hw];simp [AL]
 ·rw[if_pos he]
  have e12:eA .neq (.p (.int .i64 (orL [wA l,LD at_]))) (.p (.int .i64 0))=some (AB true):=by simp only[go_sem,he]
  simp only[KL,go_sem,↓q1,q1,↓q2,q2,↓q3,q3,↓e12];rfl
end Go.Am
end
section
/- An entry drawn that is tov be written. -/
open Go
set_option linter.all false
set_option maxRecDepth 100000
namespace Go.Am
variable {h:aA} {K:jA} {L:List Int} {a:Int}
attribute [-go_sem] iB
theorem UT (hp:LA 10 a)(l:List Ent)(hl:l.length≤1000):TD uJ [yA l] L a (fun v a2=>a≤a2∧a2≤a+8∧∃e:Ent,v = .p e.pv∧EntOk e):=by
 refine TD.of fun h id hid=>?_
 rw[z8U rfl];have P:∀k:Int,0≤k→k≤8→LA 0 (a+k):=fun k h1 h2=>rB hp (by omega) (by omega)
 have p0:LA 0 a:=rB hp (by omega) (by omega)
 have p1:LA 0 (a+1):=rB hp (by omega) (by omega)
 have p2:LA 0 (a+1+1):=rB hp (by omega) (by omega)
 have p3:LA 0 (a+1+1+1):=rB hp (by omega) (by omega)
 have p4:LA 0 (a+1+1+1+1):=rB hp (by omega) (by omega)
 have s1:=fun(l:aA) K=>(ZL (L:=L) p0 [.str [115,97],.str [115,98],.str [115,99]] rfl (by decide) (by decide)).app (h:=h) (l:=l) (K:=K) hid
 have s2:=fun(l:aA) K=>(YL (L:=L) p1 [.int .i64 0,.int .i64 0,.int .i64 0,.int .i64 0,.int .i64 1] rfl (by decide) (by decide)).app (h:=h) (l:=l) (K:=K) hid
 have s3:=fun(l:aA) K=>(YL (L:=L) p2 [.int .i64 0,.int .i64 500,.int .i64 500,.int .i64 500] rfl (by decide) (by decide)).app (h:=h) (l:=l) (K:=K) hid
 have s4:=fun(l:aA) K=>(ZL (L:=L) p3 [.str [98,57],.str [98,57],.str []] rfl (by decide) (by decide)).app (h:=h) (l:=l) (K:=K) hid
 have lS:(NB [[115,97],[115,98],[115,99]] L a).length≤1000000:=by
  have:=DH (l:=[[115,97],[115,98],[115,99]]) (L:=L) (a:=a) (by decide) (by decide)
  simp only[List.mem_cons,List.not_mem_nil,or_false]at this;rcases this with e|e|e <;> rw[e] <;> decide
 have lB:(NB [[98,57],[98,57],[]] L (a+1+1+1)).length≤1000000:=by
  have:=DH (l:=[[98,57],[98,57],[]]) (L:=L) (a:=a+1+1+1) (by decide) (by decide)
  simp only[List.mem_cons,List.not_mem_nil,or_false]at this;rcases this with e|e|e <;> rw[e] <;> decide
 simp only[List.map_cons,List.map_nil,unS,unI]at s1 s2 s3 s4;generalize NB [[115,97],[115,98],[115,99]] L a=S at *;generalize NB [[98,57],[98,57],[]] L (a+1+1+1)=B at *;generalize RC [0,0,0,0,1] L (a+1)=N at *;generalize RC [0,500,500,500] L (a+1+1)=T at *;have fin:∀(t:Int) (b:Int),a≤b→b≤a+8→∃a2,(a≤a2∧a2≤a+8∧∃e:Ent,AV.p (.agg [.str S,.int .i64 N,.int .i64 t,.int .i64 1,.str B,.str [],.str [],.int .i64 0]) = .p e.pv∧EntOk e)∧h.set id (EA L b)=h.set id (EA L a2):=
  fun t b h1 h2=>⟨b,⟨h1,h2,⟨S,N,t,1,B,[],[],0⟩,rfl,⟨lS,lB,by simp,by simp⟩⟩,rfl⟩
 by_cases h0:(0:Int)<(l.length:Int)
 ·have f1:=fun(l:aA) K=>(JJ (L:=L) p4 3).app (h:=h) (l:=l) (K:=K) hid
  have hlt:l.length-1<l.length:=by omega
  have w2:IntKind.i64.wrap ((l.length:Int)-1)=((l.length-1:Nat):Int):=by rw[BA _ (by omega) (by omega)];omega
  have g:=PB Ent.pv hlt
  generalize l[l.length-1]=y at g;have c2:aB none 2 (Ent.pv y)=some (eI y.time):=rfl
  by_cases hf:DB L (a+1+1+1+1) 3=0
  ·simp only[bJ,go_sem,hid,↓s1,s1,↓s2,s2,↓s3,s3,↓s4,s4,h0,↓f1,f1,hf,w2,hlt,g,c2,eI]
   exact fin _ (a+1+1+1+1+1) (by omega) (by omega)
  ·simp only[bJ,go_sem,hid,↓s1,s1,↓s2,s2,↓s3,s3,↓s4,s4,h0,↓f1,f1,hf]
   exact fin _ (a+1+1+1+1+1) (by omega) (by omega)
 ·simp only[bJ,go_sem,hid,↓s1,s1,↓s2,s2,↓s3,s3,↓s4,s4,h0]
  exact fin _ (a+1+1+1+1) (by omega) (by omega)
end Go.Am
end
section
/- stationed: a pC call,computed. -/
open Go
set_option linter.all false
namespace Go.Am
def orc0 (f:Nat)(a:List AV):Option AV:=none
theorem zhm:∀ f a v,orc0 f a=some v→∀h (K:jA),K v h []→cA X0 f a h K:=by
 intro f a v hv;cases hv
theorem zjq:QL X0 orc0 1000 60 pI [] []=some (AB true,[],[]):=by kernel_rfl
theorem zl8:cA X0 pI [] [] fun v h x=>v=AB true∧h=[]∧x=[]:=(z4s zhm 1000 60 zjq _).2 ⟨rfl,rfl,rfl⟩
theorem ziD {h:aA}{K:jA}:cA X pI [] h K=K (AB true) h []:=fU (by kernel_rfl) rfl
end Go.Am
end
section
/- EntryTexts returns true. -/
open Go
set_option linter.all false
set_option maxRecDepth 100000
namespace Go.Am
variable {L:List Int} {a:Int} {h l:aA} {id:Nat} {K:jA}
end Go.Am
end
section
/- The shortest way between two states of a test access port: a search AE a queue. -/
open Go
set_option linter.all false
namespace Go.Am
variable {h:aA} {K:jA}
attribute [-go_sem] aC jC VJ WJ
end Go.Am
end
section
/- ready: a pC call,computed. -/
open Go
set_option linter.all false
namespace Go.Am
end Go.Am
end
section
/- UndoneIsNothing returns true. -/
open Go
set_option linter.all false
set_option maxRecDepth 100000
namespace Go.Am
variable {L:List Int} {a:Int} {h:aA} {K:jA}
attribute [-go_sem] iB
def wI:List Nm:=[[115,99,97,110],[102,108,97,115,104],[98,117,114,110]]
end Go.Am
end
section
/- A flow drawn,right or not. -/
open Go
set_option linter.all false
set_option maxRecDepth 100000
namespace Go.Am
variable {h:aA} {K:jA} {L:List Int} {a:Int}
attribute [-go_sem] iB
theorem z0M {i:Nat}{v:AV}{y:Nat × Nat}(h:y∈IC i v):y.1=i:=by
 unfold IC at h;split at h
 ·rw[List.mem_singleton]at h;rw[h]
 ·cases h
theorem dY {P:jA}{H0:aA}{o1 o2:Obj}{steps:List Nm}{tr:Int}{x:Esc}{m:Nat}(hm:m=steps.length)(hb:H0.length=h.length)(hx:∀ y∈x,h.length≤y.1)(hP:P (NH steps tr) H0 []) :
 sD false h.length P (some [AV.agg [.own (h.length+2) m 0 m,AI tr]]) (H0++[o1,o2,.row none (steps.map PV.str) 0]) x:=by
 subst hm;have g2:(H0++[o1,o2,Obj.row none (steps.map PV.str) 0])[h.length+2]?=some (.row none (steps.map PV.str) 0):=by rw[List.getElem?_append_right (by omega),hb];simp
 have w1:win (steps.map PV.str) 0 steps.length=steps.map PV.str:=VF (by simp)
 have r1:rd (H0++[o1,o2,Obj.row none (steps.map PV.str) 0]) (.own (h.length+2) steps.length 0 steps.length)=some (none,steps.map PV.str):=by simp [rd,g2,w1]
 rw[zik (v:=NH steps tr) hx (by simp [XA,nE,jB,r1];rfl) (by simp [AV.top,AV.tops])]
 rw[←hb,List.take_left];exact hP
attribute [-go_sem] mJ
set_option maxHeartbeats 8000000 in
theorem af_k3 {id:Nat}{s0:List Nm}{tries:Int}{a:Int}(hid:id<h.length)(hp:LA 30 a)(s0l:1≤s0.length∧s0.length≤3)(s0k:∀ s∈s0,s.length≤10):∃(steps:List Nm) (tr a2:Int),a≤a2∧a2≤a+6∧1≤steps.length∧steps.length≤4∧(∀s∈steps,s.length≤10) ∧
 ∀P:jA,P (NH steps tr) (h.set id (EA L a2)) []→NW (cA X) X.gl kM ⟨[(0,.ref id 0),(2,.ref h.length 0),(3,.ref (h.length+1) 0)],h.set id (EA L a)++[.box [.sl0 none,AI 0],.box [WC s0,AI tries]],[]⟩ (DA [.cell 2 (some 2)] false h.length P):=by
 have p2:LA 0 a:=rB hp (by omega) (by omega)
 have p3:LA 0 (a+1):=rB hp (by omega) (by omega)
 have p4:LA 0 (a+1+1):=rB hp (by omega) (by omega)
 by_cases f1:DB L a 20=0
 ·have pm:=DH (L:=L) (a:=a+1) (l:=[[],[115,99,97,110],[122,122]]) (by simp) (by simp)
  generalize hz:NB [[],[115,99,97,110],[122,122]] L (a+1)=z at *;have CO:=fun h K=>zi1 (h:=h) (K:=K) [s0.map PV.str,[PV.str z]] (by
   intro l hl;simp only[List.mem_cons,List.not_mem_nil,or_false]at hl;rcases hl with e|e <;> subst e
   ·exact KV
   ·exact KV (us:=[z])) (by simp) (by simp;omega)
  have e1:(s0.map PV.str++[PV.str z])=(s0++[z]).map PV.str:=by rw[List.map_append];rfl
  have zl:∀s∈s0++[z],s.length≤10:=fun s hs=>by
   rcases List.mem_append.1 hs with hs|hs
   ·exact s0k s hs
   ·rw[List.mem_singleton]at hs;subst hs
    simp only[List.mem_cons,List.not_mem_nil,or_false]at pm;rcases pm with e|e|e <;> rw[e] <;> simp
  simp only[List.map_cons,List.map_nil,lsn,List.flatten_cons,List.flatten_nil,List.append_nil,e1,List.length_map,List.length_append,Nat.zero_add]at CO;by_cases f2:DB L (a+1+1) 25=0
  ·obtain⟨k,a2,o1,o2,_,_,G⟩:=XL (L:=L) (a:=a+1+1+1) (rB hp (by omega) (by omega)) 1 10 (by omega) (by omega) (by omega)
   have OD:=fun(l:aA) K=>G.app (h:=h) (l:=l) (K:=K) hid
   refine⟨s0++[z],k,a2,by omega,by omega,by simp,by simp;omega,zl,fun P hP=>?_⟩
   rw[mJ];simp only[fI,go_sem,hid,p2,p3,p4,splice,f1,f2,hz,↓CO,CO,↓OD,OD];refine dY (by simp) (by simp) (fun y hy=>?_) hP
   rcases List.mem_append.1 hy with hy|hy <;> (have:=z0M hy;omega)
  ·refine⟨s0++[z],tries,a+1+1+1,by omega,by omega,by simp,by simp;omega,zl,fun P hP=>?_⟩
   rw[mJ];simp only[fI,go_sem,hid,p2,p3,p4,splice,f1,f2,hz,↓CO,CO];refine dY (by simp) (by simp) (fun y hy=>?_) hP
   rcases List.mem_append.1 hy with hy|hy <;> (have:=z0M hy;omega)
 ·by_cases f2:DB L (a+1) 25=0
  ·obtain⟨k,a2,o1,o2,_,_,G⟩:=XL (L:=L) (a:=a+1+1) (rB hp (by omega) (by omega)) 1 10 (by omega) (by omega) (by omega)
   have OD:=fun(l:aA) K=>G.app (h:=h) (l:=l) (K:=K) hid
   refine⟨s0,k,a2,by omega,by omega,by omega,by omega,s0k,fun P hP=>?_⟩
   rw[mJ];simp only[fI,go_sem,hid,p2,p3,p4,splice,f1,f2,↓OD,OD];exact hP
  ·refine⟨s0,tries,a+1+1,by omega,by omega,by omega,by omega,s0k,fun P hP=>?_⟩
   rw[mJ];simp only[fI,go_sem,hid,p2,p3,p4,splice,f1,f2];exact hP
set_option maxHeartbeats 8000000 in
theorem zeP (hp:LA 40 a):TD tJ [] L a (fun v a2=>a≤a2∧a2≤a+8∧∃(steps:List Nm) (tries:Int),1≤steps.length∧steps.length≤4∧(∀s∈steps,s.length≤10)∧v=NH steps tries):=by
 refine TD.of fun h id hid=>?_
 rw[z8T rfl];have p0:LA 0 a:=rB hp (by omega) (by omega)
 have p1:LA 0 (a+1):=rB hp (by omega) (by omega)
 have r1:1≤nC 1 3 L a∧nC 1 3 L a≤3:=LK L a (by omega) (by omega)
 obtain⟨n,hn⟩:∃n:Nat,nC 1 3 L a=n:=⟨(nC 1 3 L a).toNat,by omega⟩
 generalize ht:nC 1 3 L (a+1)=tries at *;have n3:n≤3:=by omega
 have hw:win [PV.str [115,99,97,110],.str [102,108,97,115,104],.str [98,117,114,110]] 0 n=(wI.take n).map PV.str:=by simp [win,wI,List.map_take]
 have s0l:1≤(wI.take n).length∧(wI.take n).length≤3:=by rw[List.length_take];show 1≤min n 3∧min n 3≤3;omega
 have s0k:∀s∈wI.take n,s.length≤10:=fun s hs=>by
  have:=List.mem_of_mem_take hs;simp only[wI,List.mem_cons,List.not_mem_nil,or_false]at this;rcases this with e|e|e <;> rw[e] <;> simp
 generalize wI.take n=s0 at *;obtain⟨steps,tr,a2,k1,k2,k0,k3,k4,k5⟩:=af_k3 (h:=h) (L:=L) (id:=id) (s0:=s0) (tries:=tries) (a:=a+1+1) hid (rB hp (by omega) (by omega)) s0l s0k
 refine⟨NH steps tr,h.set id (EA L a2),[],⟨a2,⟨by omega,by omega,steps,tr,k0,k3,k4,rfl⟩,rfl,rfl⟩,?_⟩
 unfold SN;refine⟨⟨?_,?_⟩,?_⟩;all_goals
  simp only[go_sem,hid,p0,p1,hn,ht,n3,hw,splice];exact k5 _ ⟨rfl,rfl,rfl⟩
end Go.Am
end
section
/- EntriesMerge: the law's parts. -/
open Go
set_option linter.all false
set_option maxRecDepth 100000
namespace Go.Am
variable {L:List Int} {a:Int} {h:aA} {K:jA}
attribute [-go_sem] iB splice
attribute [-go_sem] NL OL jG lJ
theorem em_k1 {H:aA}{K:Ex→St→Prop}{steps:List Nm}{tries:Int}{x m w:List Ent}{c:List Int}{e f g fx:Int}(h1:H[1]?=some (.box [WC steps,AI tries]))
 (hst:steps.length≤1000) (hk:∀s∈steps,s.length≤1000000) (xo:∀y∈x,EntOk y) (xl:x.length≤1000) (ml:m.length≤1000000) (wl:w.length≤1000000) (lc:c.length≤1000000) (hfx:wA x=fx)
 (fin:K .ret ⟨[(2,AB true)],H,[]⟩) :
 PN (cA X) X.gl (.ref 1 0) (yA x) (yA m) (AI e) (yA w) (AI f) (AL c) (AI g) (AI fx) (AI e) (AI f) (AI g) (yA m) (yA w) (AL c) H [] K:=by
 have E1:=fun h K=>z3i (h:=h) (K:=K) m m (by omega)
 have E2:=fun h K=>z3i (h:=h) (K:=K) w w (by omega)
 have E3:=fun h K=>zi3 (h:=h) (K:=K) c c (by omega)
 have C1:=fun h K=>ziz (h:=h) (K:=K) steps tries hst hk
 have C2:=fun h K=>zi4 (h:=h) (K:=K) steps tries hst hk
 have C3:=fun h K=>JM (h:=h) (K:=K) x xo (by omega)
 rw[hfx]at C3;have d1:decide (m=m)=true:=by simp
 have d2:decide (w=w)=true:=by simp
 have d3:decide (c=c)=true:=by simp
 rw[d1]at E1;rw[d2]at E2;rw[d3]at E3;simp only[PN,go_sem,h1,↓C1,C1,↓C2,C2,↓C3,C3,↓E1,E1,↓E2,E2,↓E3,E3,ziD];first|exact fin|trace_state
theorem em_k2 {H:aA}{K:Ex→St→Prop}{steps:List Nm}{tries at_:Int}{x m w:List Ent}{c:List Int}{e f g fx:Int}{b:List (Nat × AV)}(h1:H[1]?=some (.box [WC steps,AI tries]))
 (hst:steps.length≤1000) (hk:∀s∈steps,s.length≤1000000) (xo:∀y∈x,EntOk y) (xl:x.length≤1000) (ml:m.length≤1000000) (wl:w.length≤1000000) (lc:c.length≤1000000) (hfx:wA x=fx)
 (hC:(g≠0∧c=[])∨(g=0∧∀h K,cA X fF [yA x,AI at_] h K=K (AL c) h []))
 (fin:K .ret ⟨[(2,AB true)],H,[]⟩) :
 ZI (cA X) X.gl tP (.ref 1 0) (yA x) (AI at_) (yA m) (AI e) (yA w) (AI f) (AL c) (AI g) (AI fx) (AI e) (AI f) (AI g) (yA m) (yA w) H [] K:=by
 have k1:=fun(b:List (Nat×AV))=>em_k1 (K:=K) h1 hst hk xo xl ml wl lc hfx (e:=e) (f:=f) (g:=g) fin
 rcases hC with⟨z,rfl⟩|⟨rfl,CE⟩
 ·have e12:eA .eql (.p (.int .i64 g)) (.p (.int .i64 0))=some (AB false):=by simp only[go_sem,z]
  simp only[ZI,go_sem,↓e12];rw[NL];exact k1 []
 ·simp only[ZI,go_sem,↓CE,CE]
  rw[NL];exact k1 []
theorem oJ {H:aA}{K:Ex→St→Prop}{i:Nat}{steps:List Nm}{tries at_:Int}{x m w:List Ent}{d:Ent}{c:List Int}{e f g fx:Int}(h1:H[1]?=some (.box [WC steps,AI tries]))(hd:H[i]?=some d.box)
 (hst:steps.length≤1000) (hk:∀s∈steps,s.length≤1000000) (xo:∀y∈x,EntOk y) (xl:x.length≤1000) (ml:m.length≤1000000) (wl:w.length≤1000000) (lc:c.length≤1000000) (hfx:wA x=fx)
 (hC:(g≠0∧c=[])∨(g=0∧∀h K,cA X fF [yA x,AI at_] h K=K (AL c) h []))
 (hW:(fx≠0∧w=[]∧f=fx)∨(fx=0∧∀h K,cA X HF [yA x,.p d.pv] h K=K (.tup [yA w,AI f]) h []))
 (fin:K .ret ⟨[(2,AB true)],H,[]⟩) :
 aJ (cA X) X.gl uP (.ref 1 0) (yA x) (AI at_) (.ref i 0) (yA m) (AI e) (yA w) (AI f) (AL c) (AI g) (AI fx) (AI e) (AI fx) (AI g) (yA m) (yA []) H [] K:=by
 have k2:=em_k2 (K:=K) h1 hst hk xo xl ml wl lc hfx (e:=e) (f:=f) (g:=g) (b:=[]) hC fin
 rcases hW with⟨z,rfl,rfl⟩|⟨rfl,WE⟩
 ·have e12:eA .eql (.p (.int .i64 f)) (.p (.int .i64 0))=some (AB false):=by simp only[go_sem,z]
  simp only[aJ,go_sem,↓e12];rw[OL];exact k2
 ·simp only[Ent.box]at hd
  simp only[Ent.pv,eI]at WE;simp only[aJ,go_sem,hd,↓WE,WE];rw[OL];exact k2
theorem or2 (a b:Int):orL [a,b]=if a=0 then b else a:=by
 unfold orL orL;by_cases h1:a=0
 ·subst h1
  by_cases h2:b=0
  ·subst h2;simp [orL]
  ·simp [h2]
 ·simp [h1]
theorem fe2 (a b:Int):tH [a,b]=if a=0 then b else a:=by
 unfold tH;by_cases h1:a=0
 ·subst h1
  by_cases h2:b=0 <;> simp [tH,h2]
 ·simp [h1]
end Go.Am
end
section
/- EntriesMerge: the law. -/
open Go
set_option linter.all false
set_option maxRecDepth 100000
namespace Go.Am
variable {L:List Int} {a:Int} {h:aA} {K:jA}
attribute [-go_sem] iB
attribute [-go_sem] NL OL jG lJ
theorem jV {x y:List Ent}(h:x.length+y.length≤1000):(KC x y).1.length≤1000000:=by
 unfold KC;split
 ·simp
 ·rw[PJ,List.length_append]
  have:=List.length_filter_le (mC x) y;omega
theorem YV {x:List Ent}{d:Ent}(h:x.length≤1000):(OB x d).1.length≤1000000:=by
 unfold OB;split
 ·simp
 ·split
  ·simp
  ·split
   ·simp
   ·rw[List.length_append];simp;omega
def pJ:List Int:=[5,10,20,40,100,500,0,-1,345686400000]
theorem zeQ (hp:LA 0 a):Gen vJ [] L a (a+1) (AI (RC pJ L a)):=by
 refine Gen.of fun h id hid=>?_
 rw[z8W rfl];have q:=fun K:jA=>zV (K:=K) (L:=L) (h:=h) (id:=id) (a:=a) hid hp (xs:=pJ.map eI) (by decide) (by decide) (by decide)
 have e:(pJ.map eI).map unI=pJ:=rfl
 simp only[e]at q;simp only[pJ,List.map_cons,List.map_nil]at q;simp only[zS,go_sem,hid,hp,↓q,q];first|done|rfl|trace_state
theorem z08 {zz:Nat × AV}{K:Ex→St→Prop}(hp:LA 20 a){steps:List Nm}{tries at_:Int}{x y:List Ent}
 (hst:steps.length≤1000) (hk:∀s∈steps,s.length≤1000000) (xo:∀y∈x,EntOk y) (yo:∀z∈y,EntOk z) (xl:x.length≤10) (yl:y.length≤10) (hb:wA x=0→wA y=0→(x++y.filter (mC x)).length≤14)
 (fin:∀H,K .ret ⟨[(2,AB true)],H,[]⟩) :
 NW (cA X) X.gl EI ⟨[(3,.ref 0 0),(4,.ref 1 0),(5,yA x),(6,yA y),(7,AI at_),zz],[EA L a,.box [WC steps,AI tries]],[]⟩ K:=by
 rw[lJ];obtain⟨_,a2,⟨e1,e2,d,rfl,dok⟩,V1⟩:=(UT (L:=L) (a:=a) (rB hp (by omega) (by omega)) x (by omega)).hd (l:=[.box [WC steps,AI tries]])
 have MG:=fun h K=>wV (h:=h) (K:=K) x y xo yo (by omega)
 have EY:=fun h K=>OK (h:=h) (K:=K) y yo (by omega)
 have WR:=fun h K=>BV (h:=h) (K:=K) x d xo dok (by omega)
 have CO:=fun h K=>tV (h:=h) (K:=K) x at_ xo (by omega)
 have EX:=fun h K=>OK (h:=h) (K:=K) x xo (by omega)
 have MF:=fun h K=>yV (h:=h) (K:=K) at_
 have E1:=fun h K=>QK (h:=h) (K:=K) [wA x,wA y] (by simp)
 have E2:=fun h K=>QK (h:=h) (K:=K) [wA x,LD at_] (by simp)
 rw[fe2]at E1 E2;simp only[AL,List.map_cons,List.map_nil]at E1 E2;obtain⟨e,he⟩:∃e,(if wA x=0 then wA y else wA x)=e:=⟨_,rfl⟩;obtain⟨g,hg⟩:∃g,(if wA x=0 then LD at_ else wA x)=g:=⟨_,rfl⟩;rw[he]at E1;rw[hg]at E2;have hCc:sE x at_=(if g=0 then((lF x at_).map fun(i:Nat)=>(i:Int),0) else([],g)):=by
  unfold sE;rw[or2,hg];by_cases z:g=0
  ·rw[if_neg (by simp [z]),if_pos z]
  ·rw[if_pos z,if_neg z]
 obtain⟨c,hcv⟩:∃c,(sE x at_)=(c,g)∧c.length≤1000000∧((g≠0∧c=[])∨(g=0∧∀h K,cA X fF [yA x,AI at_] h K=K (AL c) h [])):=by
  by_cases z:g=0
  ·rw[hCc,if_pos z]
   refine⟨_,by rw[z],?_,.inr ⟨z,?_⟩⟩
   ·rw[List.length_map];unfold lF
    have:=List.length_filter_le (FC x at_) (List.range x.length);rw[List.length_range]at this;omega
   ·intro h K
    have hx:wA x=0:=by
     by_cases q:wA x=0
     ·exact q
     ·rw[if_neg q]at hg;exact absurd (hg.trans z) q
    exact uV x (by omega) ((((EO x).1 hx).2.2.1).imp ZT) at_
  ·rw[hCc,if_neg z]
   exact⟨[],rfl,by simp,.inl ⟨z,rfl⟩⟩
 obtain⟨hcv,lc,hC⟩:=hcv;rw[hcv]at CO;obtain⟨w,f,hwv,lw,hW⟩:∃w f,HG x d=(w,f)∧w.length≤1000000∧((wA x≠0∧w=[]∧f=wA x)∨(wA x=0∧∀h K,cA X HF [yA x,.p d.pv] h K=K (.tup [yA w,AI f]) h [])):=by
  unfold HG;by_cases q:wA x=0
  ·rw[if_neg (by simp [q])]
   exact⟨_,_,rfl,YV (by omega),.inr ⟨q,fun h K=>CV x d xo dok (by omega) fun y hy=>BF ((aH q).2.2 y hy)⟩⟩
  ·rw[if_pos q]
   exact⟨_,_,rfl,by simp,.inl ⟨q,rfl,rfl⟩⟩
 rw[hwv]at WR;have hM:KD x y=if e=0 then KC x y else([],e):=by
  by_cases z:e=0
  ·rw[if_pos z]
   have hx:wA x=0:=by
    by_cases q:wA x=0
    ·exact q
    ·rw[if_neg q]at he;exact absurd (he.trans z) q
   rw[if_pos hx]at he;exact jU hx (he.trans z)
  ·rw[if_neg z]
   unfold KD;rw[or2,he,if_pos z]
 rw[hM]at MG;obtain⟨F,hF⟩:∃F,wA x=F:=⟨_,rfl⟩;simp only[hF]at EX hW;simp only[hF,eI]at E1 E2;simp only[Ent.pv,eI]at V1 WR;by_cases z:e=0
 ·have hx:wA x=0:=by
   by_cases q:wA x=0
   ·exact q
   ·rw[if_neg q]at he;exact absurd (he.trans z) q
  rw[if_pos hx]at he;have hy:=he.trans z
  have MQ:=fun h K=>xV (h:=h) (K:=K) x y hx hy (by omega) (hb hx hy)
  have ml:(KC x y).1.length≤1000000:=jV (by omega)
  rw[if_pos z]at MG;rw[z]at E1;generalize KC x y=R at *;obtain⟨m,r⟩:=R;dsimp only at MG MQ ml;have k3:=fun(H:aA) (i:Nat) h1 hd=>oJ (K:=K) (H:=H) (i:=i) (steps:=steps) (tries:=tries) (at_:=at_) (d:=d) h1 hd hst hk xo (by omega) ml lw lc hF (e:=r) hC hW (fin H)
  simp only[fG,go_sem,↓V1,V1,↓MG,MG,↓WR,WR,↓CO,CO,↓EX,EX,↓EY,EY,↓MF,MF,↓E1,E1,↓E2,E2,↓MQ,MQ];rw[jG];exact k3 _ _ rfl rfl
 ·rw[if_neg z]at MG
  have k3:=fun(H:aA) (i:Nat) h1 hd=>oJ (K:=K) (H:=H) (i:=i) (steps:=steps) (tries:=tries) (at_:=at_) (d:=d) (m:=[]) h1 hd hst hk xo (by omega) (by simp) lw lc hF (e:=e) hC hW (fin H)
  have e12:eA .eql (.p (.int .i64 e)) (.p (.int .i64 0))=some (AB false):=by simp only[go_sem,z]
  simp only[fG,go_sem,↓V1,V1,↓MG,MG,↓WR,WR,↓CO,CO,↓EX,EX,↓EY,EY,↓MF,MF,↓E1,E1,↓E2,E2,↓e12];rw[jG];exact k3 _ _ rfl rfl
theorem zeh {zz:Nat × AV}{K:Ex→St→Prop}(hp:LA 20 a){steps:List Nm}{tries at_:Int}{x y:List Ent}
 (hst:steps.length≤1000) (hk:∀s∈steps,s.length≤1000000) (xo:∀y∈x,EntOk y) (yo:∀z∈y,EntOk z) (xl:x.length≤10) (yl:y.length≤10) (hb:wA x=0→wA y=0→(x++y.filter (mC x)).length≤14)
 (fin:∀H,K .ret ⟨[(2,AB true)],H,[]⟩) :
 NW (cA X) X.gl EI ⟨[(3,.ref 0 0),(4,.ref 1 0),(5,yA x),(6,.own 2 y.length 0 y.length),(7,AI at_),zz],[EA L a,.box [WC steps,AI tries],.row (some 8) (y.map Ent.pv) 0],[]⟩ K:=by
 rw[lJ];obtain⟨_,a2,⟨e1,e2,d,rfl,dok⟩,V1⟩:=(UT (L:=L) (a:=a) (rB hp (by omega) (by omega)) x (by omega)).hd (l:=[.box [WC steps,AI tries],.row (some 8) (y.map Ent.pv) 0])
 have ly:(y.map Ent.pv).length=y.length:=List.length_map ..
 have MG:∀(s fl o:Obj) (fz:Nat) (K:jA),cA X JF [yA x,.own 2 y.length 0 y.length] [s,fl,.row (some 8) (y.map Ent.pv) fz,o] K=K (.tup [yA (KD x y).1,AI (KD x y).2]) [s,fl,.row (some 8) (y.map Ent.pv) (max fz y.length),o] []:=fun s fl o fz K=>by
  have e:=nP (h:=[s,fl,.row (some 8) (y.map Ent.pv) fz,o]) (K:=K) (f:=JF) (F:=gL) (id:=2) (v:=.sl (some 8) (x.map Ent.pv)) bW rfl rfl rfl
  rw[ly]at e;refine e.trans ?_;rw[wV x y xo yo (by omega)]
  rfl
 have EY:∀(s fl o:Obj) (fz:Nat) (K:jA),cA X tE [.own 2 y.length 0 y.length] [s,fl,.row (some 8) (y.map Ent.pv) fz,o] K=K (AI (wA y)) [s,fl,.row (some 8) (y.map Ent.pv) (max fz y.length),o] []:=fun s fl o fz K=>by
  have e:=z2A (h:=[s,fl,.row (some 8) (y.map Ent.pv) fz,o]) (K:=K) (f:=tE) (F:=eL) (id:=2) ZV rfl rfl rfl
  rw[ly]at e;refine e.trans ?_;rw[OK y yo (by omega)]
  rfl
 have WR:=fun h K=>BV (h:=h) (K:=K) x d xo dok (by omega)
 have CO:=fun h K=>tV (h:=h) (K:=K) x at_ xo (by omega)
 have EX:=fun h K=>OK (h:=h) (K:=K) x xo (by omega)
 have MF:=fun h K=>yV (h:=h) (K:=K) at_
 have E1:=fun h K=>QK (h:=h) (K:=K) [wA x,wA y] (by simp)
 have E2:=fun h K=>QK (h:=h) (K:=K) [wA x,LD at_] (by simp)
 rw[fe2]at E1 E2;simp only[AL,List.map_cons,List.map_nil]at E1 E2;obtain⟨e,he⟩:∃e,(if wA x=0 then wA y else wA x)=e:=⟨_,rfl⟩;obtain⟨g,hg⟩:∃g,(if wA x=0 then LD at_ else wA x)=g:=⟨_,rfl⟩;rw[he]at E1;rw[hg]at E2;have hCc:sE x at_=(if g=0 then((lF x at_).map fun(i:Nat)=>(i:Int),0) else([],g)):=by
  unfold sE;rw[or2,hg];by_cases z:g=0
  ·rw[if_neg (by simp [z]),if_pos z]
  ·rw[if_pos z,if_neg z]
 obtain⟨c,hcv⟩:∃c,(sE x at_)=(c,g)∧c.length≤1000000∧((g≠0∧c=[])∨(g=0∧∀h K,cA X fF [yA x,AI at_] h K=K (AL c) h [])):=by
  by_cases z:g=0
  ·rw[hCc,if_pos z]
   refine⟨_,by rw[z],?_,.inr ⟨z,?_⟩⟩
   ·rw[List.length_map];unfold lF
    have:=List.length_filter_le (FC x at_) (List.range x.length);rw[List.length_range]at this;omega
   ·intro h K
    have hx:wA x=0:=by
     by_cases q:wA x=0
     ·exact q
     ·rw[if_neg q]at hg;exact absurd (hg.trans z) q
    exact uV x (by omega) ((((EO x).1 hx).2.2.1).imp ZT) at_
  ·rw[hCc,if_neg z]
   exact⟨[],rfl,by simp,.inl ⟨z,rfl⟩⟩
 obtain⟨hcv,lc,hC⟩:=hcv;rw[hcv]at CO;obtain⟨w,f,hwv,lw,hW⟩:∃w f,HG x d=(w,f)∧w.length≤1000000∧((wA x≠0∧w=[]∧f=wA x)∨(wA x=0∧∀h K,cA X HF [yA x,.p d.pv] h K=K (.tup [yA w,AI f]) h [])):=by
  unfold HG;by_cases q:wA x=0
  ·rw[if_neg (by simp [q])]
   exact⟨_,_,rfl,YV (by omega),.inr ⟨q,fun h K=>CV x d xo dok (by omega) fun y hy=>BF ((aH q).2.2 y hy)⟩⟩
  ·rw[if_pos q]
   exact⟨_,_,rfl,by simp,.inl ⟨q,rfl,rfl⟩⟩
 rw[hwv]at WR;have hM:KD x y=if e=0 then KC x y else([],e):=by
  by_cases z:e=0
  ·rw[if_pos z]
   have hx:wA x=0:=by
    by_cases q:wA x=0
    ·exact q
    ·rw[if_neg q]at he;exact absurd (he.trans z) q
   rw[if_pos hx]at he;exact jU hx (he.trans z)
  ·rw[if_neg z]
   unfold KD;rw[or2,he,if_pos z]
 rw[hM]at MG;obtain⟨F,hF⟩:∃F,wA x=F:=⟨_,rfl⟩;simp only[hF]at EX hW;simp only[hF,eI]at E1 E2;simp only[Ent.pv,eI]at V1 WR;by_cases z:e=0
 ·have hx:wA x=0:=by
   by_cases q:wA x=0
   ·exact q
   ·rw[if_neg q]at he;exact absurd (he.trans z) q
  rw[if_pos hx]at he;have hy:=he.trans z
  have MQ:∀(s fl o:Obj) (fz:Nat) (K:jA),cA X GF [yA x,.own 2 y.length 0 y.length] [s,fl,.row (some 8) (y.map Ent.pv) fz,o] K=K (.tup [yA (KC x y).1,AI (KC x y).2]) [s,fl,.row (some 8) (y.map Ent.pv) (max fz y.length),o] []:=fun s fl o fz K=>by
   have e:=nP (h:=[s,fl,.row (some 8) (y.map Ent.pv) fz,o]) (K:=K) (f:=GF) (F:=fL) (id:=2) (v:=.sl (some 8) (x.map Ent.pv)) aW rfl rfl rfl
   rw[ly]at e;refine e.trans ?_;rw[xV x y hx hy (by omega) (hb hx hy)]
   rfl
  have ml:(KC x y).1.length≤1000000:=jV (by omega)
  rw[if_pos z]at MG;rw[z]at E1;generalize KC x y=R at *;obtain⟨m,r⟩:=R;dsimp only at MG MQ ml;have k3:=fun(H:aA) (i:Nat) h1 hd=>oJ (K:=K) (H:=H) (i:=i) (steps:=steps) (tries:=tries) (at_:=at_) (d:=d) h1 hd hst hk xo (by omega) ml lw lc hF (e:=r) hC hW (fin H)
  simp only[fG,go_sem,↓V1,V1,↓MG,MG,↓WR,WR,↓CO,CO,↓EX,EX,↓EY,EY,↓MF,MF,↓E1,E1,↓E2,E2,↓MQ,MQ];rw[jG];exact k3 _ _ rfl rfl
 ·rw[if_neg z]at MG
  have k3:=fun(H:aA) (i:Nat) h1 hd=>oJ (K:=K) (H:=H) (i:=i) (steps:=steps) (tries:=tries) (at_:=at_) (d:=d) (m:=[]) h1 hd hst hk xo (by omega) (by simp) lw lc hF (e:=e) hC hW (fin H)
  have e12:eA .eql (.p (.int .i64 e)) (.p (.int .i64 0))=some (AB false):=by simp only[go_sem,z]
  simp only[fG,go_sem,↓V1,V1,↓MG,MG,↓WR,WR,↓CO,CO,↓EX,EX,↓EY,EY,↓MF,MF,↓E1,E1,↓E2,E2,↓e12];rw[jG];exact k3 _ _ rfl rfl
theorem zei {K:Ex→St→Prop}(hp:LA 20 a){steps:List Nm}{tries at_:Int}{x y:List Ent}
 (hst:steps.length≤1000) (hk:∀s∈steps,s.length≤1000000) (xo:∀y∈x,EntOk y) (yo:∀z∈y,EntOk z) (xl:x.length≤10) (yl:y.length≤10) (hb:wA x=0→wA y=0→(x++y.filter (mC x)).length≤14)
 (fin:∀H,K .ret ⟨[(2,AB true)],H,[]⟩) :
 NW (cA X) X.gl EI ⟨[(3,.ref 0 0),(4,.ref 1 0),(5,yA x),(6,.own 2 y.length 0 y.length),(7,AI at_)],[EA L a,.box [WC steps,AI tries],.row (some 8) (y.map Ent.pv) 0],[]⟩ K:=by
 rw[lJ];obtain⟨_,a2,⟨e1,e2,d,rfl,dok⟩,V1⟩:=(UT (L:=L) (a:=a) (rB hp (by omega) (by omega)) x (by omega)).hd (l:=[.box [WC steps,AI tries],.row (some 8) (y.map Ent.pv) 0])
 have ly:(y.map Ent.pv).length=y.length:=List.length_map ..
 have MG:∀(s fl o:Obj) (fz:Nat) (K:jA),cA X JF [yA x,.own 2 y.length 0 y.length] [s,fl,.row (some 8) (y.map Ent.pv) fz,o] K=K (.tup [yA (KD x y).1,AI (KD x y).2]) [s,fl,.row (some 8) (y.map Ent.pv) (max fz y.length),o] []:=fun s fl o fz K=>by
  have e:=nP (h:=[s,fl,.row (some 8) (y.map Ent.pv) fz,o]) (K:=K) (f:=JF) (F:=gL) (id:=2) (v:=.sl (some 8) (x.map Ent.pv)) bW rfl rfl rfl
  rw[ly]at e;refine e.trans ?_;rw[wV x y xo yo (by omega)]
  rfl
 have EY:∀(s fl o:Obj) (fz:Nat) (K:jA),cA X tE [.own 2 y.length 0 y.length] [s,fl,.row (some 8) (y.map Ent.pv) fz,o] K=K (AI (wA y)) [s,fl,.row (some 8) (y.map Ent.pv) (max fz y.length),o] []:=fun s fl o fz K=>by
  have e:=z2A (h:=[s,fl,.row (some 8) (y.map Ent.pv) fz,o]) (K:=K) (f:=tE) (F:=eL) (id:=2) ZV rfl rfl rfl
  rw[ly]at e;refine e.trans ?_;rw[OK y yo (by omega)]
  rfl
 have WR:=fun h K=>BV (h:=h) (K:=K) x d xo dok (by omega)
 have CO:=fun h K=>tV (h:=h) (K:=K) x at_ xo (by omega)
 have EX:=fun h K=>OK (h:=h) (K:=K) x xo (by omega)
 have MF:=fun h K=>yV (h:=h) (K:=K) at_
 have E1:=fun h K=>QK (h:=h) (K:=K) [wA x,wA y] (by simp)
 have E2:=fun h K=>QK (h:=h) (K:=K) [wA x,LD at_] (by simp)
 rw[fe2]at E1 E2;simp only[AL,List.map_cons,List.map_nil]at E1 E2;obtain⟨e,he⟩:∃e,(if wA x=0 then wA y else wA x)=e:=⟨_,rfl⟩;obtain⟨g,hg⟩:∃g,(if wA x=0 then LD at_ else wA x)=g:=⟨_,rfl⟩;rw[he]at E1;rw[hg]at E2;have hCc:sE x at_=(if g=0 then((lF x at_).map fun(i:Nat)=>(i:Int),0) else([],g)):=by
  unfold sE;rw[or2,hg];by_cases z:g=0
  ·rw[if_neg (by simp [z]),if_pos z]
  ·rw[if_pos z,if_neg z]
 obtain⟨c,hcv⟩:∃c,(sE x at_)=(c,g)∧c.length≤1000000∧((g≠0∧c=[])∨(g=0∧∀h K,cA X fF [yA x,AI at_] h K=K (AL c) h [])):=by
  by_cases z:g=0
  ·rw[hCc,if_pos z]
   refine⟨_,by rw[z],?_,.inr ⟨z,?_⟩⟩
   ·rw[List.length_map];unfold lF
    have:=List.length_filter_le (FC x at_) (List.range x.length);rw[List.length_range]at this;omega
   ·intro h K
    have hx:wA x=0:=by
     by_cases q:wA x=0
     ·exact q
     ·rw[if_neg q]at hg;exact absurd (hg.trans z) q
    exact uV x (by omega) ((((EO x).1 hx).2.2.1).imp ZT) at_
  ·rw[hCc,if_neg z]
   exact⟨[],rfl,by simp,.inl ⟨z,rfl⟩⟩
 obtain⟨hcv,lc,hC⟩:=hcv;rw[hcv]at CO;obtain⟨w,f,hwv,lw,hW⟩:∃w f,HG x d=(w,f)∧w.length≤1000000∧((wA x≠0∧w=[]∧f=wA x)∨(wA x=0∧∀h K,cA X HF [yA x,.p d.pv] h K=K (.tup [yA w,AI f]) h [])):=by
  unfold HG;by_cases q:wA x=0
  ·rw[if_neg (by simp [q])]
   exact⟨_,_,rfl,YV (by omega),.inr ⟨q,fun h K=>CV x d xo dok (by omega) fun y hy=>BF ((aH q).2.2 y hy)⟩⟩
  ·rw[if_pos q]
   exact⟨_,_,rfl,by simp,.inl ⟨q,rfl,rfl⟩⟩
 rw[hwv]at WR;have hM:KD x y=if e=0 then KC x y else([],e):=by
  by_cases z:e=0
  ·rw[if_pos z]
   have hx:wA x=0:=by
    by_cases q:wA x=0
    ·exact q
    ·rw[if_neg q]at he;exact absurd (he.trans z) q
   rw[if_pos hx]at he;exact jU hx (he.trans z)
  ·rw[if_neg z]
   unfold KD;rw[or2,he,if_pos z]
 rw[hM]at MG;obtain⟨F,hF⟩:∃F,wA x=F:=⟨_,rfl⟩;simp only[hF]at EX hW;simp only[hF,eI]at E1 E2;simp only[Ent.pv,eI]at V1 WR;by_cases z:e=0
 ·have hx:wA x=0:=by
   by_cases q:wA x=0
   ·exact q
   ·rw[if_neg q]at he;exact absurd (he.trans z) q
  rw[if_pos hx]at he;have hy:=he.trans z
  have MQ:∀(s fl o:Obj) (fz:Nat) (K:jA),cA X GF [yA x,.own 2 y.length 0 y.length] [s,fl,.row (some 8) (y.map Ent.pv) fz,o] K=K (.tup [yA (KC x y).1,AI (KC x y).2]) [s,fl,.row (some 8) (y.map Ent.pv) (max fz y.length),o] []:=fun s fl o fz K=>by
   have e:=nP (h:=[s,fl,.row (some 8) (y.map Ent.pv) fz,o]) (K:=K) (f:=GF) (F:=fL) (id:=2) (v:=.sl (some 8) (x.map Ent.pv)) aW rfl rfl rfl
   rw[ly]at e;refine e.trans ?_;rw[xV x y hx hy (by omega) (hb hx hy)]
   rfl
  have ml:(KC x y).1.length≤1000000:=jV (by omega)
  rw[if_pos z]at MG;rw[z]at E1;generalize KC x y=R at *;obtain⟨m,r⟩:=R;dsimp only at MG MQ ml;have k3:=fun(H:aA) (i:Nat) h1 hd=>oJ (K:=K) (H:=H) (i:=i) (steps:=steps) (tries:=tries) (at_:=at_) (d:=d) h1 hd hst hk xo (by omega) ml lw lc hF (e:=r) hC hW (fin H)
  simp only[fG,go_sem,↓V1,V1,↓MG,MG,↓WR,WR,↓CO,CO,↓EX,EX,↓EY,EY,↓MF,MF,↓E1,E1,↓E2,E2,↓MQ,MQ];rw[jG];exact k3 _ _ rfl rfl
 ·rw[if_neg z]at MG
  have k3:=fun(H:aA) (i:Nat) h1 hd=>oJ (K:=K) (H:=H) (i:=i) (steps:=steps) (tries:=tries) (at_:=at_) (d:=d) (m:=[]) h1 hd hst hk xo (by omega) (by simp) lw lc hF (e:=e) hC hW (fin H)
  have e12:eA .eql (.p (.int .i64 e)) (.p (.int .i64 0))=some (AB false):=by simp only[go_sem,z]
  simp only[fG,go_sem,↓V1,V1,↓MG,MG,↓WR,WR,↓CO,CO,↓EX,EX,↓EY,EY,↓MF,MF,↓E1,E1,↓E2,E2,↓e12];rw[jG];exact k3 _ _ rfl rfl
theorem z1m {x y:List Ent}(h:∀ z∈y,∃ o∈x,oB o z=true):y.filter (mC x)=[]:=by
 rw[List.filter_eq_nil_iff];intro z hz;obtain⟨o,ho,hs⟩:=h z hz;unfold mC;simp only[Bool.not_eq_true',Bool.not_eq_false,List.any_eq_true];exact⟨o,ho,hs⟩
theorem z35 (z:Ent):oB z z=true:=by simp [oB]
set_option maxHeartbeats 16000000 in
theorem law_EM (L:List Int){K:jA}:cA X LO [AL L] [] K=K (AB true) [] []:=by
 refine MA ?_;rw[z8Q rfl];have pp:LA 100000 0:=by unfold LA;omega
 obtain⟨_,a1,⟨d1,d2,steps,tries,n1,n4,nk,rfl⟩,V1⟩:=(zeP (L:=L) (a:=0) (rB pp (by omega) (by omega))).hd (l:=[])
 have pr:LA 0 a1:=rB pp (by omega) (by omega)
 have rb:0≤nC 0 10 L a1∧nC 0 10 L a1≤10:=LK L a1 (by omega) (by omega)
 obtain⟨m,hm⟩:∃m:Nat,nC 0 10 L a1=m:=⟨(nC 0 10 L a1).toNat,by omega⟩
 obtain⟨_,a2,⟨e1,e2,x,xl,xv,rfl⟩,V2⟩:=(z1H (L:=L) (a:=a1+1) (rB pp (by omega) (by omega)) m (by omega)).hd (l:=[])
 have p2:LA 0 a2:=rB pp (by omega) (by omega)
 have rb2:0≤nC 0 4 L a2∧nC 0 4 L a2≤4:=LK L a2 (by omega) (by omega)
 obtain⟨m2,hm2⟩:∃m:Nat,nC 0 4 L a2=m:=⟨(nC 0 4 L a2).toNat,by omega⟩
 obtain⟨_,a3,⟨f1,f2,y,yl,yv,rfl⟩,V3⟩:=(z1H (L:=L) (a:=a2+1) (rB pp (by omega) (by omega)) m2 (by omega)).hd (l:=[])
 have p3:LA 0 a3:=rB pp (by omega) (by omega)
 have p4:LA 0 (a3+1):=rB pp (by omega) (by omega)
 have p5:LA 0 (a3+1+1):=rB pp (by omega) (by omega)
 have p6:LA 0 (a3+1+1+1):=rB pp (by omega) (by omega)
 have V4:=fun(l:aA) K=>(zeQ (L:=L) (a:=a3) p3).hd (l:=l) (K:=K)
 generalize RC pJ L a3=at_ at V4;have xo:∀z∈x,EntOk z:=fun z hz=>(xv z hz).ok
 have yo:∀z∈y,EntOk z:=fun z hz=>(yv z hz).ok
 have hst:steps.length≤1000:=by omega
 have hk:∀s∈steps,s.length≤1000000:=fun s hs=>by have:=nk s hs;omega
 have F1:=fun(l:aA) K=>(JJ (L:=L) p4 2).hd (l:=l) (K:=K)
 by_cases h0:(0:Int)<(x.length:Int)
 case neg=>
  have kA:=fun(K:Ex→St→Prop) zz=>z08 (K:=K) (L:=L) (zz:=zz) (a:=a3+1) (rB pp (by omega) (by omega)) (steps:=steps) (tries:=tries) (at_:=at_) (x:=x) (y:=y) hst hk xo yo (by omega) (by omega) (fun _ _=>by
   rw[List.length_append];have:=List.length_filter_le (mC x) y;omega)
  simp only[dI,go_sem,V1,V2,V3,↓V4,V4,pr,p2,p3,hm,hm2,h0];refine kA _ _ fun H=>?_
  simp only[go_sem]
 by_cases hf:DB L (a3+1) 2=0
 case neg=>
  have kA:=fun(K:Ex→St→Prop) zz=>z08 (K:=K) (L:=L) (zz:=zz) (a:=a3+1+1) (rB pp (by omega) (by omega)) (steps:=steps) (tries:=tries) (at_:=at_) (x:=x) (y:=y) hst hk xo yo (by omega) (by omega) (fun _ _=>by
   rw[List.length_append];have:=List.length_filter_le (mC x) y;omega)
  simp only[dI,go_sem,V1,V2,V3,↓V4,V4,pr,p2,p3,p4,hm,hm2,h0,hf];refine kA _ _ fun H=>?_
  simp only[go_sem]
 have F2:=fun(l:aA) K=>(SO L (a3+1+1) x.length p5).hd (l:=l) (K:=K)
 have F3:=fun(l:aA) K=>(JJ (L:=L) p6 4).hd (l:=l) (K:=K)
 obtain⟨b1,b2⟩:=UJ L (a3+1+1) x.length (by omega) (by omega)
 obtain⟨k,hkn⟩:∃k:Nat,DB L (a3+1+1) x.length=k:=⟨(DB L (a3+1+1) x.length).toNat,by omega⟩
 rw[hkn]at F2 b1 b2;have hkl:k<x.length:=by omega
 obtain⟨z,r,hd⟩:∃z r,x.drop k=z::r:=by
  rw[List.drop_eq_getElem_cons hkl];exact⟨_,_,rfl⟩
 have hsub:∀q∈z::r,q∈x:=fun q hq=>List.mem_of_mem_drop (by rw[hd];exact hq)
 have lzr:r.length+1=x.length-k:=by have:=congrArg List.length hd;simpa using this.symm
 have CL:=fun h K=>rQ (h:=h) (K:=K) (z::r) (by simp;omega)
 have hdw:win (x.map Ent.pv) k (x.length-k)=(z::r).map Ent.pv:=by
  unfold win;rw[←List.map_drop,hd,List.take_of_length_le (by simp;omega)]
 have hkle:k≤x.length:=by omega
 simp only[yA,List.map_cons,List.length_cons]at CL hdw;have zo:=xo z (hsub z (by simp))
 have zv:=xv z (hsub z (by simp))
 have w1:IntKind.i64.wrap (z.time+1)=z.time+1:=BA _ (by have:=zv.t;omega) (by have:=zv.t;omega)
 by_cases hg:DB L (a3+1+1+1) 4=0
 ·have kC:=fun(K:Ex→St→Prop)=>zei (K:=K) (L:=L) (a:=a3+1+1+1+1) (rB pp (by omega) (by omega)) (steps:=steps) (tries:=tries) (at_:=at_) (x:=x) (y:={ z with time:=z.time+1 }::r) hst hk xo
   (fun q hq=>by
    rcases List.mem_cons.1 hq with e|hq
    ·rw[e];exact⟨zo.s,zo.b,zo.p,zo.o⟩
    ·exact xo q (hsub q (by simp [hq]))) (by omega) (by simp;omega) (fun _ _=>by
    rw[z1m (y:={ z with time:=z.time+1 }::r) fun q hq=>by
     rcases List.mem_cons.1 hq with e|hq
     ·exact⟨z,hsub z (by simp),by rw[e];simp [oB]⟩
     ·exact⟨q,hsub q (by simp [hq]),z35 q⟩]
    simp;omega)
  simp only[List.map_cons,List.length_cons,Ent.pv,eI]at kC CL;have l0:0<r.length+1:=by omega
  have lr:(r.map Ent.pv).length=r.length:=List.length_map ..
  simp only[dI,go_sem,V1,V2,V3,↓V4,V4,pr,p2,p3,p4,hm,hm2,h0,hf,↓F2,F2,hdw,hkle,↓CL,CL,↓F3,F3,hg,Ent.pv,eI,w1,l0,lr];refine kC _ fun H=>?_
  simp only[go_sem]
 ·have kB:=fun(K:Ex→St→Prop) zz=>zeh (K:=K) (L:=L) (zz:=zz) (a:=a3+1+1+1+1) (rB pp (by omega) (by omega)) (steps:=steps) (tries:=tries) (at_:=at_) (x:=x) (y:=z::r) hst hk xo
   (fun q hq=>xo q (hsub q hq)) (by omega) (by simp;omega) (fun _ _=>by
    rw[z1m (y:=z::r) fun q hq=>⟨q,hsub q hq,z35 q⟩]
    simp;omega)
  simp only[List.map_cons,List.length_cons]at kB;simp only[dI,go_sem,V1,V2,V3,↓V4,V4,pr,p2,p3,p4,hm,hm2,h0,hf,↓F2,F2,hdw,hkle,↓CL,CL,↓F3,F3,hg];refine kB _ _ fun H=>?_
  simp only[go_sem]
end Go.Am
end
section
/- From a law that is true here tov the model's calls at what came in. -/
open Go
namespace Go.Am
variable {P:Program}
theorem law_nil {X:Ctx}(HX:Fits P X){f:Nat}{F:AFun}(hF:X.fn f=some F)(H:∀ L:List Int,cA X f [eQ L] [] fun v _ _=>v = .p (.bool true))(W:World)(hG:SD X.gl (imm [] [] W)) :
 Calls P f #[.slice none 0 0] W fun e W'=>e = .returned (.bool true)∧RowKit.Below W.heap.size W W':=by
 refine(DY HX hF (H []) (W:=W) (vs:=[.slice none 0 0]) hG rfl (fun j y v hy hv=>?_)).mono fun e W' he=>?_
 ·cases j with
  | zero=>cases hy;cases hv;exact z9T W
  | succ j=>cases hy
 ·cases e with
  | returned r=>
   obtain⟨⟨v,h,x,μ,hk,hr⟩,hb⟩:=he;subst hk;exact⟨by rw[hr.p_bool],hb⟩
  | panicked _=>exact he.elim
  | outgrown=>exact he.elim
theorem law_ints {X:Ctx}(HX:Fits P X){f:Nat}{F:AFun}(hF:X.fn f=some F)(H:∀ L:List Int,cA X f [eQ L] [] fun v _ _=>v = .p (.bool true)){W:World}(hG:SD X.gl (imm [] [] W)){a:Addr}{len cap:Nat}{zs:List Int}
 (hl:len≤cap) (hz:len≤zs.length) (hc:∀i,i<zs.length→W.cell? (a.add i)=some (.int .i64 (zs.getD i 0))) :
 Calls P f #[.slice (some a) len cap] W fun e W'=>e = .returned (.bool true)∧RowKit.Below W.heap.size W W':=by
 refine(DY HX hF (H (zs.take len)) (W:=W) (vs:=[.slice (some a) len cap]) hG rfl (fun j y v hy hv=>?_)).mono fun e W' he=>?_
 ·cases j with
  | zero=>
   cases hy;cases hv
   rcases Nat.eq_zero_or_pos len with h0|h0
   ·subst h0
    exact .p _ _ (.nils _ _ _)
   ·exact z9S (by simpa [Addr.add] using World.cell?_spot (hc 0 (by omega))) hl hz hc
  | succ j=>cases hy
 ·cases e with
  | returned r=>
   obtain⟨⟨v,h,x,μ,hk,hr⟩,hb⟩:=he;subst hk;exact⟨by rw[hr.p_bool],hb⟩
  | panicked _=>exact he.elim
  | outgrown=>exact he.elim
end Go.Am
namespace Go.ChangeShapes
open Go.RowKit Go.WideShapes
section
variable {H:Type} {enc:TypeId × Value→H} {P:Program}
end
end Go.ChangeShapes
end
