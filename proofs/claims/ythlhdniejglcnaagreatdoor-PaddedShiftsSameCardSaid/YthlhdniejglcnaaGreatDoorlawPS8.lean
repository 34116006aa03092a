/- Texts of the proof, laid together: SpVec12, SpVec13, SpVec14, SpVec15, SpVec3, SpVec4b, SpVec4c, SpVec4d, SpVec4e, SpVec5, SpVec6, SpVec7, SpVec8, SpVec9, SpVec10, SpVec11, SpVec16, SpVec17, SpTap8, PSplit, SpIdx, AmL4, AmL5, SpSplit, SpTap9, SpTap10, SpTaq1, SpTaq2, PTxt, PNum, PFltR, SpLines, SpNum, SpNums, SpQNum, SpTaq3, SpTaq4, SpTaq5, SpTaq6, SpTaq7, SpTaq8, SpTaq9, SpSig, SpRnV1, PTvr, PChn, PChn2, PChn3, SpVec18, PTvr2. -/
import Derived.Shelf.Strings.Repeat
import Derived.Shelf.Strings.SlTrimAscii
import Derived.Shelf.Spec.TrailingZeros
import Derived.Shelf.Strings.Count
import Derived.Shelf.Strings.OnBuilder
import Derived.Test.YthlhdniejglcnaaGreatDoorlawPS7
set_option linter.all false
section
/- The program: a run in the heap;a clock. -/
open Go
set_option linter.all false
namespace Go.Am
variable {h l:aA} {K:jA} {r:Run}
attribute [-go_sem] OA splice
def rc (s:Sett)(st ck ni nd:Int)(a b c d e:AV)(w:Bool):List AV:=
 [AI s.e1.k,AI s.e1.s,AI s.e1.cl,AS s.e1.b,AS s.e1.w,AS s.e1.m,AI s.e2.k,AI s.e2.s,AI s.e2.cl,AS s.e2.b,AS s.e2.w,AS s.e2.m,
  AI s.h1.k,AI s.h1.s,AI s.h1.cl,AS s.h1.b,AS s.h1.w,AS s.h1.m,AI s.t1.k,AI s.t1.s,AI s.t1.cl,AS s.t1.b,AS s.t1.w,AS s.t1.m,
  AI s.h2.k,AI s.h2.s,AI s.h2.cl,AS s.h2.b,AS s.h2.w,AS s.h2.m,AI s.t2.k,AI s.t2.s,AI s.t2.cl,AS s.t2.b,AS s.t2.w,AS s.t2.m,
  AI st,AI ck,AI ni,AI nd,a,b,c,d,e,AB w]
section
variable {s:Sett} {st ck ni nd x:Int} {a b c d e o:AV} {w:Bool}
theorem mT:(rc s st ck ni nd a b c d e w).length=46:=(rfl)
theorem kT:BG (rc s st ck ni nd a b c d e w)=false:=(rfl)
theorem rc_1:(rc s st ck ni nd a b c d e w)[1]?=some (AI s.e1.s):=(rfl)
theorem rc_7:(rc s st ck ni nd a b c d e w)[7]?=some (AI s.e2.s):=(rfl)
theorem bT:(rc s st ck ni nd a b c d e w)[15]?=some (AS s.h1.b):=(rfl)
theorem fT:(rc s st ck ni nd a b c d e w)[21]?=some (AS s.t1.b):=(rfl)
theorem gT:(rc s st ck ni nd a b c d e w)[27]?=some (AS s.h2.b):=(rfl)
theorem iT:(rc s st ck ni nd a b c d e w)[33]?=some (AS s.t2.b):=(rfl)
theorem pL:(rc s st ck ni nd a b c d e w)[36]?=some (AI st):=(rfl)
theorem xH:(rc s st ck ni nd a b c d e w)[37]?=some (AI ck):=(rfl)
theorem qL:(rc s st ck ni nd a b c d e w)[38]?=some (AI ni):=(rfl)
theorem rL:(rc s st ck ni nd a b c d e w)[39]?=some (AI nd):=(rfl)
theorem sL:(rc s st ck ni nd a b c d e w)[40]?=some a:=(rfl)
theorem tL:(rc s st ck ni nd a b c d e w)[41]?=some b:=(rfl)
theorem uL:(rc s st ck ni nd a b c d e w)[42]?=some c:=(rfl)
theorem vL:(rc s st ck ni nd a b c d e w)[43]?=some d:=(rfl)
theorem wL:(rc s st ck ni nd a b c d e w)[44]?=some e:=(rfl)
theorem jT:(rc s st ck ni nd a b c d e w)[45]?=some (AB w):=(rfl)
theorem nT:splice (rc s st ck ni nd a b c d e w) 36 [AI x]=rc s x ck ni nd a b c d e w:=(rfl)
theorem oT:splice (rc s st ck ni nd a b c d e w) 37 [AI x]=rc s st x ni nd a b c d e w:=(rfl)
theorem pT:splice (rc s st ck ni nd a b c d e w) 38 [AI x]=rc s st ck x nd a b c d e w:=(rfl)
theorem qT:splice (rc s st ck ni nd a b c d e w) 39 [AI x]=rc s st ck ni x a b c d e w:=(rfl)
theorem rT:splice (rc s st ck ni nd a b c d e w) 40 [o]=rc s st ck ni nd o b c d e w:=(rfl)
theorem tT:splice (rc s st ck ni nd a b c d e w) 41 [o]=rc s st ck ni nd a o c d e w:=(rfl)
theorem uT:splice (rc s st ck ni nd a b c d e w) 42 [o]=rc s st ck ni nd a b o d e w:=(rfl)
theorem vT:splice (rc s st ck ni nd a b c d e w) 43 [o]=rc s st ck ni nd a b c o e w:=(rfl)
theorem xT:splice (rc s st ck ni nd a b c d e w) 44 [o]=rc s st ck ni nd a b c d o w:=(rfl)
variable {q:Cmd}
end
abbrev eN (n:Nat):PV:=eI n
def rh (h:aA)(r:Run)(l:aA):aA:=h ++ .row none (r.sts.map eN) 0 :: .row none (r.frs.map eN) 0 :: .row none (IA r.tms) 0 :: .row none (IA r.tdi) 0 :: .row none (IA r.want) 0 ::
 .box (rc r.se r.st r.ck r.ni r.nd (.own h.length r.sts.length 0 r.sts.length) (.own (h.length+1) r.frs.length 0 r.frs.length) (.own (h.length+2) r.tms.length 0 r.tms.length) (.own (h.length+3) r.tdi.length 0 r.tdi.length) (.own (h.length+4) r.want.length 0 r.want.length) r.wr)::l
structure RunOk (r:Run):Prop where
 t:r.tms.length≤r.ck
 i:r.tdi.length≤r.ck
 w:r.want.length≤r.ck
theorem VI {L:List (UInt8 × UInt8 × UInt8)}(R:RunOk r):RunOk (r.clk L):=by
 unfold Run.clk;have:=R.t;have:=R.i;have:=R.w
 split <;> (refine⟨?_,?_,?_⟩ <;> simp <;> omega)
attribute [local go_sem] mT kT rc_1 rc_7 bT fT gT iT pL xH qL rL sL tL uL vL wL jT nT oT pT qT rT tT uT vT xT
set_option maxHeartbeats 2000000 in
theorem HT (R:RunOk r)(hck:r.ck≤1000000000)(a b c:UInt8):bA X uG [.ref (h.length+5) 0,.p (.int .u8 a.toNat),.p (.int .u8 b.toNat),.p (.int .u8 c.toNat)] (rh h r l) K=K (.tup []) (rh h (r.clk [(a,b,c)]) l) []:=by
 refine zA ?_;rw[zaE rfl];have hr:=R.t;have:=R.i;have:=R.w
 have w1:IntKind.i64.wrap ((r.ck:Int)+1)=((r.ck+1:Nat):Int):=LA _ (by omega) (by omega)
 obtain⟨se,st,ck,ni,nd,sts,frs,tms,tdi,want,wr⟩:=r;dsimp only at *;unfold rh Run.clk;have m1:tms.length+1≤RA:=by unfold RA;omega
 have m2:tdi.length+1≤RA:=by unfold RA;omega
 have m3:want.length+1≤RA:=by unfold RA;omega
 have e2:∀k n o m,k<5→qC (h.length+5) (.own (h.length+k) n o m)=[]:=fun k n o m hk=>by unfold qC;rw[z0p,if_neg (by omega)]
 have e3:=fun n o m=>e2 2 n o m (by decide)
 have e4:=fun n o m=>e2 3 n o m (by decide)
 have e5:=fun n o m=>e2 4 n o m (by decide)
 cases wr with
 | false=>simp only[EM,go_sem,w1]
 | true=>
  simp only[EM,go_sem,w1,nJ,m1,m2,m3,e3,e4,e5,List.take_length];simp [IA]
end Go.Am
end
section
/- The program: a walk. -/
open Go
set_option linter.all false
namespace Go.Am
variable {h l l2:aA} {K:jA} {r:Run} {n:Nat} {o:Obj}
attribute [-go_sem] OA splice
attribute [local go_sem] mT kT rc_1 rc_7 bT fT gT iT pL xH qL rL sL tL uL vL wL jT nT oT pT qT rT tT uT vT xT
theorem zH:(rh h r l).length=h.length+(l.length+6):=by unfold rh;simp
theorem zL:rh h r l++l2=rh h r (l++l2):=by unfold rh;simp
theorem SI:(rh h r l)[h.length+(n+6)]?=l[n]?:=by unfold rh;rw[DD];rfl
theorem TI:(rh h r l).set (h.length+(n+6)) o=rh h r (l.set n o):=by unfold rh;rw[FF];rfl
theorem UI:(rh h r l).take (h.length+(n+6))=rh h r (l.take n):=by unfold rh;rw[PH];rfl
theorem BL:(rh h r l).take h.length=h:=by unfold rh;rw[YL]
theorem RI:(rh h r l)[h.length+5]?=some (.box (rc r.se r.st r.ck r.ni r.nd (.own h.length r.sts.length 0 r.sts.length) (.own (h.length+1) r.frs.length 0 r.frs.length) (.own (h.length+2) r.tms.length 0 r.tms.length) (.own (h.length+3) r.tdi.length 0 r.tdi.length) (.own (h.length+4) r.want.length 0 r.want.length) r.wr)):=by unfold rh;rw[DD];rfl
section
variable {s:Sett} {x y z:Nat}
theorem rO:(rh h r l).set (h.length+5) (.box (rc s x r.ck y z (.own h.length r.sts.length 0 r.sts.length) (.own (h.length+1) r.frs.length 0 r.frs.length) (.own (h.length+2) r.tms.length 0 r.tms.length) (.own (h.length+3) r.tdi.length 0 r.tdi.length) (.own (h.length+4) r.want.length 0 r.want.length) r.wr))=rh h { r with se:=s,st:=x,ni:=y,nd:=z } l:=by unfold rh;rw[FF];rfl
end
attribute [local go_sem] zH zL SI TI UI BL RI rO
theorem nP:r.clk []=r:=by unfold Run.clk;split <;> simp
theorem oP {L:List (UInt8 × UInt8 × UInt8)}{x:UInt8 × UInt8 × UInt8}:(r.clk L).clk [x]=r.clk (L++[x]):=by
 unfold Run.clk;cases hw:r.wr <;> simp [hw,Nat.add_assoc]
theorem dM {L:List (UInt8 × UInt8 × UInt8)}:(r.clk L).ck=r.ck+L.length:=(IC r L).2.2.2.2.2.1
theorem WI {tov:Nat}(R:RunOk r):RunOk (r.go eA tov):=by
 have Q:=VI (L:=(eA r.st tov).map fun c=>(c,48,120)) R
 exact⟨Q.t,Q.i,Q.w⟩
theorem CI {tov:Nat}:(r.go eA tov).ck=r.ck+(eA r.st tov).length:=(MB eA r tov).2.2.2.2.2.1
set_option maxHeartbeats 2000000 in
theorem HL (R:RunOk r)(hck:r.ck≤900000000)(hf:r.st∈frS){tov:Nat}(ht:tov∈toS):bA X kF [.ref (h.length+5) 0,AI tov] (rh h r l) K=K (.tup []) (rh h (r.go eA tov) l) []:=by
 refine zA ?_;rw[zaG rfl];have to16:tov<16:=by simp only[toS,List.mem_cons,List.not_mem_nil,or_false]at ht;omega
 have hp:=fun(h':aA) (K':jA)=>zkc (h:=h') (K:=K') (fr_lt hf) to16
 obtain⟨pb,pl,_⟩:=pD hf ht;have hgo:r.go eA tov={ r.clk ((eA r.st tov).map fun c=>(c,48,120)) with st:=tov }:=rfl
 rw[hgo];simp only[xQ,go_sem,hp];generalize eA r.st tov=w at pl ⊢;refine yB (fun k:Nat=>⟨[(0,.ref (h.length+5) 0),(1,AI tov),(4,AS w),(17,AI w.length),(18,AI k)],rh h (r.clk ((w.take k).map fun c=>(c,48,120))) l,[]⟩) (fun k=>k≤w.length) (fun k=>w.length-k) 0 (by rw[List.take_zero,List.map_nil,nP];rfl) (by omega) ?_
 intro k hk;have hc:=fun(a:UInt8) (K':jA)=>HT (h:=h) (l:=l) (K:=K') (VI (L:=(w.take k).map fun c=>(c,48,120)) R) (by rw[dM];simp;omega) a 48 120
 rcases Nat.lt_or_ge k w.length with hlt|hge
 ·have w2:IntKind.i64.wrap ((k:Int)+1)=((k+1:Nat):Int):=LA _ (by omega) (by omega)
  have hg:w[k]?=some w[k]:=List.getElem?_eq_getElem hlt
  have hlt':(k:Int)<(w.length:Int):=by omega
  have hc':=fun(K':jA)=>hc w[k] K'
  simp only[show(((48:UInt8).toNat:Nat):Int)=48 from rfl,show(((120:UInt8).toNat:Nat):Int)=120 from rfl]at hc'
  simp only[go_sem,hlt,hlt',hg,w2,hc'];refine⟨k+1,?_,by omega,by omega⟩
  rw[oP,List.take_succ_eq_append_getElem hlt,List.map_append];rfl
 ·obtain rfl:k=w.length:=by omega
  have hs:=(IC r ((w.map fun c=>((c,48,120):UInt8×UInt8×UInt8)))).1
  simp only[go_sem,Nat.lt_irrefl,Int.lt_irrefl,List.take_length]
end Go.Am
end
section
/- The program: a scan. -/
open Go
set_option linter.all false
namespace Go.Am
variable {h l l2:aA} {K:jA} {r:Run} {n:Nat} {o:Obj}
attribute [-go_sem] OA splice
attribute [local go_sem] mT kT rc_1 rc_7 bT fT gT iT pL xH qL rL sL tL uL vL wL jT nT oT pT qT rT tT uT vT xT
attribute [local go_sem] zH zL SI TI UI BL RI rO
def gJ (r:Run):Prop:=r.ni≤r.ck∧r.nd≤r.ck
theorem DL {tov:Nat}(N:gJ r):gJ (r.go eA tov):=by
 obtain⟨_,_,_,_,_,c,a,b⟩:=MB eA r tov;obtain⟨x,y⟩:=N;exact⟨by rw[a,c];omega,by rw[b,c];omega⟩
structure SetR (s:Sett):Prop where
 s1:tC s.e1.s=true
 s2:tC s.e2.s=true
 h1:s.h1.b.length≤2000
 t1:s.t1.b.length≤2000
 h2:s.h2.b.length≤2000
 t2:s.t2.b.length≤2000
theorem z6w {c:Cmd}{hd al:List UInt8}{k:Nat}(hk:k<al.length):(SA c hd al)[k]?=some (if k=al.length-1 then 49 else 48,al[k],if hd.length≤k then(if k-hd.length<c.m.length then JD c (k-hd.length) else 120) else 120):=by
 unfold SA;rw[List.getElem?_map,List.getElem?_range hk,Option.map_some,List.getElem?_eq_getElem hk];rfl
theorem z0h {c:Cmd}(h7:c.k=7):r.scn eA c=Run.go eA { Run.clk { r.go eA 11 with ni:=(r.go eA 11).ni+(r.se.h1.b++c.b++r.se.t1.b).length } (SA c r.se.h1.b (r.se.h1.b++c.b++r.se.t1.b)) with st:=12 } r.se.e1.s.toNat∧r.scnF eA c=(r.go eA 11).ck+r.se.h1.b.length:=by
 unfold Run.scn Run.scnF;simp [h7]
set_option maxHeartbeats 4000000 in
theorem zkt (R:RunOk r)(N:gJ r)(hck:r.ck≤800000000)(hst:r.st∈stb)(S:SetR r.se)(c:Cmd)(h7:c.k=7)(hs:OD c=0):bA X vG [.ref (h.length+5) 0,ACm c] (rh h r l) K=K (AI (r.scnF eA c:Nat)) (rh h (r.scn eA c) l) []:=by
 refine zA ?_;rw[z10 rfl,(z0h h7).1,(z0h h7).2];have hw1:=fun(l:aA) (K':jA)=>HL (h:=h) (l:=l) (K:=K') R (by omega) (dD hst) (show 11∈toS by decide)
 simp only[show(((11:Nat)):Int)=11 from rfl]at hw1
 have R1:=WI (tov:=11) R
 have c1:(r.go eA 11).ck≤800000008:=by have:=(pD (dD hst) (show 11∈toS by decide)).2.1;rw[CI];omega
 have N1:=DL (tov:=11) N
 generalize r.go eA 11=r1 at *;obtain⟨q1,q2,q3,q4,q5,q6⟩:=DH hs;obtain⟨n1,n2⟩:=tD S.s1;have hh:=S.h1;have ht:=S.t1
 generalize hhd:r.se.h1.b=hd at *;generalize htl:r.se.t1.b=tl at *;generalize hen:r.se.e1.s=en at *;obtain⟨en',rfl⟩:∃n:Nat,en=n:=⟨en.toNat,n2.symm⟩;simp only[Int.toNat_natCast]at n1 n2 ⊢;obtain⟨k,s,cl,b,w,m⟩:=c;dsimp only at h7 q1 q3 q6 ⊢;subst h7;have hbp:=List.length_pos_iff.2 q1
 have x1:hd.length+b.length≤CB:=by unfold CB;omega
 have x2:hd.length+(b.length+tl.length)≤CB:=by unfold CB;omega
 have x3:hd.length+b.length+tl.length≤CB:=by unfold CB;omega
 obtain⟨hn,hd'⟩:=N1;obtain⟨al,hal⟩:∃al,al=hd++b++tl:=⟨_,rfl⟩;have hall:al.length=hd.length+b.length+tl.length:=by rw[hal];simp;omega
 have hal2:=hal
 rw[List.append_assoc]at hal2;have w1:IntKind.i64.wrap ((r1.ni:Int)+(al.length:Int))=((r1.ni+al.length:Nat):Int):=LA _ (by omega) (by omega)
 have w2:IntKind.i64.wrap ((r1.ck:Int)+(hd.length:Int))=((r1.ck+hd.length:Nat):Int):=LA _ (by omega) (by omega)
 simp only[FM,go_sem,hw1,hhd,htl,hen,x1,x2,x3,←hal,←hal2,w1,w2];have R2:RunOk { r1 with ni:=r1.ni+al.length }:=⟨R1.t,R1.i,R1.w⟩
 have c2:{ r1 with ni:=r1.ni+al.length:Run }.ck=r1.ck:=rfl
 show ZA (bA X) X.gl _ _ _ (rh h { r1 with ni:=r1.ni+al.length } _) []
 generalize { r1 with ni:=r1.ni+al.length:Run }=r2 at R2 c2 ⊢
 generalize hq:(⟨7,s,cl,b,w,m⟩:Cmd)=c at *;have hcm:c.m=m:=by rw[←hq]
 have hcw:c.w=w:=by rw[←hq]
 have hml:m.length≤b.length∧m.length≤w.length:=by
  rcases q6 with⟨e1,e2⟩|⟨e1,e2⟩
  ·rw[e2];exact⟨Nat.zero_le _,Nat.zero_le _⟩
  ·omega
 have hal0:0<al.length:=by omega
 refine yB (fun k:Nat=>⟨[(0,.ref (h.length+5) 0),(3,.ref (h.length+(l.length+6)) 0),(5,AS hd),(7,AI en'),(9,AI 12),(10,AS al),(11,AI (r1.ck+hd.length:Nat)),(93,AI al.length),(94,AI k)],
  rh h (r2.clk ((SA c hd al).take k)) (l++[.box [AI 7,AI s,AI cl,AS b,AS w,AS m]]),[]⟩) (fun k=>k≤al.length) (fun k=>al.length-k) 0 (by rw[List.take_zero,nP];rfl) (by omega) ?_
 intro k hk;have hlen:(SA c hd al).length=al.length:=vO c hd al
 have R3:=VI (L:=(SA c hd al).take k) R2
 have c3:(r2.clk ((SA c hd al).take k)).ck≤900000000:=by rw[dM,c2,List.length_take];omega
 rcases Nat.lt_or_ge k al.length with hlt|hge
 ·have w3:IntKind.i64.wrap ((k:Int)+1)=((k+1:Nat):Int):=LA _ (by omega) (by omega)
  have w4:IntKind.i64.wrap ((al.length:Int)-1)=((al.length-1:Nat):Int):=by
   rw[show(al.length:Int)-1=((al.length-1:Nat):Int) by omega];exact LA _ (by omega) (by omega)
  have hlt':(k:Int)<(al.length:Int):=by omega
  have hg:al[k]?=some al[k]:=List.getElem?_eq_getElem hlt
  have hcl:=fun(t v:UInt8) (K':jA)=>HT (h:=h) (l:=l++[.box [AI 7,AI s,AI cl,AS b,AS w,AS m]]) (K:=K') R3 (by omega) t al[k] v
  have hsg:=z6w (c:=c) (hd:=hd) hlt
  have hstep:∀t v:UInt8,(SA c hd al)[k]?=some (t,al[k],v)→(r2.clk ((SA c hd al).take k)).clk [(t,al[k],v)]=r2.clk ((SA c hd al).take (k+1)):=fun t v e=>by
   rw[oP,List.take_succ,e];rfl
  have e48:(((48:UInt8).toNat:Nat):Int)=48:=rfl
  have e49:(((49:UInt8).toNat:Nat):Int)=49:=rfl
  have e120:(((120:UInt8).toNat:Nat):Int)=120:=rfl
  generalize r2.clk ((SA c hd al).take k)=r3 at R3 c3 hcl hstep ⊢
  -- what is expected
  by_cases hk0:hd.length≤k
  ·have w5:IntKind.i64.wrap ((k:Int)-(hd.length:Int))=((k-hd.length:Nat):Int):=by
    rw[show(k:Int)-(hd.length:Int)=((k-hd.length:Nat):Int) by omega];exact LA _ (by omega) (by omega)
   have z0:(0:Int)≤((k-hd.length:Nat):Int):=by omega
   rw[if_pos hk0]at hsg;by_cases hm:k-hd.length<m.length
   ·have hm':((k-hd.length:Nat):Int)<(m.length:Int):=by omega
    rw[hcm,if_pos hm]at hsg;have hgm:m[k-hd.length]?=some m[k-hd.length]:=List.getElem?_eq_getElem hm
    have hgw:w[k-hd.length]?=some (w[k-hd.length]'(by omega)):=List.getElem?_eq_getElem (by omega)
    by_cases h49:m[k-hd.length]=49
    ·have hx:JD c (k-hd.length)=w[k-hd.length]'(by omega):=by unfold JD;rw[hcm,hgm,h49,if_pos rfl,hcw,hgw];rfl
     rw[hx]at hsg;by_cases hl1:k=al.length-1
     ·have hl2:((k:Int)=((al.length-1:Nat):Int))=True:=eq_true (by omega)
      have hcl1:=fun K'=>hcl 49 (w[k-hd.length]'(by omega)) K'
      rw[if_pos hl1]at hsg;rw[e49]at hcl1;simp only[go_sem,hlt,hlt',hg,w3,w4,w5,z0,hm,hm',hgm,hgw,h49,e49,hl2,hcl1];exact⟨k+1,by rw[hstep _ _ hsg],by omega,by omega⟩
     ·have hl2:((k:Int)=((al.length-1:Nat):Int))=False:=eq_false (by omega)
      have hcl1:=fun K'=>hcl 48 (w[k-hd.length]'(by omega)) K'
      rw[if_neg hl1]at hsg;rw[e48]at hcl1;simp only[go_sem,hlt,hlt',hg,w3,w4,w5,z0,hm,hm',hgm,hgw,h49,e49,hl2,hcl1];exact⟨k+1,by rw[hstep _ _ hsg],by omega,by omega⟩
    ·have hx:JD c (k-hd.length)=120:=by unfold JD;rw[hcm,hgm,if_neg (fun e=>h49 (Option.some.inj e))]
     rw[hx]at hsg;have h49':¬((m[k-hd.length].toNat:Int)=49):=fun e=>h49 (UInt8.toNat_inj.1 (by rw[show(49:UInt8).toNat=49 from rfl];omega))
     by_cases hl1:k=al.length-1
     ·have hl2:((k:Int)=((al.length-1:Nat):Int))=True:=eq_true (by omega)
      have hcl1:=fun K'=>hcl 49 120 K'
      rw[if_pos hl1]at hsg;rw[e49]at hcl1;rw[e120]at hcl1;simp only[go_sem,hlt,hlt',hg,w3,w4,w5,z0,hm,hm',hgm,h49',hl2,hcl1];exact⟨k+1,by rw[hstep _ _ hsg],by omega,by omega⟩
     ·have hl2:((k:Int)=((al.length-1:Nat):Int))=False:=eq_false (by omega)
      have hcl1:=fun K'=>hcl 48 120 K'
      rw[if_neg hl1]at hsg;rw[e48]at hcl1;rw[e120]at hcl1;simp only[go_sem,hlt,hlt',hg,w3,w4,w5,z0,hm,hm',hgm,h49',hl2,hcl1];exact⟨k+1,by rw[hstep _ _ hsg],by omega,by omega⟩
   ·have hm':¬((k-hd.length:Nat):Int)<(m.length:Int):=by omega
    rw[hcm,if_neg hm]at hsg;by_cases hl1:k=al.length-1
    ·have hl2:((k:Int)=((al.length-1:Nat):Int))=True:=eq_true (by omega)
     have hcl1:=fun K'=>hcl 49 120 K'
     rw[if_pos hl1]at hsg;rw[e49]at hcl1;rw[e120]at hcl1;simp only[go_sem,hlt,hlt',hg,w3,w4,w5,z0,hm,hm',hl2,hcl1];exact⟨k+1,by rw[hstep _ _ hsg],by omega,by omega⟩
    ·have hl2:((k:Int)=((al.length-1:Nat):Int))=False:=eq_false (by omega)
     have hcl1:=fun K'=>hcl 48 120 K'
     rw[if_neg hl1]at hsg;rw[e48]at hcl1;rw[e120]at hcl1;simp only[go_sem,hlt,hlt',hg,w3,w4,w5,z0,hm,hm',hl2,hcl1];exact⟨k+1,by rw[hstep _ _ hsg],by omega,by omega⟩
  ·have w5:IntKind.i64.wrap ((k:Int)-(hd.length:Int))=(k:Int)-(hd.length:Int):=LA _ (by omega) (by omega)
   have z0:¬(0:Int)≤(k:Int)-(hd.length:Int):=by omega
   rw[if_neg hk0]at hsg;by_cases hl1:k=al.length-1
   ·have hl2:((k:Int)=((al.length-1:Nat):Int))=True:=eq_true (by omega)
    have hcl1:=fun K'=>hcl 49 120 K'
    rw[if_pos hl1]at hsg;rw[e49]at hcl1;rw[e120]at hcl1;simp only[go_sem,hlt,hlt',hg,w3,w4,w5,z0,hl2,hcl1];exact⟨k+1,by rw[hstep _ _ hsg],by omega,by omega⟩
   ·have hl2:((k:Int)=((al.length-1:Nat):Int))=False:=eq_false (by omega)
    have hcl1:=fun K'=>hcl 48 120 K'
    rw[if_neg hl1]at hsg;rw[e48]at hcl1;rw[e120]at hcl1;simp only[go_sem,hlt,hlt',hg,w3,w4,w5,z0,hl2,hcl1];exact⟨k+1,by rw[hstep _ _ hsg],by omega,by omega⟩
 ·obtain rfl:k=al.length:=by omega
  have e1:(SA c hd al).take al.length=SA c hd al:=by rw[←hlen];exact List.take_length
  rw[e1]at R3 c3;simp only[go_sem,Nat.lt_irrefl,Int.lt_irrefl,e1];generalize r2.clk (SA c hd al)=r3 at R3 c3 ⊢;have hw2:=fun(l:aA) (K':jA)=>HL (h:=h) (l:=l) (K:=K') (r:={ r3 with st:=12 }) ⟨R3.t,R3.i,R3.w⟩ c3 (show 12∈frS by decide) (NE n1)
  have hp:=fun l=>rO (h:=h) (l:=l) (r:=r3) (s:=r3.se) (x:=12) (y:=r3.ni) (z:=r3.nd)
  simp only[show((12:Nat):Int)=12 from rfl]at hp
  simp only[go_sem,hp,hw2]
theorem z0g {c:Cmd}(h7:c.k=8):r.scn eA c=Run.go eA { Run.clk { r.go eA 4 with nd:=(r.go eA 4).nd+(r.se.h2.b++c.b++r.se.t2.b).length } (SA c r.se.h2.b (r.se.h2.b++c.b++r.se.t2.b)) with st:=5 } r.se.e2.s.toNat∧r.scnF eA c=(r.go eA 4).ck+r.se.h2.b.length:=by
 unfold Run.scn Run.scnF;simp [h7]
set_option maxHeartbeats 4000000 in
theorem zkr (R:RunOk r)(N:gJ r)(hck:r.ck≤800000000)(hst:r.st∈stb)(S:SetR r.se)(c:Cmd)(h7:c.k=8)(hs:OD c=0):bA X vG [.ref (h.length+5) 0,ACm c] (rh h r l) K=K (AI (r.scnF eA c:Nat)) (rh h (r.scn eA c) l) []:=by
 refine zA ?_;rw[z10 rfl,(z0g h7).1,(z0g h7).2];have hw1:=fun(l:aA) (K':jA)=>HL (h:=h) (l:=l) (K:=K') R (by omega) (dD hst) (show 4∈toS by decide)
 simp only[show(((4:Nat)):Int)=4 from rfl]at hw1
 have R1:=WI (tov:=4) R
 have c1:(r.go eA 4).ck≤800000008:=by have:=(pD (dD hst) (show 4∈toS by decide)).2.1;rw[CI];omega
 have N1:=DL (tov:=4) N
 generalize r.go eA 4=r1 at *;obtain⟨q1,q2,q3,q4,q5,q6⟩:=DH hs;obtain⟨n1,n2⟩:=tD S.s2;have hh:=S.h2;have ht:=S.t2
 generalize hhd:r.se.h2.b=hd at *;generalize htl:r.se.t2.b=tl at *;generalize hen:r.se.e2.s=en at *;obtain⟨en',rfl⟩:∃n:Nat,en=n:=⟨en.toNat,n2.symm⟩;simp only[Int.toNat_natCast]at n1 n2 ⊢;obtain⟨k,s,cl,b,w,m⟩:=c;dsimp only at h7 q1 q3 q6 ⊢;subst h7;have hbp:=List.length_pos_iff.2 q1
 have x1:hd.length+b.length≤CB:=by unfold CB;omega
 have x2:hd.length+(b.length+tl.length)≤CB:=by unfold CB;omega
 have x3:hd.length+b.length+tl.length≤CB:=by unfold CB;omega
 obtain⟨hn,hd'⟩:=N1;obtain⟨al,hal⟩:∃al,al=hd++b++tl:=⟨_,rfl⟩;have hall:al.length=hd.length+b.length+tl.length:=by rw[hal];simp;omega
 have hal2:=hal
 rw[List.append_assoc]at hal2;have w1:IntKind.i64.wrap ((r1.nd:Int)+(al.length:Int))=((r1.nd+al.length:Nat):Int):=LA _ (by omega) (by omega)
 have w2:IntKind.i64.wrap ((r1.ck:Int)+(hd.length:Int))=((r1.ck+hd.length:Nat):Int):=LA _ (by omega) (by omega)
 simp only[FM,go_sem,hw1,hhd,htl,hen,x1,x2,x3,←hal,←hal2,w1,w2];have R2:RunOk { r1 with nd:=r1.nd+al.length }:=⟨R1.t,R1.i,R1.w⟩
 have c2:{ r1 with nd:=r1.nd+al.length:Run }.ck=r1.ck:=rfl
 show ZA (bA X) X.gl _ _ _ (rh h { r1 with nd:=r1.nd+al.length } _) []
 generalize { r1 with nd:=r1.nd+al.length:Run }=r2 at R2 c2 ⊢
 generalize hq:(⟨8,s,cl,b,w,m⟩:Cmd)=c at *;have hcm:c.m=m:=by rw[←hq]
 have hcw:c.w=w:=by rw[←hq]
 have hml:m.length≤b.length∧m.length≤w.length:=by
  rcases q6 with⟨e1,e2⟩|⟨e1,e2⟩
  ·rw[e2];exact⟨Nat.zero_le _,Nat.zero_le _⟩
  ·omega
 have hal0:0<al.length:=by omega
 refine yB (fun k:Nat=>⟨[(0,.ref (h.length+5) 0),(3,.ref (h.length+(l.length+6)) 0),(5,AS hd),(7,AI en'),(9,AI 5),(10,AS al),(11,AI (r1.ck+hd.length:Nat)),(93,AI al.length),(94,AI k)],
  rh h (r2.clk ((SA c hd al).take k)) (l++[.box [AI 8,AI s,AI cl,AS b,AS w,AS m]]),[]⟩) (fun k=>k≤al.length) (fun k=>al.length-k) 0 (by rw[List.take_zero,nP];rfl) (by omega) ?_
 intro k hk;have hlen:(SA c hd al).length=al.length:=vO c hd al
 have R3:=VI (L:=(SA c hd al).take k) R2
 have c3:(r2.clk ((SA c hd al).take k)).ck≤900000000:=by rw[dM,c2,List.length_take];omega
 rcases Nat.lt_or_ge k al.length with hlt|hge
 ·have w3:IntKind.i64.wrap ((k:Int)+1)=((k+1:Nat):Int):=LA _ (by omega) (by omega)
  have w4:IntKind.i64.wrap ((al.length:Int)-1)=((al.length-1:Nat):Int):=by
   rw[show(al.length:Int)-1=((al.length-1:Nat):Int) by omega];exact LA _ (by omega) (by omega)
  have hlt':(k:Int)<(al.length:Int):=by omega
  have hg:al[k]?=some al[k]:=List.getElem?_eq_getElem hlt
  have hcl:=fun(t v:UInt8) (K':jA)=>HT (h:=h) (l:=l++[.box [AI 8,AI s,AI cl,AS b,AS w,AS m]]) (K:=K') R3 (by omega) t al[k] v
  have hsg:=z6w (c:=c) (hd:=hd) hlt
  have hstep:∀t v:UInt8,(SA c hd al)[k]?=some (t,al[k],v)→(r2.clk ((SA c hd al).take k)).clk [(t,al[k],v)]=r2.clk ((SA c hd al).take (k+1)):=fun t v e=>by
   rw[oP,List.take_succ,e];rfl
  have e48:(((48:UInt8).toNat:Nat):Int)=48:=rfl
  have e49:(((49:UInt8).toNat:Nat):Int)=49:=rfl
  have e120:(((120:UInt8).toNat:Nat):Int)=120:=rfl
  generalize r2.clk ((SA c hd al).take k)=r3 at R3 c3 hcl hstep ⊢
  -- what is expected
  by_cases hk0:hd.length≤k
  ·have w5:IntKind.i64.wrap ((k:Int)-(hd.length:Int))=((k-hd.length:Nat):Int):=by
    rw[show(k:Int)-(hd.length:Int)=((k-hd.length:Nat):Int) by omega];exact LA _ (by omega) (by omega)
   have z0:(0:Int)≤((k-hd.length:Nat):Int):=by omega
   rw[if_pos hk0]at hsg;by_cases hm:k-hd.length<m.length
   ·have hm':((k-hd.length:Nat):Int)<(m.length:Int):=by omega
    rw[hcm,if_pos hm]at hsg;have hgm:m[k-hd.length]?=some m[k-hd.length]:=List.getElem?_eq_getElem hm
    have hgw:w[k-hd.length]?=some (w[k-hd.length]'(by omega)):=List.getElem?_eq_getElem (by omega)
    by_cases h49:m[k-hd.length]=49
    ·have hx:JD c (k-hd.length)=w[k-hd.length]'(by omega):=by unfold JD;rw[hcm,hgm,h49,if_pos rfl,hcw,hgw];rfl
     rw[hx]at hsg;by_cases hl1:k=al.length-1
     ·have hl2:((k:Int)=((al.length-1:Nat):Int))=True:=eq_true (by omega)
      have hcl1:=fun K'=>hcl 49 (w[k-hd.length]'(by omega)) K'
      rw[if_pos hl1]at hsg;rw[e49]at hcl1;simp only[go_sem,hlt,hlt',hg,w3,w4,w5,z0,hm,hm',hgm,hgw,h49,e49,hl2,hcl1];exact⟨k+1,by rw[hstep _ _ hsg],by omega,by omega⟩
     ·have hl2:((k:Int)=((al.length-1:Nat):Int))=False:=eq_false (by omega)
      have hcl1:=fun K'=>hcl 48 (w[k-hd.length]'(by omega)) K'
      rw[if_neg hl1]at hsg;rw[e48]at hcl1;simp only[go_sem,hlt,hlt',hg,w3,w4,w5,z0,hm,hm',hgm,hgw,h49,e49,hl2,hcl1];exact⟨k+1,by rw[hstep _ _ hsg],by omega,by omega⟩
    ·have hx:JD c (k-hd.length)=120:=by unfold JD;rw[hcm,hgm,if_neg (fun e=>h49 (Option.some.inj e))]
     rw[hx]at hsg;have h49':¬((m[k-hd.length].toNat:Int)=49):=fun e=>h49 (UInt8.toNat_inj.1 (by rw[show(49:UInt8).toNat=49 from rfl];omega))
     by_cases hl1:k=al.length-1
     ·have hl2:((k:Int)=((al.length-1:Nat):Int))=True:=eq_true (by omega)
      have hcl1:=fun K'=>hcl 49 120 K'
      rw[if_pos hl1]at hsg;rw[e49]at hcl1;rw[e120]at hcl1;simp only[go_sem,hlt,hlt',hg,w3,w4,w5,z0,hm,hm',hgm,h49',hl2,hcl1];exact⟨k+1,by rw[hstep _ _ hsg],by omega,by omega⟩
     ·have hl2:((k:Int)=((al.length-1:Nat):Int))=False:=eq_false (by omega)
      have hcl1:=fun K'=>hcl 48 120 K'
      rw[if_neg hl1]at hsg;rw[e48]at hcl1;rw[e120]at hcl1;simp only[go_sem,hlt,hlt',hg,w3,w4,w5,z0,hm,hm',hgm,h49',hl2,hcl1];exact⟨k+1,by rw[hstep _ _ hsg],by omega,by omega⟩
   ·have hm':¬((k-hd.length:Nat):Int)<(m.length:Int):=by omega
    rw[hcm,if_neg hm]at hsg;by_cases hl1:k=al.length-1
    ·have hl2:((k:Int)=((al.length-1:Nat):Int))=True:=eq_true (by omega)
     have hcl1:=fun K'=>hcl 49 120 K'
     rw[if_pos hl1]at hsg;rw[e49]at hcl1;rw[e120]at hcl1;simp only[go_sem,hlt,hlt',hg,w3,w4,w5,z0,hm,hm',hl2,hcl1];exact⟨k+1,by rw[hstep _ _ hsg],by omega,by omega⟩
    ·have hl2:((k:Int)=((al.length-1:Nat):Int))=False:=eq_false (by omega)
     have hcl1:=fun K'=>hcl 48 120 K'
     rw[if_neg hl1]at hsg;rw[e48]at hcl1;rw[e120]at hcl1;simp only[go_sem,hlt,hlt',hg,w3,w4,w5,z0,hm,hm',hl2,hcl1];exact⟨k+1,by rw[hstep _ _ hsg],by omega,by omega⟩
  ·have w5:IntKind.i64.wrap ((k:Int)-(hd.length:Int))=(k:Int)-(hd.length:Int):=LA _ (by omega) (by omega)
   have z0:¬(0:Int)≤(k:Int)-(hd.length:Int):=by omega
   rw[if_neg hk0]at hsg;by_cases hl1:k=al.length-1
   ·have hl2:((k:Int)=((al.length-1:Nat):Int))=True:=eq_true (by omega)
    have hcl1:=fun K'=>hcl 49 120 K'
    rw[if_pos hl1]at hsg;rw[e49]at hcl1;rw[e120]at hcl1;simp only[go_sem,hlt,hlt',hg,w3,w4,w5,z0,hl2,hcl1];exact⟨k+1,by rw[hstep _ _ hsg],by omega,by omega⟩
   ·have hl2:((k:Int)=((al.length-1:Nat):Int))=False:=eq_false (by omega)
    have hcl1:=fun K'=>hcl 48 120 K'
    rw[if_neg hl1]at hsg;rw[e48]at hcl1;rw[e120]at hcl1;simp only[go_sem,hlt,hlt',hg,w3,w4,w5,z0,hl2,hcl1];exact⟨k+1,by rw[hstep _ _ hsg],by omega,by omega⟩
 ·obtain rfl:k=al.length:=by omega
  have e1:(SA c hd al).take al.length=SA c hd al:=by rw[←hlen];exact List.take_length
  rw[e1]at R3 c3;simp only[go_sem,Nat.lt_irrefl,Int.lt_irrefl,e1];generalize r2.clk (SA c hd al)=r3 at R3 c3 ⊢;have hw2:=fun(l:aA) (K':jA)=>HL (h:=h) (l:=l) (K:=K') (r:={ r3 with st:=5 }) ⟨R3.t,R3.i,R3.w⟩ c3 (show 5∈frS by decide) (NE n1)
  have hp:=fun l=>rO (h:=h) (l:=l) (r:=r3) (s:=r3.se) (x:=5) (y:=r3.ni) (z:=r3.nd)
  simp only[show((5:Nat):Int)=5 from rfl]at hp
  simp only[go_sem,hp,hw2]
end Go.Am
end
section
/- The program: a step. -/
open Go
set_option linter.all false
namespace Go.Am
variable {h l l2:aA} {K:jA} {r:Run} {n:Nat} {o:Obj} {x:Esc}
attribute [-go_sem] OA splice GM
attribute [local go_sem] mT kT rc_1 rc_7 bT fT gT iT pL xH qL rL sL tL uL vL wL jT nT oT pT qT rT tT uT vT xT
section
variable {s:Sett} {st ck ni nd:Int} {a b c d e:AV} {w:Bool} {q1 q2 q3:Int} {q4 q5 q6:List UInt8}
theorem rct_0:splice (rc s st ck ni nd a b c d e w) 0 [AI q1,AI q2,AI q3,AS q4,AS q5,AS q6]=rc { s with e1:=⟨q1,q2,q3,q4,q5,q6⟩ } st ck ni nd a b c d e w:=(rfl)
theorem rct_6:splice (rc s st ck ni nd a b c d e w) 6 [AI q1,AI q2,AI q3,AS q4,AS q5,AS q6]=rc { s with e2:=⟨q1,q2,q3,q4,q5,q6⟩ } st ck ni nd a b c d e w:=(rfl)
theorem zjx:splice (rc s st ck ni nd a b c d e w) 12 [AI q1,AI q2,AI q3,AS q4,AS q5,AS q6]=rc { s with h1:=⟨q1,q2,q3,q4,q5,q6⟩ } st ck ni nd a b c d e w:=(rfl)
theorem zjy:splice (rc s st ck ni nd a b c d e w) 18 [AI q1,AI q2,AI q3,AS q4,AS q5,AS q6]=rc { s with t1:=⟨q1,q2,q3,q4,q5,q6⟩ } st ck ni nd a b c d e w:=(rfl)
theorem zjz:splice (rc s st ck ni nd a b c d e w) 24 [AI q1,AI q2,AI q3,AS q4,AS q5,AS q6]=rc { s with h2:=⟨q1,q2,q3,q4,q5,q6⟩ } st ck ni nd a b c d e w:=(rfl)
theorem zj0:splice (rc s st ck ni nd a b c d e w) 30 [AI q1,AI q2,AI q3,AS q4,AS q5,AS q6]=rc { s with t2:=⟨q1,q2,q3,q4,q5,q6⟩ } st ck ni nd a b c d e w:=(rfl)
end
attribute [local go_sem] rct_0 rct_6 zjx zjy zjz zj0
def qH (k:Int):Nat:=if k=1 then 0 else if k=2 then 6 else if k=3 then 12 else if k=4 then 18 else if k=5 then 24 else 30
theorem s_ofK {id:Nat}(hid:id<h.length)(k:Int):bA X zI [.ref id 0,AI k] h K=K (.ref id (qH k)) h []:=by
 refine zA ?_;rw[zaI rfl];have e1:max h.length (id+1)=h.length:=by omega
 have e2:id+1≤h.length:=by omega
 unfold qH;by_cases h1:k=1
 ·simp only[nG,go_sem,h1,e1,e2]
 by_cases h2:k=2
 ·simp only[nG,go_sem,h1,h2,e1,e2]
 by_cases h3:k=3
 ·simp only[nG,go_sem,h1,h2,h3,e1,e2]
 by_cases h4:k=4
 ·simp only[nG,go_sem,h1,h2,h3,h4,e1,e2]
 by_cases h5:k=5
 ·simp only[nG,go_sem,h1,h2,h3,h4,h5,e1,e2]
 simp only[nG,go_sem,h1,h2,h3,h4,h5,e1,e2]
set_option maxHeartbeats 2000000 in
theorem AQ {Kx:Ex→St→Prop}(hs:r.sts.length≤100000)(hf:r.frs.length≤100000)(f:Nat):GM (bA X) X.gl (.ref (h.length+5) 0) (AI f) (rh h r l) x Kx=Kx .normal ⟨[],rh h { r with sts:=r.sts++[r.st],frs:=r.frs++[f] } l,x⟩:=by
 obtain⟨se,st,ck,ni,nd,sts,frs,tms,tdi,want,wr⟩:=r;dsimp only at *;unfold rh;have m1:sts.length+1≤RA:=by unfold RA;omega
 have m2:frs.length+1≤RA:=by unfold RA;omega
 have e2:∀k n o m,k<5→qC (h.length+5) (.own (h.length+k) n o m)=[]:=fun k n o m hk=>by unfold qC;rw[z0p,if_neg (by omega)]
 have e3:=fun n o m=>e2 0 n o m (by decide)
 have e4:=fun n o m=>e2 1 n o m (by decide)
 simp only[Nat.add_zero]at e3;simp only[GM,go_sem,m1,m2,e3,e4,List.length_map];simp
attribute [local go_sem] zH zL SI TI UI BL RI rO
theorem z6z (c:Cmd):(r.scn eA c).sts=r.sts∧(r.scn eA c).frs=r.frs∧(r.scn eA c).se=r.se:=by
 unfold Run.scn;by_cases h7:c.k=7
 ·simp only[h7,if_true]
  obtain⟨a1,a2,a3,a4,_⟩:=MB eA ({ Run.clk { r.go eA 11 with ni:=(r.go eA 11).ni+(r.se.h1.b++c.b++r.se.t1.b).length } (SA c r.se.h1.b (r.se.h1.b++c.b++r.se.t1.b)) with st:=12 }) r.se.e1.s.toNat
  obtain⟨b1,b2,b3,b4,_⟩:=IC { r.go eA 11 with ni:=(r.go eA 11).ni+(r.se.h1.b++c.b++r.se.t1.b).length } (SA c r.se.h1.b (r.se.h1.b++c.b++r.se.t1.b))
  obtain⟨d1,d2,d3,d4,_⟩:=MB eA r 11;exact⟨a3.trans (b3.trans d3),a4.trans (b4.trans d4),a1.trans (b1.trans d1)⟩
 ·simp only[h7,if_false]
  obtain⟨a1,a2,a3,a4,_⟩:=MB eA ({ Run.clk { r.go eA 4 with nd:=(r.go eA 4).nd+(r.se.h2.b++c.b++r.se.t2.b).length } (SA c r.se.h2.b (r.se.h2.b++c.b++r.se.t2.b)) with st:=5 }) r.se.e2.s.toNat
  obtain⟨b1,b2,b3,b4,_⟩:=IC { r.go eA 4 with nd:=(r.go eA 4).nd+(r.se.h2.b++c.b++r.se.t2.b).length } (SA c r.se.h2.b (r.se.h2.b++c.b++r.se.t2.b))
  obtain⟨d1,d2,d3,d4,_⟩:=MB eA r 4;exact⟨a3.trans (b3.trans d3),a4.trans (b4.trans d4),a1.trans (b1.trans d1)⟩
set_option maxHeartbeats 4000000 in
theorem zkx (R:RunOk r)(N:gJ r)(hck:r.ck≤700000000)(hst:r.st∈stb)(S:SetR r.se)(hl1:r.sts.length≤100000)(hl2:r.frs.length≤100000)(c:Cmd)(hc:NA c=0) :
 bA X fK [.ref (h.length+5) 0,ACm c] (rh h r l) K=K (.tup []) (rh h (r.step eA c) l) []:=by
 refine zA ?_;rw[zaF rfl];have e0:(AI ((0:Nat):Int))=AI 0:=rfl
 have setf:∀h1:1≤c.k∧c.k≤6,oE (bA X) X.gl OI dO (.ref (h.length+5) 0) (ACm c) (rh h r l) [] (qA [] false (rh h r l).length fun v1 h1 x1=>v1 = .tup []∧h1=rh h (r.step eA c) l∧x1=[]):=by
  intro h1;rw[eJ eA h1];have k2:=fun(l:aA) (x:Esc) (Kx:Ex→St→Prop)=>AQ (h:=h) (l:=l) (x:=x) (Kx:=Kx) (r:={ r with se:=r.se.put c }) hl1 hl2 0
  rw[e0]at k2;have ho:=fun(l:aA) (k:Int) (K':jA)=>s_ofK (h:=rh h r l) (K:=K') (id:=h.length+5) (by rw[zH];omega) k
  obtain⟨k,s,cl,b,w,m⟩:=c;dsimp only at h1;have:k=1∨k=2∨k=3∨k=4∨k=5∨k=6:=by omega
  rcases this with rfl|rfl|rfl|rfl|rfl|rfl
  ·have ep:r.se.put ⟨1,s,cl,b,w,m⟩={ r.se with e1:=⟨1,s,cl,b,w,m⟩ }:=rfl
   rw[ep];simp only[ep]at k2;simp only[oE,go_sem,GG,ho,qH,k2]
  ·have ep:r.se.put ⟨2,s,cl,b,w,m⟩={ r.se with e2:=⟨2,s,cl,b,w,m⟩ }:=rfl
   rw[ep];simp only[ep]at k2;simp only[oE,go_sem,GG,ho,qH,k2]
  ·have ep:r.se.put ⟨3,s,cl,b,w,m⟩={ r.se with h1:=⟨3,s,cl,b,w,m⟩ }:=rfl
   rw[ep];simp only[ep]at k2;simp only[oE,go_sem,GG,ho,qH,k2]
  ·have ep:r.se.put ⟨4,s,cl,b,w,m⟩={ r.se with t1:=⟨4,s,cl,b,w,m⟩ }:=rfl
   rw[ep];simp only[ep]at k2;simp only[oE,go_sem,GG,ho,qH,k2]
  ·have ep:r.se.put ⟨5,s,cl,b,w,m⟩={ r.se with h2:=⟨5,s,cl,b,w,m⟩ }:=rfl
   rw[ep];simp only[ep]at k2;simp only[oE,go_sem,GG,ho,qH,k2]
  ·have ep:r.se.put ⟨6,s,cl,b,w,m⟩={ r.se with t2:=⟨6,s,cl,b,w,m⟩ }:=rfl
   rw[ep];simp only[ep]at k2;simp only[oE,go_sem,GG,ho,qH,k2]
 cases YE hc with
 | set h hs e=>exact setf (by omega)
 | pad h0 h1 hb hl e=>exact setf ⟨by omega,h1⟩
 | go hk hs e=>
  rw[DO eA hk];obtain⟨g1,g2,g3,g4,g5,g6,_,_⟩:=MB eA r c.s.toNat;obtain⟨n1,n2⟩:=tD hs;have k2:=fun(l:aA) (x:Esc) (Kx:Ex→St→Prop)=>AQ (h:=h) (l:=l) (x:=x) (Kx:=Kx) (r:=r.go eA c.s.toNat) (by rw[g3];exact hl1) (by rw[g4];exact hl2) 0
  rw[e0]at k2;have hw:=fun(l:aA) (K':jA)=>HL (h:=h) (l:=l) (K:=K') R (by omega) (dD hst) (NE n1)
  obtain⟨k,s,cl,b,w,m⟩:=c;dsimp only at hk n2 hw k2 ⊢;subst hk;rw[n2]at hw;simp only[oE,go_sem,GG,ZF,hw,k2]
 | idle hk h0 h1 e=>
  rw[ML eA hk];obtain⟨g1,g2,g3,g4,g5,g6,_,_⟩:=MB eA r 1;have hw:=fun(l:aA) (K':jA)=>HL (h:=h) (l:=l) (K:=K') R (by omega) (dD hst) (show 1∈toS by decide)
  have R1:=WI (tov:=1) R
  have c1:(r.go eA 1).ck≤700000008:=by have:=(pD (dD hst) (show 1∈toS by decide)).2.1;rw[CI];omega
  simp only[show((1:Nat):Int)=1 from rfl]at hw
  obtain⟨k,s,cl,b,w,m⟩:=c;dsimp only at hk h0 h1 ⊢;subst hk;obtain⟨n,rfl⟩:∃n:Nat,cl=n:=⟨cl.toNat,by omega⟩
  simp only[Int.toNat_natCast];generalize r.go eA 1=r1 at *;simp only[oE,go_sem,GG,ZF,hw];refine yB (fun k:Nat=>⟨[(0,.ref (h.length+5) 0),(4,AI 0),(35,AI n),(36,AI k)],rh h (r1.clk (List.replicate k (48,48,120))) (l++[.box [AI 9,AI s,AI n,AS b,AS w,AS m]]),[]⟩) (fun k=>k≤n) (fun k=>n-k) 0 (by rw[List.replicate_zero,nP];rfl) (by omega) ?_
  intro k hk;have R2:=VI (L:=List.replicate k (48,48,120)) R1
  rcases Nat.lt_or_ge k n with hlt|hge
  ·have w2:IntKind.i64.wrap ((k:Int)+1)=((k+1:Nat):Int):=LA _ (by omega) (by omega)
   have hc:=fun(l:aA) (K':jA)=>HT (h:=h) (l:=l) (K:=K') R2 (by rw[dM,List.length_replicate];omega) 48 48 120
   simp only[show(((48:UInt8).toNat:Nat):Int)=48 from rfl,show(((120:UInt8).toNat:Nat):Int)=120 from rfl]at hc
   simp only[go_sem,hlt,w2,hc];exact⟨k+1,by rw[oP,←List.replicate_succ'],by omega,by omega⟩
  ·obtain rfl:k=n:=by omega
   have q:=IC r1 (List.replicate k (48,48,120))
   have k2:=fun(l:aA) (x:Esc) (Kx:Ex→St→Prop)=>AQ (h:=h) (l:=l) (x:=x) (Kx:=Kx) (r:=r1.clk (List.replicate k (48,48,120))) (by rw[q.2.2.1,g3];exact hl1) (by rw[q.2.2.2.1,g4];exact hl2) 0
   rw[e0]at k2;simp only[go_sem,Nat.lt_irrefl,k2]
 | scan hk hs e=>
  rw[NL eA hk];obtain⟨g3,g4,_⟩:=z6z (r:=r) c;have k2:=fun(l:aA) (x:Esc) (Kx:Ex→St→Prop)=>AQ (h:=h) (l:=l) (x:=x) (Kx:=Kx) (r:=r.scn eA c) (by rw[g3];exact hl1) (by rw[g4];exact hl2) (r.scnF eA c)
  have hscan:∀(l:aA) (K':jA),bA X vG [.ref (h.length+5) 0,ACm c] (rh h r l) K'=K' (AI (r.scnF eA c:Nat)) (rh h (r.scn eA c) l) []:=fun l K'=>by
   rcases hk with h7|h8
   ·exact zkt R N (by omega) hst S c h7 hs
   ·exact zkr R N (by omega) hst S c h8 hs
  have f1:¬c.k≤6:=by omega
  have f2:1≤c.k:=by omega
  have f3:(decide (c.k=7)||decide (c.k=8))=true:=by simpa using hk
  generalize r.scn eA c=r9 at k2 hscan ⊢;generalize r.scnF eA c=f9 at k2 hscan ⊢;simp only[oE,go_sem,GG,ZF,f1,f2,f3,hscan,k2]
end Go.Am
end
section
/- A command's fault,the reference. -/
open Go
set_option linter.all false
namespace Go.Am
variable {h:aA} {K:jA} {Kx:Ex→St→Prop} {q q2:ACode} {k s cl k' s' cl' v9:Int} {b w m b' w' m':List UInt8} {x:Esc}
theorem eqa6 {k s cl k' s' cl':Int}{b w m b' w' m':List UInt8}:OA [0,0,0,2,2,2] true (.p (.agg [.int .i64 k,.int .i64 s,.int .i64 cl,.str b,.str w,.str m])) (.p (.agg [.int .i64 k',.int .i64 s',.int .i64 cl',.str b',.str w',.str m']))=some (AB (!decide ((⟨k,s,cl,b,w,m⟩:Cmd)=⟨k',s',cl',b',w',m'⟩))):=by
 unfold OA;dsimp only;rw[if_pos ⟨rfl,rfl,by simp⟩,eqs6]
 rfl
attribute [-go_sem] OA
end Go.Am
end
section
/- The reference: the part of a command that waits,or sets something. -/
open Go
set_option linter.all false
namespace Go.Am
variable {h:aA} {K:jA}
attribute [-go_sem] OA
end Go.Am
end
section
/- The reference: the part of a command that sets something. -/
open Go
set_option linter.all false
namespace Go.Am
variable {h:aA} {K:jA}
attribute [-go_sem] OA
end Go.Am
end
section
/- The reference: the part of a scan. -/
open Go
set_option linter.all false
namespace Go.Am
variable {h:aA} {K:jA} {Kx:Ex→St→Prop}
attribute [-go_sem] OA
end Go.Am
end
section
/- The reference: the part of a scan. -/
open Go
set_option linter.all false
namespace Go.Am
variable {h:aA} {K:jA}
attribute [-go_sem] OA
end Go.Am
end
section
/- The reference: the parts of a program. -/
open Go
set_option linter.all false
namespace Go.Am
variable {h:aA} {K:jA}
attribute [-go_sem] OA
theorem zkG {pre:List Cmd}{c:Cmd}(S:SetOk pre)(hc:NA c=0):SetOk (pre++[c]):=by
 have K:=YE hc
 refine⟨?_,?_,fun k h1 h2=>?_⟩
 ·rw[zC];split
  ·cases K with
   | set h hs e=>exact hs
   | pad h0 h1 hb hl e=>omega
   | go h hs e=>omega
   | idle h h0 h1 e=>omega
   | scan h hs e=>omega
  ·exact S.s1
 ·rw[zC];split
  ·cases K with
   | set h hs e=>exact hs
   | pad h0 h1 hb hl e=>omega
   | go h hs e=>omega
   | idle h h0 h1 e=>omega
   | scan h hs e=>omega
  ·exact S.s2
 ·rw[zC];split
  ·cases K with
   | set h hs e=>omega
   | pad h0 h1 hb hl e=>exact⟨hb,hl⟩
   | go h hs e=>omega
   | idle h h0 h1 e=>omega
   | scan h hs e=>omega
  ·exact S.b1 k h1 h2
theorem zkF:SetOk []:=⟨rfl,rfl,fun k _ _=>⟨rfl,Nat.zero_le _⟩⟩
end Go.Am
end
section
/- The reference: the parts of a program,one by one. -/
open Go
set_option linter.all false
namespace Go.Am
variable {h:aA} {K:jA}
def oC (pre:List Cmd)(state:Nat):List Cmd→Nat
 | []=>state
 | c::r=>oC (pre++[c]) (lA eA pre c state).st r
theorem z5h (c:Cmd):∀(l pre:List Cmd) (state:Nat),nA eA pre state (l++[c])=nA eA pre state l++[lA eA (pre++l) c (oC pre state l)]∧oC pre state (l++[c])=(lA eA (pre++l) c (oC pre state l)).st
 | [],pre,state=>by simp [nA,oC]
 | d::l,pre,state=>by
  obtain⟨a,b⟩:=z5h c l (pre++[d]) (lA eA pre d state).st;have e:pre++[d]++l=pre++d::l:=by rw[List.append_assoc];rfl
  rw[e]at a b;constructor
  ·simp only[List.cons_append,nA];rw[a];rfl
  ·exact b
theorem z1G:∀ {l:List Cmd},JC l=0→∀ c∈l,NA c=0
 | [],_,c,hc=>by cases hc
 | d::l,h,c,hc=>by
  unfold JC at h;split at h
  ·rename_i h1;exact absurd h h1
  ·rename_i h1
   rcases List.mem_cons.1 hc with rfl|hc
   ·omega
   ·exact z1G h c hc
theorem AZ {l:List Cmd}(hc:∀ c∈l,NA c=0):∀k,k≤l.length→SetOk (l.take k)∧oC [] 0 (l.take k)∈stb
 | 0,_=>⟨zkF,by show 0∈stb;decide⟩
 | k+1,hk=>by
  obtain⟨S,T⟩:=AZ hc k (by omega)
  have hlt:k<l.length:=by omega
  have h0:=hc _ (List.getElem_mem hlt)
  rw[List.take_succ_eq_append_getElem hlt];refine⟨zkG S h0,?_⟩;rw[(z5h l[k] (l.take k) [] 0).2,List.nil_append];cases YE h0 with
  | set h hs e=>rw[VF eA (by omega)];exact T
  | pad h0 h1 hb hl e=>rw[VF eA h1];exact T
  | go h hs e=>rw[mL eA h];exact(tD hs).1
  | idle h h0 h1 e=>rw[nL eA h];show 1∈stb;decide
  | scan h hs e=>
   unfold lA;rcases h with h|h
   ·rw[if_neg (by omega),if_neg (by omega),if_pos h];exact(tD S.s1).1
   ·rw[if_neg (by omega),if_neg (by omega),if_neg (by omega),if_pos h];exact(tD S.s2).1
end Go.Am
end
section
/- The reference: the signals of a program: three builders. -/
open Go
set_option linter.all false
namespace Go.Am
variable {h:aA} {K:jA}
def b3 (h:aA)(u1:Bool)(s1:List UInt8)(u2:Bool)(s2:List UInt8)(u3:Bool)(s3:List UInt8)(l:aA):aA:=
 h++bldB u1 h.length s1.length :: .row none (IA s1) 0::bldB u2 (h.length+2) s2.length :: .row none (IA s2) 0::bldB u3 (h.length+4) s3.length :: .row none (IA s3) 0::l
variable {u1 u2 u3:Bool} {s1 s2 s3 t:List UInt8} {l:aA}
end Go.Am
end
section
/- The reference: the signals of a program. -/
open Go
set_option linter.all false
namespace Go.Am
variable {h:aA} {K:jA}
attribute [-go_sem] OA
theorem fO:∀ (l pre:List Cmd) (s:Nat),(nA eA pre s l).length=l.length
 | [],_,_=>rfl
 | c::l,pre,s=>by simp [nA,fO l]
end Go.Am
end
section
/- The reference: the fault of a program. -/
open Go
set_option linter.all false
namespace Go.Am
variable {h:aA} {K:jA}
attribute [-go_sem] OA
theorem eM:∀ {l:List Cmd},(∀ c∈l,NA c=0)→JC l=0
 | [],_=>rfl
 | d::l,h=>by
  unfold JC;rw[if_neg (by rw[h d (List.mem_cons_self ..)];simp)]
  exact eM fun c hc=>h c (List.mem_cons_of_mem _ hc)
theorem z1I:∀ {l:List Cmd} {k:Nat} (hk:k<l.length),(∀ c∈l.take k,NA c=0)→NA l[k]≠0→JC l=NA l[k]
 | d::l,0,hk,_,h2=>by unfold JC;rw[if_pos (by simpa using h2)];rfl
 | d::l,k+1,hk,h1,h2=>by
  unfold JC;rw[if_neg (by rw[h1 d (by simp)];simp)]
  exact z1I (l:=l) (k:=k) (by simpa using hk) (fun c hc=>h1 c (by simp [hc])) (by simpa using h2)
end Go.Am
end
section
/- The reference: states,bits that are shifted. -/
open Go
set_option linter.all false
namespace Go.Am
variable {h:aA} {K:jA}
attribute [-go_sem] OA
theorem zjg {l:List Cmd}(hc:∀ c∈l,NA c=0){k:Nat}(hk:k<l.length) :
 DC (oC [] 0 (l.take k)) (lA eA (l.take k) l[k] (oC [] 0 (l.take k))).tms=(lA eA (l.take k) l[k] (oC [] 0 (l.take k))).st∧EA (lA eA (l.take k) l[k] (oC [] 0 (l.take k))).tms=true:=by
 obtain⟨S,T⟩:=AZ hc k (by omega)
 have h0:=hc _ (List.getElem_mem hk)
 have bz:∀n,EA (zs n)=true:=fun n=>by simp [EA,zs,lR]
 have ba:∀a b,EA a=true→EA b=true→EA (a++b)=true:=fun a b h1 h2=>by unfold EA at *;rw[List.all_append,h1,h2];rfl
 generalize oC [] 0 (l.take k)=state at T ⊢;generalize l.take k=pre at S ⊢;generalize l[k]=c at h0 ⊢;cases YE h0 with
 | set h hs e=>rw[VF eA (by omega)];exact⟨rfl,rfl⟩
 | pad h0 h1 hb hl e=>rw[VF eA h1];exact⟨rfl,rfl⟩
 | go h hs e=>
  rw[mL eA h];have:=pD (dD T) (NE (tD hs).1);exact⟨this.2.2,this.1⟩
 | idle h h0 h1 e=>
  rw[nL eA h];have:=pD (dD T) (show 1∈toS by decide)
  refine⟨?_,ba _ _ this.1 (bz _)⟩;show DC state (eA state 1++zs c.cl.toNat)=1
  rw[OJ,this.2.2];exact(OT rfl _).2
 | scan h hs e=>
  obtain⟨q1,q2,q3,q4,q5,q6⟩:=DH hs;have hpos:=List.length_pos_iff.2 q1
  rcases h with h|h
  ·have ep:lA eA pre c state=fC (KC eA c state 11 12 (BA pre 3).b (BA pre 4).b (BA pre 1).s.toNat):=by
    unfold lA;rw[if_neg (by omega),if_neg (by omega),if_pos h]
   have hen:=(tD S.s1).1
   rw[ep,lL eA c state 11 12 _ _ _ q1];refine⟨(IT US T (.inl ⟨rfl,rfl⟩) hen _ (by simp only[List.length_append];omega)).1,?_⟩
   exact ba _ _ (ba _ _ (pD (dD T) (by decide)).1 (ba _ _ (bz _) rfl)) (pD (by decide) (NE hen)).1
  ·have ep:lA eA pre c state=fC (KC eA c state 4 5 (BA pre 5).b (BA pre 6).b (BA pre 2).s.toNat):=by
    unfold lA;rw[if_neg (by omega),if_neg (by omega),if_neg (by omega),if_pos h]
   have hen:=(tD S.s2).1
   rw[ep,lL eA c state 4 5 _ _ _ q1];refine⟨(IT US T (.inr ⟨rfl,rfl⟩) hen _ (by simp only[List.length_append];omega)).1,?_⟩
   exact ba _ _ (ba _ _ (pD (dD T) (by decide)).1 (ba _ _ (bz _) rfl)) (pD (by decide) (NE hen)).1
theorem TS {l:List Cmd}{k:Nat}(hk:k<l.length):(nA eA [] 0 l)[k]?=some (lA eA (l.take k) l[k] (oC [] 0 (l.take k))):=by
 have key:∀(l pre:List Cmd) (s k:Nat) (hk:k<l.length),(nA eA pre s l)[k]?=some (lA eA (pre++l.take k) l[k] (oC pre s (l.take k))):=by
  intro l;induction l with
  | nil=>intro pre s k hk;simp at hk
  | cons c l ih=>
   intro pre s k hk;cases k with
   | zero=>simp [nA,oC]
   | succ k=>
    have:=ih (pre++[c]) (lA eA pre c s).st k (by simpa using hk)
    rw[nA,List.getElem?_cons_succ,this,List.append_assoc];rfl
 have:=key l [] 0 k hk;rwa [List.nil_append]at this
theorem z93 {l:List Cmd}(hc:∀ c∈l,NA c=0):EA (sA (nA eA [] 0 l))=true:=by
 unfold EA sA;rw[List.all_flatMap];rw[List.all_eq_true];intro p hp;obtain⟨k,hk⟩:=List.mem_iff_getElem?.1 hp;have hlt:k<l.length:=by
  have:=(List.getElem?_eq_some_iff.1 hk).1;rwa [fO]at this
 rw[TS hlt]at hk;cases hk;exact(zjg hc hlt).2
end Go.Am
end
section
/- The reference: StatesOf,ShiftedBits. -/
open Go
set_option linter.all false
namespace Go.Am
variable {h:aA} {K:jA}
attribute [-go_sem] OA
end Go.Am
end
section
/- The program: a program that is played. -/
open Go
set_option linter.all false
namespace Go.Am
variable {h l2:aA} {K:jA} {r:Run} {n:Nat} {o:Obj} {x:Esc}
attribute [-go_sem] OA splice
attribute [local go_sem] zH zL SI TI UI BL
theorem SZ {l:aA}:(rh h r l)[h.length+6]?=l[0]?:=SI (n:=0)
theorem TZ {l:aA}:(rh h r l).set (h.length+6) o=rh h r (l.set 0 o):=TI (n:=0)
theorem UZ {l:aA}:(rh h r l).take (h.length+6)=rh h r (l.take 0):=UI (n:=0)
attribute [local go_sem] SZ TZ UZ
structure RunI (r:Run) (k:Nat):Prop where
 R:RunOk r
 N:gJ r
 st:r.st∈stb
 S:SetR r.se
 sl:r.sts.length=k
 fl:r.frs.length=k
theorem zjR (w:Bool):RunI (gC w) 0:=⟨⟨Nat.le_refl _,Nat.le_refl _,Nat.le_refl _⟩,⟨Nat.le_refl _,Nat.le_refl _⟩,by show 0∈stb;decide,⟨rfl,rfl,Nat.zero_le _,Nat.zero_le _,Nat.zero_le _,Nat.zero_le _⟩,rfl,rfl⟩
theorem zkH {s:Sett}{c:Cmd}(S:SetR s)(hc:NA c=0)(h1:1≤c.k∧c.k≤6):SetR (s.put c):=by
 have hb:c.k≤2→tC c.s=true:=fun h=>by
  cases YE hc with
  | set h hs e=>exact hs
  | pad h0 h1 hb hl e=>omega
  | go h hs e=>omega
  | idle h h0 h1 e=>omega
  | scan h hs e=>omega
 have hp:3≤c.k→c.b.length≤2000:=fun h=>by
  cases YE hc with
  | set h hs e=>omega
  | pad h0 h1 hb hl e=>exact hl
  | go h hs e=>omega
  | idle h h0 h1 e=>omega
  | scan h hs e=>omega
 obtain⟨s1,s2,a1,a2,a3,a4⟩:=S;unfold Sett.put;split
 ·exact⟨hb (by omega),s2,a1,a2,a3,a4⟩
 split
 ·exact⟨s1,hb (by omega),a1,a2,a3,a4⟩
 split
 ·exact⟨s1,s2,hp (by omega),a2,a3,a4⟩
 split
 ·exact⟨s1,s2,a1,hp (by omega),a3,a4⟩
 split
 ·exact⟨s1,s2,a1,a2,hp (by omega),a4⟩
 ·exact⟨s1,s2,a1,a2,a3,hp (by omega)⟩
theorem zjS {k:Nat}(I:RunI r k){c:Cmd}(hc:NA c=0):RunI (r.step eA c) (k+1)∧(r.step eA c).ck≤r.ck+20016:=by
 obtain⟨R,N,st,S,sl,fl⟩:=I;have setf:1≤c.k∧c.k≤6→RunI (r.step eA c) (k+1)∧(r.step eA c).ck≤r.ck+20016:=fun h1=>by
  rw[eJ eA h1];exact⟨⟨⟨R.t,R.i,R.w⟩,N,st,zkH S hc h1,by simp [sl],by simp [fl]⟩,by dsimp only;omega⟩
 cases YE hc with
 | set h hs e=>exact setf (by omega)
 | pad h0 h1 hb hl e=>exact setf ⟨by omega,h1⟩
 | go hk hs e=>
  rw[DO eA hk];obtain⟨g1,g2,g3,g4,g5,g6,_,_⟩:=MB eA r c.s.toNat;obtain⟨n1,n2⟩:=tD hs;have R1:=WI (tov:=c.s.toNat) R
  have N1:=DL (tov:=c.s.toNat) N
  have pl:=(pD (dD st) (NE n1)).2.1
  refine⟨⟨⟨R1.t,R1.i,R1.w⟩,N1,?_,?_,?_,?_⟩,?_⟩
  ·show(r.go eA c.s.toNat).st∈stb;rw[g2];exact n1
  ·show SetR (r.go eA c.s.toNat).se;rw[g1];exact S
  ·simp [g3,sl]
  ·simp [g4,fl]
  ·show(r.go eA c.s.toNat).ck≤_;rw[CI];omega
 | idle hk h0 h1 e=>
  rw[ML eA hk];obtain⟨g1,g2,g3,g4,g5,g6,g7,g8⟩:=MB eA r 1;obtain⟨q1,q2,q3,q4,q5,q6,q7,q8⟩:=IC (r.go eA 1) (List.replicate c.cl.toNat (48,48,120));have R1:=VI (L:=List.replicate c.cl.toNat (48,48,120)) (WI (tov:=1) R)
  have N1:=DL (tov:=1) N
  have pl:=(pD (dD st) (show 1∈toS by decide)).2.1
  refine⟨⟨⟨R1.t,R1.i,R1.w⟩,?_,?_,?_,?_,?_⟩,?_⟩
  ·obtain⟨x,y⟩:=N1
   exact⟨by show Run.ni (Run.clk _ _)≤Run.ck (Run.clk _ _);rw[q7,q6];omega,by show Run.nd (Run.clk _ _)≤Run.ck (Run.clk _ _);rw[q8,q6];omega⟩
  ·show Run.st (Run.clk _ _)∈stb;rw[q2,g2];decide
  ·show SetR (Run.se (Run.clk _ _));rw[q1,g1];exact S
  ·simp [q3,g3,sl]
  ·simp [q4,g4,fl]
  ·show Run.ck (Run.clk _ _)≤_;rw[q6,CI,List.length_replicate];omega
 | scan hk hs e=>
  rw[NL eA hk];obtain⟨g3,g4,g1⟩:=z6z (r:=r) c;obtain⟨q1,q2,q3,q4,q5,q6⟩:=DH hs;have key:∀(sh ex:Nat) (en:Int) (hd tl:List UInt8) (r2:Run),sh∈toS→ex∈frS→tC en=true→hd.length≤2000→tl.length≤2000→RunOk r2→r2.ck=(r.go eA sh).ck→r2.ni≤r2.ck+(hd++c.b++tl).length→r2.nd≤r2.ck+(hd++c.b++tl).length →
   r.scn eA c=Run.go eA { Run.clk r2 (SA c hd (hd++c.b++tl)) with st:=ex } en.toNat→RunI { r.scn eA c with sts:=(r.scn eA c).sts++[(r.scn eA c).st],frs:=(r.scn eA c).frs++[r.scnF eA c] } (k+1)∧(r.scn eA c).ck≤r.ck+20016:=by
   intro sh ex en hd tl r2 m1 m2 m3 m4 m5 R2 m6 m7 m8 e;obtain⟨n1,n2⟩:=tD m3;have R3:=VI (L:=SA c hd (hd++c.b++tl)) R2
   have R4:=WI (r:={ Run.clk r2 (SA c hd (hd++c.b++tl)) with st:=ex }) (tov:=en.toNat) ⟨R3.t,R3.i,R3.w⟩
   have N4:=DL (r:={ Run.clk r2 (SA c hd (hd++c.b++tl)) with st:=ex }) (tov:=en.toNat) (by
    obtain⟨_,_,_,_,_,z1,z2,z3⟩:=IC r2 (SA c hd (hd++c.b++tl));have z4:=vO c hd (hd++c.b++tl)
    exact⟨by show Run.ni (Run.clk _ _)≤Run.ck (Run.clk _ _);omega,by show Run.nd (Run.clk _ _)≤Run.ck (Run.clk _ _);omega⟩)
   have st4:=(MB eA { Run.clk r2 (SA c hd (hd++c.b++tl)) with st:=ex } en.toNat).2.1
   have ck4:=CI (r:={ Run.clk r2 (SA c hd (hd++c.b++tl)) with st:=ex }) (tov:=en.toNat)
   have ck3:=dM (r:=r2) (L:=SA c hd (hd++c.b++tl))
   have ck2:=CI (r:=r) (tov:=sh)
   have p1:=(pD (dD st) m1).2.1
   have p2:=(pD m2 (NE n1)).2.1
   have z4:=vO c hd (hd++c.b++tl)
   simp only[List.length_append]at z4;rw[←e]at R4 N4 st4 ck4;refine⟨⟨⟨R4.t,R4.i,R4.w⟩,N4,by show(r.scn eA c).st∈stb;rw[st4];exact n1,by show SetR (r.scn eA c).se;rw[g1];exact S,by simp [g3,sl],by simp [g4,fl]⟩,?_⟩
   dsimp only at ck4;omega
  have N1:=fun sh=>DL (tov:=sh) N
  have R1:=fun sh=>WI (tov:=sh) R
  rcases hk with h7|h8
  ·refine key 11 12 r.se.e1.s r.se.h1.b r.se.t1.b { r.go eA 11 with ni:=(r.go eA 11).ni+(r.se.h1.b++c.b++r.se.t1.b).length } (by decide) (by decide) S.s1 S.h1 S.t1 ⟨(R1 11).t,(R1 11).i,(R1 11).w⟩ rfl ?_ ?_ (z0h h7).1
   ·have:=(N1 11).1;dsimp only;omega
   ·have:=(N1 11).2;dsimp only;omega
  ·refine key 4 5 r.se.e2.s r.se.h2.b r.se.t2.b { r.go eA 4 with nd:=(r.go eA 4).nd+(r.se.h2.b++c.b++r.se.t2.b).length } (by decide) (by decide) S.s2 S.h2 S.t2 ⟨(R1 4).t,(R1 4).i,(R1 4).w⟩ rfl ?_ ?_ (z0g h8).1
   ·have:=(N1 4).1;dsimp only;omega
   ·have:=(N1 4).2;dsimp only;omega
theorem z6p:bA X kK [] h K=K (.p (.agg [eI 1,eI 1,eI 0,.str [],.str [],.str [],eI 2,eI 1,eI 0,.str [],.str [],.str [],eI 3,eI 0,eI 0,.str [],.str [],.str [],eI 4,eI 0,eI 0,.str [],.str [],.str [],eI 5,eI 0,eI 0,.str [],.str [],.str [],eI 6,eI 0,eI 0,.str [],.str [],.str []])) h []:=by
 refine zA ?_;rw[zaL rfl];simp only[zQ,go_sem,splice]
set_option maxHeartbeats 4000000 in
theorem z6l (l:List Cmd)(hc:∀ c∈l,NA c=0)(hl:l.length≤1000)(p:AV)(w:Bool)(hp:(p = .nilp∧w=false)∨(∃ i,p = .ref i 0)∧w=true) :
 bA X QF [ACs l,p] h K=K (.ref (h.length+5) 0) (rh h ((gC w).play eA l) []) []:=by
 refine zA ?_;have main:∀Kx:Ex→St→Prop,(∀r,(gC w).play eA l=r→Kx .ret ⟨[(4,.ref (h.length+5) 0)],rh h r [],[]⟩)→ZA (bA X) X.gl (.scope NI) (ED 0 (HG (bA X) X.gl cO Kx)) [(5,.ref (h.length+5) 0),(13,ACs l),(14,AI l.length),(15,AI 0)] (rh h (gC w) []) []:=by
  intro Kx hK;refine yB (fun t:Nat×Run=>⟨[(5,.ref (h.length+5) 0),(13,ACs l),(14,AI l.length),(15,AI t.1)],rh h t.2 [],[]⟩) (fun t=>t.1≤l.length∧RunI t.2 t.1∧t.2.ck≤50000∧(gC w).play eA l=t.2.play eA (l.drop t.1)) (fun t=>l.length-t.1) (0,gC w) rfl ⟨Nat.zero_le _,zjR w,Nat.zero_le _,rfl⟩ ?_
  rintro⟨k,r⟩ ⟨hk,I,hck,hpl⟩
  dsimp only at hk I hck hpl ⊢;rcases Nat.lt_or_ge k l.length with hlt|hge
  ·have hg:=XB NB hlt
   have w2:IntKind.i64.wrap ((k:Int)+1)=((k+1:Nat):Int):=LA _ (by omega) (by omega)
   have hdr:l.drop k=l[k]::l.drop (k+1):=(List.getElem_cons_drop hlt).symm
   rw[hdr]at hpl;have hpc:∀(c:Cmd) (L:List Cmd),r.play eA (c::L)=if 20000<r.ck then r else(r.step eA c).play eA L:=fun c L=>rfl
   rw[hpc]at hpl;have h0:=hc _ (List.getElem_mem hlt)
   by_cases hb:20000<r.ck
   ·have hb':(20000:Int)<(r.ck:Int):=by omega
    rw[if_pos hb]at hpl;simp only[go_sem,hlt,hg,RI,xH,hb',splice];exact hK r hpl
   ·have hb':¬(20000:Int)<(r.ck:Int):=by omega
    rw[if_neg hb]at hpl;have hs:=fun(l2:aA) (K':jA)=>zkx (h:=h) (l:=l2) (K:=K') I.R I.N (by omega) I.st I.S (by rw[I.sl];omega) (by rw[I.fl];omega) l[k] h0
    obtain⟨I2,c2⟩:=zjS I h0;simp only[go_sem,hlt,hg,RI,xH,hb',hs,w2,splice];exact⟨(k+1,r.step eA l[k]),rfl,⟨by dsimp only;omega,I2,by dsimp only;omega,hpl⟩,by dsimp only;omega⟩
  ·obtain rfl:k=l.length:=by omega
   rw[List.drop_length]at hpl;simp only[go_sem,Nat.lt_irrefl];exact hK r hpl
 rcases hp with⟨rfl,rfl⟩|⟨⟨i,rfl⟩,rfl⟩
 ·rw[z1z rfl]
  simp only[BM,go_sem,z6p,splice];refine main _ fun r e=>?_
  rw[e];have q1:h.length+5+1=h.length+6:=rfl
  have q2:max h.length (h.length+6)=h.length+6:=by omega
  simp only[go_sem,q1,q2,List.take_nil]
 ·rw[z1z rfl]
  simp only[BM,go_sem,z6p,splice];refine main _ fun r e=>?_
  rw[e];have q1:h.length+5+1=h.length+6:=rfl
  have q2:max h.length (h.length+6)=h.length+6:=by omega
  simp only[go_sem,q1,q2,List.take_nil]
end Go.Am
end
section
/- The program: what is wrong with a program;clocks,signals,states,bits. -/
open Go
set_option linter.all false
namespace Go.Am
variable {h:aA} {K:jA} {r:Run} {n:Nat} {o:Obj} {x:Esc}
attribute [-go_sem] OA splice
attribute [local go_sem] zH zL SI TI UI BL SZ TZ UZ RI pL xH qL rL sL tL uL vL wL
theorem zjn {l:List Cmd}(hc:∀ c∈l,NA c=0)(w:Bool):20000<((gC w).play eA l).ck↔20000<(sA (nA eA [] 0 l)).length:=by
 have e:=eM hc
 constructor
 ·intro h
  rcases Nat.lt_or_ge 20000 (sA (nA eA [] 0 l)).length with h1|h1
  ·exact h1
  ·have:=(z5k US e w h1).1;omega
 ·intro h
  have:=(IZ eA l (rel0 w) e).2;simp only[List.nil_append]at this;exact this h
theorem zkn (l:List Cmd)(hc:∀ c∈l,NA c=0)(hl:l.length≤1000):bA X QF [ACs l,.nilp] h K=K (.ref (h.length+5) 0) (rh h ((gC false).play eA l) []) []:=z6l l hc hl .nilp false (.inl ⟨rfl,rfl⟩)
theorem zko (l:List Cmd)(hc:∀ c∈l,NA c=0)(hl:l.length≤1000)(i:Nat):bA X QF [ACs l,.ref i 0] h K=K (.ref (h.length+5) 0) (rh h ((gC true).play eA l) []) []:=z6l l hc hl _ true (.inr ⟨⟨i,rfl⟩,rfl⟩)
set_option maxHeartbeats 4000000 in
theorem z5S (l:List Cmd)(hok:∀ c∈l,CmdOk c)(hl:l.length≤1000000):bA X sG [ACs l] h K=K (AI (ZB eA l:Nat)) h []:=by
 refine zA ?_;rw[za4 rfl];by_cases hbig:1000<l.length
 ·have h1:(1000:Int)<(l.length:Int):=by omega
  have e:ZB eA l=2:=by unfold ZB;rw[if_pos hbig]
  rw[e];simp only[vM,go_sem,h1]
 have h1:¬(1000:Int)<(l.length:Int):=by omega
 simp only[vM,go_sem,h1];refine yB (fun k:Nat=>⟨[(0,ACs l),(10,ACs l),(11,AI l.length),(12,AI k)],h,[]⟩) (fun k=>k≤l.length∧∀c∈l.take k,NA c=0) (fun k=>l.length-k) 0 rfl ⟨Nat.zero_le _,by simp⟩ ?_
 rintro k ⟨hk,hn⟩
 rcases Nat.lt_or_ge k l.length with hlt|hge
 ·have hg:=XB NB hlt
  have w2:IntKind.i64.wrap ((k:Int)+1)=((k+1:Nat):Int):=LA _ (by omega) (by omega)
  have hf:=fun(h':aA) (K':jA)=>zkl (h:=h') (K:=K') l[k] (hok _ (List.getElem_mem hlt))
  have hsn:NA l[k]=0→∀c∈l.take (k+1),NA c=0:=fun h0 c hc=>by
   rw[List.take_succ_eq_append_getElem hlt]at hc;rcases List.mem_append.1 hc with hc|hc
   ·exact hn c hc
   ·obtain rfl:c=l[k]:=by simpa using hc
    exact h0
  have hpf:NA l[k]≠0→ZB eA l=NA l[k]:=fun h0=>by
   unfold ZB;rw[if_neg (by omega),z1I hlt hn h0,if_pos h0]
  have hbr:=zbg (c:=l[k])
  have hkd:=zbh (c:=l[k])
  generalize l[k]=c at *;generalize hke:qK c=ke at *;generalize hbc:ZL c=bc at *;obtain⟨k0,s0,cl0,b0,w0,m0⟩:=c;obtain⟨k1,s1,cl1,b1,w1,m1⟩:=bc;dsimp only at hbr hkd hf hg;by_cases i1:k0<1
  ·have e:=hkd (by omega)
   rw[hpf (by omega),e]
   simp only[go_sem,hlt,hg,w2,hf,sC,i1,splice]
  by_cases i2:10<k0
  ·have e:=hkd (by omega)
   rw[hpf (by omega),e]
   simp only[go_sem,hlt,hg,w2,hf,sC,i1,i2,splice]
  have e:=hbr (by omega)
  by_cases i3:ke=0
  ·subst i3
   rw[if_neg (by simp)]at e
   by_cases i4:(⟨k1,s1,cl1,b1,w1,m1⟩:Cmd)=⟨k0,0,0,[],[],[]⟩
   ·rw[if_pos i4]at e
    simp only[go_sem,hlt,hg,w2,hf,sC,i1,i2,splice,eqa6,i4];exact⟨k+1,rfl,⟨by omega,hsn e⟩,by omega⟩
   ·rw[if_neg i4]at e
    rw[hpf (by omega),e]
    simp only[go_sem,hlt,hg,w2,hf,sC,i1,i2,splice,eqa6,i4]
  ·have i3':¬((ke:Nat):Int)=0:=by omega
   rw[if_pos i3]at e;rw[hpf (by omega),e]
   simp only[go_sem,hlt,hg,w2,hf,sC,i1,i2,splice,i3']
 ·obtain rfl:k=l.length:=by omega
  rw[List.take_length]at hn;have hs:=fun(h':aA) (K':jA)=>zkn (h:=h') (K:=K') l hn (by omega)
  have e:ZB eA l=if 20000<(sA (nA eA [] 0 l)).length then 2 else 0:=by
   unfold ZB;rw[if_neg (by omega),eM hn,if_neg (by simp)]
  rw[e];have hm:=zjn hn false
  by_cases h2:20000<(sA (nA eA [] 0 l)).length
  ·have h3:=hm.2 h2
   have h2':(20000:Int)<(((gC false).play eA l).ck:Int):=by omega
   simp only[go_sem,Nat.lt_irrefl,Int.lt_irrefl,hs,h2,h2',splice]
  ·have h3:=fun q=>h2 (hm.1 q)
   have h2':¬(20000:Int)<(((gC false).play eA l).ck:Int):=by omega
   simp only[go_sem,Nat.lt_irrefl,Int.lt_irrefl,hs,h2,h2',splice]
theorem zjp {l:List Cmd}(h:ZB eA l=0):(∀c∈l,NA c=0)∧(sA (nA eA [] 0 l)).length≤20000∧l.length≤1000:=by
 unfold ZB at h;split at h
 ·cases h
 split at h
 ·rename_i h1;exact absurd h h1
 split at h
 ·cases h
 ·rename_i h0 h1 h2
  exact⟨z1G (by omega),by omega,by omega⟩
theorem z57 {l:aA}:(rh h r l)[h.length+1]?=some (.row none (r.frs.map eN) 0):=by unfold rh;rw[DD];rfl
theorem z58 {l:aA}:(rh h r l)[h.length+2]?=some (.row none (IA r.tms) 0):=by unfold rh;rw[DD];rfl
theorem z59 {l:aA}:(rh h r l)[h.length+3]?=some (.row none (IA r.tdi) 0):=by unfold rh;rw[DD];rfl
attribute [local go_sem] z57 z58 z59
def hbx (h:aA):aA:=h++[.box [AB true]]
theorem zku (l:List Cmd)(hc:∀ c∈l,NA c=0)(hl:l.length≤1000):bA X CN [ACs l] h K=K (.ref ((hbx h).length+5) 0) (rh (hbx h) ((gC true).play eA l) []) []:=by
 refine zA ?_;rw[zaJ rfl];have hp:=fun(K':jA)=>zko (h:=h++[.box [AB true]]) (K:=K') l hc (by omega) h.length
 have el:(h++[Obj.box [AB true]]).length=h.length+1:=by simp
 have el2:(hbx h).length=h.length+1:=by simp [hbx]
 have et:(rh (h++[Obj.box [AB true]]) ((gC true).play eA l) []).length=h.length+7:=by rw[zH,el];simp
 simp only[yQ,go_sem,hp,splice];refine⟨by omega,by rw[el2],?_⟩
 exact List.take_of_length_le (by rw[et];omega)
end Go.Am
end
section
/- A chain is run: the program. -/
open Go
set_option linter.all false
set_option maxRecDepth 100000
namespace Go.Am
variable {h:aA} {K:jA}
attribute [-go_sem] OA DB LB
theorem zfK {ds:List TDev}:xB ds ds.length=ds.map IE:=by unfold xB;rw[List.take_length]
theorem zfL {ds:List TDev}:(ds.map IE).map PortS.d=ds:=by rw[List.map_map];exact List.map_id _
theorem zfN {ds:List TDev}:(ds.map IE).map PortS.p=vE ds:=by rw[List.map_map];rfl
theorem zfM {ds:List TDev}(hd:∀ d∈ds,DevOk d):∀q∈ds.map IE,PSOk q:=by
 intro q hq;obtain⟨d,hm,rfl⟩:=List.mem_map.1 hq;have D:=hd d hm
 exact⟨D,⟨by simp [IE],by simp [IE,MC],by simp [IE],by simp [IE]⟩,fun r hr=>z4y d d.regs [] D.nd r hr⟩
theorem z1p {s:List UInt8}(hs:EA s=true){k:Nat}(hk:k<s.length):MC s[k]:=z1o hs (List.getElem_mem hk)
theorem zjT (ds:List TDev)(st:Nat)(ps:List PA)(a b:UInt8)(r:List (UInt8 × UInt8)):uB ds st ps ((a,b)::r)=aG st (SD st ds ps b).2::uB ds (stW st a) (SD st ds ps b).1 r:=rfl
set_option maxHeartbeats 4000000 in
theorem zke (ds:List TDev)(hd:∀ d∈ds,DevOk d)(h0:ds≠[])(h20:ds.length≤20)(hck:∀ h K,bA X jH [pC ds] h K=K (AI 0) h [])(tms tdi:List UInt8)(hl:tms.length=tdi.length)(hn:tms.length≤20000)(hb1:EA tms=true)(hb2:EA tdi=true) :
 bA X qN [pC ds,AS tms,AS tdi] h K=K (.tup [AS (uB ds 0 (vE ds) (tms.zip tdi)),AI 0]) h []:=by
 refine zA ?_;rw[zar rfl];have nw:=fun h K=>s_New (h:=h) (K:=K) ds hd h0 h20 hck
 have B1:=fun h K=>YI (h:=h) (K:=K) tms (by omega)
 have B2:=fun h K=>YI (h:=h) (K:=K) tdi (by omega)
 rw[hb1]at B1;rw[hb2]at B2;have t1:¬(20000:Int)<(tms.length:Int):=by omega
 have t2:¬(20000:Int)<(tdi.length:Int):=by omega
 have t3:(tms.length:Int)=(tdi.length:Int):=by omega
 have l0:(CH h 0 (xB ds ds.length) []).length=h.length+(2+4*ds.length):=by rw[LH,z4Q (Nat.le_refl _)];rfl
 have ap:∀(st:Int) (l:List PortS) (t u:aA),CH h st l t++u=CH h st l (t++u):=fun _ _ _ _=>YT
 simp only[dQ,go_sem,↓nw,nw,t1,t2,eq_true t3,↓B1,B1,↓B2,B2,l0,ap,List.nil_append];have zl:(tms.zip tdi).length=tms.length:=by rw[List.length_zip];omega
 have Rl:(uB ds 0 (vE ds) (tms.zip tdi)).length=tms.length:=by rw[VZ,zl]
 generalize hR:uB ds 0 (vE ds) (tms.zip tdi)=R at *;refine yB (fun t:Nat×Nat×List PortS=>⟨[(1,AS tms),(2,AS tdi),(8,.ref (h.length+1) 0),(10,.own (h.length+(2+4*ds.length)) t.1 0 t.1),(46,AI tms.length),(47,AI t.1)],CH h t.2.1 t.2.2 [.row none (IA (R.take t.1)) 0],qG h ds.length⟩)
  (fun t=>(t.1≤tms.length∧t.2.1<16)∧(t.2.2.map PortS.d=ds∧∀q∈t.2.2,PSOk q)∧uB ds t.2.1 (t.2.2.map PortS.p) ((tms.zip tdi).drop t.1)=R.drop t.1) (fun t=>tms.length-t.1) (0,0,ds.map IE) (by rw[zfK];rfl) ⟨⟨by dsimp only;omega,by dsimp only;omega⟩,⟨zfL,zfM hd⟩,by dsimp only;rw[zfN,List.drop_zero,hR];rfl⟩ ?_
 rintro⟨k,st,l⟩ ⟨⟨i1,i2⟩,⟨i3,i4⟩,i5⟩
 dsimp only at i1 i2 i3 i4 i5 ⊢;have ll:l.length=ds.length:=by rw[←i3,List.length_map]
 generalize hP:h.length+(2+4*ds.length)=P at *;have gl:∀(st:Int) (l:List PortS),l.length=ds.length→∀t:aA,(CH h st l t).length=P+t.length:=fun st l e t=>by rw[LH,e,hP]
 have gg:∀(st:Int) (l:List PortS),l.length=ds.length→∀(t:aA),(CH h st l t)[P]?=t[0]?:=fun st l e t=>by
  have:=@CH_t h st l t 0;rw[e,hP]at this;exact this
 have gs:∀(st:Int) (l:List PortS),l.length=ds.length→∀(t:aA) (o:Obj),(CH h st l t).set P o=CH h st l (t.set 0 o):=fun st l e t o=>by
  have:=@ZT h st l t 0 o;rw[e,hP]at this;exact this
 have gk:∀(st:Int) (l:List PortS),l.length=ds.length→∀(t:aA) (n:Nat),(CH h st l t).take (P+n)=CH h st l (t.take n):=fun st l e t n=>by
  have:=@z07 h st l t n;rw[e,hP]at this;exact this
 have lr:(IA (R.take k)).length=k:=by rw[nJ,List.length_take];omega
 rw[CF];rcases Nat.lt_or_ge k tms.length with hlt|hge
 ·have hlt':(k:Int)<(tms.length:Int):=by omega
  have hk2:k<tdi.length:=by omega
  have w2:IntKind.i64.wrap ((k:Int)+1)=((k+1:Nat):Int):=LA _ (by omega) (by omega)
  have ea:(tms.zip tdi).drop k=(tms[k],tdi[k])::(tms.zip tdi).drop (k+1):=by
   rw[List.drop_eq_getElem_cons (by rw[zl];exact hlt),List.getElem_zip]
  have ba:=z1p hb1 hlt
  have bb:=z1p hb2 hk2
  have ga:tms[k]?=some tms[k]:=List.getElem?_eq_getElem hlt
  have gb:tdi[k]?=some tdi[k]:=List.getElem?_eq_getElem hk2
  rw[ea]at i5;generalize tms[k]=ca at *;generalize tdi[k]=cb at *;rw[zjT]at i5;have wS:∀c:UInt8,MC c→IntKind.u8.wrap ((c.toNat:Int)-48)=((c.toNat-48:Nat):Int):=fun c hc=>by rcases hc with rfl|rfl <;> rfl
  have wT:∀c:UInt8,MC c→IntKind.i64.wrap ((c.toNat-48:Nat):Int)=((c.toNat-48:Nat):Int):=fun c hc=>by rcases hc with rfl|rfl <;> rfl
  have x1:=wS ca ba
  have x2:=wT ca ba
  have x3:=wS cb bb
  have x4:=wT cb bb
  have ck:=fun K=>zky (h:=h) (K:=K) [.row none (IA (R.take k)) 0] l i4 (by omega) st i2 ca cb ba bb
  obtain⟨n1,n2,n3⟩:=z0U st l cb;obtain⟨o1,o2⟩:=z0W st l cb i4 bb;have ol:=z0V st l cb
  rw[i3]at n1 n2 n3;rw[←n1,←n2]at i5;generalize (uC st l cb).1=l' at *;generalize (uC st l cb).2=b' at *;have l'l:l'.length=ds.length:=by rw[ol,ll]
  have gl':=gl (stW st ca) l' l'l
  have gg':=gg (stW st ca) l' l'l
  have gs':=gs (stW st ca) l' l'l
  have gk':=gk (stW st ca) l' l'l
  have gl0:=gl st l ll
  have hst':stW st ca<16:=zkW i2 ba
  have f1:h.length+1+1≤P+1:=by omega
  have f2:h.length+1≤P:=by omega
  have ms:k+1≤RA:=by unfold RA;omega
  have eR:R.drop k=aG st b'::R.drop (k+1):=by
   have:R.drop (k+1)=(R.drop k).drop 1:=by rw[List.drop_drop]
   rw[this,←i5];rfl
  have i6:uB ds (stW st ca) (l'.map PortS.p) ((tms.zip tdi).drop (k+1))=R.drop (k+1):=by
   rw[eR]at i5;injection i5
  have eT:R.take (k+1)=R.take k++[aG st b']:=by
   have hk:k<R.length:=by omega
   rw[List.take_succ_eq_append_getElem hk];congr 2
   rw[List.drop_eq_getElem_cons hk]at eR;injection eR
  have eB:IA (R.take (k+1))=IA (R.take k)++[.int .u8 (aG st b').toNat]:=by rw[eT];simp [IA]
  unfold clkO at ck;unfold aG at eB;by_cases hs:st=4∨st=11
  ·rw[if_pos hs]at ck eB
   have y1:¬(b'.toNat:Int)-48<0:=by rcases o2 with e|e <;> rw[e] <;> decide
   have y2:IntKind.i64.wrap (48+((b'.toNat:Int)-48))=(b'.toNat:Int):=by rcases o2 with e|e <;> rw[e] <;> rfl
   have y3:IntKind.u8.wrap (b'.toNat:Int)=(b'.toNat:Int):=by rcases o2 with e|e <;> rw[e] <;> rfl
   simp only[LQ,DJ,go_sem,hlt',ga,gb,x1,x2,x3,x4,↓ck,ck,y1,y2,y3,gg',gs',gk',gl0,lr,ms,f1,f2,w2,List.length_cons,List.length_nil];refine⟨(k+1,stW st ca,l'),?_,⟨⟨by dsimp only;omega,hst'⟩,⟨n3,o1⟩,i6⟩,by dsimp only;omega⟩
   rw[eB]
  ·rw[if_neg hs]at ck eB
   have y1:(-1:Int)<0:=by decide
   simp only[LQ,DJ,go_sem,hlt',ga,gb,x1,x2,x3,x4,↓ck,ck,y1,gg',gs',gk',gl0,lr,ms,f1,f2,w2,List.length_cons,List.length_nil];refine⟨(k+1,stW st ca,l'),?_,⟨⟨by dsimp only;omega,hst'⟩,⟨n3,o1⟩,i6⟩,by dsimp only;omega⟩
   rw[eB];rfl
 ·have ek:k=tms.length:=by omega
  subst ek;have eR:R.take tms.length=R:=List.take_of_length_le (by omega)
  rw[eR]at lr ⊢;have tb:OE (IA R)=some R:=NT _
  have wf:win (IA R) 0 tms.length=IA R:=QE lr
  have gl0:=gl st l ll
  have gg0:=gg st l ll
  have gk0:=gk st l ll
  have f1:h.length+1+1≤P+1:=by omega
  simp only[LQ,DJ,go_sem,Nat.lt_irrefl,gl0,gg0,gk0,f1,List.length_cons,List.length_nil,lr,wf,tb];rw[zjK (v:=.tup [AS R,AI 0]) (fun y hy=>by have:=(iX hy).1;omega) (by simp only[go_sem]) (by simp [AV.top,AV.tops])]
  have th:(CH h st l [.row none (IA R) 0]).take h.length=h:=by unfold CH;rw[YL]
  rw[th];exact⟨rfl,rfl,rfl⟩
end Go.Am
end
section
/- A text split at a byte. -/
set_option linter.all false
namespace Go.Am
end Go.Am
end
section
/- Where a byte stands in a text. -/
open Go
set_option linter.all false
namespace Go.Am
variable {h:aA} {K:jA}
theorem zkv (s:List UInt8)(c:UInt8):bA X eH [AS s,.p (.int .u8 c.toNat)] h K=K (AI (PC s c)) h []:=by
 refine zA ?_;rw[z1y rfl];simp only[iM,go_sem,z6i]
end Go.Am
end
section
/- The abstract machine,part L4: strings.Repeat,strings.Trim,math/bits.TrailingZeros64 asv rows. -/
set_option linter.all false
namespace Go.Am
variable {P:Program} {gl:Nat→Option PV}
open Go.Shelf
theorem z1m {w w':World}(h:Go.RowKit.Below w.heap.size w w'):WExt w w':=⟨h.size,fun b hb=>h.block b hb,by unfold zed;rw[h.os,h.tape,h.output]⟩
theorem z4B (s:List UInt8):∀c,Go.Lib.repeatL s c=yH s c
 | 0=>rfl
 | c+1=>by rw[Go.Lib.repeatL,yH,z4B s c]
theorem znj {ρ:Ren}(L:Go.Proofs.Lays.n105 P ρ)(E:Go.Proofs.Builder.Extra P ρ)(he:∀ us w,(callFunc (ρ.f 105) us).run P w = .ok (.enter (ρ.f 105) us) w):PureRow P gl (ρ.f 105) yL where
 enter:=he
 run M w vs r us hc hb hG hl hr hs:=by
  unfold yL at hs;split at hs
  ·rename_i s c
   split at hs
   ·rename_i hbd
    match us,hl with
    | [u,v],_=>
     have q:=hr 0 _ u rfl rfl
     cases q;have q2:=hr 1 _ v rfl rfl
     cases q2;simp only[Option.some.injEq]at hs
     subst hs;obtain⟨n,rfl⟩:=Int.eq_ofNat_of_zero_le hbd.1;have hsz:(⟨s.toArray⟩:ByteArray).size=s.length:=by simp [ByteArray.size]
     simp only[Int.toNat_natCast]at hbd ⊢;refine(Go.Proofs.Any.strings_Repeat L E ⟨s.toArray⟩ n w (by omega) (by rw[hsz];omega)).mono fun e w' h=>?_
     obtain⟨rfl,h⟩:=h;exact⟨_,rfl,z1m h,by rw[z4B];exact .p _ _ (.str _)⟩
   ·cases hs
  ·cases hs
theorem zf0 (s cs:List UInt8):Go.Lib.trimS s cs=PE s cs:=rfl
theorem trimRow {ρ:Ren}(L:Go.Proofs.Lays.n160 P ρ)(h116:(P.info? (ρ.t 116)).map (fun i=>(i.zero,i.size))=some (some (.agg (Array.replicate 256 (.bool false))),256))(he:∀ us w,(callFunc (ρ.f 160) us).run P w = .ok (.enter (ρ.f 160) us) w):PureRow P gl (ρ.f 160) trimS where
 enter:=he
 run M w vs r us hc hb hG hl hr hs:=by
  unfold trimS at hs;split at hs
  ·rename_i s cs
   split at hs
   ·rename_i hbd
    match us,hl with
    | [u,v],_=>
     have q:=hr 0 _ u rfl rfl
     cases q;have q2:=hr 1 _ v rfl rfl
     cases q2;simp only[Option.some.injEq]at hs
     subst hs;have hsz:∀l:List UInt8,(⟨l.toArray⟩:ByteArray).size=l.length:=fun l=>by simp [ByteArray.size]
     refine(Go.Proofs.Any.strings_Trim_laid L h116 ⟨s.toArray⟩ ⟨cs.toArray⟩ w (by rw[hsz];omega) (by rw[hsz];omega) (Go.Proofs.ascii_of_all hbd.2.2)).mono fun e w' h=>?_
     obtain⟨rfl,h⟩:=h;exact⟨_,rfl,z1m h,by rw[←zf0];exact .p _ _ (.str _)⟩
   ·cases hs
  ·cases hs
end Go.Am
end
section
/- The abstract machine,part L5: strings.Count at one byte,strings.Join asv rows. -/
set_option linter.all false
namespace Go.Am
variable {P:Program} {gl:Nat→Option PV}
open Go.Shelf
end Go.Am
end
section
/- Texts split at a byte. -/
open Go
set_option linter.all false
namespace Go.Am
variable {h:aA} {K:jA}
theorem zkw (s:List UInt8)(c:UInt8)(hs:s.length≤1000000):bA X TM [AS s,AS [c]] h K=K (AI (PC s c)) h []:=by
 refine zA ?_;rw[z9F rfl];have q:=fun h K=>zkv (h:=h) (K:=K) s c
 simp only[yP,go_sem,↓q,q,List.length_cons,List.length_nil];split
 ·rename_i h1;subst h1;simp [PC]
 ·trivial
end Go.Am
end
section
/- What is wrong with devices: the program. -/
open Go
set_option linter.all false
set_option maxRecDepth 100000
namespace Go.Am
variable {h:aA} {K:jA}
attribute [-go_sem] OA
theorem z6q (s:List UInt8)(hs:s.length≤1000000):bA X ZJ [AS s,AS [48]] h K=K (AB (s.contains 48)) h []:=by
 refine zA ?_;rw[zaj rfl];have IX:∀(hh:aA) (K:jA),bA X kN [AS s,AS [48]] hh K=K (AI (PC s 48)) hh []:=fun hh K=>by
  refine zA ?_;rw[zak rfl];have q:=fun h K=>zkw (h:=h) (K:=K) s 48 hs
  simp only[XP,go_sem,↓q,q]
 have e:=z4v s 48
 have e2:decide (0≤PC s 48)=s.contains 48:=by
  cases hc:s.contains 48 with
  | true=>
   rw[hc]at e;have:¬PC s 48<0:=by simpa using e
   exact decide_eq_true (by omega)
  | false=>
   rw[hc]at e;have:PC s 48<0:=by simpa using e
   exact decide_eq_false (by omega)
 simp only[WP,go_sem,↓IX,IX,e2]
theorem qV {n:List UInt8}{l:List TReg}:(l.map uA).any (dC n)=l.any fun x=>decide (x.name=n):=by rw[List.any_map];rfl
theorem z1e {n:List UInt8}{l:List TIns}:(l.map QA).any (dC n)=l.any fun x=>decide (x.code=n):=by rw[List.any_map];rfl
theorem z1d {n:List UInt8}{l:List TDev}:(l.map tA).any (dC n)=l.any fun x=>decide (x.name=n):=by rw[List.any_map];rfl
set_option maxHeartbeats 2000000 in
theorem zkp (d:TDev)(B:DevB d):bA X xN [XA d] h K=K (AI (rD [] d.regs)) h []:=by
 refine zA ?_;rw[za1 rfl];have hl:=B.rs
 obtain⟨T,hT⟩:∃T,T=rD [] d.regs:=⟨_,rfl⟩;rw[←hT];simp only[mQ,go_sem,XA,tA,List.length_map];refine yB (fun k:Nat=>⟨[(1,.ref h.length 0),(6,.p (.sl (some 2) (d.regs.map uA))),(7,AI d.regs.length),(8,AI k)],h++[.box (JB d)],[]⟩) (fun k=>k≤d.regs.length∧rD (d.regs.take k) (d.regs.drop k)=T) (fun k=>d.regs.length-k) 0 rfl ⟨by omega,hT.symm⟩ ?_
 rintro k ⟨hk,hp⟩
 rcases Nat.lt_or_ge k d.regs.length with hlt|hge
 ·have hg:=XB uA hlt
  have w2:IntKind.i64.wrap ((k:Int)+1)=((k+1:Nat):Int):=LA _ (by omega) (by omega)
  have cx:lB (some 2) 0 (uA d.regs[k])=some (uA d.regs[k]):=rfl
  have fp:∀y:TReg,uA y = .agg [.str y.name,eI y.long]:=fun _=>rfl
  have nl:=B.rn _ (List.getElem_mem hlt)
  have tk:=List.take_succ_eq_append_getElem hlt
  have hw:win (d.regs.map uA) 0 k=(d.regs.take k).map uA:=by simp [win,List.map_take]
  have hk2:k≤d.regs.length:=hk
  have lt:(d.regs.take k).length≤1000:=by rw[List.length_take];omega
  have d3:ldB none 3 (some (.box (JB d)))=some (.p (.sl (some 2) (d.regs.map uA))):=rfl
  rw[List.drop_eq_getElem_cons hlt]at hp;unfold rD at hp;rw[←tk]at hp;generalize hrr:d.regs[k]=r at *;generalize d.regs.take k=pre at *;rw[fp]at hg cx;have ky:=fun h K=>z5X (h:=h) (K:=K) r.name (by omega)
  have tl:CD yN [.ref (h.length+1) 0] (dC r.name) (pre.map uA) (h++[.box (JB d),.box [AS r.name,AI r.long]]):=fun x hx K=>by
   obtain⟨y,_,rfl⟩:=List.mem_map.1 hx;refine zA ?_;rw[za2 rfl];simp only[oQ,go_sem,Nat.add_assoc,uA,dC]
  have ct:=fun K=>aU (h:=h++[.box (JB d),.box [AS r.name,AI r.long]]) (K:=K) tl yT (by simp;omega)
  rw[qV]at ct;cases kb:wC r.name with
  | false=>
   have e:OB pre r=5:=by unfold OB;rw[if_pos kb]
   rw[e,if_pos (by decide)]at hp
   rw[←hp];simp only[ZG,JF,go_sem,Nat.add_assoc,hlt,hg,cx,fp,↓ky,ky,kb,splice]
  | true=>
   by_cases n1:r.name=[98,121,112,97,115,115]
   ·have e:OB pre r=6:=by unfold OB mB nB;rw[if_neg (by simp [kb]),if_pos (.inl n1)]
    rw[e,if_pos (by decide)]at hp
    rw[←hp];simp only[ZG,JF,go_sem,Nat.add_assoc,hlt,hg,cx,fp,↓ky,ky,kb,eq_true n1,splice]
   by_cases n2:r.name=[105,100,99,111,100,101]
   ·have e:OB pre r=6:=by unfold OB mB nB;rw[if_neg (by simp [kb]),if_pos (.inr (.inl n2))]
    rw[e,if_pos (by decide)]at hp
    rw[←hp];simp only[ZG,JF,go_sem,Nat.add_assoc,hlt,hg,cx,fp,↓ky,ky,kb,n1,eq_true n2,splice]
   cases ha:(pre.any fun x=>decide (x.name=r.name)) with
   | true=>
    have e:OB pre r=6:=by unfold OB mB nB;rw[if_neg (by simp [kb]),if_pos (.inr (.inr ha))]
    rw[e,if_pos (by decide)]at hp
    rw[←hp];rw[ha]at ct;simp only[ZG,JF,go_sem,Nat.add_assoc,hlt,hg,cx,fp,↓ky,ky,kb,n1,n2,d3,hw,hk2,↓ct,ct,splice]
   | false=>
    have e0:¬(r.name=[98,121,112,97,115,115]∨r.name=[105,100,99,111,100,101]∨(pre.any fun x=>decide (x.name=r.name))=true):=by rw[ha];simp [n1,n2]
    rw[ha]at ct;by_cases o1:r.long<1∨1000<r.long
    ·have e:OB pre r=1:=by unfold OB mB nB;rw[if_neg (by simp [kb]),if_neg e0,if_pos o1]
     rw[e,if_pos (by decide)]at hp
     rw[←hp];have o2:(decide (r.long<1)||decide (1000<r.long))=true:=by simpa using o1
     simp only[ZG,JF,go_sem,Nat.add_assoc,hlt,hg,cx,fp,↓ky,ky,kb,n1,n2,d3,hw,hk2,↓ct,ct,splice,sC,o2]
    ·have e:OB pre r=0:=by unfold OB mB nB;rw[if_neg (by simp [kb]),if_neg e0,if_neg o1]
     rw[e,if_neg (by decide)]at hp
     have o2:(decide (r.long<1)||decide (1000<r.long))=false:=by simpa using o1
     simp only[ZG,JF,go_sem,Nat.add_assoc,hlt,hg,cx,fp,↓ky,ky,kb,n1,n2,d3,hw,hk2,↓ct,ct,splice,sC,o2,w2];exact⟨k+1,rfl,⟨by omega,hp⟩,by omega⟩
 ·have ek:k=d.regs.length:=by omega
  subst ek;rw[List.drop_length]at hp;rw[←hp];simp only[ZG,JF,go_sem,Nat.lt_irrefl,z2q,nQ,rD]
set_option maxHeartbeats 4000000 in
theorem zkk (d:TDev)(B:DevB d):bA X tN [XA d] h K=K (AI (ZC d [] d.ins)) h []:=by
 refine zA ?_;rw[zau rfl];have hl:=B.is
 obtain⟨T,hT⟩:∃T,T=ZC d [] d.ins:=⟨_,rfl⟩;rw[←hT];simp only[fQ,go_sem,XA,tA,List.length_map];refine yB (fun k:Nat=>⟨[(1,.ref h.length 0),(8,.p (.sl (some 2) (d.ins.map QA))),(9,AI d.ins.length),(10,AI k)],h++[.box (JB d)],[]⟩) (fun k=>k≤d.ins.length∧ZC d (d.ins.take k) (d.ins.drop k)=T) (fun k=>d.ins.length-k) 0 rfl ⟨by omega,hT.symm⟩ ?_
 rintro k ⟨hk,hp⟩
 rcases Nat.lt_or_ge k d.ins.length with hlt|hge
 ·have hg:=XB QA hlt
  have w2:IntKind.i64.wrap ((k:Int)+1)=((k+1:Nat):Int):=LA _ (by omega) (by omega)
  have cx:lB (some 2) 0 (QA d.ins[k])=some (QA d.ins[k]):=rfl
  have fp:∀y:TIns,QA y = .agg [.str y.code,.str y.reg]:=fun _=>rfl
  obtain⟨nl1,nl2⟩:=B.ic _ (List.getElem_mem hlt);have tk:=List.take_succ_eq_append_getElem hlt
  have hw:win (d.ins.map QA) 0 k=(d.ins.take k).map QA:=by simp [win,List.map_take]
  have hk2:k≤d.ins.length:=hk
  have lt:(d.ins.take k).length≤1000:=by rw[List.length_take];omega
  have d1:ldB none 1 (some (.box (JB d)))=some (AI d.long):=rfl
  have d4:ldB none 4 (some (.box (JB d)))=some (.p (.sl (some 2) (d.ins.map QA))):=rfl
  have d5:ldB (some 5) 0 (some (.box (JB d)))=some (XA d):=rfl
  rw[List.drop_eq_getElem_cons hlt]at hp;unfold ZC at hp;rw[←tk]at hp;generalize hrr:d.ins[k]=r at *;generalize d.ins.take k=pre at *;rw[fp]at hg cx;have bt:=fun h K=>YI (h:=h) (K:=K) r.code (by omega)
  have sc:=fun h K=>z6q (h:=h) (K:=K) r.code (by omega)
  have rg:=fun h K=>z0e (h:=h) (K:=K) d r.reg (by have:=B.rs;omega)
  have tl:CD uN [.ref (h.length+1) 0] (dC r.code) (pre.map QA) (h++[.box (JB d),.box [AS r.code,AS r.reg]]):=fun x hx K=>by
   obtain⟨y,_,rfl⟩:=List.mem_map.1 hx;refine zA ?_;rw[zav rfl];simp only[iQ,go_sem,Nat.add_assoc,QA,dC]
  have ct:=fun K=>z0A (h:=h++[.box (JB d),.box [AS r.code,AS r.reg]]) (K:=K) tl z41 (by simp;omega)
  rw[z1e]at ct;by_cases n1:(r.code.length:Int)=d.long
  case neg=>
   have e:BB d pre r=3:=by unfold BB;rw[if_pos n1]
   rw[e,if_pos (by decide)]at hp
   rw[←hp];simp only[YG,IF,go_sem,Nat.add_assoc,hlt,hg,cx,fp,splice,d1,n1]
  cases n2:EA r.code with
  | false=>
   have e:BB d pre r=9:=by unfold BB;rw[if_neg (by simp [n1]),if_pos n2]
   rw[e,if_pos (by decide)]at hp
   rw[←hp];rw[n2]at bt;simp only[YG,IF,go_sem,Nat.add_assoc,hlt,hg,cx,fp,splice,d1,eq_true n1,↓bt,bt]
  | true=>
   rw[n2]at bt;cases n3:r.code.contains 48 with
   | false=>
    have e:BB d pre r=16:=by unfold BB;rw[if_neg (by simp [n1]),if_neg (by simp [n2]),if_pos n3]
    rw[e,if_pos (by decide)]at hp
    rw[←hp];rw[n3]at sc;simp only[YG,IF,go_sem,Nat.add_assoc,hlt,hg,cx,fp,splice,d1,eq_true n1,↓bt,bt,↓sc,sc]
   | true=>
    rw[n3]at sc;cases n4:(pre.any fun y=>decide (y.code=r.code)) with
    | true=>
     have e:BB d pre r=6:=by unfold BB;rw[if_neg (by simp [n1]),if_neg (by simp [n2]),if_neg (by rw[n3];simp),if_pos n4]
     rw[e,if_pos (by decide)]at hp
     rw[←hp];rw[n4]at ct;simp only[YG,IF,go_sem,Nat.add_assoc,hlt,hg,cx,fp,splice,d1,eq_true n1,↓bt,bt,↓sc,sc,d4,hw,hk2,↓ct,ct]
    | false=>
     rw[n4]at ct;cases n5:SB d r.reg with
     | none=>
      have e:BB d pre r=8:=by unfold BB;rw[if_neg (by simp [n1]),if_neg (by simp [n2]),if_neg (by rw[n3];simp),if_neg (by rw[n4];simp),if_pos (by rw[n5];rfl)]
      rw[e,if_pos (by decide)]at hp
      rw[←hp];unfold xL at rg;rw[n5]at rg;dsimp only at rg;simp only[YG,IF,go_sem,Nat.add_assoc,hlt,hg,cx,fp,splice,d1,eq_true n1,↓bt,bt,↓sc,sc,d4,d5,hw,hk2,↓ct,ct,↓rg,rg]
     | some g=>
      have e:BB d pre r=0:=by unfold BB;rw[if_neg (by simp [n1]),if_neg (by simp [n2]),if_neg (by rw[n3];simp),if_neg (by rw[n4];simp),if_neg (by rw[n5];simp)]
      rw[e,if_neg (by decide)]at hp
      unfold xL at rg;rw[n5]at rg;dsimp only at rg;have fr:∀y:TReg,uA y = .agg [.str y.name,eI y.long]:=fun _=>rfl
      rw[fr]at rg;simp only[YG,IF,go_sem,Nat.add_assoc,hlt,hg,cx,fp,splice,d1,eq_true n1,↓bt,bt,↓sc,sc,d4,d5,hw,hk2,↓ct,ct,↓rg,rg,w2];exact⟨k+1,rfl,⟨by omega,hp⟩,by omega⟩
 ·have ek:k=d.ins.length:=by omega
  subst ek;rw[List.drop_length]at hp;rw[←hp];simp only[YG,IF,go_sem,Nat.lt_irrefl,z2n,gQ,ZC]
end Go.Am
end
section
/- What is wrong with devices,all: the program. -/
open Go
set_option linter.all false
set_option maxRecDepth 100000
namespace Go.Am
variable {h:aA} {K:jA}
attribute [-go_sem] OA
theorem orL2 (a b:Int):orL [a,b]=if a≠0 then a else b:=by
 unfold orL orL;by_cases h:a=0
 ·by_cases h2:b=0
  ·simp [h,h2,orL]
  ·simp [h,h2]
 ·simp [h]
set_option maxHeartbeats 4000000 in
theorem zkh (pre:List TDev)(hpre:pre.length≤1000)(d:TDev)(B:DevB d):bA X rN [XA d,pC pre] h K=K (AI (xD pre d)) h []:=by
 refine zA ?_;rw[zas rfl];have ky:=fun h K=>z5X (h:=h) (K:=K) d.name (by have:=B.n;omega)
 have tl:CD sN [.ref h.length 0] (dC d.name) (pre.map tA) (h++[.box [AS d.name,AI d.long,AI d.id,.p (.sl (some 2) (d.regs.map uA)),.p (.sl (some 2) (d.ins.map QA))]]):=fun x hx K=>by
  obtain⟨y,_,rfl⟩:=List.mem_map.1 hx;refine zA ?_;rw[zat rfl];simp only[eQ,go_sem,Nat.add_assoc,tA,dC]
 have ct:=fun K=>z09 (h:=h++[.box [AS d.name,AI d.long,AI d.id,.p (.sl (some 2) (d.regs.map uA)),.p (.sl (some 2) (d.ins.map QA))]]) (K:=K) tl MW (by simp;omega)
 rw[z1d]at ct;have rf:=fun h K=>zkp (h:=h) (K:=K) d B
 have nf:=fun h K=>zkk (h:=h) (K:=K) d B
 have fa:XA d = .p (.agg [.str d.name,eI d.long,eI d.id,.sl (some 2) (d.regs.map uA),.sl (some 2) (d.ins.map QA)]):=rfl
 rw[fa]at rf nf;have fst:=fun h K=>z5U (h:=h) (K:=K) [rD [] d.regs,ZC d [] d.ins] (by simp)
 rw[orL2]at fst;simp only[AL,List.map_cons,List.map_nil]at fst;unfold xD;cases kb:wC d.name with
 | false=>
  rw[if_pos rfl];simp only[VD,go_sem,XA,tA,↓ky,ky,kb]
 | true=>
  rw[if_neg (by simp)]
  cases ha:(pre.any fun x=>decide (x.name=d.name)) with
  | true=>
   rw[if_pos rfl];rw[ha]at ct;simp only[VD,go_sem,XA,tA,↓ky,ky,kb,↓ct,ct]
  | false=>
   rw[if_neg (by simp)]
   rw[ha]at ct;by_cases o1:d.long<2∨32<d.long
   ·rw[if_pos (.inl o1)]
    have o2:(decide (d.long<2)||decide (32<d.long))=true:=by simpa using o1
    simp only[VD,go_sem,XA,tA,↓ky,ky,kb,↓ct,ct,sC,o2]
   have o2:(decide (d.long<2)||decide (32<d.long))=false:=by simpa using o1
   by_cases p1:d.id<0∨4294967295<d.id
   ·rw[if_pos (.inr p1)]
    have p2:(decide (d.id<0)||decide (4294967295<d.id))=true:=by simpa using p1
    simp only[VD,go_sem,XA,tA,↓ky,ky,kb,↓ct,ct,sC,o2,p2]
   have p2:(decide (d.id<0)||decide (4294967295<d.id))=false:=by simpa using p1
   rw[if_neg (by omega)]
   have t2:¬(2:Int)=0:=by decide
   by_cases q1:d.id≠0∧d.id.tmod 2=0
   ·rw[if_pos q1]
    obtain⟨q2,q3⟩:=q1;simp only[VD,go_sem,XA,tA,↓ky,ky,kb,↓ct,ct,sC,o2,p2,q2,t2,eq_true q3]
   rw[if_neg q1];have rest:∀(b:Bool),(10:Int)<d.regs.length∨(100:Int)<d.ins.length∨¬((10:Int)<d.regs.length∨(100:Int)<d.ins.length):=fun _=>by omega
   by_cases z:d.id=0
   ·by_cases g1:(10:Int)<d.regs.length
    ·rw[if_pos (.inl g1)]
     simp only[VD,go_sem,XA,tA,↓ky,ky,kb,↓ct,ct,sC,o2,p2,eq_true z,g1,List.length_map]
    by_cases g2:(100:Int)<d.ins.length
    ·rw[if_pos (.inr g2)]
     simp only[VD,go_sem,XA,tA,↓ky,ky,kb,↓ct,ct,sC,o2,p2,eq_true z,g1,g2,List.length_map]
    rw[if_neg (by omega)]
    simp only[VD,go_sem,XA,tA,↓ky,ky,kb,↓ct,ct,sC,o2,p2,eq_true z,g1,g2,List.length_map,↓rf,rf,↓nf,nf,↓fst,fst]
   ·have q3:¬d.id.tmod 2=0:=fun e=>q1 ⟨z,e⟩
    by_cases g1:(10:Int)<d.regs.length
    ·rw[if_pos (.inl g1)]
     simp only[VD,go_sem,XA,tA,↓ky,ky,kb,↓ct,ct,sC,o2,p2,z,t2,q3,g1,List.length_map]
    by_cases g2:(100:Int)<d.ins.length
    ·rw[if_pos (.inr g2)]
     simp only[VD,go_sem,XA,tA,↓ky,ky,kb,↓ct,ct,sC,o2,p2,z,t2,q3,g1,g2,List.length_map]
    rw[if_neg (by omega)]
    simp only[VD,go_sem,XA,tA,↓ky,ky,kb,↓ct,ct,sC,o2,p2,z,t2,q3,g1,g2,List.length_map,↓rf,rf,↓nf,nf,↓fst,fst]
theorem z5T (ds:List TDev)(hB:∀ d∈ds,DevB d)(hl:ds.length≤1000):bA X jH [pC ds] h K=K (AI (OC ds)) h []:=by
 refine zA ?_;rw[zao rfl];unfold OC;by_cases z:ds.length=0
 ·have z':(ds.length:Int)=0:=by omega
  rw[if_pos z];simp only[AJ,go_sem,List.length_map,eq_true z']
 have z':¬(ds.length:Int)=0:=by omega
 rw[if_neg z];by_cases g:20<ds.length
 ·have g':(20:Int)<ds.length:=by omega
  rw[if_pos g];simp only[AJ,go_sem,List.length_map,z',g']
 have g':¬(20:Int)<ds.length:=by omega
 rw[if_neg g];obtain⟨T,hT⟩:∃T,T=yD [] ds:=⟨_,rfl⟩;rw[←hT];simp only[AJ,go_sem,List.length_map,z',g'];refine yB (fun k:Nat=>⟨[(0,pC ds),(14,pC ds),(15,AI ds.length),(16,AI k)],h,[]⟩) (fun k=>k≤ds.length∧yD (ds.take k) (ds.drop k)=T) (fun k=>ds.length-k) 0 rfl ⟨by omega,hT.symm⟩ ?_
 rintro k ⟨hk,hp⟩
 rcases Nat.lt_or_ge k ds.length with hlt|hge
 ·have hg:=XB tA hlt
  have w2:IntKind.i64.wrap ((k:Int)+1)=((k+1:Nat):Int):=LA _ (by omega) (by omega)
  have cx:lB (some 5) 0 (tA ds[k])=some (tA ds[k]):=rfl
  have fp:∀y:TDev,tA y = .agg [.str y.name,eI y.long,eI y.id,.sl (some 2) (y.regs.map uA),.sl (some 2) (y.ins.map QA)]:=fun _=>rfl
  have tk:=List.take_succ_eq_append_getElem hlt
  have hw:win (ds.map tA) 0 k=(ds.take k).map tA:=by simp [win,List.map_take]
  have lt:(ds.take k).length≤1000:=by rw[List.length_take];omega
  have B:=hB _ (List.getElem_mem hlt)
  rw[List.drop_eq_getElem_cons hlt]at hp;unfold yD at hp;rw[←tk]at hp;generalize hrr:ds[k]=d at *;generalize ds.take k=pre at *;have df:=fun h K=>zkh (h:=h) (K:=K) pre lt d B
  have fa:XA d = .p (.agg [.str d.name,eI d.long,eI d.id,.sl (some 2) (d.regs.map uA),.sl (some 2) (d.ins.map QA)]):=rfl
  rw[fa]at df;rw[fp]at hg cx;by_cases e:xD pre d=0
  ·rw[e,if_neg (by decide)]at hp
   rw[e]at df;simp only[JQ,BJ,go_sem,hlt,hk,hg,cx,fp,hw,splice,↓df,df,w2];exact⟨k+1,rfl,⟨by omega,hp⟩,by omega⟩
  ·rw[if_pos e]at hp
   rw[←hp];simp only[JQ,BJ,go_sem,hlt,hk,hg,cx,fp,hw,splice,↓df,df,e]
 ·have ek:k=ds.length:=by omega
  subst ek;rw[List.drop_length]at hp;rw[←hp];simp only[JQ,BJ,go_sem,Nat.lt_irrefl,z2m,aQ,yD]
end Go.Am
end
section
/- Devices on a chain: the reference: which register is selected;a new port. -/
open Go
set_option linter.all false
set_option maxRecDepth 100000
namespace Go.Am
variable {h:aA} {K:jA}
attribute [-go_sem] OA
end Go.Am
end
section
/- A new port: the reference. -/
open Go
set_option linter.all false
set_option maxRecDepth 100000
namespace Go.Am
variable {h:aA} {K:jA}
attribute [-go_sem] OA DB LB TN ON
end Go.Am
end
section
/- A text read line by line. -/
set_option linter.all false
namespace Go.Am
end Go.Am
end
section
/- Numbers in texts. -/
set_option linter.all false
namespace Go.Am
end Go.Am
end
section
/- Faults read: the program's line and the reference's line agree. -/
set_option linter.all false
namespace Go.Am
end Go.Am
end
section
/- Lines of a text. -/
open Go
set_option linter.all false
namespace Go.Am
variable {h:aA} {K:jA}
end Go.Am
end
section
/- Numbers read. -/
open Go
set_option linter.all false
namespace Go.Am
variable {h:aA} {K:jA}
end Go.Am
end
section
/- Several numbers read. -/
open Go
set_option linter.all false
namespace Go.Am
variable {h:aA} {K:jA}
end Go.Am
end
section
/- Numbers read,the reference's way. -/
open Go
set_option linter.all false
namespace Go.Am
variable {h:aA} {K:jA}
end Go.Am
end
section
/- What a port captures,and does: the reference. -/
open Go
set_option linter.all false
set_option maxRecDepth 100000
namespace Go.Am
variable {h:aA} {K:jA}
attribute [-go_sem] OA DB LB
end Go.Am
end
section
/- A port is clocked;a run: the reference. -/
open Go
set_option linter.all false
set_option maxRecDepth 100000
namespace Go.Am
variable {h:aA} {K:jA}
attribute [-go_sem] OA DB LB
end Go.Am
end
section
/- A chain is run: the reference. -/
open Go
set_option linter.all false
set_option maxRecDepth 100000
namespace Go.Am
variable {h:aA} {K:jA}
attribute [-go_sem] OA DB LB
end Go.Am
end
section
/- What is wrong with devices: the reference. -/
open Go
set_option linter.all false
set_option maxRecDepth 100000
namespace Go.Am
variable {h:aA} {K:jA}
attribute [-go_sem] OA
theorem xE (n a b:Int):bA X iH [AI n,AI a,AI b] h K=K (AB (decide (a≤n)&&decide (n≤b))) h []:=by
 refine zA ?_;rw[z9U rfl];by_cases h1:a≤n <;> simp only[KP,go_sem,h1] <;> simp [h1]
theorem zl3 (s cs:List UInt8):decide (PE s cs=[])=s.all fun c=>cs.contains c:=by
 unfold PE;rw[Bool.eq_iff_iff,decide_eq_true_eq,mI,List.all_reverse];constructor
 ·intro h
  have key:∀l:List UInt8,(l.dropWhile (cs.contains ·)).all (cs.contains ·)=true→l.all (cs.contains ·)=true:=by
   intro l;induction l with
   | nil=>intro _;rfl
   | cons c r ih=>
    intro hh;rw[List.dropWhile_cons]at hh;rw[List.all_cons];cases hc:cs.contains c with
    | true=>rw[hc,if_pos rfl]at hh;simp only[Bool.true_and];exact ih hh
    | false=>rw[hc,if_neg (by simp),List.all_cons,hc]at hh;simp at hh
  have:=key _ h;rwa [List.all_reverse]at this
 ·intro h
  have:s.reverse.dropWhile (cs.contains ·)=[]:=by rw[mI,List.all_reverse];exact h
  rw[this];rfl
def EI:List UInt8:=97::98::99::100::101::102::103::104::105::106::107::108::109::110::111::112::113::114::115::116::117::118::119::120::121::122::48::49::50::51::52::53::54::55::56::57::45::95::[]
def KL:List UInt8:=97::98::99::100::101::102::103::104::105::106::107::108::109::110::111::112::113::114::115::116::117::118::119::120::121::122::[]
theorem zeB:∀ n<256,EI.contains (UInt8.ofNat n)=bE (UInt8.ofNat n)∧KL.contains (UInt8.ofNat n)=(decide ((97:Int)≤(UInt8.ofNat n).toNat)&&decide (((UInt8.ofNat n).toNat:Int)≤122)):=by decide +kernel
theorem z44 (c:UInt8):EI.contains c=bE c∧KL.contains c=(decide ((97:Int)≤c.toNat)&&decide ((c.toNat:Int)≤122)):=by
 have:=zeB c.toNat c.toNat_lt;rwa [UInt8.ofNat_toNat]at this
theorem z5Y (s:List UInt8)(hs:s.length≤1000000):bA X UJ [AS s] h K=K (AB (wC s)) h []:=by
 refine zA ?_;rw[z9T rfl];have tr:=fun h K=>z0c (h:=h) (K:=K) s EI hs (by decide) (by decide)
 unfold EI at tr;by_cases h1:1≤s.length∧s.length≤40
 case neg=>
  have e:wC s=false:=by
   cases hk:wC s with
   | false=>rfl
   | true=>
    obtain⟨k1,k2⟩:=z43 hk;have:=List.length_pos_iff.2 k2;omega
  have e2:(decide ((1:Int)≤s.length)&&decide ((s.length:Int)≤40))=false:=by
   rw[Bool.eq_false_iff];intro c;simp at c;omega
  rw[e];simp only[gI,go_sem,xE,e2]
 have e2:(decide ((1:Int)≤s.length)&&decide ((s.length:Int)≤40))=true:=by simp;omega
 cases s with
 | nil=>simp at h1
 | cons c r=>
  have e2:(decide ((1:Int)≤((r.length+1:Nat):Int))&&decide (((r.length+1:Nat):Int)≤40))=true:=by simp at h1 ⊢;omega
  have ta:=zl3 (c::r) EI
  have al:((c::r).all fun c=>EI.contains c)=(c::r).all bE:=by
   congr 1
   funext x
   exact(z44 x).1
  rw[al]at ta;unfold EI at ta;have hr:decide (r.length<40)=true:=by simp at h1 ⊢;omega
  have ke:wC (c::r)=((decide ((97:Int)≤c.toNat)&&decide ((c.toNat:Int)≤122))&&(c::r).all bE):=by
   show(decide (r.length<40)&&(decide ((97:Int)≤c.toNat)&&decide ((c.toNat:Int)≤122))&&(c::r).all bE)=_
   rw[hr,Bool.true_and]
  rw[ke,←(z44 c).2];have ix:=fun h K=>zka (h:=h) (K:=K) KL c
  have ne:=z4v KL c
  unfold KL at ix ne;cases ha:(c::r).all bE with
  | false=>
   rw[ha]at ta;have t2:¬PE (c::r) (97::98::99::100::101::102::103::104::105::106::107::108::109::110::111::112::113::114::115::116::117::118::119::120::121::122::48::49::50::51::52::53::54::55::56::57::45::95::[])=[]:=by simpa using ta
   rw[Bool.and_false];simp only[gI,go_sem,xE,e2,↓tr,tr,t2]
  | true=>
   rw[ha]at ta;have t2:PE (c::r) (97::98::99::100::101::102::103::104::105::106::107::108::109::110::111::112::113::114::115::116::117::118::119::120::121::122::48::49::50::51::52::53::54::55::56::57::45::95::[])=[]:=by simpa using ta
   rw[Bool.and_true];unfold KL;cases hc:((97::98::99::100::101::102::103::104::105::106::107::108::109::110::111::112::113::114::115::116::117::118::119::120::121::122::[]):List UInt8).contains c with
   | true=>
    rw[hc]at ne;have:decide ((0:Int)≤PC (97::98::99::100::101::102::103::104::105::106::107::108::109::110::111::112::113::114::115::116::117::118::119::120::121::122::[]) c)=true:=by
     simp at ne ⊢;omega
    simp only[gI,go_sem,xE,e2,↓tr,tr,t2,↓ix,ix,this]
   | false=>
    rw[hc]at ne;have:decide ((0:Int)≤PC (97::98::99::100::101::102::103::104::105::106::107::108::109::110::111::112::113::114::115::116::117::118::119::120::121::122::[]) c)=false:=by
     simp at ne ⊢;omega
    simp only[gI,go_sem,xE,e2,↓tr,tr,t2,↓ix,ix,this]
end Go.Am
end
section
/- What is wrong with devices,all: the reference. -/
open Go
set_option linter.all false
set_option maxRecDepth 100000
namespace Go.Am
variable {h:aA} {K:jA}
attribute [-go_sem] OA
theorem zjV (s:List UInt8)(hs:s.length≤1000000):bA X VM [AS s] h K=K (AI (if EA s=true then 0 else 9)) h []:=by
 refine zA ?_;rw[z9Q rfl];have tr:=fun h K=>z0c (h:=h) (K:=K) s [48,49] hs (by simp) (by decide)
 have tb:decide (PE s [48,49]=[])=EA s:=z6P s
 cases hb:EA s with
 | true=>
  rw[hb]at tb;have t2:PE s [48,49]=[]:=by simpa using tb
  rw[if_pos rfl];simp only[mM,go_sem,↓tr,tr,t2]
 | false=>
  rw[hb]at tb;have t2:¬PE s [48,49]=[]:=by simpa using tb
  rw[if_neg (by simp)]
  simp only[mM,go_sem,↓tr,tr,t2]
theorem zj4 (d:TDev)(n:List UInt8):(SB d n).isSome=true↔n=mB∨(n=nB∧d.id≠0)∨(d.regs.any fun x=>decide (x.name=n))=true:=by
 unfold SB;by_cases h1:n=mB
 ·simp [h1]
 by_cases h2:n=nB∧d.id≠0
 ·rw[if_neg h1,if_pos h2];simp [h2]
 rw[if_neg h1,if_neg h2,List.find?_isSome];simp only[h1,h2,false_or,List.any_eq_true,decide_eq_true_eq,beq_iff_eq]
set_option maxHeartbeats 4000000 in
theorem zkj (d:TDev)(B:DevB d)(i:Nat)(hlt:i<d.ins.length):bA X YM [XA d,AI i] h K=K (AI (BB d (d.ins.take i) d.ins[i])) h []:=by
 refine zA ?_;rw[z9V rfl];have hl:=B.is
 have hrl:=B.rs
 have hg:=XB QA hlt
 have cx:lB (some 2) 0 (QA d.ins[i])=some (QA d.ins[i]):=rfl
 have fp:∀y:TIns,QA y = .agg [.str y.code,.str y.reg]:=fun _=>rfl
 obtain⟨nl1,nl2⟩:=B.ic _ (List.getElem_mem hlt);have hw:win (d.ins.map QA) 0 i=(d.ins.take i).map QA:=by simp [win,List.map_take]
 have hk2:i≤d.ins.length:=by omega
 have lt:(d.ins.take i).length≤1000:=by rw[List.length_take];omega
 generalize d.ins[i]=r at *;generalize d.ins.take i=pre at *;rw[fp]at hg cx;have bt:=fun h K=>zjV (h:=h) (K:=K) r.code (by omega)
 have sc:=fun h K=>z6q (h:=h) (K:=K) r.code (by omega)
 have t1:CD ZM [.ref (h.length+1) 0] (dC r.reg) (d.regs.map uA) (h++[.box [AS d.name,AI d.long,AI d.id,.p (.sl (some 2) (d.regs.map uA)),.p (.sl (some 2) (d.ins.map QA))],.box [AS r.code,AS r.reg]]):=fun x hx K=>by
  obtain⟨y,_,rfl⟩:=List.mem_map.1 hx;refine zA ?_;rw[z9W rfl];simp only[LP,go_sem,Nat.add_assoc,uA,dC]
 have cr:=fun K=>aU (h:=h++[.box [AS d.name,AI d.long,AI d.id,.p (.sl (some 2) (d.regs.map uA)),.p (.sl (some 2) (d.ins.map QA))],.box [AS r.code,AS r.reg]]) (K:=K) t1 yT (by simp;omega)
 have t2:CD aN [.ref (h.length+1) 0] (dC r.code) (pre.map QA) (h++[.box [AS d.name,AI d.long,AI d.id,.p (.sl (some 2) (d.regs.map uA)),.p (.sl (some 2) (d.ins.map QA))],.box [AS r.code,AS r.reg]]):=fun x hx K=>by
  obtain⟨y,_,rfl⟩:=List.mem_map.1 hx;refine zA ?_;rw[z9X rfl];simp only[MP,go_sem,Nat.add_assoc,QA,dC]
 have ct:=fun K=>z0A (h:=h++[.box [AS d.name,AI d.long,AI d.id,.p (.sl (some 2) (d.regs.map uA)),.p (.sl (some 2) (d.ins.map QA))],.box [AS r.code,AS r.reg]]) (K:=K) t2 z41 (by simp;omega)
 rw[z1e]at ct;rw[qV]at cr;have rs:=zj4 d r.reg
 unfold mB nB at rs;by_cases n1:(r.code.length:Int)=d.long
 case neg=>
  have e:BB d pre r=3:=by unfold BB;rw[if_pos n1]
  rw[e];simp only[mE,go_sem,Nat.add_assoc,XA,tA,hlt,hg,cx,fp,splice,↓cr,cr,n1]
 cases n2:EA r.code with
 | false=>
  have e:BB d pre r=9:=by unfold BB;rw[if_neg (by simp [n1]),if_pos n2]
  rw[e];rw[n2,if_neg (by simp)]at bt
  simp only[mE,go_sem,Nat.add_assoc,XA,tA,hlt,hg,cx,fp,splice,↓cr,cr,eq_true n1,↓bt,bt]
 | true=>
  rw[n2,if_pos rfl]at bt;cases n3:r.code.contains 48 with
  | false=>
   have e:BB d pre r=16:=by unfold BB;rw[if_neg (by simp [n1]),if_neg (by simp [n2]),if_pos n3]
   rw[e];rw[n3]at sc;simp only[mE,go_sem,Nat.add_assoc,XA,tA,hlt,hg,cx,fp,splice,↓cr,cr,eq_true n1,↓bt,bt,↓sc,sc]
  | true=>
   rw[n3]at sc;cases n4:(pre.any fun y=>decide (y.code=r.code)) with
   | true=>
    have e:BB d pre r=6:=by unfold BB;rw[if_neg (by simp [n1]),if_neg (by simp [n2]),if_neg (by rw[n3];simp),if_pos n4]
    rw[e];rw[n4]at ct;simp only[mE,go_sem,Nat.add_assoc,XA,tA,hlt,hg,cx,fp,splice,↓cr,cr,eq_true n1,↓bt,bt,↓sc,sc,hw,hk2,↓ct,ct]
   | false=>
    rw[n4]at ct;have eT:(SB d r.reg).isSome=true→BB d pre r=0:=fun q=>by unfold BB;rw[if_neg (by simp [n1]),if_neg (by simp [n2]),if_neg (by rw[n3];simp),if_neg (by rw[n4];simp),if_neg (by rw[q];simp)]
    have eF:¬(SB d r.reg).isSome=true→BB d pre r=8:=fun q=>by unfold BB;rw[if_neg (by simp [n1]),if_neg (by simp [n2]),if_neg (by rw[n3];simp),if_neg (by rw[n4];simp),if_pos (by cases z:(SB d r.reg).isSome with|true=>exact absurd z q|false=>rfl)]
    by_cases m1:r.reg=[98,121,112,97,115,115]
    ·rw[eT (rs.2 (.inl m1))]
     simp only[mE,go_sem,Nat.add_assoc,XA,tA,hlt,hg,cx,fp,splice,↓cr,cr,eq_true n1,↓bt,bt,↓sc,sc,hw,hk2,↓ct,ct,eq_true m1]
    by_cases m2:r.reg=[105,100,99,111,100,101]
    ·by_cases m3:d.id=0
     ·cases m4:(d.regs.any fun x=>decide (x.name=r.reg)) with
      | true=>
       rw[eT (rs.2 (.inr (.inr m4)))];rw[m4]at cr;simp only[mE,go_sem,Nat.add_assoc,XA,tA,hlt,hg,cx,fp,splice,↓cr,cr,eq_true n1,↓bt,bt,↓sc,sc,hw,hk2,↓ct,ct,m1,eq_true m2,eq_true m3]
      | false=>
       rw[eF (fun q=>by rcases rs.1 q with c|c|c;exact m1 c;exact c.2 m3;rw[m4]at c;cases c)]
       rw[m4]at cr;simp only[mE,go_sem,Nat.add_assoc,XA,tA,hlt,hg,cx,fp,splice,↓cr,cr,eq_true n1,↓bt,bt,↓sc,sc,hw,hk2,↓ct,ct,m1,eq_true m2,eq_true m3]
     ·rw[eT (rs.2 (.inr (.inl ⟨m2,m3⟩)))]
      simp only[mE,go_sem,Nat.add_assoc,XA,tA,hlt,hg,cx,fp,splice,↓cr,cr,eq_true n1,↓bt,bt,↓sc,sc,hw,hk2,↓ct,ct,m1,eq_true m2,eq_false m3]
    ·cases m4:(d.regs.any fun x=>decide (x.name=r.reg)) with
     | true=>
      rw[eT (rs.2 (.inr (.inr m4)))];rw[m4]at cr;simp only[mE,go_sem,Nat.add_assoc,XA,tA,hlt,hg,cx,fp,splice,↓cr,cr,eq_true n1,↓bt,bt,↓sc,sc,hw,hk2,↓ct,ct,m1,m2]
     | false=>
      rw[eF (fun q=>by rcases rs.1 q with c|c|c;exact m1 c;exact m2 c.1;rw[m4]at c;cases c)]
      rw[m4]at cr;simp only[mE,go_sem,Nat.add_assoc,XA,tA,hlt,hg,cx,fp,splice,↓cr,cr,eq_true n1,↓bt,bt,↓sc,sc,hw,hk2,↓ct,ct,m1,m2]
end Go.Am
end
section
/- What is wrong with devices,all: the reference. -/
open Go
set_option linter.all false
set_option maxRecDepth 100000
namespace Go.Am
variable {h:aA} {K:jA}
attribute [-go_sem] OA
attribute [-go_sem] pG aF IM iI PW nM QW oM
theorem pf_k4 (d:TDev)(B:DevB d){b:Nat}(hb:b=h.length){P:jA}(hP:P (AI (ZC d [] d.ins)) h []){y:List (Nat × AV)}(y1:kA y 1 = .ref h.length 0) :
 NW (bA X) X.gl ZN ⟨y,h++[.box (JB d)],[]⟩ (qA [.t 2] false b P):=by
 subst hb;have hl:=B.is
 have d4:ldB none 4 (some (.box (JB d)))=some (.p (.sl (some 2) (d.ins.map QA))):=rfl
 have d5:ldB (some 5) 0 (some (.box (JB d)))=some (XA d):=rfl
 rw[QW];simp only[oM,y1];simp only[go_sem,d4,List.length_map];obtain⟨T,hT⟩:∃T,T=ZC d [] d.ins:=⟨_,rfl⟩;rw[←hT]at hP;refine yB (fun k:Nat=>⟨[(1,.ref h.length 0),(55,AI d.ins.length),(56,AI k)],h++[.box (JB d)],[]⟩) (fun k=>k≤d.ins.length∧ZC d (d.ins.take k) (d.ins.drop k)=T) (fun k=>d.ins.length-k) 0 rfl ⟨by omega,hT.symm⟩ ?_
 rintro k ⟨hk,hp⟩
 rcases Nat.lt_or_ge k d.ins.length with hlt|hge
 ·have hlt':(k:Int)<(d.ins.length:Int):=by omega
  have w2:IntKind.i64.wrap ((k:Int)+1)=((k+1:Nat):Int):=LA _ (by omega) (by omega)
  have tk:=List.take_succ_eq_append_getElem hlt
  have nf:=fun h K=>zkj (h:=h) (K:=K) d B k hlt
  rw[List.drop_eq_getElem_cons hlt]at hp;unfold ZC at hp;rw[←tk]at hp;generalize d.ins[k]=r at *;generalize d.ins.take k=pre at *;by_cases e:BB d pre r=0
  ·rw[e,if_neg (by decide)]at hp
   rw[e]at nf;simp only[IM,iI,go_sem,hlt',d5,↓nf,nf,w2];exact⟨k+1,rfl,⟨by omega,hp⟩,by omega⟩
  ·rw[if_pos e]at hp
   rw[hp]at nf e;simp only[IM,iI,go_sem,hlt',d5,↓nf,nf,e];exact hP
 ·have ek:k=d.ins.length:=by omega
  subst ek;rw[List.drop_length]at hp;have hp:T=0:=by rw[←hp];rfl
  rw[hp]at hP;simp only[IM,iI,go_sem,Nat.lt_irrefl,PW,nM];exact hP
def iO (d:TDev):Int:=if(10:Int)<d.regs.length∨(100:Int)<d.ins.length then 2 else if rD [] d.regs≠0 then rD [] d.regs else ZC d [] d.ins
set_option maxHeartbeats 4000000 in
theorem zkm (d:TDev)(B:DevB d):bA X cN [XA d] h K=K (AI (iO d)) h []:=by
 refine zA ?_;rw[z9Y rfl];have hl:=B.rs
 unfold iO;by_cases g1:(10:Int)<d.regs.length
 ·rw[if_pos (.inl g1)]
  simp only[zJ,go_sem,XA,tA,List.length_map,g1]
 by_cases g2:(100:Int)<d.ins.length
 ·rw[if_pos (.inr g2)]
  simp only[zJ,go_sem,XA,tA,List.length_map,g1,g2]
 rw[if_neg (by omega)]
 obtain⟨T,hT⟩:∃T,T=rD [] d.regs:=⟨_,rfl⟩;rw[←hT];simp only[zJ,go_sem,XA,tA,List.length_map,g1,g2];refine yB (fun k:Nat=>⟨[(1,.ref h.length 0),(18,.p (.sl (some 2) (d.regs.map uA))),(19,AI d.regs.length),(20,AI k)],h++[.box (JB d)],[]⟩) (fun k=>k≤d.regs.length∧rD (d.regs.take k) (d.regs.drop k)=T) (fun k=>d.regs.length-k) 0 rfl ⟨by omega,hT.symm⟩ ?_
 rintro k ⟨hk,hp⟩
 rcases Nat.lt_or_ge k d.regs.length with hlt|hge
 ·have hg:=XB uA hlt
  have w2:IntKind.i64.wrap ((k:Int)+1)=((k+1:Nat):Int):=LA _ (by omega) (by omega)
  have cx:lB (some 2) 0 (uA d.regs[k])=some (uA d.regs[k]):=rfl
  have fp:∀y:TReg,uA y = .agg [.str y.name,eI y.long]:=fun _=>rfl
  have nl:=B.rn _ (List.getElem_mem hlt)
  have tk:=List.take_succ_eq_append_getElem hlt
  have hw:win (d.regs.map uA) 0 k=(d.regs.take k).map uA:=by simp [win,List.map_take]
  have hk2:k≤d.regs.length:=hk
  have lt:(d.regs.take k).length≤1000:=by rw[List.length_take];omega
  have d3:ldB none 3 (some (.box (JB d)))=some (.p (.sl (some 2) (d.regs.map uA))):=rfl
  rw[List.drop_eq_getElem_cons hlt]at hp;unfold rD at hp;rw[←tk]at hp;generalize hrr:d.regs[k]=r at *;generalize d.regs.take k=pre at *;rw[fp]at hg cx;have ky:=fun h K=>z5Y (h:=h) (K:=K) r.name (by omega)
  have tl:CD dN [.ref (h.length+1) 0] (dC r.name) (pre.map uA) (h++[.box (JB d),.box [AS r.name,AI r.long]]):=fun x hx K=>by
   obtain⟨y,_,rfl⟩:=List.mem_map.1 hx;refine zA ?_;rw[z9Z rfl];simp only[NP,go_sem,Nat.add_assoc,uA,dC]
  have ct:=fun K=>aU (h:=h++[.box (JB d),.box [AS r.name,AI r.long]]) (K:=K) tl yT (by simp;omega)
  rw[qV]at ct;have nz:∀n:Int,n≠0→T=n→¬T=0:=fun n h1 h2 h3=>h1 (h2 ▸ h3)
  cases kb:wC r.name with
  | false=>
   have e:OB pre r=5:=by unfold OB;rw[if_pos kb]
   rw[e,if_pos (by decide)]at hp
   rw[←hp,if_pos (by decide)]
   simp only[pG,aF,go_sem,Nat.add_assoc,hlt,hg,cx,fp,↓ky,ky,kb,splice]
  | true=>
   by_cases n1:r.name=[98,121,112,97,115,115]
   ·have e:OB pre r=6:=by unfold OB mB nB;rw[if_neg (by simp [kb]),if_pos (.inl n1)]
    rw[e,if_pos (by decide)]at hp
    rw[←hp,if_pos (by decide)]
    simp only[pG,aF,go_sem,Nat.add_assoc,hlt,hg,cx,fp,↓ky,ky,kb,splice,eq_true n1]
   by_cases n2:r.name=[105,100,99,111,100,101]
   ·have e:OB pre r=6:=by unfold OB mB nB;rw[if_neg (by simp [kb]),if_pos (.inr (.inl n2))]
    rw[e,if_pos (by decide)]at hp
    rw[←hp,if_pos (by decide)]
    simp only[pG,aF,go_sem,Nat.add_assoc,hlt,hg,cx,fp,↓ky,ky,kb,splice,n1,eq_true n2]
   cases ha:(pre.any fun x=>decide (x.name=r.name)) with
   | true=>
    have e:OB pre r=6:=by unfold OB mB nB;rw[if_neg (by simp [kb]),if_pos (.inr (.inr ha))]
    rw[e,if_pos (by decide)]at hp
    rw[←hp,if_pos (by decide)]
    rw[ha]at ct;simp only[pG,aF,go_sem,Nat.add_assoc,hlt,hg,cx,fp,↓ky,ky,kb,splice,n1,n2,d3,hw,hk2,↓ct,ct]
   | false=>
    have e0:¬(r.name=[98,121,112,97,115,115]∨r.name=[105,100,99,111,100,101]∨(pre.any fun x=>decide (x.name=r.name))=true):=by rw[ha];simp [n1,n2]
    rw[ha]at ct;by_cases o1:r.long<1∨1000<r.long
    ·have e:OB pre r=1:=by unfold OB mB nB;rw[if_neg (by simp [kb]),if_neg e0,if_pos o1]
     rw[e,if_pos (by decide)]at hp
     rw[←hp,if_pos (by decide)]
     have o2:(decide ((1:Int)≤r.long)&&decide (r.long≤1000))=false:=by rw[Bool.eq_false_iff];intro c;simp at c;omega
     simp only[pG,aF,go_sem,Nat.add_assoc,hlt,hg,cx,fp,↓ky,ky,kb,splice,n1,n2,d3,hw,hk2,↓ct,ct,xE,o2]
    ·have e:OB pre r=0:=by unfold OB mB nB;rw[if_neg (by simp [kb]),if_neg e0,if_neg o1]
     rw[e,if_neg (by decide)]at hp
     have o2:(decide ((1:Int)≤r.long)&&decide (r.long≤1000))=true:=by simp;omega
     simp only[pG,aF,go_sem,Nat.add_assoc,hlt,hg,cx,fp,↓ky,ky,kb,splice,n1,n2,d3,hw,hk2,↓ct,ct,xE,o2,w2];exact⟨k+1,rfl,⟨by omega,hp⟩,by omega⟩
 ·have ek:k=d.regs.length:=by omega
  subst ek;rw[List.drop_length]at hp;have hp:T=0:=by rw[←hp];rfl
  rw[hp,if_neg (by simp)]
  simp only[pG,aF,go_sem,Nat.lt_irrefl];exact pf_k4 d B rfl ⟨rfl,rfl,rfl⟩ rfl
theorem zbz (pre:List TDev)(d:TDev):xD pre d=if wC d.name=false then 5 else if(pre.any fun x=>decide (x.name=d.name))=true then 6 else if(d.long<2∨32<d.long)∨(d.id<0∨4294967295<d.id) then 1
 else if d.id≠0∧d.id.tmod 2=0 then 3 else iO d:=rfl
end Go.Am
end
section
/- What is wrong with devices,all: the reference. -/
open Go
set_option linter.all false
set_option maxRecDepth 100000
namespace Go.Am
variable {h:aA} {K:jA}
attribute [-go_sem] OA
set_option maxHeartbeats 4000000 in
theorem zjY (ds:List TDev)(hB:∀ d∈ds,DevB d)(hl:ds.length≤1000):bA X WM [pC ds] h K=K (AI (OC ds)) h []:=by
 refine zA ?_;rw[z9R rfl];unfold OC;by_cases z:ds.length=0
 ·have z':(ds.length:Int)=0:=by omega
  rw[if_pos z];simp only[yJ,go_sem,List.length_map,eq_true z']
 have z':¬(ds.length:Int)=0:=by omega
 rw[if_neg z];by_cases g:20<ds.length
 ·have g':(20:Int)<ds.length:=by omega
  rw[if_pos g];simp only[yJ,go_sem,List.length_map,z',g']
 have g':¬(20:Int)<ds.length:=by omega
 rw[if_neg g];obtain⟨T,hT⟩:∃T,T=yD [] ds:=⟨_,rfl⟩;rw[←hT];simp only[yJ,go_sem,List.length_map,z',g'];refine yB (fun k:Nat=>⟨[(0,pC ds),(14,pC ds),(15,AI ds.length),(16,AI k)],h,[]⟩) (fun k=>k≤ds.length∧yD (ds.take k) (ds.drop k)=T) (fun k=>ds.length-k) 0 rfl ⟨by omega,hT.symm⟩ ?_
 rintro k ⟨hk,hp⟩
 rcases Nat.lt_or_ge k ds.length with hlt|hge
 ·have hg:=XB tA hlt
  have w2:IntKind.i64.wrap ((k:Int)+1)=((k+1:Nat):Int):=LA _ (by omega) (by omega)
  have cx:lB (some 5) 0 (tA ds[k])=some (tA ds[k]):=rfl
  have fp:∀y:TDev,tA y = .agg [.str y.name,eI y.long,eI y.id,.sl (some 2) (y.regs.map uA),.sl (some 2) (y.ins.map QA)]:=fun _=>rfl
  have tk:=List.take_succ_eq_append_getElem hlt
  have hw:win (ds.map tA) 0 k=(ds.take k).map tA:=by simp [win,List.map_take]
  have lt:(ds.take k).length≤1000:=by rw[List.length_take];omega
  have B:=hB _ (List.getElem_mem hlt)
  rw[List.drop_eq_getElem_cons hlt]at hp;unfold yD at hp;rw[←tk]at hp;generalize hrr:ds[k]=d at *;generalize ds.take k=pre at *;have ky:=fun h K=>z5Y (h:=h) (K:=K) d.name (by have:=B.n;omega)
  have tl:CD XM [.ref h.length 0] (dC d.name) (pre.map tA) (h++[.box [AS d.name,AI d.long,AI d.id,.p (.sl (some 2) (d.regs.map uA)),.p (.sl (some 2) (d.ins.map QA))]]):=fun x hx K=>by
   obtain⟨y,_,rfl⟩:=List.mem_map.1 hx;refine zA ?_;rw[z9S rfl];simp only[JP,go_sem,Nat.add_assoc,tA,dC]
  have ct:=fun K=>z09 (h:=h++[.box [AS d.name,AI d.long,AI d.id,.p (.sl (some 2) (d.regs.map uA)),.p (.sl (some 2) (d.ins.map QA))]]) (K:=K) tl MW (by simp;omega)
  rw[z1d]at ct;have pf:=fun h K=>zkm (h:=h) (K:=K) d B
  have fa:XA d = .p (.agg [.str d.name,eI d.long,eI d.id,.sl (some 2) (d.regs.map uA),.sl (some 2) (d.ins.map QA)]):=rfl
  rw[fa]at pf;rw[fp]at hg cx;have dv:=zbz pre d
  generalize hV:xD pre d=V at *;cases kb:wC d.name with
  | false=>
   rw[if_pos kb]at dv;rw[dv,if_pos (by decide)]at hp
   rw[←hp];simp only[iF,lE,go_sem,hlt,hk,hg,cx,fp,hw,splice,↓ky,ky,kb]
  | true=>
   have kf:¬wC d.name=false:=by simp [kb]
   rw[if_neg kf]at dv;cases ha:(pre.any fun x=>decide (x.name=d.name)) with
   | true=>
    rw[if_pos ha]at dv;rw[dv,if_pos (by decide)]at hp
    rw[←hp];rw[ha]at ct;simp only[iF,lE,go_sem,hlt,hk,hg,cx,fp,hw,splice,↓ky,ky,kb,↓ct,ct]
   | false=>
    have hf:¬(pre.any fun x=>decide (x.name=d.name))=true:=by rw[ha];simp
    rw[if_neg hf]at dv;rw[ha]at ct;by_cases o1:d.long<2∨32<d.long
    ·rw[if_pos (.inl o1)]at dv
     rw[dv,if_pos (by decide)]at hp
     rw[←hp];have o2:(decide ((2:Int)≤d.long)&&decide (d.long≤32))=false:=by rw[Bool.eq_false_iff];intro c;simp at c;omega
     simp only[iF,lE,go_sem,hlt,hk,hg,cx,fp,hw,splice,↓ky,ky,kb,↓ct,ct,xE,o2]
    have o2:(decide ((2:Int)≤d.long)&&decide (d.long≤32))=true:=by simp;omega
    by_cases p1:d.id<0∨4294967295<d.id
    ·rw[if_pos (.inr p1)]at dv
     rw[dv,if_pos (by decide)]at hp
     rw[←hp];have p2:(decide ((0:Int)≤d.id)&&decide (d.id≤4294967295))=false:=by rw[Bool.eq_false_iff];intro c;simp at c;omega
     simp only[iF,lE,go_sem,hlt,hk,hg,cx,fp,hw,splice,↓ky,ky,kb,↓ct,ct,xE,o2,p2]
    have p2:(decide ((0:Int)≤d.id)&&decide (d.id≤4294967295))=true:=by simp;omega
    have nof:¬((d.long<2∨32<d.long)∨(d.id<0∨4294967295<d.id)):=by omega
    rw[if_neg nof]at dv;have t2:¬(2:Int)=0:=by decide
    by_cases q1:d.id≠0∧d.id.tmod 2=0
    ·rw[if_pos q1]at dv
     rw[dv,if_pos (by decide)]at hp
     rw[←hp];obtain⟨q2,q3⟩:=q1;simp only[iF,lE,go_sem,hlt,hk,hg,cx,fp,hw,splice,↓ky,ky,kb,↓ct,ct,xE,o2,p2,q2,t2,eq_true q3]
    rw[if_neg q1]at dv;rw[dv]at hp;have fin:∀(z2:d.id=0∨¬d.id=0),True:=fun _=>trivial
    by_cases z2:d.id=0
    ·by_cases e:iO d=0
     ·rw[e,if_neg (by decide)]at hp
      rw[e]at pf;simp only[iF,lE,go_sem,hlt,hk,hg,cx,fp,hw,splice,↓ky,ky,kb,↓ct,ct,xE,o2,p2,eq_true z2,↓pf,pf,w2];exact⟨k+1,rfl,⟨by omega,hp⟩,by omega⟩
     ·rw[if_pos e]at hp
      rw[hp]at pf e;simp only[iF,lE,go_sem,hlt,hk,hg,cx,fp,hw,splice,↓ky,ky,kb,↓ct,ct,xE,o2,p2,eq_true z2,↓pf,pf,e]
    ·have q3:¬d.id.tmod 2=0:=fun e=>q1 ⟨z2,e⟩
     by_cases e:iO d=0
     ·rw[e,if_neg (by decide)]at hp
      rw[e]at pf;simp only[iF,lE,go_sem,hlt,hk,hg,cx,fp,hw,splice,↓ky,ky,kb,↓ct,ct,xE,o2,p2,z2,t2,q3,↓pf,pf,w2];exact⟨k+1,rfl,⟨by omega,hp⟩,by omega⟩
     ·rw[if_pos e]at hp
      rw[hp]at pf e;simp only[iF,lE,go_sem,hlt,hk,hg,cx,fp,hw,splice,↓ky,ky,kb,↓ct,ct,xE,o2,p2,z2,t2,q3,↓pf,pf,e]
 ·have ek:k=ds.length:=by omega
  subst ek;rw[List.drop_length]at hp;rw[←hp];simp only[iF,lE,go_sem,Nat.lt_irrefl,z2l,IP,yD]
end Go.Am
end
section
/- The signals of a program: asv long asv there are clocks;what is expected in them. -/
open Go
set_option linter.all false
namespace Go.Am
theorem z1J:∀ (m:List UInt8) (n:Nat),m.length≤n→(List.range n).countP (fun i=>m[i]?==some 49)=m.count 49
 | [],n,_=>by simp [List.countP_eq_zero]
 | x::r,0,h=>by simp at h
 | x::r,n+1,h=>by
  rw[List.range_succ_eq_map,List.countP_cons,List.countP_map,List.count_cons];have ih:=z1J r n (by simpa using h)
  have e:((fun i=>(x::r)[i]?==some 49) ∘ Nat.succ)=fun i=>r[i]?==some 49:=by funext i;simp
  rw[e,ih];simp
theorem zdN {c:Cmd}(hb:c.m.length≤c.b.length)(hw:c.m≠[]→c.w.length=c.b.length)(hwb:EA c.w=true):(jF c).count 120+c.m.count 49=c.b.length:=by
 rw[←z1J c.m c.b.length hb,jF,List.count_eq_countP,List.countP_map];have e:(List.range c.b.length).countP ((fun x=>x==(120:UInt8)) ∘ JD c)=(List.range c.b.length).countP (fun i=>¬(c.m[i]?==some 49)=true):=by
  apply List.countP_congr
  intro i hi;have hi':i<c.b.length:=List.mem_range.1 hi
  simp only[Function.comp,JD,beq_iff_eq,decide_eq_true_eq];by_cases h:c.m[i]?=some 49
  ·rw[if_pos h]
   have hm:c.m≠[]:=by intro e;rw[e]at h;simp at h
   have hlt:i<c.w.length:=by rw[hw hm];exact hi'
   rw[List.getElem?_eq_getElem hlt];have:=z1o hwb (List.getElem_mem hlt);simp only[Option.getD_some,h,not_true,iff_false];rcases this with e|e <;> rw[e] <;> decide
  ·rw[if_neg h];simp [h]
 have key:=List.length_eq_countP_add_countP (l:=List.range c.b.length) (fun i=>c.m[i]?==some 49)
 rw[List.length_range]at key;rw[e];omega
theorem BZ {l:List Cmd}(hc:∀ c∈l,NA c=0){k:Nat}(hk:k<l.length) :
 (lA eA (l.take k) l[k] (oC [] 0 (l.take k))).tdi.length=(lA eA (l.take k) l[k] (oC [] 0 (l.take k))).tms.length∧(lA eA (l.take k) l[k] (oC [] 0 (l.take k))).want.length=(lA eA (l.take k) l[k] (oC [] 0 (l.take k))).tms.length ∧
 (lA eA (l.take k) l[k] (oC [] 0 (l.take k))).want.length=(lA eA (l.take k) l[k] (oC [] 0 (l.take k))).want.count 120+l[k].m.count 49:=by
 have h0:=hc _ (List.getElem_mem hk)
 have hz:∀n,(zs n).length=n:=fun n=>by simp [zs]
 have hx:∀n,(xsL n).length=n:=fun n=>by simp [xsL]
 have hxc:∀n,(xsL n).count 120=n:=fun n=>by simp [xsL]
 generalize oC [] 0 (l.take k)=state;generalize l.take k=pre;generalize l[k]=c at h0 ⊢;cases YE h0 with
 | set h hs e=>rw[VF eA (by omega),e];exact⟨rfl,rfl,rfl⟩
 | pad h0 h1 hb hl e=>rw[VF eA h1,e];exact⟨rfl,rfl,rfl⟩
 | go h hs e=>
  have em:c.m=[]:=by rw[e]
  rw[mL eA h,em];simp [hz,hx,hxc]
 | idle h h0 h1 e=>
  have em:c.m=[]:=by rw[e]
  rw[nL eA h,em];simp [hz,hx,hxc]
 | scan h hs e=>
  obtain⟨q1,q2,q3,q4,q5,q6⟩:=DH hs;have hpos:=List.length_pos_iff.2 q1
  have hml:c.m.length≤c.b.length:=by rcases q6 with⟨_,e⟩|⟨_,e⟩ <;> simp [e]
  have hec:=zdN hml (fun hm=>by rcases q6 with⟨_,e⟩|⟨e,_⟩;exact absurd e hm;exact e) q4
  have hel:(jF c).length=c.b.length:=by simp [jF]
  have key:∀(sh ex:Nat) (hd tl:List UInt8) (en:Nat),lA eA pre c state=fC (KC eA c state sh ex hd tl en) →
   (lA eA pre c state).tdi.length=(lA eA pre c state).tms.length∧(lA eA pre c state).want.length=(lA eA pre c state).tms.length∧(lA eA pre c state).want.length=(lA eA pre c state).want.count 120+c.m.count 49:=by
   intro sh ex hd tl en ep;rw[ep,lL eA c state sh ex hd tl en q1];simp only[List.length_append,List.count_append,hz,hx,hxc,hel,List.length_singleton];omega
  rcases h with h|h
  ·exact key 11 12 _ _ _ (by unfold lA;rw[if_neg (by omega),if_neg (by omega),if_pos h])
  ·exact key 4 5 _ _ _ (by unfold lA;rw[if_neg (by omega),if_neg (by omega),if_neg (by omega),if_pos h])
def maskN (l:List Cmd):Nat:=(l.map fun c=>c.m.count 49).sum
theorem z6B:∀ ps:List Part,(∀ p∈ps,p.tdi.length=p.tms.length∧p.want.length=p.tms.length)→(EB ps).length=(sA ps).length∧(LE ps).length=(sA ps).length
 | [],_=>⟨rfl,rfl⟩
 | p::ps,h=>by
  obtain⟨a,b⟩:=z6B ps (fun q hq=>h q (List.mem_cons_of_mem _ hq))
  obtain⟨c,d⟩:=h p (List.mem_cons_self ..);simp only[EB,sA,LE,List.flatMap_cons,List.length_append]at a b ⊢;omega
theorem z69:∀ (ps:List Part),(LE ps).length=(LE ps).count 120+(ps.map fun p=>p.want.length-p.want.count 120).sum
 | []=>rfl
 | p::ps=>by
  have a:=z69 ps
  have b:p.want.count 120≤p.want.length:=List.count_le_length
  simp only[LE,List.flatMap_cons,List.length_append,List.count_append,List.map_cons,List.sum_cons]at a ⊢;omega
theorem zji {l:List Cmd}(hc:∀ c∈l,NA c=0){p:Part}(hp:p∈nA eA [] 0 l):∃k,∃hk:k<l.length,p=lA eA (l.take k) l[k] (oC [] 0 (l.take k)):=by
 obtain⟨k,hk⟩:=List.mem_iff_getElem?.1 hp;have hlt:k<l.length:=by
  have:=(List.getElem?_eq_some_iff.1 hk).1;rwa [fO]at this
 rw[TS hlt]at hk;exact⟨k,hlt,(Option.some.inj hk).symm⟩
theorem z6A {l:List Cmd}(hc:∀ c∈l,NA c=0) :
 (EB (nA eA [] 0 l)).length=(sA (nA eA [] 0 l)).length∧(LE (nA eA [] 0 l)).length=(sA (nA eA [] 0 l)).length ∧
 (sA (nA eA [] 0 l)).length=(LE (nA eA [] 0 l)).count 120+maskN l:=by
 obtain⟨a,b⟩:=z6B (nA eA [] 0 l) (fun p hp=>by
  obtain⟨k,hk,rfl⟩:=zji hc hp;exact⟨(BZ hc hk).1,(BZ hc hk).2.1⟩)
 have c:=z69 (nA eA [] 0 l)
 have e:(nA eA [] 0 l).map (fun p=>p.want.length-p.want.count 120)=l.map fun c=>c.m.count 49:=by
  apply List.ext_getElem?
  intro k;rw[List.getElem?_map,List.getElem?_map];rcases Nat.lt_or_ge k l.length with hk|hk
  ·rw[TS hk,List.getElem?_eq_getElem hk]
   have:=(BZ hc hk).2.2;simp only[Option.map_some];congr 1
   omega
  ·rw[List.getElem?_eq_none (by rw[fO];exact hk),List.getElem?_eq_none hk];rfl
 rw[e]at c;exact⟨a,b,by rw[←b];exact c⟩
end Go.Am
end
section
/- What comes out of a program's scans: the program. -/
open Go
set_option linter.all false
set_option maxRecDepth 100000
namespace Go.Am
variable {h:aA} {K:jA}
attribute [-go_sem] OA splice
theorem zjh {l:List Cmd}(hc:∀ c∈l,NA c=0){k:Nat}(hk:k<l.length):EA (lA eA (l.take k) l[k] (oC [] 0 (l.take k))).tdi=true:=by
 obtain⟨S,T⟩:=AZ hc k (by omega)
 have h0:=hc _ (List.getElem_mem hk)
 have bz:∀n,EA (zs n)=true:=fun n=>by simp [EA,zs,lR]
 have ba:∀a b,EA a=true→EA b=true→EA (a++b)=true:=fun a b h1 h2=>by unfold EA at *;rw[List.all_append,h1,h2];rfl
 generalize oC [] 0 (l.take k)=state at T ⊢;generalize l.take k=pre at S ⊢;generalize l[k]=c at h0 ⊢;cases YE h0 with
 | set h hs e=>rw[VF eA (by omega)];rfl
 | pad h0 h1 hb hl e=>rw[VF eA h1];rfl
 | go h hs e=>
  rw[mL eA h];exact bz _
 | idle h h0 h1 e=>
  rw[nL eA h];exact ba _ _ (bz _) (bz _)
 | scan h hs e=>
  obtain⟨q1,q2,q3,q4,q5,q6⟩:=DH hs;rcases h with h|h
  ·have ep:lA eA pre c state=fC (KC eA c state 11 12 (BA pre 3).b (BA pre 4).b (BA pre 1).s.toNat):=by
    unfold lA;rw[if_neg (by omega),if_neg (by omega),if_pos h]
   rw[ep];show EA ((zs _++((BA pre 3).b++c.b++(BA pre 4).b))++zs _)=true
   exact ba _ _ (ba _ _ (bz _) (ba _ _ (ba _ _ (S.b1 3 (by omega) (by omega)).1 q2) (S.b1 4 (by omega) (by omega)).1)) (bz _)
  ·have ep:lA eA pre c state=fC (KC eA c state 4 5 (BA pre 5).b (BA pre 6).b (BA pre 2).s.toNat):=by
    unfold lA;rw[if_neg (by omega),if_neg (by omega),if_neg (by omega),if_pos h]
   rw[ep];show EA ((zs _++((BA pre 5).b++c.b++(BA pre 6).b))++zs _)=true
   exact ba _ _ (ba _ _ (bz _) (ba _ _ (ba _ _ (S.b1 5 (by omega) (by omega)).1 q2) (S.b1 6 (by omega) (by omega)).1)) (bz _)
theorem z94 {l:List Cmd}(hc:∀ c∈l,NA c=0):EA (EB (nA eA [] 0 l))=true:=by
 unfold EA EB;rw[List.all_flatMap];rw[List.all_eq_true];intro p hp;obtain⟨k,hk⟩:=List.mem_iff_getElem?.1 hp;have hlt:k<l.length:=by
  have:=(List.getElem?_eq_some_iff.1 hk).1;rwa [fO]at this
 rw[TS hlt]at hk;cases hk;exact zjh hc hlt
def zE (ds:List TDev)(l:List Cmd):List UInt8:=uB ds 0 (vE ds) ((sA (nA eA [] 0 l)).zip (EB (nA eA [] 0 l)))
def tF (ds:List TDev)(l:List Cmd):List (List UInt8):=TC eA [] 0 l 0 (zE ds l)
abbrev WT (us:List (List UInt8)):AV:=.p (.sl none (us.map PV.str))
structure ChOk (ds:List TDev):Prop where
 d:∀d∈ds,DevOk d
 n:(ds.map TDev.name).Nodup
 e:ds≠[]
 l:ds.length≤20
theorem chOk {ds:List TDev}(h:OC ds=0):ChOk ds:=by
 obtain⟨a,b,c,d⟩:=BQ h;exact⟨a,b,c,d⟩
theorem zls {ds:List TDev}{l:List Cmd}(hc:∀ c∈l,NA c=0):(zE ds l).length=(sA (nA eA [] 0 l)).length:=by
 unfold zE;rw[VZ,List.length_zip,(z6A hc).1,Nat.min_self]
attribute [local go_sem] zH zL SI TI UI BL SZ TZ UZ RI pL xH qL rL sL tL uL vL wL z57 z58 z59
set_option maxHeartbeats 4000000 in
theorem zkq (ds:List TDev)(hB:∀ d∈ds,DevB d)(hz:OC ds=0)(l:List Cmd)(hp:ZB eA l=0) :
 bA X BN [pC ds,ACs l] h K=K (WT (tF ds l)) h []:=by
 refine zA ?_;rw[zaC rfl];obtain⟨hc,hn,hl⟩:=zjp hp;have O:=chOk hz
 have cd:=fun h K=>z5T (h:=h) (K:=K) ds hB (by have:=O.l;omega)
 rw[hz]at cd;have sg:=fun h K=>zku (h:=h) (K:=K) l hc hl
 obtain⟨a1,a2,a3,a4,a5⟩:=z5k US (eM hc) true hn;obtain⟨b1,b2,b3⟩:=a5 rfl;have fr:=z5l eA l (rel0 true) (eM hc) (by simpa using hn)
 have fr:((gC true).play eA l).frs=lF eA [] 0 l 0:=fr
 obtain⟨f1,f2,_⟩:=z6A hc;have TR:=fun h K=>zke (h:=h) (K:=K) ds O.d O.e O.l cd (sA (nA eA [] 0 l)) (EB (nA eA [] 0 l)) f1.symm hn (z93 hc) (z94 hc)
 have tl:=zls (ds:=ds) hc
 have hR:uB ds 0 (vE ds) ((sA (nA eA [] 0 l)).zip (EB (nA eA [] 0 l)))=zE ds l:=rfl
 rw[hR]at TR;have ql:=fun k hk hs=>z3M eA (R:=zE ds l) l (pre:=[]) (state:=0) (at_:=0) (by omega) k hk hs
 have qn:=fun k hk hs=>z54 eA (R:=zE ds l) l (pre:=[]) (state:=0) (at_:=0) k hk hs
 have rl:(tF ds l).length=l.length:=PZ eA l [] 0 0 (zE ds l)
 have hRV:TC eA [] 0 l 0 (zE ds l)=tF ds l:=rfl
 rw[hRV]at ql qn;have fl:(lF eA [] 0 l 0).length=l.length:=z3N eA l [] 0 0
 generalize tF ds l=RV at *;generalize zE ds l=R at *;generalize lF eA [] 0 l 0=FR at *;generalize (gC true).play eA l=r at *;have cT:OE (IA r.tms)=some r.tms:=NT _
 have cI:OE (IA r.tdi)=some r.tdi:=NT _
 have wT:win (IA r.tms) 0 r.tms.length=IA r.tms:=QE (nJ _)
 have wI:win (IA r.tdi) 0 r.tdi.length=IA r.tdi:=QE (nJ _)
 rw[←b1,←b2]at TR;have lT:=nJ r.tms
 have lI:=nJ r.tdi
 have hHl:(hbx h).length=h.length+1:=by simp [hbx]
 have hT0:∀t:aA,(rh (hbx h) r t).take h.length=h:=fun t=>by
  unfold rh hbx;rw[List.append_assoc,YL]
 generalize hHH:hbx h=H at *;simp only[uQ,go_sem,↓sg,sg,lT,lI,wT,wI,cT,cI,↓TR,TR];rw[hHH];refine yB (fun k:Nat=>⟨[(5,.ref (H.length+5) 0),(6,AS R),(8,.own (H.length+6) k 0 k),(29,ACs l),(30,AI l.length),(31,AI k)],rh H r [.row none ((RV.take k).map .str) 0],[]⟩) (fun k=>k≤l.length) (fun k=>l.length-k) 0 rfl (by omega) ?_
 intro k hk;rw[CF];have lml:((RV.take k).map PV.str).length=k:=by rw[List.length_map,List.length_take];omega
 have ms:k+1≤RA:=by unfold RA;omega
 rcases Nat.lt_or_ge k l.length with hlt|hge
 ·have hlt':(k:Int)<(l.length:Int):=by omega
  have hg:=XB NB hlt
  have w2:IntKind.i64.wrap ((k:Int)+1)=((k+1:Nat):Int):=LA _ (by omega) (by omega)
  have ql:=ql k hlt
  have qn:=qn k hlt
  have eT:∀s,RV[k]?=some s→(RV.take (k+1)).map PV.str=(RV.take k).map PV.str++[.str s]:=fun s hs=>by
   rw[List.take_add_one,hs,List.map_append];rfl
  generalize l[k]=c at *;cases hs:QC c with
  | true=>
   obtain⟨f,x1,x2,x3⟩:=ql hs;have is:(decide (c.k=7)||decide (c.k=8))=true:=by rcases nH.1 hs with e|e <;> simp [e]
   have gf:(r.frs.map eN)[k]?=some (eN f):=by rw[List.getElem?_map,fr,x1];rfl
   have ff:eN f = .int .i64 (f:Int):=rfl
   rw[ff]at gf;have flr:r.frs.length=l.length:=by rw[fr,fl]
   have lfm:(r.frs.map eN).length=l.length:=by rw[List.length_map,flr]
   have hlk:k<r.frs.length:=by omega
   have w3:IntKind.i64.wrap ((f:Int)+(c.b.length:Int))=((f+c.b.length:Nat):Int):=by rw[LA _ (by omega) (by omega)];omega
   have y1:f≤f+c.b.length:=by omega
   have y2:f+c.b.length-f=c.b.length:=by omega
   have e1:=eT _ x3
   obtain⟨k0,s0,cl0,b0,w0,m0⟩:=c;dsimp only at is w3 x2 y1 y2 hs e1;simp only[NQ,KJ,bX,CM,cX,DM,go_sem,splice,hlt',hg,ZF,is,flr,lfm,hlk,gf,hlt,w3,x2,y1,y2,lml,ms,w2];exact⟨k+1,by rw[e1],by omega,by omega⟩
  | false=>
   have is:(decide (c.k=7)||decide (c.k=8))=false:=by
    cases q:(decide (c.k=7)||decide (c.k=8)) with
    | false=>rfl
    | true=>
     have:c.k=7∨c.k=8:=by simpa using q
     rw[nH.2 this]at hs;cases hs
   have e1:=eT _ (qn hs)
   obtain⟨k0,s0,cl0,b0,w0,m0⟩:=c;dsimp only at is hs e1;simp only[NQ,KJ,bX,CM,cX,DM,go_sem,splice,hlt',hg,ZF,is,lml,ms,w2];exact⟨k+1,by rw[e1],by omega,by omega⟩
 ·have ek:k=l.length:=by omega
  subst ek;have e1:RV.take l.length=RV:=List.take_of_length_le (by omega)
  rw[e1]at lml ⊢;have wf:win (RV.map PV.str) 0 l.length=RV.map PV.str:=QE lml
  have hH6:h.length≤H.length+6:=by omega
  simp only[NQ,KJ,z2t,vQ,go_sem,Nat.lt_irrefl,lml,wf,hT0,hH6]
end Go.Am
end
section
/- A register is read by scans,plainly. -/
open Go
set_option linter.all false
set_option maxRecDepth 100000
namespace Go.Am
def mk8 (b:List UInt8):Cmd:=⟨8,0,0,b,[],[]⟩
theorem p14:eA 1 4=[49,48,48]:=by kernel_rfl
theorem p51:eA 5 1=[49,48]:=by kernel_rfl
theorem p011:eA 0 11=[48,49,49,48,48]:=by kernel_rfl
theorem p121:eA 12 1=[49,48]:=by kernel_rfl
end Go.Am
end
section
/- A chain shifts asv one register,plainly. -/
open Go
set_option linter.all false
set_option maxRecDepth 100000
namespace Go.Am
def zB:List PA→List UInt8
 | []=>[]
 | p::ps=>zB ps++p.2
theorem z0k:∀ (ps:List PA) (b:UInt8),(∀ p∈ps,p.2≠[])→(LC ps b).2::zB (LC ps b).1=zB ps++[b]
 | [],b,_=>rfl
 | p::ps,b,h=>by
  cases hp:p.2 with
  | nil=>exact absurd hp (h p List.mem_cons_self)
  | cons x t=>
   have ih:=z0k ps x (fun q hq=>h q (List.mem_cons_of_mem _ hq))
   have e1:LC (p::ps) b=((p.1,p.2.tail++[b])::(LC ps (p.2.headD 0)).1,(LC ps (p.2.headD 0)).2):=rfl
   rw[e1,hp];show(LC ps x).2::(zB (LC ps x).1++(t++[b]))=zB ps++p.2++[b]
   rw[←List.cons_append,ih,hp];simp
theorem z0l:∀ (ps:List PA) (b:UInt8),(∀ p∈ps,p.2≠[])→(LC ps b).1.map Prod.fst=ps.map Prod.fst∧(LC ps b).1.map (fun p=>p.2.length)=ps.map (fun p=>p.2.length)
 | [],_,_=>⟨rfl,rfl⟩
 | p::ps,b,h=>by
  obtain⟨a1,a2⟩:=z0l ps (p.2.headD 0) (fun q hq=>h q (List.mem_cons_of_mem _ hq))
  have hp:=List.length_pos_iff.2 (h p List.mem_cons_self)
  refine⟨?_,?_⟩
  ·show p.1::(LC ps (p.2.headD 0)).1.map Prod.fst=_
   rw[a1];rfl
  ·show(p.2.tail++[b]).length::(LC ps (p.2.headD 0)).1.map (fun p=>p.2.length)=_
   rw[a2];have:(p.2.tail++[b]).length=p.2.length:=by simp;omega
   rw[this];rfl
theorem z49 {ps qs:List PA}(h:ps.map (fun p=>p.2.length)=qs.map (fun p=>p.2.length))(hq:∀ p∈qs,p.2≠[]):∀p∈ps,p.2≠[]:=fun p hp e=>by
 have:p.2.length∈qs.map (fun p=>p.2.length):=by rw[←h];exact List.mem_map.2 ⟨p,hp,rfl⟩
 obtain⟨q,hq1,hq2⟩:=List.mem_map.1 this;rw[e]at hq2;exact hq q hq1 (List.length_eq_zero_iff.1 hq2)
theorem z68 (ds:List TDev)(st:Nat)(h4:st=4∨st=11):∀(bs:List UInt8) (ps:List PA),ps.length=ds.length→(∀p∈ps,p.2≠[]) →
 uB ds st ps ((zs bs.length).zip bs)=(zB ps++bs).take bs.length∧∃qs,RH ds st ps ((zs bs.length).zip bs)=(st,qs)∧zB qs=(zB ps++bs).drop bs.length∧qs.map Prod.fst=ps.map Prod.fst∧qs.map (fun p=>p.2.length)=ps.map (fun p=>p.2.length)
 | [],ps,_,_=>⟨by simp [zs,uB],ps,by simp [zs,RH],by simp,rfl,rfl⟩
 | b::bs,ps,hl,hn=>by
  have hst:stW st 48=st:=by rcases h4 with e|e <;> subst e <;> rfl
  have e0:(zs (b::bs).length).zip (b::bs)=(48,b)::(zs bs.length).zip bs:=rfl
  have e1:=pV h4 (ds:=ds) b hl
  have f:=z0k ps b hn
  obtain⟨k1,k2⟩:=z0l ps b hn;have hl2:(LC ps b).1.length=ds.length:=by have:=congrArg List.length k1;simpa [hl] using this
  obtain⟨a1,qs,a2,a3,a4,a5⟩:=z68 ds st h4 bs (LC ps b).1 hl2 (z49 k2 hn);have ff:zB ps++b::bs=(LC ps b).2::(zB (LC ps b).1++bs):=by
   rw[←List.cons_append,f];simp
  rw[e0,ff];simp only[uB,RH,e1,hst,a1,aG,if_pos h4];exact⟨rfl,qs,a2,a3,a4.trans k1,a5.trans k2⟩
theorem z6x (ds:List TDev)(st:Nat)(h4:st=4∨st=11)(bs:List UInt8)(ps:List PA)(hl:ps.length=ds.length)(hn:∀ p∈ps,p.2≠[])(hb:(zB ps).length=bs.length)(hp:1≤bs.length)(r:List (UInt8 × UInt8)) :
 ∃qs:List PA,uB ds st ps ((zs (bs.length-1)++[49]).zip bs++r)=zB ps++uB ds (st+1) qs r∧zB qs=bs∧qs.map Prod.fst=ps.map Prod.fst∧qs.map (fun p=>p.2.length)=ps.map (fun p=>p.2.length):=by
 have hb0:bs≠[]:=fun e=>by rw[e]at hp;simp at hp
 obtain⟨ini,x,rfl⟩:∃ini x,bs=ini++[x]:=⟨bs.dropLast,bs.getLast hb0,(List.dropLast_concat_getLast hb0).symm⟩;have hin:(ini++[x]).length-1=ini.length:=by simp
 have hfl:(zB ps).length=ini.length+1:=by rw[hb];simp
 have ez:(zs ((ini++[x]).length-1)++[49]).zip (ini++[x])=(zs ini.length).zip ini++[(49,x)]:=by
  rw[hin,List.zip_append (by simp [zs])];rfl
 obtain⟨a1,qs,a2,a3,a4,a5⟩:=z68 ds st h4 ini ps hl hn;have hl2:qs.length=ds.length:=by have:=congrArg List.length a4;simpa [hl] using this
 have hn2:=z49 a5 hn
 have hst:stW st 49=st+1:=by rcases h4 with e|e <;> subst e <;> rfl
 have e1:=pV h4 (ds:=ds) x hl2
 have f:=z0k qs x hn2
 obtain⟨k1,k2⟩:=z0l qs x hn2;refine⟨(LC qs x).1,?_,?_,k1.trans a4,k2.trans a5⟩
 ·rw[ez,List.append_assoc,z5H,a1,a2]
  show _++uB ds st qs ((49,x)::r)=_
  simp only[uB,e1,hst,aG,if_pos h4];have hd:zB qs=[(zB ps)[ini.length]'(by omega)]++ini:=by
   rw[a3,List.drop_append_of_le_length (by omega),List.drop_eq_getElem_cons (by omega),List.drop_eq_nil_of_le (by omega)]
  rw[hd]at f;have f1:(LC qs x).2=(zB ps)[ini.length]'(by omega):=by
   simp only[List.cons_append,List.nil_append,List.cons.injEq]at f;exact f.1
  rw[f1,List.take_append_of_le_length (by omega)]
  have:(zB ps).take ini.length++[(zB ps)[ini.length]'(by omega)]=zB ps:=by
   rw[←List.take_succ_eq_append_getElem (by omega),List.take_of_length_le (by omega)]
  conv=>rhs;rw[←this]
  rw[List.append_assoc];rfl
 ·have hd:zB qs=[(zB ps)[ini.length]'(by omega)]++ini:=by
   rw[a3,List.drop_append_of_le_length (by omega),List.drop_eq_getElem_cons (by omega),List.drop_eq_nil_of_le (by omega)]
  rw[hd]at f;simp only[List.cons_append,List.nil_append,List.cons.injEq]at f;exact f.2
end Go.Am
end
section
/- Scans of a chain,plainly. -/
open Go
set_option linter.all false
set_option maxRecDepth 100000
namespace Go.Am
theorem z0T {st:Nat}(h:st≠0∧st≠3∧st≠10∧st≠15):∀{ds:List TDev} {ps:List PA},ps.length=ds.length→dB st ds ps=ps
 | [],[],_=>rfl
 | d::ds,p::ps,hl=>by
  have e:fG st d p=p:=by unfold fG;rw[if_neg h.1,if_neg h.2.1,if_neg h.2.2.1,if_neg h.2.2.2]
  simp only[dB,e,z0T h (show ps.length=ds.length by simpa using hl)]
 | [],_::_,hl=>by simp at hl
 | _::_,[],hl=>by simp at hl
theorem gG {st:Nat}(h:st≠0∧st≠3∧st≠10∧st≠15)(h4:¬ (st=4∨st=11)){ds:List TDev}{ps:List PA}(b:UInt8)(hl:ps.length=ds.length):SD st ds ps b=(ps,b):=by
 rw[kJ h4 b hl,z0T h hl]
theorem jJ {st:Nat}:∀{ds:List TDev} {ps:List PA},ps.length=ds.length→(dB st ds ps).length=ds.length
 | [],[],_=>rfl
 | d::ds,p::ps,hl=>by simp only[dB,List.length_cons,jJ (show ps.length=ds.length by simpa using hl)]
 | [],_::_,hl=>by simp at hl
 | _::_,[],hl=>by simp at hl
theorem z0S:∀ {ds:List TDev} {ps:List PA},ps.length=ds.length→(dB 3 ds ps).map Prod.fst=ps.map Prod.fst
 | [],[],_=>rfl
 | d::ds,p::ps,hl=>by
  have e:(fG 3 d p).1=p.1:=rfl
  simp only[dB,List.map_cons,e,z0S (show ps.length=ds.length by simpa using hl)]
 | [],_::_,hl=>by simp at hl
 | _::_,[],hl=>by simp at hl
theorem zb2 (ds:List TDev)(ps:List PA)(hl:ps.length=ds.length)(hn:∀ p∈dB 3 ds ps,p.2≠[])(bs:List UInt8)(hb:(zB (dB 3 ds ps)).length=bs.length)(hp:1≤bs.length)(r:List (UInt8 × UInt8)) :
 ∃qs:List PA,uB ds 1 ps (([49,48,48]++(zs (bs.length-1)++[49])++[49,48]).zip (zs 3++bs++zs 2)++r)=[122,122,122]++zB (dB 3 ds ps)++[122,122]++uB ds 1 qs r∧qs.map Prod.fst=ps.map Prod.fst:=by
 have ez:([49,48,48]++(zs (bs.length-1)++[49])++[49,48]).zip (zs 3++bs++zs 2)=[(49,48),(48,48),(48,48)]++(zs (bs.length-1)++[49]).zip bs++[(49,48),(48,48)]:=by
  rw[List.zip_append (by simp [zs];omega),List.zip_append (by simp [zs])]
  rfl
 have hl3:=jJ (st:=3) hl
 obtain⟨qs,q1,q2,q3,q4⟩:=z6x ds 4 (.inl rfl) bs (dB 3 ds ps) hl3 hn hb hp ([(49,48),(48,48)]++r);have hlq:qs.length=ds.length:=by have:=congrArg List.length q3;simpa [hl3] using this
 refine⟨qs,?_,q3.trans (z0S hl)⟩;have a1:=gG (st:=1) (by decide) (by decide) (ds:=ds) (ps:=ps) 48 hl
 have a2:=gG (st:=2) (by decide) (by decide) (ds:=ds) (ps:=ps) 48 hl
 have a3:=kJ (st:=3) (by decide) (ds:=ds) (ps:=ps) 48 hl
 have a5:=gG (st:=5) (by decide) (by decide) (ds:=ds) (ps:=qs) 48 hlq
 have a8:=gG (st:=8) (by decide) (by decide) (ds:=ds) (ps:=qs) 48 hlq
 have s1:stW 1 49=2:=rfl
 have s2:stW 2 48=3:=rfl
 have s3:stW 3 48=4:=rfl
 have s5:stW 5 49=8:=rfl
 have s8:stW 8 48=1:=rfl
 rw[ez,List.append_assoc,List.append_assoc];simp only[List.cons_append,List.nil_append,uB,a1,a2,a3,s1,s2,s3];simp only[List.cons_append,List.nil_append]at q1;rw[q1];simp only[uB,a5,a8,s5,s8];simp [aG]
theorem ze6 (ds:List TDev)(ps:List PA)(hl:ps.length=ds.length)(hn:∀ p∈dB 10 ds (dB 0 ds ps),p.2≠[])(bs:List UInt8)(hb:(zB (dB 10 ds (dB 0 ds ps))).length=bs.length)(hp:1≤bs.length)(r:List (UInt8 × UInt8)) :
 ∃qs:List PA,uB ds 0 ps (([48,49,49,48,48]++(zs (bs.length-1)++[49])++[49,48]).zip (zs 5++bs++zs 2)++r)=[122,122,122,122,122]++zB (dB 10 ds (dB 0 ds ps))++[122,122]++uB ds 1 (dB 15 ds qs) r∧zB qs=bs∧qs.map (fun p=>p.2.length)=(dB 10 ds (dB 0 ds ps)).map (fun p=>p.2.length):=by
 have ez:([48,49,49,48,48]++(zs (bs.length-1)++[49])++[49,48]).zip (zs 5++bs++zs 2)=[(48,48),(49,48),(49,48),(48,48),(48,48)]++(zs (bs.length-1)++[49]).zip bs++[(49,48),(48,48)]:=by
  rw[List.zip_append (by simp [zs];omega),List.zip_append (by simp [zs])]
  rfl
 have hl0:=jJ (st:=0) hl
 have hl10:=jJ (st:=10) hl0
 obtain⟨qs,q1,q2,q3,q4⟩:=z6x ds 11 (.inr rfl) bs (dB 10 ds (dB 0 ds ps)) hl10 hn hb hp ([(49,48),(48,48)]++r);have hlq:qs.length=ds.length:=by have:=congrArg List.length q3;simpa [hl10] using this
 refine⟨qs,?_,q2,q4⟩;have a0:=kJ (st:=0) (by decide) (ds:=ds) (ps:=ps) 48 hl
 have a1:=gG (st:=1) (by decide) (by decide) (ds:=ds) (ps:=dB 0 ds ps) 48 hl0
 have a2:=gG (st:=2) (by decide) (by decide) (ds:=ds) (ps:=dB 0 ds ps) 48 hl0
 have a9:=gG (st:=9) (by decide) (by decide) (ds:=ds) (ps:=dB 0 ds ps) 48 hl0
 have a10:=kJ (st:=10) (by decide) (ds:=ds) (ps:=dB 0 ds ps) 48 hl0
 have a12:=gG (st:=12) (by decide) (by decide) (ds:=ds) (ps:=qs) 48 hlq
 have a15:=kJ (st:=15) (by decide) (ds:=ds) (ps:=qs) 48 hlq
 have s0:stW 0 48=1:=rfl
 have s1:stW 1 49=2:=rfl
 have s2:stW 2 49=9:=rfl
 have s9:stW 9 48=10:=rfl
 have s10:stW 10 48=11:=rfl
 have s12:stW 12 49=15:=rfl
 have s15:stW 15 48=1:=rfl
 rw[ez,List.append_assoc,List.append_assoc];simp only[List.cons_append,List.nil_append,uB,a0,a1,a2,a9,a10,s0,s1,s2,s9,s10];simp only[List.cons_append,List.nil_append]at q1;rw[q1];simp only[uB,a12,a15,s12,s15];simp [aG]
theorem z3I:∀ {ps qs:List PA},zB ps=zB qs→ps.map (fun p=>p.2.length)=qs.map (fun p=>p.2.length)→ps.map Prod.snd=qs.map Prod.snd
 | [],[],_,_=>rfl
 | p::ps,q::qs,h,hl=>by
  simp only[List.map_cons,List.cons.injEq]at hl ⊢;obtain⟨a,b⟩:=List.append_inj' h hl.1;exact⟨b,z3I a hl.2⟩
 | [],_::_,_,hl=>by simp at hl
 | _::_,[],_,hl=>by simp at hl
end Go.Am
end
section
/- Codes of a chain,plainly. -/
open Go
set_option linter.all false
set_option maxRecDepth 100000
namespace Go.Am
def VA (n:Nat):List UInt8:=List.replicate n 49
theorem z40 {d:TDev}:∀{xs pre:List TIns},ZC d pre xs=0→∀x∈xs,x.code.contains 48=true
 | [],_,_,x,hx=>by cases hx
 | y::xs,pre,h,x,hx=>by
  unfold ZC at h;by_cases h0:BB d pre y≠0
  ·rw[if_pos h0]at h;exact absurd h h0
  rw[if_neg h0]at h;have h0:BB d pre y=0:=by omega
  rcases List.mem_cons.1 hx with e|e
  ·subst e
   unfold BB at h0;split at h0
   ·cases h0
   split at h0
   ·cases h0
   split at h0
   ·cases h0
   rename_i h3;simpa using h3
  ·exact z40 h x e
theorem CX (code:List UInt8)(n0:List UInt8):∀(l:List TIns),(∀x∈l,x.code≠code)→l.foldl (fun n (x:TIns)=>if x.code=code then x.reg else n) n0=n0
 | [],_=>rfl
 | x::l,h=>by
  rw[List.foldl_cons,if_neg (h x List.mem_cons_self)];exact CX code n0 l fun y hy=>h y (List.mem_cons_of_mem _ hy)
theorem zaV {d:TDev}(h:∀ x∈d.ins,x.code.contains 48=true){n:Nat}(hn:1≤n):kD d (VA n)=[48]:=by
 have hne:VA n≠[]:=fun e=>by have:=congrArg List.length e;simp [VA]at this;omega
 have hno:∀x∈d.ins,x.code≠VA n:=fun x hx e=>by
  have:=h x hx;rw[e]at this;simp [VA]at this
 have e:TB d (VA n)=⟨mB,1⟩:=by
  unfold TB wF;rw[if_neg hne,CX _ _ _ hno];rfl
 unfold kD;rw[e];rfl
end Go.Am
end
section
/- The reference: bits that are shifted. -/
open Go
set_option linter.all false
namespace Go.Am
variable {h:aA} {K:jA}
attribute [-go_sem] OA splice
end Go.Am
end
section
/- A register is read by scans,plainly: whole programs. -/
open Go
set_option linter.all false
set_option maxRecDepth 100000
namespace Go.Am
end Go.Am
end
