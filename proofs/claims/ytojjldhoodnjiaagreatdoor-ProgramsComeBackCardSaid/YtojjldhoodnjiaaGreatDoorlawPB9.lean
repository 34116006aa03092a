/- Texts of the proof, laid together: SpVec2, SpVec12, SpVec13, SpVec14, SpVec15, SpVec3, SpSortO, SpGenF, SpVec4, SpVec4b, SpVec4c, SpVec4d, SpVec4e, SpVec5, SpVec6, SpVec7, SpVec8, SpVec9, SpVec10, SpVec11, SpVec16, SpVec17, SpVTxt, SpVTxtQ, SpVRead, SpVReadQ, SpEach, SpFltR, SpFltR2, SpFltR3, SpChg, SpGenA2, SpDelF, SpGenF2, SpInts, SpFltE, SpVec19, SpVec20, SpGenV. -/
import Derived.Test.YtojjldhoodnjiaaGreatDoorlawPB8
set_option linter.all false
section
/- A command's fault on both sides. -/
open Go
set_option linter.all false
namespace Go.Am
variable {h:Heap} {K:Post}
theorem eqs6 {k s cl k' s' cl':Int} {b w m b' w' m':List UInt8}:eqs [.int .i64 k,.int .i64 s,.int .i64 cl,.str b,.str w,.str m] [.int .i64 k',.int .i64 s',.int .i64 cl',.str b',.str w',.str m']=some (decide ((⟨k,s,cl,b,w,m⟩:Cmd)=⟨k',s',cl',b',w',m'⟩)):=by
 by_cases e1:k=k' <;> by_cases e2:s=s' <;> by_cases e3:cl=cl' <;> by_cases e4:b=b' <;> by_cases e5:w=w' <;> by_cases e6:m=m' <;> simp [eqs,PV.eq1,e1,e2,e3,e4,e5,e6]
def zjI (c:Cmd):Nat:=
 if c.k=1∨c.k=2∨c.k=10 then (if !z08 c.s then 1 else 0)
 else if c.k=9 then (if c.cl<0∨20000<c.cl then 1 else 0)
 else if c.k=7∨c.k=8 then z2Q c
 else (if !z0Q c.b then 9 else if 2000<c.b.length then 2 else 0)
def zm9 (c:Cmd):Cmd:=
 if c.k=1∨c.k=2∨c.k=10 then { c with s:=0 }
 else if c.k=9 then { c with cl:=0 }
 else if c.k=7∨c.k=8 then { c with b:=[],w:=[],m:=[] }
 else { c with b:=[] }
theorem zmR {c:Cmd} (h:1≤c.k∧c.k≤10):cmdF c=if zjI c≠0 then zjI c else if zm9 c=⟨c.k,0,0,[],[],[]⟩ then 0 else 3:=by
 obtain⟨k,s,cl,b,w,m⟩:=c
 unfold cmdF zjI zm9
 dsimp only at h ⊢
 by_cases h1:k=1∨k=2∨k=10
 ·simp only[if_pos h1]
  rcases z08 s with _ | _ <;> simp [Cmd.mk.injEq]
 simp only[if_neg h1]
 by_cases h2:k=9
 ·simp only[if_pos h2]
  by_cases h3:cl<0∨20000<cl <;> simp [h3,Cmd.mk.injEq]
 simp only[if_neg h2]
 by_cases h3:k=7∨k=8
 ·simp only[if_pos h3]
  by_cases h4:z2Q ⟨k,s,cl,b,w,m⟩=0 <;> simp [h4,Cmd.mk.injEq]
 simp only[if_neg h3]
 rw[if_pos (by omega)]
 rcases z0Q b with _ | _
 ·simp
 ·by_cases h4:2000<b.length <;> simp [h4,Cmd.mk.injEq]
theorem zdh {c:Cmd} (h:¬ (1≤c.k∧c.k≤10)):cmdF c=4:=by
 unfold cmdF
 rw[if_neg (by omega),if_neg (by omega),if_neg (by omega),if_neg (by omega)]
theorem len2 (n:Nat):n+1+1=n+2:=rfl
set_option maxHeartbeats 4000000 in
theorem zgr (c:Cmd) (hc:CmdOk c):z0c X z8P [ACm c] h K=K (.tup [ACm (zm9 c),AI (zjI c:Nat)]) h []:=by
 refine rule ?_
 rw[c_q06e rfl]
 have b1:=hc.b;have b2:=hc.w;have b3:=hc.m
 have k1:=fun (h':Heap) (K':Post)=>zcp (h:=h') (K:=K') c.b (show c.b.length≤1000000 by omega)
 have k2:=fun (h':Heap) (K':Post)=>y0A (h:=h') (K:=K') c hc
 obtain⟨k,s,cl,b,w,m⟩:=c
 simp only at b1 b2 b3 k1 k2
 unfold zjI zm9
 dsimp only
 by_cases h1:k=1
 ·rcases hs:z08 s with _ | _ <;> (simp only[z2S,go_sem,len2,h1,zcx,hs];simp [h1,hs])
 by_cases h2:k=2
 ·rcases hs:z08 s with _ | _ <;> (simp only[z2S,go_sem,len2,h1,h2,zcx,hs];simp [h1,h2,hs])
 by_cases h3:k=10
 ·rcases hs:z08 s with _ | _ <;> (simp only[z2S,go_sem,len2,h1,h2,h3,zcx,hs];simp [h1,h2,h3,hs])
 by_cases h4:k=9
 ·by_cases g1:cl<0
  ·(simp only[z2S,go_sem,len2,h1,h2,h3,h4,z7H,g1];simp [h1,h2,h3,h4,g1])
  ·by_cases g2:20000<cl
   ·(simp only[z2S,go_sem,len2,h1,h2,h3,h4,z7H,g1,g2];simp [h1,h2,h3,h4,g1,g2])
   ·(simp only[z2S,go_sem,len2,h1,h2,h3,h4,z7H,g1,g2];simp [h1,h2,h3,h4,g1,g2])
 by_cases h5:k=7
 ·subst h5
  (simp only[z2S,go_sem,len2,z2d,k2];simp [len2])
 by_cases h6:k=8
 ·subst h6
  (simp only[z2S,go_sem,len2,z2d,k2];simp [len2])
 rcases hb:z0Q b with _ | _
 ·(simp only[z2S,go_sem,len2,h1,h2,h3,h4,h5,h6,z2d,k1,hb];simp [h1,h2,h3,h4,h5,h6,hb])
 ·by_cases h7:2000<b.length
  ·have h7':(2000:Int)<(b.length:Int):=by omega
   (simp only[z2S,go_sem,len2,h1,h2,h3,h4,h5,h6,z2d,k1,hb,h7,h7'];simp [h1,h2,h3,h4,h5,h6,hb,h7])
  ·have h7':¬ (2000:Int)<(b.length:Int):=by omega
   (simp only[z2S,go_sem,len2,h1,h2,h3,h4,h5,h6,z2d,k1,hb,h7,h7'];simp [h1,h2,h3,h4,h5,h6,hb,h7])
end Go.Am
end
section
/- The program: a run in the heap;a clock. -/
open Go
set_option linter.all false
namespace Go.Am
variable {h l:Heap} {K:Post} {r:Run}
attribute [-go_sem] oEqa splice
def rc (s:Sett) (st ck ni nd:Int) (a b c d e:AV) (w:Bool):List AV:=
 [AI s.e1.k,AI s.e1.s,AI s.e1.cl,AS s.e1.b,AS s.e1.w,AS s.e1.m,AI s.e2.k,AI s.e2.s,AI s.e2.cl,AS s.e2.b,AS s.e2.w,AS s.e2.m,
  AI s.h1.k,AI s.h1.s,AI s.h1.cl,AS s.h1.b,AS s.h1.w,AS s.h1.m,AI s.t1.k,AI s.t1.s,AI s.t1.cl,AS s.t1.b,AS s.t1.w,AS s.t1.m,
  AI s.h2.k,AI s.h2.s,AI s.h2.cl,AS s.h2.b,AS s.h2.w,AS s.h2.m,AI s.t2.k,AI s.t2.s,AI s.t2.cl,AS s.t2.b,AS s.t2.w,AS s.t2.m,
  AI st,AI ck,AI ni,AI nd,a,b,c,d,e,AB w]
section
variable {s:Sett} {st ck ni nd x:Int} {a b c d e o:AV} {w:Bool}
theorem zio:(rc s st ck ni nd a b c d e w).length=46:=(rfl)
theorem zin:z7d (rc s st ck ni nd a b c d e w)=false:=(rfl)
theorem rc_1:(rc s st ck ni nd a b c d e w)[1]?=some (AI s.e1.s):=(rfl)
theorem rc_7:(rc s st ck ni nd a b c d e w)[7]?=some (AI s.e2.s):=(rfl)
theorem zvB:(rc s st ck ni nd a b c d e w)[15]?=some (AS s.h1.b):=(rfl)
theorem zvC:(rc s st ck ni nd a b c d e w)[21]?=some (AS s.t1.b):=(rfl)
theorem zvD:(rc s st ck ni nd a b c d e w)[27]?=some (AS s.h2.b):=(rfl)
theorem zvE:(rc s st ck ni nd a b c d e w)[33]?=some (AS s.t2.b):=(rfl)
theorem zsI:(rc s st ck ni nd a b c d e w)[36]?=some (AI st):=(rfl)
theorem zgm:(rc s st ck ni nd a b c d e w)[37]?=some (AI ck):=(rfl)
theorem zsJ:(rc s st ck ni nd a b c d e w)[38]?=some (AI ni):=(rfl)
theorem zsK:(rc s st ck ni nd a b c d e w)[39]?=some (AI nd):=(rfl)
theorem zsL:(rc s st ck ni nd a b c d e w)[40]?=some a:=(rfl)
theorem zsM:(rc s st ck ni nd a b c d e w)[41]?=some b:=(rfl)
theorem zsN:(rc s st ck ni nd a b c d e w)[42]?=some c:=(rfl)
theorem zsO:(rc s st ck ni nd a b c d e w)[43]?=some d:=(rfl)
theorem zsP:(rc s st ck ni nd a b c d e w)[44]?=some e:=(rfl)
theorem zvF:(rc s st ck ni nd a b c d e w)[45]?=some (AB w):=(rfl)
theorem zip:splice (rc s st ck ni nd a b c d e w) 36 [AI x]=rc s x ck ni nd a b c d e w:=(rfl)
theorem ziq:splice (rc s st ck ni nd a b c d e w) 37 [AI x]=rc s st x ni nd a b c d e w:=(rfl)
theorem zir:splice (rc s st ck ni nd a b c d e w) 38 [AI x]=rc s st ck x nd a b c d e w:=(rfl)
theorem zis:splice (rc s st ck ni nd a b c d e w) 39 [AI x]=rc s st ck ni x a b c d e w:=(rfl)
theorem zit:splice (rc s st ck ni nd a b c d e w) 40 [o]=rc s st ck ni nd o b c d e w:=(rfl)
theorem ziu:splice (rc s st ck ni nd a b c d e w) 41 [o]=rc s st ck ni nd a o c d e w:=(rfl)
theorem ziv:splice (rc s st ck ni nd a b c d e w) 42 [o]=rc s st ck ni nd a b o d e w:=(rfl)
theorem ziw:splice (rc s st ck ni nd a b c d e w) 43 [o]=rc s st ck ni nd a b c o e w:=(rfl)
theorem zix:splice (rc s st ck ni nd a b c d e w) 44 [o]=rc s st ck ni nd a b c d o w:=(rfl)
variable {q:Cmd}
theorem rcs_0:splice (rc s st ck ni nd a b c d e w) 0 [AI q.k,AI q.s,AI q.cl,AS q.b,AS q.w,AS q.m]=rc { s with e1:=q } st ck ni nd a b c d e w:=(rfl)
theorem rcs_6:splice (rc s st ck ni nd a b c d e w) 6 [AI q.k,AI q.s,AI q.cl,AS q.b,AS q.w,AS q.m]=rc { s with e2:=q } st ck ni nd a b c d e w:=(rfl)
theorem zy3:splice (rc s st ck ni nd a b c d e w) 12 [AI q.k,AI q.s,AI q.cl,AS q.b,AS q.w,AS q.m]=rc { s with h1:=q } st ck ni nd a b c d e w:=(rfl)
theorem zy4:splice (rc s st ck ni nd a b c d e w) 18 [AI q.k,AI q.s,AI q.cl,AS q.b,AS q.w,AS q.m]=rc { s with t1:=q } st ck ni nd a b c d e w:=(rfl)
theorem zy5:splice (rc s st ck ni nd a b c d e w) 24 [AI q.k,AI q.s,AI q.cl,AS q.b,AS q.w,AS q.m]=rc { s with h2:=q } st ck ni nd a b c d e w:=(rfl)
theorem zy6:splice (rc s st ck ni nd a b c d e w) 30 [AI q.k,AI q.s,AI q.cl,AS q.b,AS q.w,AS q.m]=rc { s with t2:=q } st ck ni nd a b c d e w:=(rfl)
end
abbrev eN (n:Nat):PV:=eI n
def rh (h:Heap) (r:Run) (l:Heap):Heap:=h ++ .row none (r.sts.map eN) 0 :: .row none (r.frs.map eN) 0 :: .row none (z0o r.tms) 0 :: .row none (z0o r.tdi) 0 :: .row none (z0o r.want) 0 ::
 .box (rc r.se r.st r.ck r.ni r.nd (.own h.length r.sts.length 0 r.sts.length) (.own (h.length+1) r.frs.length 0 r.frs.length) (.own (h.length+2) r.tms.length 0 r.tms.length) (.own (h.length+3) r.tdi.length 0 r.tdi.length) (.own (h.length+4) r.want.length 0 r.want.length) r.wr)::l
structure RunOk (r:Run):Prop where
 t:r.tms.length≤r.ck
 i:r.tdi.length≤r.ck
 w:r.want.length≤r.ck
theorem z2J {L:List (UInt8 × UInt8 × UInt8)} (R:RunOk r):RunOk (r.clk L):=by
 unfold Run.clk
 have:=R.t;have:=R.i;have:=R.w
 split <;> (refine⟨?_,?_,?_⟩ <;> simp <;> omega)
attribute [local go_sem] zio zin rc_1 rc_7 zvB zvC zvD zvE zsI zgm zsJ zsK zsL zsM zsN zsO zsP zvF zip ziq zir zis zit ziu ziv ziw zix
set_option maxHeartbeats 2000000 in
theorem zct (R:RunOk r) (hck:r.ck≤1000000000) (a b c:UInt8):z0c X z4u [.ref (h.length+5) 0,.p (.int .u8 a.toNat),.p (.int .u8 b.toNat),.p (.int .u8 c.toNat)] (rh h r l) K=K (.tup []) (rh h (r.clk [(a,b,c)]) l) []:=by
 refine rule ?_
 rw[c_q06j rfl]
 have hr:=R.t;have:=R.i;have:=R.w
 have w1:IntKind.i64.wrap ((r.ck:Int)+1)=((r.ck+1:Nat):Int):=z0j _ (by omega) (by omega)
 obtain⟨se,st,ck,ni,nd,sts,frs,tms,tdi,want,wr⟩:=r
 dsimp only at *
 unfold rh Run.clk
 have m1:tms.length+1≤z0J:=by unfold z0J;omega
 have m2:tdi.length+1≤z0J:=by unfold z0J;omega
 have m3:want.length+1≤z0J:=by unfold z0J;omega
 have e2:∀ k n o m,k<5→z3c (h.length+5) (.own (h.length+k) n o m)=[]:=fun k n o m hk=>by unfold z3c;rw[zgx,if_neg (by omega)]
 have e3:=fun n o m=>e2 2 n o m (by decide)
 have e4:=fun n o m=>e2 3 n o m (by decide)
 have e5:=fun n o m=>e2 4 n o m (by decide)
 cases wr with
 | false=>simp only[zhz,go_sem,w1]
 | true=>
  simp only[zhz,go_sem,w1,z4V,m1,m2,m3,e3,e4,e5,List.take_length]
  simp [z0o]
end Go.Am
end
section
/- The program: a walk. -/
open Go
set_option linter.all false
namespace Go.Am
variable {h l l2:Heap} {K:Post} {r:Run} {n:Nat} {o:Obj}
attribute [-go_sem] oEqa splice
attribute [local go_sem] zio zin rc_1 rc_7 zvB zvC zvD zvE zsI zgm zsJ zsK zsL zsM zsN zsO zsP zvF zip ziq zir zis zit ziu ziv ziw zix rcs_0 rcs_6 zy3 zy4 zy5 zy6
theorem zbf:(rh h r l).length=h.length+(l.length+6):=by unfold rh;simp
theorem zfh:rh h r l++l2=rh h r (l++l2):=by unfold rh;simp
theorem zbe:(rh h r l)[h.length+(n+6)]?=l[n]?:=by unfold rh;rw[z3I];rfl
theorem zbg:(rh h r l).set (h.length+(n+6)) o=rh h r (l.set n o):=by unfold rh;rw[z7Z];rfl
theorem z7i:(rh h r l).take (h.length+(n+6))=rh h r (l.take n):=by unfold rh;rw[zb7];rfl
theorem z6I:(rh h r l).take h.length=h:=by unfold rh;rw[z8a]
theorem zbd:(rh h r l)[h.length+5]?=some (.box (rc r.se r.st r.ck r.ni r.nd (.own h.length r.sts.length 0 r.sts.length) (.own (h.length+1) r.frs.length 0 r.frs.length) (.own (h.length+2) r.tms.length 0 r.tms.length) (.own (h.length+3) r.tdi.length 0 r.tdi.length) (.own (h.length+4) r.want.length 0 r.want.length) r.wr)):=by unfold rh;rw[z3I];rfl
section
variable {s:Sett} {x y z:Nat}
theorem zfi:(rh h r l).set (h.length+5) (.box (rc s x r.ck y z (.own h.length r.sts.length 0 r.sts.length) (.own (h.length+1) r.frs.length 0 r.frs.length) (.own (h.length+2) r.tms.length 0 r.tms.length) (.own (h.length+3) r.tdi.length 0 r.tdi.length) (.own (h.length+4) r.want.length 0 r.want.length) r.wr))=rh h { r with se:=s,st:=x,ni:=y,nd:=z } l:=by unfold rh;rw[z7Z];rfl
end
attribute [local go_sem] zbf zfh zbe zbg z7i z6I zbd zfi
theorem zbE:r.clk []=r:=by unfold Run.clk;split <;> simp
theorem z7J {L:List (UInt8 × UInt8 × UInt8)} {x:UInt8 × UInt8 × UInt8}:(r.clk L).clk [x]=r.clk (L++[x]):=by
 unfold Run.clk
 cases hw:r.wr <;> simp [hw,Nat.add_assoc]
theorem zdf {L:List (UInt8 × UInt8 × UInt8)}:(r.clk L).ck=r.ck+L.length:=(z2f r L).2.2.2.2.2.1
theorem z3T {tov:Nat} (R:RunOk r):RunOk (r.go z0f tov):=by
 have Q:=z2J (L:=(z0f r.st tov).map fun c=>(c,48,120)) R
 exact⟨Q.t,Q.i,Q.w⟩
theorem zgc {tov:Nat}:(r.go z0f tov).ck=r.ck+(z0f r.st tov).length:=(z07 z0f r tov).2.2.2.2.2.1
set_option maxHeartbeats 2000000 in
theorem zbu (R:RunOk r) (hck:r.ck≤900000000) (hf:r.st∈frS) {tov:Nat} (ht:tov∈toS):z0c X z3p [.ref (h.length+5) 0,AI tov] (rh h r l) K=K (.tup []) (rh h (r.go z0f tov) l) []:=by
 refine rule ?_
 rw[c_q06m rfl]
 have to16:tov<16:=by simp only[toS,List.mem_cons,List.not_mem_nil,or_false] at ht;omega
 have hp:=fun (h':Heap) (K':Post)=>s_Path (h:=h') (K:=K') (fr_lt hf) to16
 obtain⟨pb,pl,_⟩:=z02 hf ht
 have hgo:r.go z0f tov={ r.clk ((z0f r.st tov).map fun c=>(c,48,120)) with st:=tov }:=rfl
 rw[hgo]
 simp only[zh0,go_sem,hp]
 generalize z0f r.st tov=w at pl ⊢
 refine z0Y (fun k:Nat=>⟨[(0,.ref (h.length+5) 0),(1,AI tov),(4,AS w),(17,AI w.length),(18,AI k)],rh h (r.clk ((w.take k).map fun c=>(c,48,120))) l,[]⟩) (fun k=>k≤w.length) (fun k=>w.length-k) 0 (by rw[List.take_zero,List.map_nil,zbE];rfl) (by omega) ?_
 intro k hk
 have hc:=fun (a:UInt8) (K':Post)=>zct (h:=h) (l:=l) (K:=K') (z2J (L:=(w.take k).map fun c=>(c,48,120)) R) (by rw[zdf];simp;omega) a 48 120
 rcases Nat.lt_or_ge k w.length with hlt | hge
 ·have w2:IntKind.i64.wrap ((k:Int)+1)=((k+1:Nat):Int):=z0j _ (by omega) (by omega)
  have hg:w[k]?=some w[k]:=List.getElem?_eq_getElem hlt
  have hlt':(k:Int)<(w.length:Int):=by omega
  have hc':=fun (K':Post)=>hc w[k] K'
  simp only[show (((48:UInt8).toNat:Nat):Int)=48 from rfl,show (((120:UInt8).toNat:Nat):Int)=120 from rfl] at hc'
  simp only[go_sem,hlt,hlt',hg,w2,hc']
  refine⟨k+1,?_,by omega,by omega⟩
  rw[z7J,List.take_succ_eq_append_getElem hlt,List.map_append];rfl
 ·obtain rfl:k=w.length:=by omega
  have hs:=(z2f r ((w.map fun c=>((c,48,120):UInt8 × UInt8 × UInt8)))).1
  simp only[go_sem,Nat.lt_irrefl,Int.lt_irrefl,List.take_length]
end Go.Am
end
section
/- The program: a scan. -/
open Go
set_option linter.all false
namespace Go.Am
variable {h l l2:Heap} {K:Post} {r:Run} {n:Nat} {o:Obj}
attribute [-go_sem] oEqa splice
attribute [local go_sem] zio zin rc_1 rc_7 zvB zvC zvD zvE zsI zgm zsJ zsK zsL zsM zsN zsO zsP zvF zip ziq zir zis zit ziu ziv ziw zix rcs_0 rcs_6 zy3 zy4 zy5 zy6
attribute [local go_sem] zbf zfh zbe zbg z7i z6I zbd zfi
def RunN (r:Run):Prop:=r.ni≤r.ck∧r.nd≤r.ck
theorem z7k {tov:Nat} (N:RunN r):RunN (r.go z0f tov):=by
 obtain⟨_,_,_,_,_,c,a,b⟩:=z07 z0f r tov
 obtain⟨x,y⟩:=N
 exact⟨by rw[a,c];omega,by rw[b,c];omega⟩
structure SetR (s:Sett):Prop where
 s1:z08 s.e1.s=true
 s2:z08 s.e2.s=true
 h1:s.h1.b.length≤2000
 t1:s.t1.b.length≤2000
 h2:s.h2.b.length≤2000
 t2:s.t2.b.length≤2000
theorem zfu {c:Cmd} {hd al:List UInt8} {k:Nat} (hk:k<al.length):(z0R c hd al)[k]?=some (if k=al.length-1 then 49 else 48,al[k],if hd.length≤k then (if k-hd.length<c.m.length then z3N c (k-hd.length) else 120) else 120):=by
 unfold z0R
 rw[List.getElem?_map,List.getElem?_range hk,Option.map_some,List.getElem?_eq_getElem hk];rfl
theorem ztz {c:Cmd} (h7:c.k=7):r.scn z0f c=Run.go z0f { Run.clk { r.go z0f 11 with ni:=(r.go z0f 11).ni+(r.se.h1.b++c.b++r.se.t1.b).length } (z0R c r.se.h1.b (r.se.h1.b++c.b++r.se.t1.b)) with st:=12 } r.se.e1.s.toNat∧r.scnF z0f c=(r.go z0f 11).ck+r.se.h1.b.length:=by
 unfold Run.scn Run.scnF
 simp [h7]
set_option maxHeartbeats 4000000 in
theorem zwd (R:RunOk r) (N:RunN r) (hck:r.ck≤800000000) (hst:r.st∈stb) (S:SetR r.se) (c:Cmd) (h7:c.k=7) (hs:z2Q c=0):z0c X z6c [.ref (h.length+5) 0,ACm c] (rh h r l) K=K (AI (r.scnF z0f c:Nat)) (rh h (r.scn z0f c) l) []:=by
 refine rule ?_
 rw[zxo rfl,(ztz h7).1,(ztz h7).2]
 have hw1:=fun (l:Heap) (K':Post)=>zbu (h:=h) (l:=l) (K:=K') R (by omega) (z1s hst) (show 11∈toS by decide)
 simp only[show (((11:Nat)):Int)=11 from rfl] at hw1
 have R1:=z3T (tov:=11) R
 have c1:(r.go z0f 11).ck≤800000008:=by have:=(z02 (z1s hst) (show 11∈toS by decide)).2.1;rw[zgc];omega
 have N1:=z7k (tov:=11) N
 generalize r.go z0f 11=r1 at *
 obtain⟨q1,q2,q3,q4,q5,q6⟩:=z1B hs
 obtain⟨n1,n2⟩:=z04 S.s1
 have hh:=S.h1;have ht:=S.t1
 generalize hhd:r.se.h1.b=hd at *
 generalize htl:r.se.t1.b=tl at *
 generalize hen:r.se.e1.s=en at *
 obtain⟨en',rfl⟩:∃ n:Nat,en=n:=⟨en.toNat,n2.symm⟩
 simp only[Int.toNat_natCast] at n1 n2 ⊢
 obtain⟨k,s,cl,b,w,m⟩:=c
 dsimp only at h7 q1 q3 q6 ⊢
 subst h7
 have hbp:=List.length_pos_iff.2 q1
 have x1:hd.length+b.length≤z0n:=by unfold z0n;omega
 have x2:hd.length+(b.length+tl.length)≤z0n:=by unfold z0n;omega
 have x3:hd.length+b.length+tl.length≤z0n:=by unfold z0n;omega
 obtain⟨hn,hd'⟩:=N1
 obtain⟨al,hal⟩:∃ al,al=hd++b++tl:=⟨_,rfl⟩
 have hall:al.length=hd.length+b.length+tl.length:=by rw[hal];simp;omega
 have hal2:=hal
 rw[List.append_assoc] at hal2
 have w1:IntKind.i64.wrap ((r1.ni:Int)+(al.length:Int))=((r1.ni+al.length:Nat):Int):=z0j _ (by omega) (by omega)
 have w2:IntKind.i64.wrap ((r1.ck:Int)+(hd.length:Int))=((r1.ck+hd.length:Nat):Int):=z0j _ (by omega) (by omega)
 simp only[zes,go_sem,hw1,hhd,htl,hen,x1,x2,x3,← hal,← hal2,w1,w2]
 have R2:RunOk { r1 with ni:=r1.ni+al.length }:=⟨R1.t,R1.i,R1.w⟩
 have c2:{ r1 with ni:=r1.ni+al.length:Run }.ck=r1.ck:=rfl
 show z1a (z0c X) X.gl _ _ _ (rh h { r1 with ni:=r1.ni+al.length } _) []
 generalize { r1 with ni:=r1.ni+al.length:Run }=r2 at R2 c2 ⊢
 generalize hq:(⟨7,s,cl,b,w,m⟩:Cmd)=c at *
 have hcm:c.m=m:=by rw[← hq]
 have hcw:c.w=w:=by rw[← hq]
 have hml:m.length≤b.length∧m.length≤w.length:=by
  rcases q6 with ⟨e1,e2⟩ | ⟨e1,e2⟩
  ·rw[e2];exact⟨Nat.zero_le _,Nat.zero_le _⟩
  ·omega
 have hal0:0<al.length:=by omega
 refine z0Y (fun k:Nat=>⟨[(0,.ref (h.length+5) 0),(3,.ref (h.length+(l.length+6)) 0),(5,AS hd),(7,AI en'),(9,AI 12),(10,AS al),(11,AI (r1.ck+hd.length:Nat)),(93,AI al.length),(94,AI k)],
  rh h (r2.clk ((z0R c hd al).take k)) (l++[.box [AI 7,AI s,AI cl,AS b,AS w,AS m]]),[]⟩) (fun k=>k≤al.length) (fun k=>al.length-k) 0 (by rw[List.take_zero,zbE];rfl) (by omega) ?_
 intro k hk
 have hlen:(z0R c hd al).length=al.length:=z2k c hd al
 have R3:=z2J (L:=(z0R c hd al).take k) R2
 have c3:(r2.clk ((z0R c hd al).take k)).ck≤900000000:=by rw[zdf,c2,List.length_take];omega
 rcases Nat.lt_or_ge k al.length with hlt | hge
 ·have w3:IntKind.i64.wrap ((k:Int)+1)=((k+1:Nat):Int):=z0j _ (by omega) (by omega)
  have w4:IntKind.i64.wrap ((al.length:Int)-1)=((al.length-1:Nat):Int):=by
   rw[show (al.length:Int)-1=((al.length-1:Nat):Int) by omega];exact z0j _ (by omega) (by omega)
  have hlt':(k:Int)<(al.length:Int):=by omega
  have hg:al[k]?=some al[k]:=List.getElem?_eq_getElem hlt
  have hcl:=fun (t v:UInt8) (K':Post)=>zct (h:=h) (l:=l++[.box [AI 7,AI s,AI cl,AS b,AS w,AS m]]) (K:=K') R3 (by omega) t al[k] v
  have hsg:=zfu (c:=c) (hd:=hd) hlt
  have hstep:∀ t v:UInt8,(z0R c hd al)[k]?=some (t,al[k],v)→(r2.clk ((z0R c hd al).take k)).clk [(t,al[k],v)]=r2.clk ((z0R c hd al).take (k+1)):=fun t v e=>by
   rw[z7J,List.take_succ,e];rfl
  have e48:(((48:UInt8).toNat:Nat):Int)=48:=rfl
  have e49:(((49:UInt8).toNat:Nat):Int)=49:=rfl
  have e120:(((120:UInt8).toNat:Nat):Int)=120:=rfl
  generalize r2.clk ((z0R c hd al).take k)=r3 at R3 c3 hcl hstep ⊢
  -- what is expected
  by_cases hk0:hd.length≤k
  ·have w5:IntKind.i64.wrap ((k:Int)-(hd.length:Int))=((k-hd.length:Nat):Int):=by
    rw[show (k:Int)-(hd.length:Int)=((k-hd.length:Nat):Int) by omega];exact z0j _ (by omega) (by omega)
   have z0:(0:Int)≤((k-hd.length:Nat):Int):=by omega
   rw[if_pos hk0] at hsg
   by_cases hm:k-hd.length<m.length
   ·have hm':((k-hd.length:Nat):Int)<(m.length:Int):=by omega
    rw[hcm,if_pos hm] at hsg
    have hgm:m[k-hd.length]?=some m[k-hd.length]:=List.getElem?_eq_getElem hm
    have hgw:w[k-hd.length]?=some (w[k-hd.length]'(by omega)):=List.getElem?_eq_getElem (by omega)
    by_cases h49:m[k-hd.length]=49
    ·have hx:z3N c (k-hd.length)=w[k-hd.length]'(by omega):=by unfold z3N;rw[hcm,hgm,h49,if_pos rfl,hcw,hgw];rfl
     rw[hx] at hsg
     by_cases hl1:k=al.length-1
     ·have hl2:((k:Int)=((al.length-1:Nat):Int))=True:=eq_true (by omega)
      have hcl1:=fun K'=>hcl 49 (w[k-hd.length]'(by omega)) K'
      rw[if_pos hl1] at hsg
      rw[e49] at hcl1
      simp only[go_sem,hlt,hlt',hg,w3,w4,w5,z0,hm,hm',hgm,hgw,h49,e49,hl2,hcl1]
      exact⟨k+1,by rw[hstep _ _ hsg],by omega,by omega⟩
     ·have hl2:((k:Int)=((al.length-1:Nat):Int))=False:=eq_false (by omega)
      have hcl1:=fun K'=>hcl 48 (w[k-hd.length]'(by omega)) K'
      rw[if_neg hl1] at hsg
      rw[e48] at hcl1
      simp only[go_sem,hlt,hlt',hg,w3,w4,w5,z0,hm,hm',hgm,hgw,h49,e49,hl2,hcl1]
      exact⟨k+1,by rw[hstep _ _ hsg],by omega,by omega⟩
    ·have hx:z3N c (k-hd.length)=120:=by unfold z3N;rw[hcm,hgm,if_neg (fun e=>h49 (Option.some.inj e))]
     rw[hx] at hsg
     have h49':¬ ((m[k-hd.length].toNat:Int)=49):=fun e=>h49 (UInt8.toNat_inj.1 (by rw[show (49:UInt8).toNat=49 from rfl];omega))
     by_cases hl1:k=al.length-1
     ·have hl2:((k:Int)=((al.length-1:Nat):Int))=True:=eq_true (by omega)
      have hcl1:=fun K'=>hcl 49 120 K'
      rw[if_pos hl1] at hsg
      rw[e49] at hcl1
      rw[e120] at hcl1
      simp only[go_sem,hlt,hlt',hg,w3,w4,w5,z0,hm,hm',hgm,h49',hl2,hcl1]
      exact⟨k+1,by rw[hstep _ _ hsg],by omega,by omega⟩
     ·have hl2:((k:Int)=((al.length-1:Nat):Int))=False:=eq_false (by omega)
      have hcl1:=fun K'=>hcl 48 120 K'
      rw[if_neg hl1] at hsg
      rw[e48] at hcl1
      rw[e120] at hcl1
      simp only[go_sem,hlt,hlt',hg,w3,w4,w5,z0,hm,hm',hgm,h49',hl2,hcl1]
      exact⟨k+1,by rw[hstep _ _ hsg],by omega,by omega⟩
   ·have hm':¬ ((k-hd.length:Nat):Int)<(m.length:Int):=by omega
    rw[hcm,if_neg hm] at hsg
    by_cases hl1:k=al.length-1
    ·have hl2:((k:Int)=((al.length-1:Nat):Int))=True:=eq_true (by omega)
     have hcl1:=fun K'=>hcl 49 120 K'
     rw[if_pos hl1] at hsg
     rw[e49] at hcl1
     rw[e120] at hcl1
     simp only[go_sem,hlt,hlt',hg,w3,w4,w5,z0,hm,hm',hl2,hcl1]
     exact⟨k+1,by rw[hstep _ _ hsg],by omega,by omega⟩
    ·have hl2:((k:Int)=((al.length-1:Nat):Int))=False:=eq_false (by omega)
     have hcl1:=fun K'=>hcl 48 120 K'
     rw[if_neg hl1] at hsg
     rw[e48] at hcl1
     rw[e120] at hcl1
     simp only[go_sem,hlt,hlt',hg,w3,w4,w5,z0,hm,hm',hl2,hcl1]
     exact⟨k+1,by rw[hstep _ _ hsg],by omega,by omega⟩
  ·have w5:IntKind.i64.wrap ((k:Int)-(hd.length:Int))=(k:Int)-(hd.length:Int):=z0j _ (by omega) (by omega)
   have z0:¬ (0:Int)≤(k:Int)-(hd.length:Int):=by omega
   rw[if_neg hk0] at hsg
   by_cases hl1:k=al.length-1
   ·have hl2:((k:Int)=((al.length-1:Nat):Int))=True:=eq_true (by omega)
    have hcl1:=fun K'=>hcl 49 120 K'
    rw[if_pos hl1] at hsg
    rw[e49] at hcl1
    rw[e120] at hcl1
    simp only[go_sem,hlt,hlt',hg,w3,w4,w5,z0,hl2,hcl1]
    exact⟨k+1,by rw[hstep _ _ hsg],by omega,by omega⟩
   ·have hl2:((k:Int)=((al.length-1:Nat):Int))=False:=eq_false (by omega)
    have hcl1:=fun K'=>hcl 48 120 K'
    rw[if_neg hl1] at hsg
    rw[e48] at hcl1
    rw[e120] at hcl1
    simp only[go_sem,hlt,hlt',hg,w3,w4,w5,z0,hl2,hcl1]
    exact⟨k+1,by rw[hstep _ _ hsg],by omega,by omega⟩
 ·obtain rfl:k=al.length:=by omega
  have e1:(z0R c hd al).take al.length=z0R c hd al:=by rw[← hlen];exact List.take_length
  rw[e1] at R3 c3
  simp only[go_sem,Nat.lt_irrefl,Int.lt_irrefl,e1]
  generalize r2.clk (z0R c hd al)=r3 at R3 c3 ⊢
  have hw2:=fun (l:Heap) (K':Post)=>zbu (h:=h) (l:=l) (K:=K') (r:={ r3 with st:=12 }) ⟨R3.t,R3.i,R3.w⟩ c3 (show 12∈frS by decide) (z2m n1)
  have hp:=fun l=>zfi (h:=h) (l:=l) (r:=r3) (s:=r3.se) (x:=12) (y:=r3.ni) (z:=r3.nd)
  simp only[show ((12:Nat):Int)=12 from rfl] at hp
  simp only[go_sem,hp,hw2]
theorem zty {c:Cmd} (h7:c.k=8):r.scn z0f c=Run.go z0f { Run.clk { r.go z0f 4 with nd:=(r.go z0f 4).nd+(r.se.h2.b++c.b++r.se.t2.b).length } (z0R c r.se.h2.b (r.se.h2.b++c.b++r.se.t2.b)) with st:=5 } r.se.e2.s.toNat∧r.scnF z0f c=(r.go z0f 4).ck+r.se.h2.b.length:=by
 unfold Run.scn Run.scnF
 simp [h7]
set_option maxHeartbeats 4000000 in
theorem zwb (R:RunOk r) (N:RunN r) (hck:r.ck≤800000000) (hst:r.st∈stb) (S:SetR r.se) (c:Cmd) (h7:c.k=8) (hs:z2Q c=0):z0c X z6c [.ref (h.length+5) 0,ACm c] (rh h r l) K=K (AI (r.scnF z0f c:Nat)) (rh h (r.scn z0f c) l) []:=by
 refine rule ?_
 rw[zxo rfl,(zty h7).1,(zty h7).2]
 have hw1:=fun (l:Heap) (K':Post)=>zbu (h:=h) (l:=l) (K:=K') R (by omega) (z1s hst) (show 4∈toS by decide)
 simp only[show (((4:Nat)):Int)=4 from rfl] at hw1
 have R1:=z3T (tov:=4) R
 have c1:(r.go z0f 4).ck≤800000008:=by have:=(z02 (z1s hst) (show 4∈toS by decide)).2.1;rw[zgc];omega
 have N1:=z7k (tov:=4) N
 generalize r.go z0f 4=r1 at *
 obtain⟨q1,q2,q3,q4,q5,q6⟩:=z1B hs
 obtain⟨n1,n2⟩:=z04 S.s2
 have hh:=S.h2;have ht:=S.t2
 generalize hhd:r.se.h2.b=hd at *
 generalize htl:r.se.t2.b=tl at *
 generalize hen:r.se.e2.s=en at *
 obtain⟨en',rfl⟩:∃ n:Nat,en=n:=⟨en.toNat,n2.symm⟩
 simp only[Int.toNat_natCast] at n1 n2 ⊢
 obtain⟨k,s,cl,b,w,m⟩:=c
 dsimp only at h7 q1 q3 q6 ⊢
 subst h7
 have hbp:=List.length_pos_iff.2 q1
 have x1:hd.length+b.length≤z0n:=by unfold z0n;omega
 have x2:hd.length+(b.length+tl.length)≤z0n:=by unfold z0n;omega
 have x3:hd.length+b.length+tl.length≤z0n:=by unfold z0n;omega
 obtain⟨hn,hd'⟩:=N1
 obtain⟨al,hal⟩:∃ al,al=hd++b++tl:=⟨_,rfl⟩
 have hall:al.length=hd.length+b.length+tl.length:=by rw[hal];simp;omega
 have hal2:=hal
 rw[List.append_assoc] at hal2
 have w1:IntKind.i64.wrap ((r1.nd:Int)+(al.length:Int))=((r1.nd+al.length:Nat):Int):=z0j _ (by omega) (by omega)
 have w2:IntKind.i64.wrap ((r1.ck:Int)+(hd.length:Int))=((r1.ck+hd.length:Nat):Int):=z0j _ (by omega) (by omega)
 simp only[zes,go_sem,hw1,hhd,htl,hen,x1,x2,x3,← hal,← hal2,w1,w2]
 have R2:RunOk { r1 with nd:=r1.nd+al.length }:=⟨R1.t,R1.i,R1.w⟩
 have c2:{ r1 with nd:=r1.nd+al.length:Run }.ck=r1.ck:=rfl
 show z1a (z0c X) X.gl _ _ _ (rh h { r1 with nd:=r1.nd+al.length } _) []
 generalize { r1 with nd:=r1.nd+al.length:Run }=r2 at R2 c2 ⊢
 generalize hq:(⟨8,s,cl,b,w,m⟩:Cmd)=c at *
 have hcm:c.m=m:=by rw[← hq]
 have hcw:c.w=w:=by rw[← hq]
 have hml:m.length≤b.length∧m.length≤w.length:=by
  rcases q6 with ⟨e1,e2⟩ | ⟨e1,e2⟩
  ·rw[e2];exact⟨Nat.zero_le _,Nat.zero_le _⟩
  ·omega
 have hal0:0<al.length:=by omega
 refine z0Y (fun k:Nat=>⟨[(0,.ref (h.length+5) 0),(3,.ref (h.length+(l.length+6)) 0),(5,AS hd),(7,AI en'),(9,AI 5),(10,AS al),(11,AI (r1.ck+hd.length:Nat)),(93,AI al.length),(94,AI k)],
  rh h (r2.clk ((z0R c hd al).take k)) (l++[.box [AI 8,AI s,AI cl,AS b,AS w,AS m]]),[]⟩) (fun k=>k≤al.length) (fun k=>al.length-k) 0 (by rw[List.take_zero,zbE];rfl) (by omega) ?_
 intro k hk
 have hlen:(z0R c hd al).length=al.length:=z2k c hd al
 have R3:=z2J (L:=(z0R c hd al).take k) R2
 have c3:(r2.clk ((z0R c hd al).take k)).ck≤900000000:=by rw[zdf,c2,List.length_take];omega
 rcases Nat.lt_or_ge k al.length with hlt | hge
 ·have w3:IntKind.i64.wrap ((k:Int)+1)=((k+1:Nat):Int):=z0j _ (by omega) (by omega)
  have w4:IntKind.i64.wrap ((al.length:Int)-1)=((al.length-1:Nat):Int):=by
   rw[show (al.length:Int)-1=((al.length-1:Nat):Int) by omega];exact z0j _ (by omega) (by omega)
  have hlt':(k:Int)<(al.length:Int):=by omega
  have hg:al[k]?=some al[k]:=List.getElem?_eq_getElem hlt
  have hcl:=fun (t v:UInt8) (K':Post)=>zct (h:=h) (l:=l++[.box [AI 8,AI s,AI cl,AS b,AS w,AS m]]) (K:=K') R3 (by omega) t al[k] v
  have hsg:=zfu (c:=c) (hd:=hd) hlt
  have hstep:∀ t v:UInt8,(z0R c hd al)[k]?=some (t,al[k],v)→(r2.clk ((z0R c hd al).take k)).clk [(t,al[k],v)]=r2.clk ((z0R c hd al).take (k+1)):=fun t v e=>by
   rw[z7J,List.take_succ,e];rfl
  have e48:(((48:UInt8).toNat:Nat):Int)=48:=rfl
  have e49:(((49:UInt8).toNat:Nat):Int)=49:=rfl
  have e120:(((120:UInt8).toNat:Nat):Int)=120:=rfl
  generalize r2.clk ((z0R c hd al).take k)=r3 at R3 c3 hcl hstep ⊢
  -- what is expected
  by_cases hk0:hd.length≤k
  ·have w5:IntKind.i64.wrap ((k:Int)-(hd.length:Int))=((k-hd.length:Nat):Int):=by
    rw[show (k:Int)-(hd.length:Int)=((k-hd.length:Nat):Int) by omega];exact z0j _ (by omega) (by omega)
   have z0:(0:Int)≤((k-hd.length:Nat):Int):=by omega
   rw[if_pos hk0] at hsg
   by_cases hm:k-hd.length<m.length
   ·have hm':((k-hd.length:Nat):Int)<(m.length:Int):=by omega
    rw[hcm,if_pos hm] at hsg
    have hgm:m[k-hd.length]?=some m[k-hd.length]:=List.getElem?_eq_getElem hm
    have hgw:w[k-hd.length]?=some (w[k-hd.length]'(by omega)):=List.getElem?_eq_getElem (by omega)
    by_cases h49:m[k-hd.length]=49
    ·have hx:z3N c (k-hd.length)=w[k-hd.length]'(by omega):=by unfold z3N;rw[hcm,hgm,h49,if_pos rfl,hcw,hgw];rfl
     rw[hx] at hsg
     by_cases hl1:k=al.length-1
     ·have hl2:((k:Int)=((al.length-1:Nat):Int))=True:=eq_true (by omega)
      have hcl1:=fun K'=>hcl 49 (w[k-hd.length]'(by omega)) K'
      rw[if_pos hl1] at hsg
      rw[e49] at hcl1
      simp only[go_sem,hlt,hlt',hg,w3,w4,w5,z0,hm,hm',hgm,hgw,h49,e49,hl2,hcl1]
      exact⟨k+1,by rw[hstep _ _ hsg],by omega,by omega⟩
     ·have hl2:((k:Int)=((al.length-1:Nat):Int))=False:=eq_false (by omega)
      have hcl1:=fun K'=>hcl 48 (w[k-hd.length]'(by omega)) K'
      rw[if_neg hl1] at hsg
      rw[e48] at hcl1
      simp only[go_sem,hlt,hlt',hg,w3,w4,w5,z0,hm,hm',hgm,hgw,h49,e49,hl2,hcl1]
      exact⟨k+1,by rw[hstep _ _ hsg],by omega,by omega⟩
    ·have hx:z3N c (k-hd.length)=120:=by unfold z3N;rw[hcm,hgm,if_neg (fun e=>h49 (Option.some.inj e))]
     rw[hx] at hsg
     have h49':¬ ((m[k-hd.length].toNat:Int)=49):=fun e=>h49 (UInt8.toNat_inj.1 (by rw[show (49:UInt8).toNat=49 from rfl];omega))
     by_cases hl1:k=al.length-1
     ·have hl2:((k:Int)=((al.length-1:Nat):Int))=True:=eq_true (by omega)
      have hcl1:=fun K'=>hcl 49 120 K'
      rw[if_pos hl1] at hsg
      rw[e49] at hcl1
      rw[e120] at hcl1
      simp only[go_sem,hlt,hlt',hg,w3,w4,w5,z0,hm,hm',hgm,h49',hl2,hcl1]
      exact⟨k+1,by rw[hstep _ _ hsg],by omega,by omega⟩
     ·have hl2:((k:Int)=((al.length-1:Nat):Int))=False:=eq_false (by omega)
      have hcl1:=fun K'=>hcl 48 120 K'
      rw[if_neg hl1] at hsg
      rw[e48] at hcl1
      rw[e120] at hcl1
      simp only[go_sem,hlt,hlt',hg,w3,w4,w5,z0,hm,hm',hgm,h49',hl2,hcl1]
      exact⟨k+1,by rw[hstep _ _ hsg],by omega,by omega⟩
   ·have hm':¬ ((k-hd.length:Nat):Int)<(m.length:Int):=by omega
    rw[hcm,if_neg hm] at hsg
    by_cases hl1:k=al.length-1
    ·have hl2:((k:Int)=((al.length-1:Nat):Int))=True:=eq_true (by omega)
     have hcl1:=fun K'=>hcl 49 120 K'
     rw[if_pos hl1] at hsg
     rw[e49] at hcl1
     rw[e120] at hcl1
     simp only[go_sem,hlt,hlt',hg,w3,w4,w5,z0,hm,hm',hl2,hcl1]
     exact⟨k+1,by rw[hstep _ _ hsg],by omega,by omega⟩
    ·have hl2:((k:Int)=((al.length-1:Nat):Int))=False:=eq_false (by omega)
     have hcl1:=fun K'=>hcl 48 120 K'
     rw[if_neg hl1] at hsg
     rw[e48] at hcl1
     rw[e120] at hcl1
     simp only[go_sem,hlt,hlt',hg,w3,w4,w5,z0,hm,hm',hl2,hcl1]
     exact⟨k+1,by rw[hstep _ _ hsg],by omega,by omega⟩
  ·have w5:IntKind.i64.wrap ((k:Int)-(hd.length:Int))=(k:Int)-(hd.length:Int):=z0j _ (by omega) (by omega)
   have z0:¬ (0:Int)≤(k:Int)-(hd.length:Int):=by omega
   rw[if_neg hk0] at hsg
   by_cases hl1:k=al.length-1
   ·have hl2:((k:Int)=((al.length-1:Nat):Int))=True:=eq_true (by omega)
    have hcl1:=fun K'=>hcl 49 120 K'
    rw[if_pos hl1] at hsg
    rw[e49] at hcl1
    rw[e120] at hcl1
    simp only[go_sem,hlt,hlt',hg,w3,w4,w5,z0,hl2,hcl1]
    exact⟨k+1,by rw[hstep _ _ hsg],by omega,by omega⟩
   ·have hl2:((k:Int)=((al.length-1:Nat):Int))=False:=eq_false (by omega)
    have hcl1:=fun K'=>hcl 48 120 K'
    rw[if_neg hl1] at hsg
    rw[e48] at hcl1
    rw[e120] at hcl1
    simp only[go_sem,hlt,hlt',hg,w3,w4,w5,z0,hl2,hcl1]
    exact⟨k+1,by rw[hstep _ _ hsg],by omega,by omega⟩
 ·obtain rfl:k=al.length:=by omega
  have e1:(z0R c hd al).take al.length=z0R c hd al:=by rw[← hlen];exact List.take_length
  rw[e1] at R3 c3
  simp only[go_sem,Nat.lt_irrefl,Int.lt_irrefl,e1]
  generalize r2.clk (z0R c hd al)=r3 at R3 c3 ⊢
  have hw2:=fun (l:Heap) (K':Post)=>zbu (h:=h) (l:=l) (K:=K') (r:={ r3 with st:=5 }) ⟨R3.t,R3.i,R3.w⟩ c3 (show 5∈frS by decide) (z2m n1)
  have hp:=fun l=>zfi (h:=h) (l:=l) (r:=r3) (s:=r3.se) (x:=5) (y:=r3.ni) (z:=r3.nd)
  simp only[show ((5:Nat):Int)=5 from rfl] at hp
  simp only[go_sem,hp,hw2]
end Go.Am
end
section
/- The program: a step. -/
open Go
set_option linter.all false
namespace Go.Am
variable {h l l2:Heap} {K:Post} {r:Run} {n:Nat} {o:Obj} {x:Esc}
attribute [-go_sem] oEqa splice z4n
attribute [local go_sem] zio zin rc_1 rc_7 zvB zvC zvD zvE zsI zgm zsJ zsK zsL zsM zsN zsO zsP zvF zip ziq zir zis zit ziu ziv ziw zix
section
variable {s:Sett} {st ck ni nd:Int} {a b c d e:AV} {w:Bool} {q1 q2 q3:Int} {q4 q5 q6:List UInt8}
theorem rct_0:splice (rc s st ck ni nd a b c d e w) 0 [AI q1,AI q2,AI q3,AS q4,AS q5,AS q6]=rc { s with e1:=⟨q1,q2,q3,q4,q5,q6⟩ } st ck ni nd a b c d e w:=(rfl)
theorem rct_6:splice (rc s st ck ni nd a b c d e w) 6 [AI q1,AI q2,AI q3,AS q4,AS q5,AS q6]=rc { s with e2:=⟨q1,q2,q3,q4,q5,q6⟩ } st ck ni nd a b c d e w:=(rfl)
theorem rct_12:splice (rc s st ck ni nd a b c d e w) 12 [AI q1,AI q2,AI q3,AS q4,AS q5,AS q6]=rc { s with h1:=⟨q1,q2,q3,q4,q5,q6⟩ } st ck ni nd a b c d e w:=(rfl)
theorem rct_18:splice (rc s st ck ni nd a b c d e w) 18 [AI q1,AI q2,AI q3,AS q4,AS q5,AS q6]=rc { s with t1:=⟨q1,q2,q3,q4,q5,q6⟩ } st ck ni nd a b c d e w:=(rfl)
theorem rct_24:splice (rc s st ck ni nd a b c d e w) 24 [AI q1,AI q2,AI q3,AS q4,AS q5,AS q6]=rc { s with h2:=⟨q1,q2,q3,q4,q5,q6⟩ } st ck ni nd a b c d e w:=(rfl)
theorem rct_30:splice (rc s st ck ni nd a b c d e w) 30 [AI q1,AI q2,AI q3,AS q4,AS q5,AS q6]=rc { s with t2:=⟨q1,q2,q3,q4,q5,q6⟩ } st ck ni nd a b c d e w:=(rfl)
end
attribute [local go_sem] rct_0 rct_6 rct_12 rct_18 rct_24 rct_30
def ofsK (k:Int):Nat:=if k=1 then 0 else if k=2 then 6 else if k=3 then 12 else if k=4 then 18 else if k=5 then 24 else 30
theorem s_ofK {id:Nat} (hid:id<h.length) (k:Int):z0c X z8S [.ref id 0,AI k] h K=K (.ref id (ofsK k)) h []:=by
 refine rule ?_
 rw[c_q06o rfl]
 have e1:max h.length (id+1)=h.length:=by omega
 have e2:id+1≤h.length:=by omega
 unfold ofsK
 by_cases h1:k=1
 ·simp only[z7x,go_sem,h1,e1,e2]
 by_cases h2:k=2
 ·simp only[z7x,go_sem,h1,h2,e1,e2]
 by_cases h3:k=3
 ·simp only[z7x,go_sem,h1,h2,h3,e1,e2]
 by_cases h4:k=4
 ·simp only[z7x,go_sem,h1,h2,h3,h4,e1,e2]
 by_cases h5:k=5
 ·simp only[z7x,go_sem,h1,h2,h3,h4,h5,e1,e2]
 simp only[z7x,go_sem,h1,h2,h3,h4,h5,e1,e2]
set_option maxHeartbeats 2000000 in
theorem z5T {Kx:Ex→St→Prop} (hs:r.sts.length≤100000) (hf:r.frs.length≤100000) (f:Nat):z4n (z0c X) X.gl (.ref (h.length+5) 0) (AI f) (rh h r l) x Kx=Kx .normal ⟨[],rh h { r with sts:=r.sts++[r.st],frs:=r.frs++[f] } l,x⟩:=by
 obtain⟨se,st,ck,ni,nd,sts,frs,tms,tdi,want,wr⟩:=r
 dsimp only at *
 unfold rh
 have m1:sts.length+1≤z0J:=by unfold z0J;omega
 have m2:frs.length+1≤z0J:=by unfold z0J;omega
 have e2:∀ k n o m,k<5→z3c (h.length+5) (.own (h.length+k) n o m)=[]:=fun k n o m hk=>by unfold z3c;rw[zgx,if_neg (by omega)]
 have e3:=fun n o m=>e2 0 n o m (by decide)
 have e4:=fun n o m=>e2 1 n o m (by decide)
 simp only[Nat.add_zero] at e3
 simp only[z4n,go_sem,m1,m2,e3,e4,List.length_map]
 simp
attribute [local go_sem] zbf zfh zbe zbg z7i z6I zbd zfi
theorem ziA (c:Cmd):(r.scn z0f c).sts=r.sts∧(r.scn z0f c).frs=r.frs∧(r.scn z0f c).se=r.se:=by
 unfold Run.scn
 by_cases h7:c.k=7
 ·simp only[h7,if_true]
  obtain⟨a1,a2,a3,a4,_⟩:=z07 z0f ({ Run.clk { r.go z0f 11 with ni:=(r.go z0f 11).ni+(r.se.h1.b++c.b++r.se.t1.b).length } (z0R c r.se.h1.b (r.se.h1.b++c.b++r.se.t1.b)) with st:=12 }) r.se.e1.s.toNat
  obtain⟨b1,b2,b3,b4,_⟩:=z2f { r.go z0f 11 with ni:=(r.go z0f 11).ni+(r.se.h1.b++c.b++r.se.t1.b).length } (z0R c r.se.h1.b (r.se.h1.b++c.b++r.se.t1.b))
  obtain⟨d1,d2,d3,d4,_⟩:=z07 z0f r 11
  exact⟨a3.trans (b3.trans d3),a4.trans (b4.trans d4),a1.trans (b1.trans d1)⟩
 ·simp only[h7,if_false]
  obtain⟨a1,a2,a3,a4,_⟩:=z07 z0f ({ Run.clk { r.go z0f 4 with nd:=(r.go z0f 4).nd+(r.se.h2.b++c.b++r.se.t2.b).length } (z0R c r.se.h2.b (r.se.h2.b++c.b++r.se.t2.b)) with st:=5 }) r.se.e2.s.toNat
  obtain⟨b1,b2,b3,b4,_⟩:=z2f { r.go z0f 4 with nd:=(r.go z0f 4).nd+(r.se.h2.b++c.b++r.se.t2.b).length } (z0R c r.se.h2.b (r.se.h2.b++c.b++r.se.t2.b))
  obtain⟨d1,d2,d3,d4,_⟩:=z07 z0f r 4
  exact⟨a3.trans (b3.trans d3),a4.trans (b4.trans d4),a1.trans (b1.trans d1)⟩
set_option maxHeartbeats 4000000 in
theorem s_step (R:RunOk r) (N:RunN r) (hck:r.ck≤700000000) (hst:r.st∈stb) (S:SetR r.se) (hl1:r.sts.length≤100000) (hl2:r.frs.length≤100000) (c:Cmd) (hc:cmdF c=0) :
 z0c X z8Q [.ref (h.length+5) 0,ACm c] (rh h r l) K=K (.tup []) (rh h (r.step z0f c) l) []:=by
 refine rule ?_
 rw[c_q06l rfl]
 have e0:(AI ((0:Nat):Int))=AI 0:=rfl
 have setf:∀ h1:1≤c.k∧c.k≤6,z3m (z0c X) X.gl z2G z4D (.ref (h.length+5) 0) (ACm c) (rh h r l) [] (finR [] false (rh h r l).length fun v1 h1 x1=>v1 = .tup []∧h1=rh h (r.step z0f c) l∧x1=[]):=by
  intro h1
  rw[z5h z0f h1]
  have k2:=fun (l:Heap) (x:Esc) (Kx:Ex→St→Prop)=>z5T (h:=h) (l:=l) (x:=x) (Kx:=Kx) (r:={ r with se:=r.se.put c }) hl1 hl2 0
  rw[e0] at k2
  have ho:=fun (l:Heap) (k:Int) (K':Post)=>s_ofK (h:=rh h r l) (K:=K') (id:=h.length+5) (by rw[zbf];omega) k
  obtain⟨k,s,cl,b,w,m⟩:=c
  dsimp only at h1
  have:k=1∨k=2∨k=3∨k=4∨k=5∨k=6:=by omega
  rcases this with rfl | rfl | rfl | rfl | rfl | rfl
  ·have ep:r.se.put ⟨1,s,cl,b,w,m⟩={ r.se with e1:=⟨1,s,cl,b,w,m⟩ }:=rfl
   rw[ep]
   simp only[ep] at k2
   simp only[z3m,go_sem,z1n,ho,ofsK,k2]
  ·have ep:r.se.put ⟨2,s,cl,b,w,m⟩={ r.se with e2:=⟨2,s,cl,b,w,m⟩ }:=rfl
   rw[ep]
   simp only[ep] at k2
   simp only[z3m,go_sem,z1n,ho,ofsK,k2]
  ·have ep:r.se.put ⟨3,s,cl,b,w,m⟩={ r.se with h1:=⟨3,s,cl,b,w,m⟩ }:=rfl
   rw[ep]
   simp only[ep] at k2
   simp only[z3m,go_sem,z1n,ho,ofsK,k2]
  ·have ep:r.se.put ⟨4,s,cl,b,w,m⟩={ r.se with t1:=⟨4,s,cl,b,w,m⟩ }:=rfl
   rw[ep]
   simp only[ep] at k2
   simp only[z3m,go_sem,z1n,ho,ofsK,k2]
  ·have ep:r.se.put ⟨5,s,cl,b,w,m⟩={ r.se with h2:=⟨5,s,cl,b,w,m⟩ }:=rfl
   rw[ep]
   simp only[ep] at k2
   simp only[z3m,go_sem,z1n,ho,ofsK,k2]
  ·have ep:r.se.put ⟨6,s,cl,b,w,m⟩={ r.se with t2:=⟨6,s,cl,b,w,m⟩ }:=rfl
   rw[ep]
   simp only[ep] at k2
   simp only[z3m,go_sem,z1n,ho,ofsK,k2]
 cases z0S hc with
 | set h hs e=>exact setf (by omega)
 | pad h0 h1 hb hl e=>exact setf ⟨by omega,h1⟩
 | go hk hs e=>
  rw[zcz z0f hk]
  obtain⟨g1,g2,g3,g4,g5,g6,_,_⟩:=z07 z0f r c.s.toNat
  obtain⟨n1,n2⟩:=z04 hs
  have k2:=fun (l:Heap) (x:Esc) (Kx:Ex→St→Prop)=>z5T (h:=h) (l:=l) (x:=x) (Kx:=Kx) (r:=r.go z0f c.s.toNat) (by rw[g3];exact hl1) (by rw[g4];exact hl2) 0
  rw[e0] at k2
  have hw:=fun (l:Heap) (K':Post)=>zbu (h:=h) (l:=l) (K:=K') R (by omega) (z1s hst) (z2m n1)
  obtain⟨k,s,cl,b,w,m⟩:=c
  dsimp only at hk n2 hw k2 ⊢
  subst hk
  rw[n2] at hw
  simp only[z3m,go_sem,z1n,z2d,hw,k2]
 | idle hk h0 h1 e=>
  rw[z4L z0f hk]
  obtain⟨g1,g2,g3,g4,g5,g6,_,_⟩:=z07 z0f r 1
  have hw:=fun (l:Heap) (K':Post)=>zbu (h:=h) (l:=l) (K:=K') R (by omega) (z1s hst) (show 1∈toS by decide)
  have R1:=z3T (tov:=1) R
  have c1:(r.go z0f 1).ck≤700000008:=by have:=(z02 (z1s hst) (show 1∈toS by decide)).2.1;rw[zgc];omega
  simp only[show ((1:Nat):Int)=1 from rfl] at hw
  obtain⟨k,s,cl,b,w,m⟩:=c
  dsimp only at hk h0 h1 ⊢
  subst hk
  obtain⟨n,rfl⟩:∃ n:Nat,cl=n:=⟨cl.toNat,by omega⟩
  simp only[Int.toNat_natCast]
  generalize r.go z0f 1=r1 at *
  simp only[z3m,go_sem,z1n,z2d,hw]
  refine z0Y (fun k:Nat=>⟨[(0,.ref (h.length+5) 0),(4,AI 0),(35,AI n),(36,AI k)],rh h (r1.clk (List.replicate k (48,48,120))) (l++[.box [AI 9,AI s,AI n,AS b,AS w,AS m]]),[]⟩) (fun k=>k≤n) (fun k=>n-k) 0 (by rw[List.replicate_zero,zbE];rfl) (by omega) ?_
  intro k hk
  have R2:=z2J (L:=List.replicate k (48,48,120)) R1
  rcases Nat.lt_or_ge k n with hlt | hge
  ·have w2:IntKind.i64.wrap ((k:Int)+1)=((k+1:Nat):Int):=z0j _ (by omega) (by omega)
   have hc:=fun (l:Heap) (K':Post)=>zct (h:=h) (l:=l) (K:=K') R2 (by rw[zdf,List.length_replicate];omega) 48 48 120
   simp only[show (((48:UInt8).toNat:Nat):Int)=48 from rfl,show (((120:UInt8).toNat:Nat):Int)=120 from rfl] at hc
   simp only[go_sem,hlt,w2,hc]
   exact⟨k+1,by rw[z7J,← List.replicate_succ'],by omega,by omega⟩
  ·obtain rfl:k=n:=by omega
   have q:=z2f r1 (List.replicate k (48,48,120))
   have k2:=fun (l:Heap) (x:Esc) (Kx:Ex→St→Prop)=>z5T (h:=h) (l:=l) (x:=x) (Kx:=Kx) (r:=r1.clk (List.replicate k (48,48,120))) (by rw[q.2.2.1,g3];exact hl1) (by rw[q.2.2.2.1,g4];exact hl2) 0
   rw[e0] at k2
   simp only[go_sem,Nat.lt_irrefl,k2]
 | scan hk hs e=>
  rw[z4M z0f hk]
  obtain⟨g3,g4,_⟩:=ziA (r:=r) c
  have k2:=fun (l:Heap) (x:Esc) (Kx:Ex→St→Prop)=>z5T (h:=h) (l:=l) (x:=x) (Kx:=Kx) (r:=r.scn z0f c) (by rw[g3];exact hl1) (by rw[g4];exact hl2) (r.scnF z0f c)
  have hscan:∀ (l:Heap) (K':Post),z0c X z6c [.ref (h.length+5) 0,ACm c] (rh h r l) K'=K' (AI (r.scnF z0f c:Nat)) (rh h (r.scn z0f c) l) []:=fun l K'=>by
   rcases hk with h7 | h8
   ·exact zwd R N (by omega) hst S c h7 hs
   ·exact zwb R N (by omega) hst S c h8 hs
  have f1:¬ c.k≤6:=by omega
  have f2:1≤c.k:=by omega
  have f3:(decide (c.k=7)||decide (c.k=8))=true:=by simpa using hk
  generalize r.scn z0f c=r9 at k2 hscan ⊢
  generalize r.scnF z0f c=f9 at k2 hscan ⊢
  simp only[z3m,go_sem,z1n,z2d,f1,f2,f3,hscan,k2]
end Go.Am
end
section
/- A command's fault,the reference. -/
open Go
set_option linter.all false
namespace Go.Am
variable {h:Heap} {K:Post} {Kx:Ex→St→Prop} {q q2:ACode} {k s cl k' s' cl' v9:Int} {b w m b' w' m':List UInt8} {x:Esc}
theorem eqa6 {k s cl k' s' cl':Int} {b w m b' w' m':List UInt8}:oEqa [0,0,0,2,2,2] true (.p (.agg [.int .i64 k,.int .i64 s,.int .i64 cl,.str b,.str w,.str m])) (.p (.agg [.int .i64 k',.int .i64 s',.int .i64 cl',.str b',.str w',.str m']))=some (AB (!decide ((⟨k,s,cl,b,w,m⟩:Cmd)=⟨k',s',cl',b',w',m'⟩))):=by
 unfold oEqa
 dsimp only
 rw[if_pos ⟨rfl,rfl,by simp⟩,eqs6]
 rfl
attribute [-go_sem] oEqa z22 z1y z0O z3j
abbrev cfH (h:Heap) (k s cl:Int) (b w m:List UInt8) (k' s' cl':Int) (b' w' m':List UInt8):Heap:=h++[.box [AI k,AI s,AI cl,AS b,AS w,AS m],.box [AI k',AI s',AI cl',AS b',AS w',AS m']]
theorem z6W:z3j (z0c X) X.gl (.ref h.length 0) (.ref (h.length+1) 0) (cfH h k s cl b w m k' s' cl' b' w' m') x Kx=Kx .ret ⟨[(2,AI (if (⟨k,s,cl,b,w,m⟩:Cmd)=⟨k',s',cl',b',w',m'⟩ then 0 else 3:Nat))],cfH h k s cl b w m k' s' cl' b' w' m',x⟩:=by
 by_cases he:(⟨k,s,cl,b,w,m⟩:Cmd)=⟨k',s',cl',b',w',m'⟩
 ·simp only[z3j,go_sem,eqa6,he]
 ·simp only[z3j,go_sem,eqa6,he]
theorem zzn:z0O (z0c X) X.gl q2 (.ref h.length 0) (.ref (h.length+1) 0) (AI v9) (AB true) (cfH h k s cl b w m k 0 0 [] [] []) [] Kx =
 if z08 s=true then Kx .normal ⟨[(1,.ref h.length 0),(3,.ref (h.length+1) 0),(20,AB false)],cfH h k s cl b w m k s 0 [] [] [],[]⟩ else Kx .ret ⟨[(2,AI 1)],cfH h k s cl b w m k s 0 [] [] [],[]⟩:=by
 rcases hs:z08 s with _ | _
 ·simp only[z0O,go_sem,zfr,hs,splice]
 ·simp only[z0O,go_sem,zfr,hs,splice]
theorem zuw (hb:b.length≤100000):z1y (z0c X) X.gl q (.ref h.length 0) (.ref (h.length+1) 0) (AI v9) (AB true) (cfH h k s cl b w m k 0 0 [] [] []) [] Kx =
 if z0Q b=true then (if 2000<b.length then Kx .ret ⟨[(2,AI 2)],cfH h k s cl b w m k 0 0 b [] [],[]⟩ else Kx .normal ⟨[(1,.ref h.length 0),(3,.ref (h.length+1) 0),(43,AB false)],cfH h k s cl b w m k 0 0 b [] [],[]⟩) else Kx .ret ⟨[(2,AI 9)],cfH h k s cl b w m k 0 0 b [] [],[]⟩:=by
 have k1:=fun (h':Heap) (K':Post)=>zcq (h:=h') (K:=K') b (by omega)
 rcases hs:z0Q b with _ | _
 ·simp only[z1y,go_sem,k1,hs,splice]
 ·by_cases g1:2000<b.length
  ·have g2:(2000:Int)<(b.length:Int):=by omega
   simp only[z1y,go_sem,k1,hs,g1,g2,splice]
  ·have g2:¬ (2000:Int)<(b.length:Int):=by omega
   simp only[z1y,go_sem,k1,hs,g1,g2,splice]
theorem cf_k1 (hc:CmdOk ⟨k,s,cl,b,w,m⟩):z22 (z0c X) X.gl (.ref h.length 0) (.ref (h.length+1) 0) (AB true) (cfH h k s cl b w m k 0 0 [] [] []) [] Kx =
 if z2Q ⟨k,s,cl,b,w,m⟩=0 then Kx .normal ⟨[(1,.ref h.length 0),(3,.ref (h.length+1) 0),(4,AI 0),(63,AB false)],cfH h k s cl b w m k 0 0 b w m,[]⟩ else Kx .ret ⟨[(2,AI (z2Q ⟨k,s,cl,b,w,m⟩:Nat))],cfH h k s cl b w m k 0 0 b w m,[]⟩:=by
 have k2:=fun (h':Heap) (K':Post)=>zwc (h:=h') (K:=K') ⟨k,s,cl,b,w,m⟩ hc
 by_cases g1:z2Q ⟨k,s,cl,b,w,m⟩=0
 ·simp only[z22,go_sem,k2,g1,splice]
 ·have g2:¬ ((z2Q ⟨k,s,cl,b,w,m⟩:Nat):Int)=0:=by omega
  simp only[z22,go_sem,k2,g1,g2,splice]
set_option maxHeartbeats 4000000 in
theorem z9W (c:Cmd) (hc:CmdOk c):z0c X za4 [ACm c] h K=K (AI (cmdF c:Nat)) h []:=by
 refine rule ?_
 rw[c_q03d rfl]
 have b1:=hc.b
 obtain⟨k,s,cl,b,w,m⟩:=c
 simp only at b1
 have st:∀ k,(k=1∨k=2∨k=10)→cmdF ⟨k,s,cl,b,w,m⟩=if z08 s=true then (if (⟨k,s,cl,b,w,m⟩:Cmd)=⟨k,s,0,[],[],[]⟩ then 0 else 3) else 1:=fun k hk=>by
  unfold cmdF;dsimp only;rw[if_pos hk];cases z08 s <;> simp
 have sc:∀ k,(k=7∨k=8)→cmdF ⟨k,s,cl,b,w,m⟩=if z2Q ⟨k,s,cl,b,w,m⟩=0 then (if (⟨k,s,cl,b,w,m⟩:Cmd)=⟨k,0,0,b,w,m⟩ then 0 else 3) else z2Q ⟨k,s,cl,b,w,m⟩:=fun k hk=>by
  unfold cmdF;dsimp only;rw[if_neg (by omega),if_neg (by omega),if_pos hk];split <;> simp_all
 have pd:∀ k,3≤k∧k≤6→cmdF ⟨k,s,cl,b,w,m⟩=if z0Q b=true then (if 2000<b.length then 2 else if (⟨k,s,cl,b,w,m⟩:Cmd)=⟨k,0,0,b,[],[]⟩ then 0 else 3) else 9:=fun k hk=>by
  unfold cmdF;dsimp only;rw[if_neg (by omega),if_neg (by omega),if_neg (by omega),if_pos hk];cases z0Q b <;> simp
 by_cases h1:k=1
 ·subst h1
  rw[st 1 (by omega)]
  simp only[z2p,go_sem,zzn,z6W,splice]
  split <;> simp only[go_sem,z6W] <;> rfl
 by_cases h2:k=2
 ·subst h2
  rw[st 2 (by omega)]
  simp only[z2p,go_sem,zzn,z6W,splice]
  split <;> simp only[go_sem,z6W] <;> rfl
 by_cases h10:k=10
 ·subst h10
  rw[st 10 (by omega)]
  simp only[z2p,go_sem,zzn,z6W,splice]
  split <;> simp only[go_sem,z6W] <;> rfl
 by_cases h9:k=9
 ·subst h9
  by_cases g1:0≤cl
  ·by_cases g2:cl≤20000
   ·have g3:¬ (cl<0∨20000<cl):=by omega
    rw[show cmdF ⟨9,s,cl,b,w,m⟩=if (⟨9,s,cl,b,w,m⟩:Cmd)=⟨9,0,cl,[],[],[]⟩ then 0 else 3 by simp only[cmdF,g3];simp]
    simp only[z2p,z0O,go_sem,s_in,g1,g2,z6W,splice]
   ·have g3:cl<0∨20000<cl:=by omega
    rw[show cmdF ⟨9,s,cl,b,w,m⟩=1 by simp [cmdF,g3]]
    simp only[z2p,z0O,go_sem,s_in,g1,g2,splice]
  ·have g3:cl<0∨20000<cl:=by omega
   rw[show cmdF ⟨9,s,cl,b,w,m⟩=1 by simp [cmdF,g3]]
   simp only[z2p,z0O,go_sem,s_in,g1,splice]
 by_cases h3:k=3
 ·subst h3
  rw[pd 3 (by omega)]
  simp only[z2p,z0O,go_sem,zuw (show b.length≤100000 by omega),splice]
  split
  ·split <;> simp only[go_sem,z6W] <;> rfl
  ·simp only[go_sem] <;> rfl
 by_cases h4:k=4
 ·subst h4
  rw[pd 4 (by omega)]
  simp only[z2p,z0O,go_sem,zuw (show b.length≤100000 by omega),splice]
  split
  ·split <;> simp only[go_sem,z6W] <;> rfl
  ·simp only[go_sem] <;> rfl
 by_cases h5:k=5
 ·subst h5
  rw[pd 5 (by omega)]
  simp only[z2p,z0O,go_sem,zuw (show b.length≤100000 by omega),splice]
  split
  ·split <;> simp only[go_sem,z6W] <;> rfl
  ·simp only[go_sem] <;> rfl
 by_cases h6:k=6
 ·subst h6
  rw[pd 6 (by omega)]
  simp only[z2p,z0O,go_sem,zuw (show b.length≤100000 by omega),splice]
  split
  ·split <;> simp only[go_sem,z6W] <;> rfl
  ·simp only[go_sem] <;> rfl
 by_cases h7:k=7
 ·subst h7
  rw[sc 7 (by omega)]
  simp only[z2p,z0O,z1y,go_sem,cf_k1 hc,splice]
  split <;> simp only[go_sem,z6W] <;> rfl
 by_cases h8:k=8
 ·subst h8
  rw[sc 8 (by omega)]
  simp only[z2p,z0O,z1y,go_sem,cf_k1 hc,splice]
  split <;> simp only[go_sem,z6W] <;> rfl
 rw[show cmdF ⟨k,s,cl,b,w,m⟩=4 from zdh (by dsimp only;omega)]
 simp only[z2p,z0O,z1y,z22,go_sem,h1,h2,h3,h4,h5,h6,h7,h8,h9,h10,splice]
end Go.Am
end
section
/- Sorting the middle of a row: printed by program. -/
open Go
set_option linter.unusedSimpArgs false
namespace Go.Am
attribute [-go_sem] PV.cells splice
variable {h:Heap} {K:Post}
end Go.Am
end
section
/- What is drawn: orders,tests. -/
open Go
set_option linter.all false
namespace Go.Am
variable {L:List Int} {a:Int} {h l:Heap} {id:Nat} {K:Post}
def GenK (f:Nat) (args:List AV) (L:List Int) (a:Int) (sh:Sh) (Q:List PV→Int→Prop):Prop:=∀ (h:Heap) (id:Nat),h[id]?=some (strm L a)→∃ xs a2,Q xs a2∧∀ K:Post,z0c X f (.ref id 0::args) h K=K (.own h.length xs.length 0 xs.length) (h.set id (strm L a2)++[.row sh xs 0]) []
theorem GenK.of {f:Nat} {args:List AV} {L:List Int} {a:Int} {sh:Sh} {Q:List PV→Int→Prop} (H:∀ (h:Heap) (id:Nat),id<h.length→z0c X f (.ref id 0::args) (h.set id (strm L a)) fun v1 h1 x1=>∃ xs a2,Q xs a2∧v1 = .own h.length xs.length 0 xs.length∧h1=h.set id (strm L a2)++[.row sh xs 0]∧x1=[]):GenK f args L a sh Q:=by
 intro h id hh
 have hid:=z6f hh
 have k:=H h id hid
 rw[zwh hh] at k
 obtain⟨v,h',x,⟨xs,a2,q,e0,e1,e2⟩,r⟩:=z0c.one zg4 k
 subst e0;subst e1;subst e2
 exact⟨xs,a2,q,r⟩
theorem zcs (s:List UInt8) (c:Int) (h0:0≤c) (hc:s.length*c.toNat≤1000000) (h1:c≤1000000):z0c X z1l [AS s,AI c] h K=K (AS (repL s c.toNat)) h []:=by
 refine z3P (X:=X) (by kernel_rfl) ?_
 rw[zjk]
 exact z3q (vs:=[.str s,.int .i64 c]) (by kernel_rfl) (s:=z7h) (by kernel_rfl) rfl (by simp only[z7h];rw[if_pos ⟨h0,hc,h1⟩])
end Go.Am
end
section
/- The reference: what is expected,the part of a command. -/
open Go
set_option linter.all false
namespace Go.Am
variable {h:Heap} {K:Post}
theorem zi0 (c:UInt8):∀ n,repL [c] n=List.replicate n c
 | 0=>rfl
 | n+1=>by rw[repL,zi0 c n];rfl
theorem ztn (n:Int) (h0:0≤n) (h1:n≤1000000):z0c X z1l [AS [120],AI n] h K=K (AS (xsL n.toNat)) h []:=by
 rw[zcs [120] n h0 (by simp;omega) h1,zi0];rfl
theorem zbq (n:Int) (h0:0≤n) (h1:n≤1000000):z0c X z1l [AS [48],AI n] h K=K (AS (zs n.toNat)) h []:=by
 rw[zcs [48] n h0 (by simp;omega) h1,zi0];rfl
def expI (c:Cmd) (i:Nat):List UInt8:=(List.range c.b.length).map fun j=>if j<i then z3N c j else 120
theorem expI_0 (c:Cmd):expI c 0=xsL c.b.length:=by
 unfold expI xsL
 apply List.ext_getElem
 ·simp
 ·intro i h1 h2;simp
theorem zbR (c:Cmd) (i:Nat):(expI c i).length=c.b.length:=by simp [expI]
theorem zbQ (c:Cmd):expI c c.m.length=expC c:=by
 unfold expI expC
 apply List.map_congr_left
 intro j _
 split
 ·rfl
 ·rename_i h
  unfold z3N
  rw[List.getElem?_eq_none (by omega)];rfl
theorem zpy (c:Cmd) (i:Nat) (hi:i<c.b.length):expI c (i+1)=(expI c i).set i (z3N c i):=by
 apply List.ext_getElem
 ·simp [expI]
 ·intro j h1 h2
  simp only[expI,List.length_map,List.length_range] at h1
  rw[List.getElem_set]
  simp only[expI,List.getElem_map,List.getElem_range]
  by_cases hj:i=j
  ·subst hj;simp
  ·rw[if_neg hj]
   by_cases h3:j<i
   ·rw[if_pos h3,if_pos (by omega)]
   ·rw[if_neg h3,if_neg (by omega)]
theorem zpx (c:Cmd) (i:Nat) (hn:c.m[i]?≠some 49):expI c (i+1)=expI c i:=by
 unfold expI
 apply List.map_congr_left
 intro j _
 by_cases hj:j=i
 ·subst hj
  simp [z3N,hn]
 ·by_cases h3:j<i
  ·rw[if_pos h3,if_pos (by omega)]
  ·rw[if_neg h3,if_neg (by omega)]
theorem zjY (c:Cmd) (hl:c.b.length≤100000) (hm:c.m.length≤c.b.length) (hw:c.m.length≤c.w.length):z0c X za5 [ACm c] h K=K (AS (expC c)) h []:=by
 refine rule ?_
 rw[c_q03h rfl]
 have hmx:c.b.length≤z0J:=by unfold z0J;omega
 have hx:(xsL c.b.length).length=c.b.length:=by simp [xsL]
 have r1:=fun (h':Heap) (K':Post)=>ztn (h:=h') (K:=K') (c.b.length:Int) (by omega) (by omega)
 simp only[Int.toNat_natCast] at r1
 simp only[zhp,go_sem,r1,hx,hmx]
 refine z0Y (fun i:Nat=>⟨[(1,.ref h.length 0),(3,.own (h.length+1) c.b.length 0 c.b.length),(12,AI c.m.length),(13,AI i)],h++[.box [AI c.k,AI c.s,AI c.cl,AS c.b,AS c.w,AS c.m],.row none (z0o (expI c i)) 0],[]⟩) (fun i=>i≤c.m.length) (fun i=>c.m.length-i) 0 (by rw[expI_0];rfl) (by omega) ?_
 intro i hi
 have hbl:(z0o (expI c i)).length=c.b.length:=by simp [z0o,zbR]
 rcases Nat.lt_or_ge i c.m.length with hlt | hge
 ·have hlt':(i:Int)<(c.m.length:Int):=by omega
  have hg:c.m[i]?=some c.m[i]:=List.getElem?_eq_getElem hlt
  have hgw:c.w[i]?=some (c.w[i]'(by omega)):=List.getElem?_eq_getElem (by omega)
  have w2:IntKind.i64.wrap ((i:Int)+1)=((i+1:Nat):Int):=z0j _ (by omega) (by omega)
  by_cases h49:c.m[i]=49
  ·have hb':i<c.b.length:=by omega
   have hgb:(z0o (expI c i))[i]?=some (.int .u8 ((expI c i)[i]'(by rw[zbR];omega)).toNat):=by
    unfold z0o;rw[List.getElem?_map,List.getElem?_eq_getElem (by rw[zbR];omega)];rfl
   have t1:=fun (y:Int) (h1:Heap)=>zt4 (sh:=none) (x:=.int .u8 ((c.w[i]'(by omega)).toNat:Int)) (y:=.int .u8 y) rfl rfl (h.length+1) i 0 (z0o (expI c i)) h1
   have e49:((49:UInt8).toNat:Int)=49:=rfl
   simp only[go_sem,hlt,hlt',hg,h49,w2,hgw,hbl,hb',hgb,t1,e49]
   refine⟨i+1,?_,by omega,by omega⟩
   have e1:z3N c i=c.w[i]'(by omega):=by unfold z3N;rw[hg,h49,hgw];rfl
   have e2:z0o (expI c (i+1))=(z0o (expI c i)).set i (.int .u8 ((c.w[i]'(by omega)).toNat:Int)):=by
    rw[zpy c i hb',e1];unfold z0o;rw[List.map_set]
   rw[e2]
  ·have h49':¬ ((c.m[i].toNat:Int)=49):=fun e=>h49 (UInt8.toNat_inj.1 (by rw[show (49:UInt8).toNat=49 from rfl];omega))
   simp only[go_sem,hlt,hlt',hg,h49',w2]
   refine⟨i+1,?_,by omega,by omega⟩
   rw[zpx c i (by rw[hg];exact fun e=>h49 (Option.some.inj e))]
 ·obtain rfl:i=c.m.length:=by omega
  have hw0:win (z0o (expI c c.m.length)) 0 c.b.length=z0o (expI c c.m.length):=by
   unfold win;rw[List.drop_zero];exact List.take_of_length_le (by omega)
  have hbe:(z0o (expC c)).length=c.b.length:=by rw[← zbQ];exact hbl
  have hwe:win (z0o (expC c)) 0 c.b.length=z0o (expC c):=by rw[← zbQ];exact hw0
  simp only[go_sem,Nat.lt_irrefl,Int.lt_irrefl,hbl,hw0,z5w,zbQ,hbe,hwe]
abbrev z5l (p:Part):PV:=.agg [.str p.tms,.str p.tdi,.str p.want,.int .i64 (p.fr:Int),.int .i64 (p.st:Int)]
theorem zeQ (l:List Cmd) (k:Int):z2U (l.map cmdP) k=cmdP (setC l k):=by
 unfold z2U setC
 rw[← List.map_reverse,List.find?_map]
 have:((fun c=>zbF c==k) ∘ cmdP)=fun c:Cmd=>c.k==k:=rfl
 rw[this]
 cases (l.reverse.find? fun c=>c.k==k) with
 | none=>rfl
 | some c=>rfl
theorem zpQ (l:List Cmd):(l.map cmdP).all zgd=true:=by
 rw[List.all_map];exact List.all_eq_true.2 fun x _=>rfl
abbrev ACs (l:List Cmd):AV:=.p (.sl (some 6) (l.map cmdP))
theorem z9H (l:List Cmd) (i:Nat) (k:Int) (hi:i≤l.length) (hl:l.length≤1000000):z0c X z5Y [ACs l,AI i,AI k] h K=K (ACm (setC (l.take i) k)) h []:=by
 have e:z5g [.sl (some 6) (l.map cmdP),.int .i64 (i:Int),.int .i64 k]=some (ACm (setC (l.take i) k)):=by
  show (if 0≤(i:Int)∧(i:Int)≤((l.map cmdP).length:Int)∧(l.map cmdP).length≤1000000∧(l.map cmdP).all zgd=true then some (AV.p (z2U ((l.map cmdP).take (i:Int).toNat) k)) else none)=_
  rw[if_pos ⟨by omega,by simp;omega,by simpa using hl,zpQ l⟩,Int.toNat_natCast,← List.map_take,zeQ]
 refine z3P (X:=X) (by kernel_rfl) ?_
 rw[zjk]
 exact z3q (vs:=[.sl (some 6) (l.map cmdP),.int .i64 (i:Int),.int .i64 k]) (by kernel_rfl) (s:=z5g) (by kernel_rfl) rfl e
structure SetOk (pre:List Cmd):Prop where
 s1:z08 (setC pre 1).s=true
 s2:z08 (setC pre 2).s=true
 b1:∀ k,3≤k→k≤6→z0Q (setC pre k).b=true∧(setC pre k).b.length≤2000
attribute [-go_sem] oEqa z1N
variable {Kx:Ex→St→Prop}
theorem pk3 {T D W:List UInt8} {fr st:Int} {z1 z2 z3 z4 z5 c1 c2 c3 c4 c5 c6:AV} (hD:D.length≤T.length) (hW:W.length≤T.length) (hT:T.length≤1000000) :
 z1N (z0c X) X.gl (.ref h.length 0) (.ref (h.length+2) 0) (h++[.box [z1,z2,z3,z4,z5],.box [c1,c2,c3,c4,c5,c6],.box [AS T,AS D,AS W,AI fr,AI st]]) [] Kx =
  Kx .ret ⟨[(6,.ref h.length 0)],h++[.box [AS T,AS (D++zs (T.length-D.length)),AS (W++xsL (T.length-W.length)),AI fr,AI st],.box [c1,c2,c3,c4,c5,c6],.box [AS T,AS (D++zs (T.length-D.length)),AS (W++xsL (T.length-W.length)),AI fr,AI st]],[]⟩:=by
 have hz:∀ n,(zs n).length=n:=fun n=>by simp [zs]
 have hx:∀ n,(xsL n).length=n:=fun n=>by simp [xsL]
 have w3:IntKind.i64.wrap ((T.length:Int)-(D.length:Int))=((T.length-D.length:Nat):Int):=by
  rw[show (T.length:Int)-(D.length:Int)=((T.length-D.length:Nat):Int) by omega];exact z0j _ (by omega) (by omega)
 have w4:IntKind.i64.wrap ((T.length:Int)-(W.length:Int))=((T.length-W.length:Nat):Int):=by
  rw[show (T.length:Int)-(W.length:Int)=((T.length-W.length:Nat):Int) by omega];exact z0j _ (by omega) (by omega)
 have r4:=fun (h':Heap) (K':Post)=>zbq (h:=h') (K:=K') ((T.length-D.length:Nat):Int) (by omega) (by omega)
 have r5:=fun (h':Heap) (K':Post)=>ztn (h:=h') (K:=K') ((T.length-W.length:Nat):Int) (by omega) (by omega)
 simp only[Int.toNat_natCast] at r4 r5
 have lD2:D.length+(zs (T.length-D.length)).length≤z0n:=by rw[hz];unfold z0n;omega
 have lW2:W.length+(xsL (T.length-W.length)).length≤z0n:=by rw[hx];unfold z0n;omega
 generalize zs (T.length-D.length)=Z at r4 lD2 ⊢
 generalize xsL (T.length-W.length)=Z2 at r5 lW2 ⊢
 simp only[z1N,go_sem,splice,w3,w4,r4,r5,lD2,lW2]
set_option maxHeartbeats 4000000 in
theorem zvX (l:List Cmd) (i:Nat) (c:Cmd) (hi:l[i]?=some c) (h10:c.k=10) (hs:z08 c.s=true) (state:Nat) (hst:state∈stb) :
 z0c X z4s [ACs l,AI i,AI state] h K=K (.p (z5l (z0P z0f (l.take i) c state))) h []:=by
 refine rule ?_
 rw[zda rfl]
 obtain⟨n1,n2⟩:=z04 hs
 have hg:(l.map cmdP)[i]?=some (cmdP c):=by rw[List.getElem?_map,hi];rfl
 have hilt:i<l.length:=by
  rcases Nat.lt_or_ge i l.length with h | h
  ·exact h
  ·rw[List.getElem?_eq_none h] at hi;cases hi
 rw[z93 z0f h10]
 obtain⟨k,s,cl,b,w,m⟩:=c
 dsimp only at h10 hs n1 n2 hg ⊢
 obtain⟨n,rfl⟩:∃ n:Nat,s=n:=⟨s.toNat,n2.symm⟩
 simp only[Int.toNat_natCast] at n1 ⊢
 have p1:=fun (h':Heap) (K':Post)=>zvU (h:=h') (K:=K') (z1s hst) (z2m n1)
 have pl:=(z02 (z1s hst) (z2m n1)).2.1
 subst h10
 generalize z0f state n=w at p1 pl ⊢
 have e1:z5l ⟨w,zs w.length,xsL w.length,0,n⟩=z5l (padP ⟨w,[],[],0,n⟩):=by rw[zii]
 rw[e1]
 unfold padP z5l
 dsimp only
 have P3:=fun (z1 z2 z3 z4 z5 c1 c2 c3 c4 c5 c6:AV) (Kx:Ex→St→Prop)=>pk3 (h:=h) (Kx:=Kx) (T:=w) (D:=[]) (W:=[]) (fr:=0) (st:=n) (z1:=z1) (z2:=z2) (z3:=z3) (z4:=z4) (z5:=z5) (c1:=c1) (c2:=c2) (c3:=c3) (c4:=c4) (c5:=c5) (c6:=c6) (Nat.zero_le _) (Nat.zero_le _) (by omega)
 simp only[z7w,go_sem,len2,hg,hilt,p1,P3]
end Go.Am
end
section
/- The reference: the part of a command that waits,or sets something. -/
open Go
set_option linter.all false
namespace Go.Am
variable {h:Heap} {K:Post}
attribute [-go_sem] oEqa z1N z2g
set_option maxHeartbeats 4000000 in
theorem zka (l:List Cmd) (i:Nat) (c:Cmd) (hi:l[i]?=some c) (h9:c.k=9) (h0:0≤c.cl) (h1:c.cl≤20000) (state:Nat) (hst:state∈stb) :
 z0c X z4s [ACs l,AI i,AI state] h K=K (.p (z5l (z0P z0f (l.take i) c state))) h []:=by
 refine rule ?_
 rw[zda rfl]
 have hg:(l.map cmdP)[i]?=some (cmdP c):=by rw[List.getElem?_map,hi];rfl
 have hilt:i<l.length:=by
  rcases Nat.lt_or_ge i l.length with h | h
  ·exact h
  ·rw[List.getElem?_eq_none h] at hi;cases hi
 rw[z4E z0f h9]
 obtain⟨k,s,cl,b,w,m⟩:=c
 dsimp only at h9 h0 h1 hg ⊢
 obtain⟨n,rfl⟩:∃ n:Nat,cl=n:=⟨cl.toNat,by omega⟩
 simp only[Int.toNat_natCast]
 have ht:(1:Nat)∈toS:=by decide
 have p1:∀ (h':Heap) (K':Post),z0c X z2q [AI state,AI 1] h' K'=K' (AS (z0f state 1)) h' []:=fun h' K'=>zvU (h:=h') (K:=K') (z1s hst) ht
 have pl:=(z02 (z1s hst) ht).2.1
 subst h9
 generalize z0f state 1=w1 at p1 pl ⊢
 have hz:∀ n,(zs n).length=n:=fun n=>by simp [zs]
 have r0:=fun (h':Heap) (K':Post)=>zbq (h:=h') (K:=K') (n:Int) (by omega) (by omega)
 simp only[Int.toNat_natCast] at r0
 have l0:w1.length+n≤z0n:=by simp [z0n];omega
 have l0':w1.length+(zs n).length≤z0n:=by rw[hz];exact l0
 have l3:(w1++zs n).length=w1.length+n:=by rw[List.length_append,hz]
 have P3:=fun (z1 z2 z3 z4 z5 c1 c2 c3 c4 c5 c6:AV) (Kx:Ex→St→Prop)=>pk3 (h:=h) (Kx:=Kx) (T:=w1++zs n) (D:=[]) (W:=[]) (fr:=0) (st:=1) (z1:=z1) (z2:=z2) (z3:=z3) (z4:=z4) (z5:=z5) (c1:=c1) (c2:=c2) (c3:=c3) (c4:=c4) (c5:=c5) (c6:=c6) (Nat.zero_le _) (Nat.zero_le _) (by omega)
 rw[← zgk]
 unfold padP z5l
 dsimp only
 generalize hT:w1++zs n=T at P3 ⊢
 simp only[z7w,go_sem,len2,hg,hilt,p1,r0,l0,l0',hT,P3]
end Go.Am
end
section
/- The reference: the part of a command that sets something. -/
open Go
set_option linter.all false
namespace Go.Am
variable {h:Heap} {K:Post}
attribute [-go_sem] oEqa z1N z2g
set_option maxHeartbeats 4000000 in
theorem zbt (l:List Cmd) (i:Nat) (c:Cmd) (hi:l[i]?=some c) (h6:c.k≤6) (state:Nat) :
 z0c X z4s [ACs l,AI i,AI state] h K=K (.p (z5l (z0P z0f (l.take i) c state))) h []:=by
 refine rule ?_
 rw[zda rfl]
 have hg:(l.map cmdP)[i]?=some (cmdP c):=by rw[List.getElem?_map,hi];rfl
 have hilt:i<l.length:=by
  rcases Nat.lt_or_ge i l.length with h | h
  ·exact h
  ·rw[List.getElem?_eq_none h] at hi;cases hi
 rw[z2H z0f h6]
 obtain⟨k,s,cl,b,w,m⟩:=c
 dsimp only at h6 hg ⊢
 have k10:¬ k=10:=by omega
 have k9:¬ k=9:=by omega
 have k7:¬ k=7:=by omega
 have k8:¬ k=8:=by omega
 have P3:=fun (z1 z2 z3 z4 z5 c1 c2 c3 c4 c5 c6:AV) (Kx:Ex→St→Prop)=>pk3 (h:=h) (Kx:=Kx) (T:=[]) (D:=[]) (W:=[]) (fr:=0) (st:=state) (z1:=z1) (z2:=z2) (z3:=z3) (z4:=z4) (z5:=z5) (c1:=c1) (c2:=c2) (c3:=c3) (c4:=c4) (c5:=c5) (c6:=c6) (Nat.zero_le _) (Nat.zero_le _) (Nat.zero_le _)
 simp only[z7w,go_sem,len2,hg,hilt,k10,k9,k7,k8,P3]
 rfl
end Go.Am
end
section
/- The reference: the part of a scan. -/
open Go
set_option linter.all false
namespace Go.Am
variable {h:Heap} {K:Post} {Kx:Ex→St→Prop}
attribute [-go_sem] oEqa z1N z2g
set_option maxHeartbeats 8000000 in
theorem pk1 {z1 z2 z3 z4 z5:AV} (l:List Cmd) (i:Nat) (c:Cmd) (hi:i≤l.length) (hs:z2Q c=0) (hl:l.length≤1000000) (state sh ex:Nat) (a b e:Int) (n1:z08 (setC (l.take i) e).s=true) (hst:state∈stb) (m1:sh∈toS) (m2:ex∈frS)
 (b1:(setC (l.take i) a).b.length≤2000) (b2:(setC (l.take i) b).b.length≤2000) :
 z2g (z0c X) X.gl (ACs l) (AI i) (AI state) (.ref h.length 0) (.ref (h.length+1) 0) (.ref (h.length+2) 0) (AI sh) (AI ex) (.p (.sl none [.int .i64 a,.int .i64 b,.int .i64 e]))
  (h++[.box [z1,z2,z3,z4,z5],.box [AI c.k,AI c.s,AI c.cl,AS c.b,AS c.w,AS c.m],.box [AS [],AS [],AS [],AI 0,AI state]]) [] Kx =
 Kx .normal ⟨[(6,.ref h.length 0),(8,.ref (h.length+2) 0)],h++[.box [z1,z2,z3,z4,z5],.box [AI c.k,AI c.s,AI c.cl,AS c.b,AS c.w,AS c.m],
  .box [AS (z1o z0f c state sh ex (setC (l.take i) a).b (setC (l.take i) b).b (setC (l.take i) e).s.toNat).tms,AS (z1o z0f c state sh ex (setC (l.take i) a).b (setC (l.take i) b).b (setC (l.take i) e).s.toNat).tdi,AS (z1o z0f c state sh ex (setC (l.take i) a).b (setC (l.take i) b).b (setC (l.take i) e).s.toNat).want,
   AI ((z1o z0f c state sh ex (setC (l.take i) a).b (setC (l.take i) b).b (setC (l.take i) e).s.toNat).fr:Nat),AI ((setC (l.take i) e).s.toNat:Nat)]],[]⟩:=by
 obtain⟨q1,q2,q3,q4,q5,q6⟩:=z1B hs
 have hm:c.m.length≤c.b.length:=by rcases q6 with ⟨_,h⟩ | ⟨_,h⟩ <;> simp [h]
 have hw:c.m.length≤c.w.length:=by rcases q6 with ⟨h0,h⟩ | ⟨h0,h⟩ <;> simp [h0,h]
 obtain⟨n1,n2⟩:=z04 n1
 have x1:=fun (h':Heap) (K':Post)=>z9H (h:=h') (K:=K') l i a hi hl
 have x2:=fun (h':Heap) (K':Post)=>z9H (h:=h') (K:=K') l i b hi hl
 have x3:=fun (h':Heap) (K':Post)=>z9H (h:=h') (K:=K') l i e hi hl
 generalize setC (l.take i) a=ca at x1 b1 ⊢
 generalize setC (l.take i) b=cb at x2 b2 ⊢
 generalize setC (l.take i) e=ce at x3 n1 n2 ⊢
 obtain⟨ak,as_,acl,hd,aw,am⟩:=ca
 obtain⟨bk,bs,bcl,tl,bw,bm⟩:=cb
 obtain⟨ek,es,ecl,eb,ew,em⟩:=ce
 have x4:=fun (h':Heap) (K':Post)=>zjY (h:=h') (K:=K') c (by omega) hm hw
 dsimp only at n1 n2 x1 x2 x3 b1 b2 ⊢
 obtain⟨n,rfl⟩:∃ n:Nat,es=n:=⟨es.toNat,n2.symm⟩
 simp only[Int.toNat_natCast] at n1 ⊢
 have p1:∀ (h':Heap) (K':Post),z0c X z2q [AI state,AI sh] h' K'=K' (AS (z0f state sh)) h' []:=fun h' K'=>zvU (h:=h') (K:=K') (z1s hst) m1
 have p2:∀ (h':Heap) (K':Post),z0c X z2q [AI ex,AI n] h' K'=K' (AS (z0f ex n)) h' []:=fun h' K'=>zvU (h:=h') (K:=K') m2 (z2m n1)
 have pl1:=(z02 (z1s hst) m1).2.1
 have pl2:=(z02 m2 (z2m n1)).2.1
 unfold z1o
 dsimp only
 generalize z0f state sh=P1 at p1 pl1 ⊢
 generalize z0f ex n=P2 at p2 pl2 ⊢
 obtain⟨k,s,cl,b',w,m⟩:=c
 dsimp only at q1 q3 hm hw x4 ⊢
 have hpos:=List.length_pos_iff.2 q1
 have hal:(hd++b'++tl).length=hd.length+b'.length+tl.length:=by simp only[List.length_append]
 generalize hale:hd++b'++tl=al at hal ⊢
 have hz:∀ n,(zs n).length=n:=fun n=>by simp [zs]
 have hx:∀ n,(xsL n).length=n:=fun n=>by simp [xsL]
 have hec:(expC ⟨k,s,cl,b',w,m⟩).length=b'.length:=by simp [expC]
 generalize expC ⟨k,s,cl,b',w,m⟩=ec at x4 hec ⊢
 have w1:IntKind.i64.wrap ((al.length:Int)-1)=((al.length-1:Nat):Int):=by
  rw[show (al.length:Int)-1=((al.length-1:Nat):Int) by omega];exact z0j _ (by omega) (by omega)
 have w2:IntKind.i64.wrap ((P1.length:Int)+(hd.length:Int))=((P1.length+hd.length:Nat):Int):=by
  rw[show (P1.length:Int)+(hd.length:Int)=((P1.length+hd.length:Nat):Int) by omega];exact z0j _ (by omega) (by omega)
 have r1:=fun (h':Heap) (K':Post)=>zbq (h:=h') (K:=K') ((al.length-1:Nat):Int) (by omega) (by omega)
 have r2:=fun (h':Heap) (K':Post)=>zbq (h:=h') (K:=K') (P1.length:Int) (by omega) (by omega)
 have r3:=fun (h':Heap) (K':Post)=>ztn (h:=h') (K:=K') ((P1.length+hd.length:Nat):Int) (by omega) (by omega)
 simp only[Int.toNat_natCast] at r1 r2 r3
 have lT2b:P1.length+(zs (al.length-1)).length+1≤z0n:=by rw[hz];unfold z0n;omega
 have lT1:P1.length+(zs (al.length-1)).length≤z0n:=by rw[hz];unfold z0n;omega
 have lT2:(P1++zs (al.length-1)).length+1≤z0n:=by rw[List.length_append,hz];unfold z0n;omega
 have lT3:(P1++zs (al.length-1)++[49]).length+P2.length≤z0n:=by simp only[List.length_append,hz,List.length_singleton];unfold z0n;omega
 have lT3b:P1.length+((zs (al.length-1)).length+1)+P2.length≤z0n:=by rw[hz];unfold z0n;omega
 have lD:(zs P1.length).length+al.length≤z0n:=by rw[hz];unfold z0n;omega
 have lW:(xsL (P1.length+hd.length)).length+ec.length≤z0n:=by rw[hx,hec];unfold z0n;omega
 have la:hd.length+b'.length≤z0n:=by unfold z0n;omega
 have lbn:hd.length+b'.length+tl.length≤z0n:=by unfold z0n;omega
 have lb:(hd++b').length+tl.length≤z0n:=by rw[List.length_append];unfold z0n;omega
 have hTn:P1++(zs (al.length-1)++49::P2)=P1++zs (al.length-1)++[49]++P2:=by simp
 generalize hTe:P1++zs (al.length-1)++[49]++P2=T at hTn ⊢
 clear hTe
 simp (config:={maxSteps:=4000000}) only[z2g,go_sem,splice,x1,x2,x3,x4,p1,p2,w1,w2,r1,r2,r3,hale,hTn,lT2b,lT3b,lbn,lT1,lT2,lT3,lD,lW,la,lb]
end Go.Am
end
section
/- The reference: the part of a scan. -/
open Go
set_option linter.all false
namespace Go.Am
variable {h:Heap} {K:Post}
attribute [-go_sem] oEqa z1N z2g
set_option maxHeartbeats 4000000 in
theorem zvY (l:List Cmd) (i:Nat) (c:Cmd) (hi:l[i]?=some c) (h7:c.k=7) (hs:z2Q c=0) (hl:l.length≤1000000) (S:SetOk (l.take i)) (state:Nat) (hst:state∈stb) :
 z0c X z4s [ACs l,AI i,AI state] h K=K (.p (z5l (z0P z0f (l.take i) c state))) h []:=by
 refine rule ?_
 rw[zda rfl]
 have hg:(l.map cmdP)[i]?=some (cmdP c):=by rw[List.getElem?_map,hi];rfl
 have hilt:i<l.length:=by
  rcases Nat.lt_or_ge i l.length with h | h
  ·exact h
  ·rw[List.getElem?_eq_none h] at hi;cases hi
 obtain⟨q1,q2,q3,q4,q5,q6⟩:=z1B hs
 have ep:z0P z0f (l.take i) c state=padP (z1o z0f c state 11 12 (setC (l.take i) 3).b (setC (l.take i) 4).b (setC (l.take i) 1).s.toNat):=by
  unfold z0P
  rw[if_neg (by omega),if_neg (by omega),if_pos h7]
 rw[ep]
 obtain⟨_,b1⟩:=S.b1 3 (by omega) (by omega)
 obtain⟨_,b2⟩:=S.b1 4 (by omega) (by omega)
 obtain⟨n1,n2⟩:=z04 S.s1
 have P1:=fun (z1 z2 z3 z4 z5:AV) (Kx:Ex→St→Prop)=>pk1 (h:=h) (z1:=z1) (z2:=z2) (z3:=z3) (z4:=z4) (z5:=z5) (Kx:=Kx) l i c (by omega) hs hl state 11 12 3 4 1 S.s1 hst (by decide) (by decide) b1 b2
 have pl1:=(z02 (z1s hst) (show 11∈toS by decide)).2.1
 have pl2:=(z02 (show 12∈frS by decide) (z2m n1)).2.1
 have hz:∀ n,(zs n).length=n:=fun n=>by simp [zs]
 have hx:∀ n,(xsL n).length=n:=fun n=>by simp [xsL]
 have hec:(expC c).length=c.b.length:=by simp [expC]
 have hpos:=List.length_pos_iff.2 q1
 have lens:(z1o z0f c state 11 12 (setC (l.take i) 3).b (setC (l.take i) 4).b (setC (l.take i) 1).s.toNat).tdi.length≤(z1o z0f c state 11 12 (setC (l.take i) 3).b (setC (l.take i) 4).b (setC (l.take i) 1).s.toNat).tms.length ∧
  (z1o z0f c state 11 12 (setC (l.take i) 3).b (setC (l.take i) 4).b (setC (l.take i) 1).s.toNat).want.length≤(z1o z0f c state 11 12 (setC (l.take i) 3).b (setC (l.take i) 4).b (setC (l.take i) 1).s.toNat).tms.length ∧
  (z1o z0f c state 11 12 (setC (l.take i) 3).b (setC (l.take i) 4).b (setC (l.take i) 1).s.toNat).tms.length≤1000000:=by
  unfold z1o
  simp only[List.length_append,hz,hx,hec,List.length_singleton]
  omega
 have est:(z1o z0f c state 11 12 (setC (l.take i) 3).b (setC (l.take i) 4).b (setC (l.take i) 1).s.toNat).st=(setC (l.take i) 1).s.toNat:=rfl
 generalize z1o z0f c state 11 12 (setC (l.take i) 3).b (setC (l.take i) 4).b (setC (l.take i) 1).s.toNat=p at P1 lens est ⊢
 rw[← est] at P1
 obtain⟨l1,l2,l3⟩:=lens
 have P3:=fun (z1 z2 z3 z4 z5 c1 c2 c3 c4 c5 c6:AV) (Kx:Ex→St→Prop)=>pk3 (h:=h) (Kx:=Kx) (T:=p.tms) (D:=p.tdi) (W:=p.want) (fr:=(p.fr:Nat)) (st:=(p.st:Nat)) (z1:=z1) (z2:=z2) (z3:=z3) (z4:=z4) (z5:=z5) (c1:=c1) (c2:=c2) (c3:=c3) (c4:=c4) (c5:=c5) (c6:=c6) l1 l2 l3
 obtain⟨k,s,cl,b',w,m⟩:=c
 dsimp only at h7 hg P1 ⊢
 subst h7
 simp only[show ((11:Nat):Int)=11 from rfl,show ((12:Nat):Int)=12 from rfl] at P1
 unfold padP z5l
 dsimp only
 simp only[z7w,go_sem,len2,hg,hilt,P1,P3]
set_option maxHeartbeats 4000000 in
theorem zvW (l:List Cmd) (i:Nat) (c:Cmd) (hi:l[i]?=some c) (h7:c.k=8) (hs:z2Q c=0) (hl:l.length≤1000000) (S:SetOk (l.take i)) (state:Nat) (hst:state∈stb) :
 z0c X z4s [ACs l,AI i,AI state] h K=K (.p (z5l (z0P z0f (l.take i) c state))) h []:=by
 refine rule ?_
 rw[zda rfl]
 have hg:(l.map cmdP)[i]?=some (cmdP c):=by rw[List.getElem?_map,hi];rfl
 have hilt:i<l.length:=by
  rcases Nat.lt_or_ge i l.length with h | h
  ·exact h
  ·rw[List.getElem?_eq_none h] at hi;cases hi
 obtain⟨q1,q2,q3,q4,q5,q6⟩:=z1B hs
 have ep:z0P z0f (l.take i) c state=padP (z1o z0f c state 4 5 (setC (l.take i) 5).b (setC (l.take i) 6).b (setC (l.take i) 2).s.toNat):=by
  unfold z0P
  rw[if_neg (by omega),if_neg (by omega),if_neg (by omega),if_pos h7]
 rw[ep]
 obtain⟨_,b1⟩:=S.b1 5 (by omega) (by omega)
 obtain⟨_,b2⟩:=S.b1 6 (by omega) (by omega)
 obtain⟨n1,n2⟩:=z04 S.s2
 have P1:=fun (z1 z2 z3 z4 z5:AV) (Kx:Ex→St→Prop)=>pk1 (h:=h) (z1:=z1) (z2:=z2) (z3:=z3) (z4:=z4) (z5:=z5) (Kx:=Kx) l i c (by omega) hs hl state 4 5 5 6 2 S.s2 hst (by decide) (by decide) b1 b2
 have pl1:=(z02 (z1s hst) (show 4∈toS by decide)).2.1
 have pl2:=(z02 (show 5∈frS by decide) (z2m n1)).2.1
 have hz:∀ n,(zs n).length=n:=fun n=>by simp [zs]
 have hx:∀ n,(xsL n).length=n:=fun n=>by simp [xsL]
 have hec:(expC c).length=c.b.length:=by simp [expC]
 have hpos:=List.length_pos_iff.2 q1
 have lens:(z1o z0f c state 4 5 (setC (l.take i) 5).b (setC (l.take i) 6).b (setC (l.take i) 2).s.toNat).tdi.length≤(z1o z0f c state 4 5 (setC (l.take i) 5).b (setC (l.take i) 6).b (setC (l.take i) 2).s.toNat).tms.length ∧
  (z1o z0f c state 4 5 (setC (l.take i) 5).b (setC (l.take i) 6).b (setC (l.take i) 2).s.toNat).want.length≤(z1o z0f c state 4 5 (setC (l.take i) 5).b (setC (l.take i) 6).b (setC (l.take i) 2).s.toNat).tms.length ∧
  (z1o z0f c state 4 5 (setC (l.take i) 5).b (setC (l.take i) 6).b (setC (l.take i) 2).s.toNat).tms.length≤1000000:=by
  unfold z1o
  simp only[List.length_append,hz,hx,hec,List.length_singleton]
  omega
 have est:(z1o z0f c state 4 5 (setC (l.take i) 5).b (setC (l.take i) 6).b (setC (l.take i) 2).s.toNat).st=(setC (l.take i) 2).s.toNat:=rfl
 generalize z1o z0f c state 4 5 (setC (l.take i) 5).b (setC (l.take i) 6).b (setC (l.take i) 2).s.toNat=p at P1 lens est ⊢
 rw[← est] at P1
 obtain⟨l1,l2,l3⟩:=lens
 have P3:=fun (z1 z2 z3 z4 z5 c1 c2 c3 c4 c5 c6:AV) (Kx:Ex→St→Prop)=>pk3 (h:=h) (Kx:=Kx) (T:=p.tms) (D:=p.tdi) (W:=p.want) (fr:=(p.fr:Nat)) (st:=(p.st:Nat)) (z1:=z1) (z2:=z2) (z3:=z3) (z4:=z4) (z5:=z5) (c1:=c1) (c2:=c2) (c3:=c3) (c4:=c4) (c5:=c5) (c6:=c6) l1 l2 l3
 obtain⟨k,s,cl,b',w,m⟩:=c
 dsimp only at h7 hg P1 ⊢
 subst h7
 simp only[show ((4:Nat):Int)=4 from rfl,show ((5:Nat):Int)=5 from rfl] at P1
 unfold padP z5l
 dsimp only
 simp only[z7w,go_sem,len2,hg,hilt,P1,P3]
end Go.Am
end
section
/- The reference: the parts of a program. -/
open Go
set_option linter.all false
namespace Go.Am
variable {h:Heap} {K:Post}
attribute [-go_sem] oEqa
theorem zvZ (l:List Cmd) (i:Nat) (c:Cmd) (hi:l[i]?=some c) (hc:cmdF c=0) (hl:l.length≤1000000) (S:SetOk (l.take i)) (state:Nat) (hst:state∈stb) :
 z0c X z4s [ACs l,AI i,AI state] h K=K (.p (z5l (z0P z0f (l.take i) c state))) h []:=by
 cases z0S hc with
 | set h hs e=>exact zbt l i c hi (by omega) state
 | pad h0 h1 hb hl e=>exact zbt l i c hi h1 state
 | go h hs e=>exact zvX l i c hi h hs state hst
 | idle h h0 h1 e=>exact zka l i c hi h h0 h1 state hst
 | scan h hs e=>
  rcases h with h | h
  ·exact zvY l i c hi h hs hl S state hst
  ·exact zvW l i c hi h hs hl S state hst
theorem zkf {pre:List Cmd} {c:Cmd} (S:SetOk pre) (hc:cmdF c=0):SetOk (pre++[c]):=by
 have K:=z0S hc
 refine⟨?_,?_,fun k h1 h2=>?_⟩
 ·rw[z09];split
  ·cases K with
   | set h hs e=>exact hs
   | pad h0 h1 hb hl e=>omega
   | go h hs e=>omega
   | idle h h0 h1 e=>omega
   | scan h hs e=>omega
  ·exact S.s1
 ·rw[z09];split
  ·cases K with
   | set h hs e=>exact hs
   | pad h0 h1 hb hl e=>omega
   | go h hs e=>omega
   | idle h h0 h1 e=>omega
   | scan h hs e=>omega
  ·exact S.s2
 ·rw[z09];split
  ·cases K with
   | set h hs e=>omega
   | pad h0 h1 hb hl e=>exact⟨hb,hl⟩
   | go h hs e=>omega
   | idle h h0 h1 e=>omega
   | scan h hs e=>omega
  ·exact S.b1 k h1 h2
theorem zt1:SetOk []:=⟨rfl,rfl,fun k _ _=>⟨rfl,Nat.zero_le _⟩⟩
end Go.Am
end
section
/- The reference: the parts of a program,one by one. -/
open Go
set_option linter.all false
namespace Go.Am
variable {h:Heap} {K:Post}
def stAt (pre:List Cmd) (state:Nat):List Cmd→Nat
 | []=>state
 | c::r=>stAt (pre++[c]) (z0P z0f pre c state).st r
theorem z3Q (c:Cmd):∀ (l pre:List Cmd) (state:Nat),z0u z0f pre state (l++[c])=z0u z0f pre state l++[z0P z0f (pre++l) c (stAt pre state l)]∧stAt pre state (l++[c])=(z0P z0f (pre++l) c (stAt pre state l)).st
 | [],pre,state=>by simp [z0u,stAt]
 | d::l,pre,state=>by
  obtain⟨a,b⟩:=z3Q c l (pre++[d]) (z0P z0f pre d state).st
  have e:pre++[d]++l=pre++d::l:=by rw[List.append_assoc];rfl
  rw[e] at a b
  constructor
  ·simp only[List.cons_append,z0u];rw[a];rfl
  ·exact b
theorem zdi:∀ {l:List Cmd},z55 l=0→∀ c∈l,cmdF c=0
 | [],_,c,hc=>by cases hc
 | d::l,h,c,hc=>by
  unfold z55 at h
  split at h
  ·rename_i h1;exact absurd h h1
  ·rename_i h1
   rcases List.mem_cons.1 hc with rfl | hc
   ·omega
   ·exact zdi h c hc
theorem zch {l:List Cmd} (hc:∀ c∈l,cmdF c=0):∀ k,k≤l.length→SetOk (l.take k)∧stAt [] 0 (l.take k)∈stb
 | 0,_=>⟨zt1,by show 0∈stb;decide⟩
 | k+1,hk=>by
  obtain⟨S,T⟩:=zch hc k (by omega)
  have hlt:k<l.length:=by omega
  have h0:=hc _ (List.getElem_mem hlt)
  rw[List.take_succ_eq_append_getElem hlt]
  refine⟨zkf S h0,?_⟩
  rw[(z3Q l[k] (l.take k) [] 0).2,List.nil_append]
  cases z0S h0 with
  | set h hs e=>rw[z2H z0f (by omega)];exact T
  | pad h0 h1 hb hl e=>rw[z2H z0f h1];exact T
  | go h hs e=>rw[z93 z0f h];exact (z04 hs).1
  | idle h h0 h1 e=>rw[z4E z0f h];show 1∈stb;decide
  | scan h hs e=>
   unfold z0P
   rcases h with h | h
   ·rw[if_neg (by omega),if_neg (by omega),if_pos h];exact (z04 S.s1).1
   ·rw[if_neg (by omega),if_neg (by omega),if_neg (by omega),if_pos h];exact (z04 S.s2).1
abbrev APs (l:List Part):AV:=.p (.sl (some 5) (l.map z5l))
set_option maxHeartbeats 2000000 in
theorem ztp (l:List Cmd) (hc:∀ c∈l,cmdF c=0) (hl:l.length≤1000):z0c X za8 [ACs l] h K=K (APs (z0u z0f [] 0 l)) h []:=by
 refine rule ?_
 rw[c_q03m rfl]
 simp only[zhr,go_sem]
 refine z0Y (fun k:Nat=>⟨[(0,ACs l),(3,.own h.length k 0 k),(4,AI (stAt [] 0 (l.take k))),(8,AI l.length),(9,AI k)],h++[.row (some 5) ((z0u z0f [] 0 (l.take k)).map z5l) 0],[]⟩) (fun k=>k≤l.length) (fun k=>l.length-k) 0 rfl (by omega) ?_
 intro k hk
 have hpl:∀ j,j≤l.length→(z0u z0f [] 0 (l.take j)).length=j:=by
  intro j hj
  have:∀ (l:List Cmd) (pre:List Cmd) (s:Nat),(z0u z0f pre s l).length=l.length:=by
   intro l
   induction l with
   | nil=>intro pre s;rfl
   | cons c l ih=>intro pre s;simp [z0u,ih]
  rw[this];simp;omega
 have hlen:((z0u z0f [] 0 (l.take k)).map z5l).length=k:=by rw[List.length_map,hpl k hk]
 rcases Nat.lt_or_ge k l.length with hlt | hge
 ·obtain⟨S,T⟩:=zch hc k hk
  have hi:l[k]?=some l[k]:=List.getElem?_eq_getElem hlt
  have h0:=hc _ (List.getElem_mem hlt)
  have w2:IntKind.i64.wrap ((k:Int)+1)=((k+1:Nat):Int):=z0j _ (by omega) (by omega)
  have hmx:k+1≤z0J:=by unfold z0J;omega
  have hp:=fun (h':Heap) (K':Post)=>zvZ (h:=h') (K:=K') l k l[k] hi h0 (by omega) S _ T
  simp only[go_sem,hlt,hp,w2,hmx,hlen]
  refine⟨k+1,?_,by omega,by omega⟩
  obtain⟨e1,e2⟩:=z3Q l[k] (l.take k) [] 0
  rw[List.take_succ_eq_append_getElem hlt,e1,e2,List.nil_append,List.map_append]
  rfl
 ·obtain rfl:k=l.length:=by omega
  have hpe:(z0u z0f [] 0 l).length=l.length:=by have:=hpl l.length (Nat.le_refl _);rwa [List.take_length] at this
  simp only[go_sem,Nat.lt_irrefl,hlen,List.take_length,hpe]
  exact congrArg (fun x=>AV.p (PV.sl (some 5) x)) (List.take_of_length_le (by simp [hpe]))
end Go.Am
end
section
/- The reference: the signals of a program: three builders. -/
open Go
set_option linter.all false
namespace Go.Am
variable {h:Heap} {K:Post}
def b3 (h:Heap) (u1:Bool) (s1:List UInt8) (u2:Bool) (s2:List UInt8) (u3:Bool) (s3:List UInt8) (l:Heap):Heap:=
 h++bldB u1 h.length s1.length :: .row none (z0o s1) 0::bldB u2 (h.length+2) s2.length :: .row none (z0o s2) 0::bldB u3 (h.length+4) s3.length :: .row none (z0o s3) 0::l
variable {u1 u2 u3:Bool} {s1 s2 s3 t:List UInt8} {l:Heap}
theorem zfM {n:Nat}:(b3 h u1 s1 u2 s2 u3 s3 l)[h.length+n]?=(bldB u1 h.length s1.length::Obj.row none (z0o s1) 0::bldB u2 (h.length+2) s2.length::Obj.row none (z0o s2) 0::bldB u3 (h.length+4) s3.length::Obj.row none (z0o s3) 0::l)[n]?:=by
 unfold b3
 rw[List.getElem?_append_right (by omega),show h.length+n-h.length=n by omega]
theorem b3_h1:zb5 (b3 h u1 s1 u2 s2 u3 s3 l) u1 h.length s1:=⟨zfM (n:=0),zfM (n:=1)⟩
theorem b3_h2:zb5 (b3 h u1 s1 u2 s2 u3 s3 l) u2 (h.length+2) s2:=⟨zfM (n:=2),zfM (n:=3)⟩
theorem b3_h3:zb5 (b3 h u1 s1 u2 s2 u3 s3 l) u3 (h.length+4) s3:=⟨zfM (n:=4),zfM (n:=5)⟩
theorem b3_e1:held (b3 h u1 s1 u2 s2 u3 s3 l) h.length t=b3 h true t u2 s2 u3 s3 l:=by
 unfold held b3
 rw[List.set_append_right _ _ (by omega),List.set_append_right _ _ (by omega),Nat.sub_self,show h.length+1-h.length=1 by omega]
 rfl
theorem b3_e2:held (b3 h u1 s1 u2 s2 u3 s3 l) (h.length+2) t=b3 h u1 s1 true t u3 s3 l:=by
 unfold held b3
 rw[List.set_append_right _ _ (by omega),List.set_append_right _ _ (by omega),show h.length+2-h.length=2 by omega,show h.length+2+1-h.length=3 by omega]
 rfl
theorem b3_e3:held (b3 h u1 s1 u2 s2 u3 s3 l) (h.length+4) t=b3 h u1 s1 u2 s2 true t l:=by
 unfold held b3
 rw[List.set_append_right _ _ (by omega),List.set_append_right _ _ (by omega),show h.length+4-h.length=4 by omega,show h.length+4+1-h.length=5 by omega]
 rfl
theorem b3_ws1 (hm:s1.length+t.length≤200000000000):z0c X z2r [.ref h.length 0,AS t] (b3 h u1 s1 u2 s2 u3 s3 l) K=K (.tup [AI t.length,.nili]) (b3 h true (s1++t) u2 s2 u3 s3 l) []:=by
 rw[z2v b3_h1 hm,b3_e1]
theorem b3_ws2 (hm:s2.length+t.length≤200000000000):z0c X z2r [.ref (h.length+2) 0,AS t] (b3 h u1 s1 u2 s2 u3 s3 l) K=K (.tup [AI t.length,.nili]) (b3 h u1 s1 true (s2++t) u3 s3 l) []:=by
 rw[z2v b3_h2 hm,b3_e2]
theorem b3_ws3 (hm:s3.length+t.length≤200000000000):z0c X z2r [.ref (h.length+4) 0,AS t] (b3 h u1 s1 u2 s2 u3 s3 l) K=K (.tup [AI t.length,.nili]) (b3 h u1 s1 u2 s2 true (s3++t) l) []:=by
 rw[z2v b3_h3 hm,b3_e3]
theorem zxg:(b3 h u1 s1 u2 s2 u3 s3 l).length=h.length+(l.length+6):=by unfold b3;simp
theorem b3_app {l2:Heap}:b3 h u1 s1 u2 s2 u3 s3 l++l2=b3 h u1 s1 u2 s2 u3 s3 (l++l2):=by unfold b3;simp
theorem b3_get {n:Nat}:(b3 h u1 s1 u2 s2 u3 s3 l)[h.length+(n+6)]?=l[n]?:=zfM
theorem b3_set {n:Nat} {o:Obj}:(b3 h u1 s1 u2 s2 u3 s3 l).set (h.length+(n+6)) o=b3 h u1 s1 u2 s2 u3 s3 (l.set n o):=by
 unfold b3
 rw[List.set_append_right _ _ (by omega),show h.length+(n+6)-h.length=n+6 by omega]
 rfl
theorem zyT {n:Nat}:(b3 h u1 s1 u2 s2 u3 s3 l).take (h.length+(n+6))=b3 h u1 s1 u2 s2 u3 s3 (l.take n):=by
 unfold b3
 rw[List.take_length_add_append]
 rfl
theorem zup:(b3 h u1 s1 u2 s2 u3 s3 l).take h.length=h:=by unfold b3;exact List.take_left
theorem z7l {hp:Heap} {id id':Nat} {u:Bool} {s s':List UInt8} (H:zb5 hp u id' s') (h1:id'≠id+1) (h2:id'+1≠id+1):zb5 (z2K hp id s) u id' s':=by
 unfold z2K
 split
 ·exact H
 ·exact⟨by rw[List.getElem?_set_ne (by omega)];exact H.1,by rw[List.getElem?_set_ne (by omega)];exact H.2⟩
theorem z9J {hp:Heap} {id n:Nat} {s:List UInt8} (hn:n≤id+1):(z2K hp id s).take n=hp.take n:=by
 unfold z2K
 split
 ·rfl
 ·exact List.take_set_of_le (by omega)
end Go.Am
end
section
/- The reference: the signals of a program. -/
open Go
set_option linter.all false
namespace Go.Am
variable {h:Heap} {K:Post}
attribute [-go_sem] oEqa
section
variable {u1 u2 u3:Bool} {s1 s2 s3:List UInt8} {l:Heap} {o:Obj}
theorem zyR:(b3 h u1 s1 u2 s2 u3 s3 l)[h.length+6]?=l[0]?:=b3_get (n:=0)
theorem zyS:(b3 h u1 s1 u2 s2 u3 s3 l).set (h.length+6) o=b3 h u1 s1 u2 s2 u3 s3 (l.set 0 o):=b3_set (n:=0)
theorem zgS:(b3 h u1 s1 u2 s2 u3 s3 l).take (h.length+6)=b3 h u1 s1 u2 s2 u3 s3 (l.take 0):=zyT (n:=0)
end
theorem z8W {β:Type} (f:Part→List β) (ps:List Part) {k:Nat} (hk:k<ps.length):((ps.take k).flatMap f).length+(f ps[k]).length≤(ps.flatMap f).length:=by
 have e:ps.flatMap f=(ps.take (k+1)).flatMap f++(ps.drop (k+1)).flatMap f:=by rw[← List.flatMap_append,List.take_append_drop]
 rw[e,List.take_succ_eq_append_getElem hk,List.flatMap_append,List.length_append,List.length_append]
 simp
theorem zaZ:∀ (l pre:List Cmd) (s:Nat),(z0u z0f pre s l).length=l.length
 | [],_,_=>rfl
 | c::l,pre,s=>by simp [z0u,zaZ l]
set_option maxHeartbeats 2000000 in
theorem zgo (l:List Cmd) (hc:∀ c∈l,cmdF c=0) (hl:l.length≤1000) (hT:(sigT (z0u z0f [] 0 l)).length≤1000000000) (hI:(sigI (z0u z0f [] 0 l)).length≤1000000000) (hW:(sigW (z0u z0f [] 0 l)).length≤1000000000):z0c X z8I [ACs l] h K=K (.tup [AS (sigT (z0u z0f [] 0 l)),AS (sigI (z0u z0f [] 0 l)),AS (sigW (z0u z0f [] 0 l))]) h []:=by
 refine rule ?_
 rw[c_q03a rfl]
 have hp:=fun (h':Heap) (K':Post)=>ztp (h:=h') (K:=K') l hc hl
 simp only[zho,go_sem,hp]
 have hpl:=zaZ l [] 0
 generalize z0u z0f [] 0 l=ps at hT hI hW hpl ⊢
 refine z0Y (fun k:Nat=>⟨[(5,.ref h.length 0),(6,.ref (h.length+2) 0),(7,.ref (h.length+4) 0),(11,APs ps),(12,AI ps.length),(13,AI k)],b3 h (decide (0<k)) (sigT (ps.take k)) (decide (0<k)) (sigI (ps.take k)) (decide (0<k)) (sigW (ps.take k)) [],[(h.length+4,h.length+6),(h.length+2,h.length+4),(h.length,h.length+2)]⟩) (fun k=>k≤ps.length) (fun k=>ps.length-k) 0 rfl (by omega) ?_
 intro k hk
 rcases Nat.lt_or_ge k ps.length with hlt | hge
 ·have hg:=z1E z5l hlt
  have w2:IntKind.i64.wrap ((k:Int)+1)=((k+1:Nat):Int):=z0j _ (by omega) (by omega)
  have m1:(sigT (ps.take k)).length+(ps[k].tms).length≤200000000000:=by have:=z8W Part.tms ps hlt;unfold sigT at *;omega
  have m2:(sigI (ps.take k)).length+(ps[k].tdi).length≤200000000000:=by have:=z8W Part.tdi ps hlt;unfold sigI at *;omega
  have m3:(sigW (ps.take k)).length+(ps[k].want).length≤200000000000:=by have:=z8W Part.want ps hlt;unfold sigW at *;omega
  simp only[go_sem,hlt,hg,w2,b3_app,zxg,zyR,zyS,zgS,b3_ws1 m1,b3_ws2 m2,b3_ws3 m3]
  refine⟨k+1,?_,by omega,by omega⟩
  obtain⟨e1,e2,e3⟩:=z7S (ps.take k) ps[k]
  rw[List.take_succ_eq_append_getElem hlt,e1,e2,e3]
  simp
 ·obtain rfl:k=ps.length:=by omega
  have H1:=fun (u:Bool) (s1 s2 s3:List UInt8)=>b3_h1 (h:=h) (u1:=u) (s1:=s1) (u2:=u) (s2:=s2) (u3:=u) (s3:=s3) (l:=[])
  have H2:=fun (u:Bool) (s1 s2 s3:List UInt8)=>b3_h2 (h:=h) (u1:=u) (s1:=s1) (u2:=u) (s2:=s2) (u3:=u) (s3:=s3) (l:=[])
  have H3:=fun (u:Bool) (s1 s2 s3:List UInt8)=>b3_h3 (h:=h) (u1:=u) (s1:=s1) (u2:=u) (s2:=s2) (u3:=u) (s3:=s3) (l:=[])
  have d1:h.length+1≤h.length+6:=by omega
  have d2:h.length+2+1≤h.length+6:=by omega
  have d3:h.length+4+1≤h.length+6:=by omega
  simp only[go_sem,Nat.lt_irrefl,List.take_length,zxg,List.length_nil,Nat.zero_add,d1,d2,d3,zgS,List.take_nil]
  rw[z6N (H1 _ _ _ _) (by omega)]
  rw[z6N (z7l (H2 _ _ _ _) (by omega) (by omega)) (by omega)]
  rw[z6N (z7l (z7l (H3 _ _ _ _) (by omega) (by omega)) (by omega) (by omega)) (by omega)]
  simp only[go_sem]
  have ht:(z2K (z2K (z2K (b3 h (decide (0<ps.length)) (sigT ps) (decide (0<ps.length)) (sigI ps) (decide (0<ps.length)) (sigW ps) []) h.length (sigT ps)) (h.length+2) (sigI ps)) (h.length+4) (sigW ps)).take h.length=h:=by
   rw[z9J (by omega),z9J (by omega),z9J (by omega),zup]
  revert ht
  generalize z2K _ (h.length+4) (sigW ps)=hp1
  intro ht
  have n4:¬ (h.length+4<h.length):=by omega
  have n2:¬ (h.length+2<h.length):=by omega
  have n0:¬ (h.length<h.length):=by omega
  have e3:z2t 3 [(h.length+4,h.length+6),(h.length+2,h.length+4),(h.length,h.length+2)] h.length=h.length:=by simp only[z2t,bump,List.foldl_cons,List.foldl_nil,n4,n2,n0,if_false];try simp [n4,n2]
  have e4:z1p [(h.length+4,h.length+6),(h.length+2,h.length+4),(h.length,h.length+2)] h.length=true:=by simp [z1p]
  simp only[retK,go_sem,e3,e4,ht]
  simp
end Go.Am
end
section
/- The reference: the fault of a program. -/
open Go
set_option linter.all false
namespace Go.Am
variable {h:Heap} {K:Post}
attribute [-go_sem] oEqa
theorem zv5 {pre:List Cmd} {c:Cmd} {state:Nat} (S:SetOk pre) (hst:state∈stb) (hc:cmdF c=0) :
 (z0P z0f pre c state).tms.length≤20008∧(z0P z0f pre c state).tdi.length=(z0P z0f pre c state).tms.length∧(z0P z0f pre c state).want.length=(z0P z0f pre c state).tms.length:=by
 have hz:∀ n,(zs n).length=n:=fun n=>by simp [zs]
 have hx:∀ n,(xsL n).length=n:=fun n=>by simp [xsL]
 cases z0S hc with
 | set h hs e=>rw[z2H z0f (by omega)];exact⟨Nat.zero_le _,rfl,rfl⟩
 | pad h0 h1 hb hl e=>rw[z2H z0f h1];exact⟨Nat.zero_le _,rfl,rfl⟩
 | go h hs e=>
  rw[z93 z0f h]
  have:=(z02 (z1s hst) (z2m (z04 hs).1)).2.1
  exact⟨by show (z0f state c.s.toNat).length≤_;omega,hz _,hx _⟩
 | idle h h0 h1 e=>
  rw[z4E z0f h]
  have:=(z02 (z1s hst) (show 1∈toS by decide)).2.1
  refine⟨?_,?_,?_⟩ <;> simp only[List.length_append,hz,hx] <;> omega
 | scan h hs e=>
  obtain⟨q1,q2,q3,q4,q5,q6⟩:=z1B hs
  have hpos:=List.length_pos_iff.2 q1
  have he:(expC c).length=c.b.length:=by simp [expC]
  have key:∀ (sh ex:Nat) (hd tl:List UInt8) (en:Nat),sh∈toS→ex∈frS→en∈stb→hd.length≤2000→tl.length≤2000 →
   (padP (z1o z0f c state sh ex hd tl en)).tms.length≤20008∧(padP (z1o z0f c state sh ex hd tl en)).tdi.length=(padP (z1o z0f c state sh ex hd tl en)).tms.length∧(padP (z1o z0f c state sh ex hd tl en)).want.length=(padP (z1o z0f c state sh ex hd tl en)).tms.length:=by
   intro sh ex hd tl en h1 h2 h3 h4 h5
   have p1:=(z02 (z1s hst) h1).2.1
   have p2:=(z02 h2 (z2m h3)).2.1
   rw[z6E z0f c state sh ex hd tl en q1]
   refine⟨?_,?_,?_⟩ <;> simp only[List.length_append,hz,hx,he,List.length_singleton] <;> omega
  rcases h with h | h
  ·have ep:z0P z0f pre c state=padP (z1o z0f c state 11 12 (setC pre 3).b (setC pre 4).b (setC pre 1).s.toNat):=by
    unfold z0P;rw[if_neg (by omega),if_neg (by omega),if_pos h]
   rw[ep]
   exact key _ _ _ _ _ (by decide) (by decide) (z04 S.s1).1 (S.b1 3 (by omega) (by omega)).2 (S.b1 4 (by omega) (by omega)).2
  ·have ep:z0P z0f pre c state=padP (z1o z0f c state 4 5 (setC pre 5).b (setC pre 6).b (setC pre 2).s.toNat):=by
    unfold z0P;rw[if_neg (by omega),if_neg (by omega),if_neg (by omega),if_pos h]
   rw[ep]
   exact key _ _ _ _ _ (by decide) (by decide) (z04 S.s2).1 (S.b1 5 (by omega) (by omega)).2 (S.b1 6 (by omega) (by omega)).2
theorem zt5 {l:List Cmd} (hc:∀ c∈l,cmdF c=0):∀ k,k≤l.length→(sigT (z0u z0f [] 0 (l.take k))).length≤k*20008∧(sigI (z0u z0f [] 0 (l.take k))).length=(sigT (z0u z0f [] 0 (l.take k))).length∧(sigW (z0u z0f [] 0 (l.take k))).length=(sigT (z0u z0f [] 0 (l.take k))).length
 | 0,_=>⟨Nat.zero_le _,rfl,rfl⟩
 | k+1,hk=>by
  obtain⟨a,b,c⟩:=zt5 hc k (by omega)
  obtain⟨S,T⟩:=zch hc k (by omega)
  have hlt:k<l.length:=by omega
  obtain⟨x,y,z⟩:=zv5 S T (hc _ (List.getElem_mem hlt))
  rw[List.take_succ_eq_append_getElem hlt,(z3Q l[k] (l.take k) [] 0).1,List.nil_append]
  obtain⟨e1,e2,e3⟩:=z7S (z0u z0f [] 0 (l.take k)) (z0P z0f (l.take k) l[k] (stAt [] 0 (l.take k)))
  rw[e1,e2,e3,List.length_append,List.length_append,List.length_append]
  refine⟨?_,by omega,by omega⟩
  rw[Nat.add_mul];omega
theorem s_SigW (l:List Cmd) (hc:∀ c∈l,cmdF c=0) (hl:l.length≤1000):z0c X z8I [ACs l] h K=K (.tup [AS (sigT (z0u z0f [] 0 l)),AS (sigI (z0u z0f [] 0 l)),AS (sigW (z0u z0f [] 0 l))]) h []:=by
 obtain⟨a,b,c⟩:=zt5 hc l.length (Nat.le_refl _)
 rw[List.take_length] at a b c
 have:l.length*20008≤1000*20008:=Nat.mul_le_mul_right _ hl
 exact zgo l hc (by omega) (by omega) (by omega) (by omega)
theorem z5L:∀ {l:List Cmd},(∀ c∈l,cmdF c=0)→z55 l=0
 | [],_=>rfl
 | d::l,h=>by
  unfold z55
  rw[if_neg (by rw[h d (List.mem_cons_self ..)];simp)]
  exact z5L fun c hc=>h c (List.mem_cons_of_mem _ hc)
theorem z8p:∀ {l:List Cmd} {k:Nat} (hk:k<l.length),(∀ c∈l.take k,cmdF c=0)→cmdF l[k]≠0→z55 l=cmdF l[k]
 | d::l,0,hk,_,h2=>by unfold z55;rw[if_pos (by simpa using h2)];rfl
 | d::l,k+1,hk,h1,h2=>by
  unfold z55
  rw[if_neg (by rw[h1 d (by simp)];simp)]
  exact z8p (l:=l) (k:=k) (by simpa using hk) (fun c hc=>h1 c (by simp [hc])) (by simpa using h2)
set_option maxHeartbeats 2000000 in
theorem z7G (l:List Cmd) (hok:∀ c∈l,CmdOk c) (hl:l.length≤1000000):z0c X z8H [ACs l] h K=K (AI (z1F z0f l:Nat)) h []:=by
 refine rule ?_
 rw[c_q033 rfl]
 by_cases hbig:1000<l.length
 ·have h1:(1000:Int)<(l.length:Int):=by omega
  have e:z1F z0f l=2:=by unfold z1F;rw[if_pos hbig]
  rw[e]
  simp only[zdC,go_sem,h1]
 have h1:¬ (1000:Int)<(l.length:Int):=by omega
 simp only[zdC,go_sem,h1]
 refine z0Y (fun k:Nat=>⟨[(0,ACs l),(12,ACs l),(13,AI l.length),(14,AI k)],h,[]⟩) (fun k=>k≤l.length∧∀ c∈l.take k,cmdF c=0) (fun k=>l.length-k) 0 rfl ⟨Nat.zero_le _,by simp⟩ ?_
 rintro k ⟨hk,hn⟩
 rcases Nat.lt_or_ge k l.length with hlt | hge
 ·have hg:=z1E cmdP hlt
  have w2:IntKind.i64.wrap ((k:Int)+1)=((k+1:Nat):Int):=z0j _ (by omega) (by omega)
  have hf:=fun (h':Heap) (K':Post)=>z9W (h:=h') (K:=K') l[k] (hok _ (List.getElem_mem hlt))
  by_cases h0:cmdF l[k]=0
  ·have h0':((cmdF l[k]:Nat):Int)=0:=by omega
   simp only[go_sem,hlt,hg,w2,hf,h0']
   refine⟨k+1,rfl,⟨by omega,?_⟩,by omega⟩
   intro c hc
   rw[List.take_succ_eq_append_getElem hlt] at hc
   rcases List.mem_append.1 hc with hc | hc
   ·exact hn c hc
   ·obtain rfl:c=l[k]:=by simpa using hc
    exact h0
  ·have h0':¬ ((cmdF l[k]:Nat):Int)=0:=by omega
   simp only[go_sem,hlt,hg,w2,hf,h0']
   have e:z1F z0f l=cmdF l[k]:=by
    unfold z1F
    rw[if_neg (by omega),z8p hlt hn h0,if_pos h0]
   rw[e]
 ·obtain rfl:k=l.length:=by omega
  rw[List.take_length] at hn
  have hs:=fun (h':Heap) (K':Post)=>s_SigW (h:=h') (K:=K') l hn (by omega)
  have e:z1F z0f l=if 20000<(sigT (z0u z0f [] 0 l)).length then 2 else 0:=by
   unfold z1F
   rw[if_neg (by omega),z5L hn,if_neg (by simp)]
  rw[e]
  by_cases h2:20000<(sigT (z0u z0f [] 0 l)).length
  ·have h2':(20000:Int)<((sigT (z0u z0f [] 0 l)).length:Int):=by omega
   simp only[go_sem,Nat.lt_irrefl,Int.lt_irrefl,hs,h2,h2']
  ·have h2':¬ (20000:Int)<((sigT (z0u z0f [] 0 l)).length:Int):=by omega
   simp only[go_sem,Nat.lt_irrefl,Int.lt_irrefl,hs,h2,h2']
theorem z9D (l:List Cmd) (hok:∀ c∈l,CmdOk c) (hl:l.length≤40):z0c X z8H [ACs l] h K=K (AI (z1F z0f l:Nat)) h []:=z7G l hok (by omega)
end Go.Am
end
section
/- The reference: states,bits that are shifted. -/
open Go
set_option linter.all false
namespace Go.Am
variable {h:Heap} {K:Post}
attribute [-go_sem] oEqa
end Go.Am
end
section
/- The reference: StatesOf,ShiftedBits. -/
open Go
set_option linter.all false
namespace Go.Am
variable {h:Heap} {K:Post}
attribute [-go_sem] oEqa
end Go.Am
end
section
/- The program: a program that is played. -/
open Go
set_option linter.all false
namespace Go.Am
variable {h l2:Heap} {K:Post} {r:Run} {n:Nat} {o:Obj} {x:Esc}
attribute [-go_sem] oEqa splice
attribute [local go_sem] zbf zfh zbe zbg z7i z6I
theorem zsY {l:Heap}:(rh h r l)[h.length+6]?=l[0]?:=zbe (n:=0)
theorem zsZ {l:Heap}:(rh h r l).set (h.length+6) o=rh h r (l.set 0 o):=zbg (n:=0)
theorem zi1 {l:Heap}:(rh h r l).take (h.length+6)=rh h r (l.take 0):=z7i (n:=0)
attribute [local go_sem] zsY zsZ zi1
structure RunI (r:Run) (k:Nat):Prop where
 R:RunOk r
 N:RunN r
 st:r.st∈stb
 S:SetR r.se
 sl:r.sts.length=k
 fl:r.frs.length=k
theorem runI_0 (w:Bool):RunI (run0 w) 0:=⟨⟨Nat.le_refl _,Nat.le_refl _,Nat.le_refl _⟩,⟨Nat.le_refl _,Nat.le_refl _⟩,by show 0∈stb;decide,⟨rfl,rfl,Nat.zero_le _,Nat.zero_le _,Nat.zero_le _,Nat.zero_le _⟩,rfl,rfl⟩
theorem zwg {s:Sett} {c:Cmd} (S:SetR s) (hc:cmdF c=0) (h1:1≤c.k∧c.k≤6):SetR (s.put c):=by
 have hb:c.k≤2→z08 c.s=true:=fun h=>by
  cases z0S hc with
  | set h hs e=>exact hs
  | pad h0 h1 hb hl e=>omega
  | go h hs e=>omega
  | idle h h0 h1 e=>omega
  | scan h hs e=>omega
 have hp:3≤c.k→c.b.length≤2000:=fun h=>by
  cases z0S hc with
  | set h hs e=>omega
  | pad h0 h1 hb hl e=>exact hl
  | go h hs e=>omega
  | idle h h0 h1 e=>omega
  | scan h hs e=>omega
 obtain⟨s1,s2,a1,a2,a3,a4⟩:=S
 unfold Sett.put
 split
 ·exact⟨hb (by omega),s2,a1,a2,a3,a4⟩
 split
 ·exact⟨s1,hb (by omega),a1,a2,a3,a4⟩
 split
 ·exact⟨s1,s2,hp (by omega),a2,a3,a4⟩
 split
 ·exact⟨s1,s2,a1,hp (by omega),a3,a4⟩
 split
 ·exact⟨s1,s2,a1,a2,hp (by omega),a4⟩
 ·exact⟨s1,s2,a1,a2,a3,hp (by omega)⟩
theorem zti {k:Nat} (I:RunI r k) {c:Cmd} (hc:cmdF c=0):RunI (r.step z0f c) (k+1)∧(r.step z0f c).ck≤r.ck+20016:=by
 obtain⟨R,N,st,S,sl,fl⟩:=I
 have setf:1≤c.k∧c.k≤6→RunI (r.step z0f c) (k+1)∧(r.step z0f c).ck≤r.ck+20016:=fun h1=>by
  rw[z5h z0f h1]
  exact⟨⟨⟨R.t,R.i,R.w⟩,N,st,zwg S hc h1,by simp [sl],by simp [fl]⟩,by dsimp only;omega⟩
 cases z0S hc with
 | set h hs e=>exact setf (by omega)
 | pad h0 h1 hb hl e=>exact setf ⟨by omega,h1⟩
 | go hk hs e=>
  rw[zcz z0f hk]
  obtain⟨g1,g2,g3,g4,g5,g6,_,_⟩:=z07 z0f r c.s.toNat
  obtain⟨n1,n2⟩:=z04 hs
  have R1:=z3T (tov:=c.s.toNat) R
  have N1:=z7k (tov:=c.s.toNat) N
  have pl:=(z02 (z1s st) (z2m n1)).2.1
  refine⟨⟨⟨R1.t,R1.i,R1.w⟩,N1,?_,?_,?_,?_⟩,?_⟩
  ·show (r.go z0f c.s.toNat).st∈stb;rw[g2];exact n1
  ·show SetR (r.go z0f c.s.toNat).se;rw[g1];exact S
  ·simp [g3,sl]
  ·simp [g4,fl]
  ·show (r.go z0f c.s.toNat).ck≤_;rw[zgc];omega
 | idle hk h0 h1 e=>
  rw[z4L z0f hk]
  obtain⟨g1,g2,g3,g4,g5,g6,g7,g8⟩:=z07 z0f r 1
  obtain⟨q1,q2,q3,q4,q5,q6,q7,q8⟩:=z2f (r.go z0f 1) (List.replicate c.cl.toNat (48,48,120))
  have R1:=z2J (L:=List.replicate c.cl.toNat (48,48,120)) (z3T (tov:=1) R)
  have N1:=z7k (tov:=1) N
  have pl:=(z02 (z1s st) (show 1∈toS by decide)).2.1
  refine⟨⟨⟨R1.t,R1.i,R1.w⟩,?_,?_,?_,?_,?_⟩,?_⟩
  ·obtain⟨x,y⟩:=N1
   exact⟨by show Run.ni (Run.clk _ _)≤Run.ck (Run.clk _ _);rw[q7,q6];omega,by show Run.nd (Run.clk _ _)≤Run.ck (Run.clk _ _);rw[q8,q6];omega⟩
  ·show Run.st (Run.clk _ _)∈stb;rw[q2,g2];decide
  ·show SetR (Run.se (Run.clk _ _));rw[q1,g1];exact S
  ·simp [q3,g3,sl]
  ·simp [q4,g4,fl]
  ·show Run.ck (Run.clk _ _)≤_;rw[q6,zgc,List.length_replicate];omega
 | scan hk hs e=>
  rw[z4M z0f hk]
  obtain⟨g3,g4,g1⟩:=ziA (r:=r) c
  obtain⟨q1,q2,q3,q4,q5,q6⟩:=z1B hs
  have key:∀ (sh ex:Nat) (en:Int) (hd tl:List UInt8) (r2:Run),sh∈toS→ex∈frS→z08 en=true→hd.length≤2000→tl.length≤2000→RunOk r2→r2.ck=(r.go z0f sh).ck→r2.ni≤r2.ck+(hd++c.b++tl).length→r2.nd≤r2.ck+(hd++c.b++tl).length →
   r.scn z0f c=Run.go z0f { Run.clk r2 (z0R c hd (hd++c.b++tl)) with st:=ex } en.toNat→RunI { r.scn z0f c with sts:=(r.scn z0f c).sts++[(r.scn z0f c).st],frs:=(r.scn z0f c).frs++[r.scnF z0f c] } (k+1)∧(r.scn z0f c).ck≤r.ck+20016:=by
   intro sh ex en hd tl r2 m1 m2 m3 m4 m5 R2 m6 m7 m8 e
   obtain⟨n1,n2⟩:=z04 m3
   have R3:=z2J (L:=z0R c hd (hd++c.b++tl)) R2
   have R4:=z3T (r:={ Run.clk r2 (z0R c hd (hd++c.b++tl)) with st:=ex }) (tov:=en.toNat) ⟨R3.t,R3.i,R3.w⟩
   have N4:=z7k (r:={ Run.clk r2 (z0R c hd (hd++c.b++tl)) with st:=ex }) (tov:=en.toNat) (by
    obtain⟨_,_,_,_,_,z1,z2,z3⟩:=z2f r2 (z0R c hd (hd++c.b++tl))
    have z4:=z2k c hd (hd++c.b++tl)
    exact⟨by show Run.ni (Run.clk _ _)≤Run.ck (Run.clk _ _);omega,by show Run.nd (Run.clk _ _)≤Run.ck (Run.clk _ _);omega⟩)
   have st4:=(z07 z0f { Run.clk r2 (z0R c hd (hd++c.b++tl)) with st:=ex } en.toNat).2.1
   have ck4:=zgc (r:={ Run.clk r2 (z0R c hd (hd++c.b++tl)) with st:=ex }) (tov:=en.toNat)
   have ck3:=zdf (r:=r2) (L:=z0R c hd (hd++c.b++tl))
   have ck2:=zgc (r:=r) (tov:=sh)
   have p1:=(z02 (z1s st) m1).2.1
   have p2:=(z02 m2 (z2m n1)).2.1
   have z4:=z2k c hd (hd++c.b++tl)
   simp only[List.length_append] at z4
   rw[← e] at R4 N4 st4 ck4
   refine⟨⟨⟨R4.t,R4.i,R4.w⟩,N4,by show (r.scn z0f c).st∈stb;rw[st4];exact n1,by show SetR (r.scn z0f c).se;rw[g1];exact S,by simp [g3,sl],by simp [g4,fl]⟩,?_⟩
   dsimp only at ck4
   omega
  have N1:=fun sh=>z7k (tov:=sh) N
  have R1:=fun sh=>z3T (tov:=sh) R
  rcases hk with h7 | h8
  ·refine key 11 12 r.se.e1.s r.se.h1.b r.se.t1.b { r.go z0f 11 with ni:=(r.go z0f 11).ni+(r.se.h1.b++c.b++r.se.t1.b).length } (by decide) (by decide) S.s1 S.h1 S.t1 ⟨(R1 11).t,(R1 11).i,(R1 11).w⟩ rfl ?_ ?_ (ztz h7).1
   ·have:=(N1 11).1;dsimp only;omega
   ·have:=(N1 11).2;dsimp only;omega
  ·refine key 4 5 r.se.e2.s r.se.h2.b r.se.t2.b { r.go z0f 4 with nd:=(r.go z0f 4).nd+(r.se.h2.b++c.b++r.se.t2.b).length } (by decide) (by decide) S.s2 S.h2 S.t2 ⟨(R1 4).t,(R1 4).i,(R1 4).w⟩ rfl ?_ ?_ (zty h8).1
   ·have:=(N1 4).1;dsimp only;omega
   ·have:=(N1 4).2;dsimp only;omega
theorem ztr:z0c X z8U [] h K=K (.p (.agg [eI 1,eI 1,eI 0,.str [],.str [],.str [],eI 2,eI 1,eI 0,.str [],.str [],.str [],eI 3,eI 0,eI 0,.str [],.str [],.str [],eI 4,eI 0,eI 0,.str [],.str [],.str [],eI 5,eI 0,eI 0,.str [],.str [],.str [],eI 6,eI 0,eI 0,.str [],.str [],.str []])) h []:=by
 refine rule ?_
 rw[c_q06r rfl]
 simp only[zn0,go_sem,splice]
set_option maxHeartbeats 4000000 in
theorem zwa (l:List Cmd) (hc:∀ c∈l,cmdF c=0) (hl:l.length≤1000) (p:AV) (w:Bool) (hp:(p = .nilp∧w=false)∨(∃ i,p = .ref i 0)∧w=true) :
 z0c X z6b [ACs l,p] h K=K (.ref (h.length+5) 0) (rh h ((run0 w).play z0f l) []) []:=by
 refine rule ?_
 have main:∀ Kx:Ex→St→Prop,(∀ r,(run0 w).play z0f l=r→Kx .ret ⟨[(4,.ref (h.length+5) 0)],rh h r [],[]⟩)→z1a (z0c X) X.gl (.scope z2E) (z0t 0 (seqN (z0c X) X.gl z49 Kx)) [(5,.ref (h.length+5) 0),(13,ACs l),(14,AI l.length),(15,AI 0)] (rh h (run0 w) []) []:=by
  intro Kx hK
  refine z0Y (fun t:Nat × Run=>⟨[(5,.ref (h.length+5) 0),(13,ACs l),(14,AI l.length),(15,AI t.1)],rh h t.2 [],[]⟩) (fun t=>t.1≤l.length∧RunI t.2 t.1∧t.2.ck≤50000∧(run0 w).play z0f l=t.2.play z0f (l.drop t.1)) (fun t=>l.length-t.1) (0,run0 w) rfl ⟨Nat.zero_le _,runI_0 w,Nat.zero_le _,rfl⟩ ?_
  rintro⟨k,r⟩ ⟨hk,I,hck,hpl⟩
  dsimp only at hk I hck hpl ⊢
  rcases Nat.lt_or_ge k l.length with hlt | hge
  ·have hg:=z1E cmdP hlt
   have w2:IntKind.i64.wrap ((k:Int)+1)=((k+1:Nat):Int):=z0j _ (by omega) (by omega)
   have hdr:l.drop k=l[k]::l.drop (k+1):=(List.getElem_cons_drop hlt).symm
   rw[hdr] at hpl
   have hpc:∀ (c:Cmd) (L:List Cmd),r.play z0f (c::L)=if 20000<r.ck then r else (r.step z0f c).play z0f L:=fun c L=>rfl
   rw[hpc] at hpl
   have h0:=hc _ (List.getElem_mem hlt)
   by_cases hb:20000<r.ck
   ·have hb':(20000:Int)<(r.ck:Int):=by omega
    rw[if_pos hb] at hpl
    simp only[go_sem,hlt,hg,zbd,zgm,hb',splice]
    exact hK r hpl
   ·have hb':¬ (20000:Int)<(r.ck:Int):=by omega
    rw[if_neg hb] at hpl
    have hs:=fun (l2:Heap) (K':Post)=>s_step (h:=h) (l:=l2) (K:=K') I.R I.N (by omega) I.st I.S (by rw[I.sl];omega) (by rw[I.fl];omega) l[k] h0
    obtain⟨I2,c2⟩:=zti I h0
    simp only[go_sem,hlt,hg,zbd,zgm,hb',hs,w2,splice]
    exact⟨(k+1,r.step z0f l[k]),rfl,⟨by dsimp only;omega,I2,by dsimp only;omega,hpl⟩,by dsimp only;omega⟩
  ·obtain rfl:k=l.length:=by omega
   rw[List.drop_length] at hpl
   simp only[go_sem,Nat.lt_irrefl]
   exact hK r hpl
 rcases hp with ⟨rfl,rfl⟩ | ⟨⟨i,rfl⟩,rfl⟩
 ·rw[zxn rfl]
  simp only[zeo,go_sem,ztr,splice]
  refine main _ fun r e=>?_
  rw[e]
  have q1:h.length+5+1=h.length+6:=rfl
  have q2:max h.length (h.length+6)=h.length+6:=by omega
  simp only[go_sem,q1,q2,List.take_nil]
 ·rw[zxn rfl]
  simp only[zeo,go_sem,ztr,splice]
  refine main _ fun r e=>?_
  rw[e]
  have q1:h.length+5+1=h.length+6:=rfl
  have q2:max h.length (h.length+6)=h.length+6:=by omega
  simp only[go_sem,q1,q2,List.take_nil]
end Go.Am
end
section
/- The program: what is wrong with a program;clocks,signals,states,bits. -/
open Go
set_option linter.all false
namespace Go.Am
variable {h:Heap} {K:Post} {r:Run} {n:Nat} {o:Obj} {x:Esc}
attribute [-go_sem] oEqa splice
attribute [local go_sem] zbf zfh zbe zbg z7i z6I zsY zsZ zi1 zbd zsI zgm zsJ zsK zsL zsM zsN zsO zsP
theorem zsF {l:List Cmd} (hc:∀ c∈l,cmdF c=0) (w:Bool):20000<((run0 w).play z0f l).ck↔20000<(sigT (z0u z0f [] 0 l)).length:=by
 have e:=z5L hc
 constructor
 ·intro h
  rcases Nat.lt_or_ge 20000 (sigT (z0u z0f [] 0 l)).length with h1 | h1
  ·exact h1
  ·have:=(zv7 pathOk e w h1).1;omega
 ·intro h
  have:=(zcj z0f l (rel0 w) e).2
  simp only[List.nil_append] at this
  exact this h
theorem ztq (l:List Cmd) (hc:∀ c∈l,cmdF c=0) (hl:l.length≤1000):z0c X z6b [ACs l,.nilp] h K=K (.ref (h.length+5) 0) (rh h ((run0 false).play z0f l) []) []:=zwa l hc hl .nilp false (.inl ⟨rfl,rfl⟩)
set_option maxHeartbeats 4000000 in
theorem z4g (l:List Cmd) (hok:∀ c∈l,CmdOk c) (hl:l.length≤1000000):z0c X z4e [ACs l] h K=K (AI (z1F z0f l:Nat)) h []:=by
 refine rule ?_
 rw[c_q062 rfl]
 by_cases hbig:1000<l.length
 ·have h1:(1000:Int)<(l.length:Int):=by omega
  have e:z1F z0f l=2:=by unfold z1F;rw[if_pos hbig]
  rw[e]
  simp only[zeb,go_sem,h1]
 have h1:¬ (1000:Int)<(l.length:Int):=by omega
 simp only[zeb,go_sem,h1]
 refine z0Y (fun k:Nat=>⟨[(0,ACs l),(10,ACs l),(11,AI l.length),(12,AI k)],h,[]⟩) (fun k=>k≤l.length∧∀ c∈l.take k,cmdF c=0) (fun k=>l.length-k) 0 rfl ⟨Nat.zero_le _,by simp⟩ ?_
 rintro k ⟨hk,hn⟩
 rcases Nat.lt_or_ge k l.length with hlt | hge
 ·have hg:=z1E cmdP hlt
  have w2:IntKind.i64.wrap ((k:Int)+1)=((k+1:Nat):Int):=z0j _ (by omega) (by omega)
  have hf:=fun (h':Heap) (K':Post)=>zgr (h:=h') (K:=K') l[k] (hok _ (List.getElem_mem hlt))
  have hsn:cmdF l[k]=0→∀ c∈l.take (k+1),cmdF c=0:=fun h0 c hc=>by
   rw[List.take_succ_eq_append_getElem hlt] at hc
   rcases List.mem_append.1 hc with hc | hc
   ·exact hn c hc
   ·obtain rfl:c=l[k]:=by simpa using hc
    exact h0
  have hpf:cmdF l[k]≠0→z1F z0f l=cmdF l[k]:=fun h0=>by
   unfold z1F
   rw[if_neg (by omega),z8p hlt hn h0,if_pos h0]
  have hbr:=zmR (c:=l[k])
  have hkd:=zdh (c:=l[k])
  generalize l[k]=c at *
  generalize hke:zjI c=ke at *
  generalize hbc:zm9 c=bc at *
  obtain⟨k0,s0,cl0,b0,w0,m0⟩:=c
  obtain⟨k1,s1,cl1,b1,w1,m1⟩:=bc
  dsimp only at hbr hkd hf hg
  by_cases i1:k0<1
  ·have e:=hkd (by omega)
   rw[hpf (by omega),e]
   simp only[go_sem,hlt,hg,w2,hf,z7H,i1,splice]
  by_cases i2:10<k0
  ·have e:=hkd (by omega)
   rw[hpf (by omega),e]
   simp only[go_sem,hlt,hg,w2,hf,z7H,i1,i2,splice]
  have e:=hbr (by omega)
  by_cases i3:ke=0
  ·subst i3
   rw[if_neg (by simp)] at e
   by_cases i4:(⟨k1,s1,cl1,b1,w1,m1⟩:Cmd)=⟨k0,0,0,[],[],[]⟩
   ·rw[if_pos i4] at e
    simp only[go_sem,hlt,hg,w2,hf,z7H,i1,i2,splice,eqa6,i4]
    exact⟨k+1,rfl,⟨by omega,hsn e⟩,by omega⟩
   ·rw[if_neg i4] at e
    rw[hpf (by omega),e]
    simp only[go_sem,hlt,hg,w2,hf,z7H,i1,i2,splice,eqa6,i4]
  ·have i3':¬ ((ke:Nat):Int)=0:=by omega
   rw[if_pos i3] at e
   rw[hpf (by omega),e]
   simp only[go_sem,hlt,hg,w2,hf,z7H,i1,i2,splice,i3']
 ·obtain rfl:k=l.length:=by omega
  rw[List.take_length] at hn
  have hs:=fun (h':Heap) (K':Post)=>ztq (h:=h') (K:=K') l hn (by omega)
  have e:z1F z0f l=if 20000<(sigT (z0u z0f [] 0 l)).length then 2 else 0:=by
   unfold z1F
   rw[if_neg (by omega),z5L hn,if_neg (by simp)]
  rw[e]
  have hm:=zsF hn false
  by_cases h2:20000<(sigT (z0u z0f [] 0 l)).length
  ·have h3:=hm.2 h2
   have h2':(20000:Int)<(((run0 false).play z0f l).ck:Int):=by omega
   simp only[go_sem,Nat.lt_irrefl,Int.lt_irrefl,hs,h2,h2',splice]
  ·have h3:=fun q=>h2 (hm.1 q)
   have h2':¬ (20000:Int)<(((run0 false).play z0f l).ck:Int):=by omega
   simp only[go_sem,Nat.lt_irrefl,Int.lt_irrefl,hs,h2,h2',splice]
theorem z9C (l:List Cmd) (hok:∀ c∈l,CmdOk c) (hl:l.length≤40):z0c X z4e [ACs l] h K=K (AI (z1F z0f l:Nat)) h []:=z4g l hok (by omega)
theorem zsG {l:List Cmd} (h:z1F z0f l=0):(∀ c∈l,cmdF c=0)∧(sigT (z0u z0f [] 0 l)).length≤20000∧l.length≤1000:=by
 unfold z1F at h
 split at h
 ·cases h
 split at h
 ·rename_i h1;exact absurd h h1
 split at h
 ·cases h
 ·rename_i h0 h1 h2
  exact⟨zdi (by omega),by omega,by omega⟩
theorem rh_r0 {l:Heap}:(rh h r l)[h.length]?=some (.row none (r.sts.map eN) 0):=by unfold rh;rw[zgR];rfl
theorem rh_r1 {l:Heap}:(rh h r l)[h.length+1]?=some (.row none (r.frs.map eN) 0):=by unfold rh;rw[z3I];rfl
theorem rh_r2 {l:Heap}:(rh h r l)[h.length+2]?=some (.row none (z0o r.tms) 0):=by unfold rh;rw[z3I];rfl
theorem rh_r3 {l:Heap}:(rh h r l)[h.length+3]?=some (.row none (z0o r.tdi) 0):=by unfold rh;rw[z3I];rfl
theorem rh_r4 {l:Heap}:(rh h r l)[h.length+4]?=some (.row none (z0o r.want) 0):=by unfold rh;rw[z3I];rfl
attribute [local go_sem] rh_r0 rh_r1 rh_r2 rh_r3 rh_r4
end Go.Am
end
section
/- Programs written: the program,the reference. -/
open Go
set_option linter.all false
set_option maxRecDepth 100000
namespace Go.Am
variable {h:Heap} {K:Post}
theorem zts (k:Int) (h1:1≤k) (h2:k≤10):z0c X z79 [AI k] h K=K (AS (z1A k)) h []:=by
 refine rule ?_
 rw[c_q06u rfl]
 have:k=1∨k=2∨k=3∨k=4∨k=5∨k=6∨k=7∨k=8∨k=9∨k=10:=by omega
 have w0:∀ n:Nat,n<10→IntKind.i64.wrap ((n:Int))=(n:Int):=fun n hn=>z0j _ (by omega) (by omega)
 have w00:IntKind.i64.wrap 0=0:=rfl
 have w01:IntKind.i64.wrap 1=1:=rfl
 have w02:IntKind.i64.wrap 2=2:=rfl
 have w03:IntKind.i64.wrap 3=3:=rfl
 have w04:IntKind.i64.wrap 4=4:=rfl
 have w05:IntKind.i64.wrap 5=5:=rfl
 have w06:IntKind.i64.wrap 6=6:=rfl
 have w07:IntKind.i64.wrap 7=7:=rfl
 have w08:IntKind.i64.wrap 8=8:=rfl
 have w09:IntKind.i64.wrap 9=9:=rfl
 rcases this with rfl | rfl | rfl | rfl | rfl | rfl | rfl | rfl | rfl | rfl <;> simp only[zn1,go_sem,w00,w01,w02,w03,w04,w05,w06,w07,w08,w09] <;> first | rfl | trivial
theorem z9I (n:Int):z0c X z78 [AI n] h K=K (AS (z1I n)) h []:=by
 refine rule ?_
 rw[c_q06s rfl]
 unfold z1I
 by_cases h0:n=0
 ·subst h0;simp only[zap,go_sem]
 by_cases h1:n=1
 ·subst h1;simp only[zap,go_sem]
 by_cases h6:n=6
 ·subst h6;simp only[zap,go_sem]
 ·simp only[zap,go_sem,h0,h1,h6]
structure CmdS (c:Cmd):Prop where
 k1:1≤c.k
 k2:c.k≤10
 b:c.b.length≤2000
 w:c.w.length≤2000
 m:c.m.length≤2000
 cl : -1000000000000000000≤c.cl∧c.cl≤1000000000000000000
theorem cmdS {c:Cmd} (hc:cmdF c=0):CmdS c:=by
 cases z0S hc with
 | set h hs e=>rw[e];exact⟨by dsimp only;omega,by dsimp only;omega,Nat.zero_le _,Nat.zero_le _,Nat.zero_le _,by dsimp only;omega⟩
 | go h hs e=>rw[e];exact⟨by dsimp only;omega,by dsimp only;omega,Nat.zero_le _,Nat.zero_le _,Nat.zero_le _,by dsimp only;omega⟩
 | idle h h0 h1 e=>rw[e];exact⟨by dsimp only;omega,by dsimp only;omega,Nat.zero_le _,Nat.zero_le _,Nat.zero_le _,by dsimp only;omega⟩
 | pad h0 h1 hb hl e=>rw[e];exact⟨by dsimp only;omega,by dsimp only;omega,hl,Nat.zero_le _,Nat.zero_le _,by dsimp only;omega⟩
 | scan h hs e=>
  obtain⟨q1,q2,q3,q4,q5,q6⟩:=z1B hs
  refine⟨by omega,by omega,q3,?_,?_,by rw[e];dsimp only;omega⟩
  ·rcases q6 with ⟨a,b⟩ | ⟨a,b⟩
   ·simp [a]
   ·omega
  ·rcases q6 with ⟨a,b⟩ | ⟨a,b⟩
   ·simp [b]
   ·omega
theorem zaS {n:Int} (h1 : -1000000000000000000≤n) (h2:n≤1000000000000000000):(itoa n).length≤21:=by
 have d:(decN n.natAbs).length≤20:=(z5U 19 n.natAbs (by omega)).2
 unfold itoa
 split
 ·simp;omega
 ·omega
theorem zeS {c:Cmd} (hc:cmdF c=0):(z1R c).length≤6100:=by
 have S:=cmdS hc
 have a:=zf9 c.k
 have b:=zbx c.s
 have d:=zaS S.cl.1 S.cl.2
 have e1:=S.b;have e2:=S.w;have e3:=S.m
 unfold z1R
 rw[List.length_append,List.length_cons]
 split
 ·omega
 split
 ·omega
 split
 ·simp only[List.length_append,List.length_cons];omega
 split
 ·simp;omega
 ·omega
theorem z7f {l:List Cmd} (h:∀ c∈l,cmdF c=0):(z1g l).length≤l.length*6101:=by
 induction l with
 | nil=>simp [z1g]
 | cons c l ih=>
  have a:=ih (fun d hd=>h d (List.mem_cons_of_mem c hd))
  have b:=zeS (h c (List.mem_cons_self ..))
  have e:z1g (c::l)=z1R c++[10]++z1g l:=rfl
  rw[e,List.length_append,List.length_append,List.length_singleton,List.length_cons]
  omega
theorem zgg {l:List Cmd} {k:Nat} (hk:k<l.length):z1g (l.take (k+1))=z1g (l.take k)++(z1R l[k]++[10]):=by
 unfold z1g
 rw[List.take_succ_eq_append_getElem hk,List.map_append,List.flatten_append]
 simp
set_option maxHeartbeats 4000000 in
theorem s_line (c:Cmd) (hc:cmdF c=0):z0c X zaN [ACm c] h K=K (AS (z1R c)) h []:=by
 refine rule ?_
 rw[c_q06g rfl]
 obtain⟨k1,k2,b1,w1,m1,cl⟩:=cmdS hc
 obtain⟨k,s,cl',b,w,m⟩:=c
 dsimp only at k1 k2 b1 w1 m1 cl
 have fw:=fun (h':Heap) (K':Post)=>zts (h:=h') (K:=K') k k1 k2
 have fs:=fun (h':Heap) (K':Post)=>z9I (h:=h') (K:=K') s
 have fi:=fun (h':Heap) (K':Post)=>y03 (h:=h') (K:=K') cl' cl.1 cl.2
 have fsc:=fun (h':Heap) (K':Post)=>z2d (h:=h') (K:=K') k
 have a:=zf9 k
 have a2:=zbx s
 have a3:=zaS cl.1 cl.2
 have mx:1000000≤z0n:=by unfold z0n;omega
 unfold z1R
 dsimp only
 generalize z1A k=W at *
 by_cases hs:k=1∨k=2∨k=10
 ·have l1:W.length+1≤z0n:=by omega
  have l2:W.length+1+(z1I s).length≤z0n:=by omega
  have l3:W.length+((z1I s).length+1)≤z0n:=by omega
  rw[if_pos hs]
  rcases hs with rfl | rfl | rfl <;> simp only[z5R,go_sem,fw,fs,l1,l2,l3,splice,List.length_append,List.length_cons,List.length_nil,Nat.zero_add]
 ·rw[if_neg hs]
  have n1:¬ k=1:=fun e=>hs (.inl e)
  have n2:¬ k=2:=fun e=>hs (.inr (.inl e))
  have n10:¬ k=10:=fun e=>hs (.inr (.inr e))
  have l1:W.length+1≤z0n:=by omega
  by_cases h9:k=9
  ·subst h9
   have l2:W.length+1+(itoa cl').length≤z0n:=by omega
   have l3:W.length+((itoa cl').length+1)≤z0n:=by omega
   simp only[z5R,go_sem,fw,fi,l1,l2,l3,splice,List.length_append,List.length_cons,List.length_nil,Nat.zero_add]
  ·rw[if_neg h9]
   by_cases h78:(k=7∨k=8)∧w≠[]
   ·rw[if_pos h78]
    obtain⟨h7,hw⟩:=h78
    have e2:(decide (k=7)||decide (k=8))=true:=by simpa using h7
    rw[e2] at fsc
    have l2:W.length+1+b.length≤z0n:=by omega
    have l3:W.length+1+b.length+1≤z0n:=by omega
    have l4:W.length+1+b.length+1+w.length≤z0n:=by omega
    have l5:W.length+1+b.length+1+w.length+1≤z0n:=by omega
    have l6:W.length+1+b.length+1+w.length+1+m.length≤z0n:=by omega
    simp only[z5R,go_sem,fw,fsc,n1,n2,n10,h9,hw,l1,splice,List.length_append,List.length_cons,List.length_nil,Nat.zero_add]
    repeat rw[if_pos (by omega)]
    try trivial
   ·rw[if_neg h78]
    by_cases hb:b=[]
    ·subst hb
     rw[if_pos rfl]
     have l2:W.length+1+1≤z0n:=by omega
     by_cases h7:k=7∨k=8
     ·have e2:(decide (k=7)||decide (k=8))=true:=by simpa using h7
      rw[e2] at fsc
      have hw:w=[]:=by simpa [h7] using h78
      simp only[z5R,go_sem,fw,fsc,n1,n2,n10,h9,hw,l1,l2,splice,List.length_append,List.length_cons,List.length_nil,Nat.zero_add]
     ·have e2:(decide (k=7)||decide (k=8))=false:=by simpa using h7
      rw[e2] at fsc
      simp only[z5R,go_sem,fw,fsc,n1,n2,n10,h9,l1,l2,splice,List.length_append,List.length_cons,List.length_nil,Nat.zero_add]
    ·rw[if_neg hb]
     have l2:W.length+1+b.length≤z0n:=by omega
     have l3:W.length+(b.length+1)≤z0n:=by omega
     by_cases h7:k=7∨k=8
     ·have e2:(decide (k=7)||decide (k=8))=true:=by simpa using h7
      rw[e2] at fsc
      have hw:w=[]:=by simpa [h7] using h78
      simp only[z5R,go_sem,fw,fsc,n1,n2,n10,h9,hw,hb,l1,l2,l3,splice,List.length_append,List.length_cons,List.length_nil,Nat.zero_add]
     ·have e2:(decide (k=7)||decide (k=8))=false:=by simpa using h7
      rw[e2] at fsc
      simp only[z5R,go_sem,fw,fsc,n1,n2,n10,h9,hb,l1,l2,l3,splice,List.length_append,List.length_cons,List.length_nil,Nat.zero_add]
end Go.Am
end
section
/- Programs written: the reference. -/
open Go
set_option linter.all false
set_option maxRecDepth 100000
namespace Go.Am
variable {h:Heap} {K:Post}
end Go.Am
end
section
/- Programs read: a line,both ways. -/
open Go
set_option linter.all false
set_option maxRecDepth 100000
namespace Go.Am
variable {h:Heap} {K:Post}
theorem zzP {k:Nat} (h1:1≤k) (h2:k≤10) {w:List UInt8} (e:z1A (k:Int)=w):kP w=k:=by
 have:=(zpT (k:=(k:Int)) (by omega) (by omega)).1
 rw[e] at this
 unfold kP
 rw[if_pos (by omega),this]
theorem zzO {w:List UInt8} (hn:∀ j:Nat,1≤j→j≤10→z1A (j:Int)≠w):kP w=0:=by
 unfold kP
 split
 ·rename_i hk
  exfalso
  refine hn (kV w) hk.1 hk.2 ?_
  have hl:kV w<z7E.length:=by show kV w<11;omega
  have:=List.findIdx_getElem (w:=hl)
  have e:z7E[kV w]=w:=of_decide_eq_true this
  unfold z1A
  rw[Int.toNat_natCast,List.getElem?_eq_getElem hl]
  exact e
 ·rfl
theorem zvV (w:List UInt8):z0c X zaM [AS w] h K=K (AI (kP w)) h []:=by
 refine rule ?_
 rw[c_q06f rfl]
 simp only[zhy,go_sem]
 refine z0Y (fun k:Nat=>⟨[(0,AS w),(3,AI k)],h,[]⟩) (fun k=>1≤k∧k≤11∧∀ j:Nat,1≤j→j<k→z1A (j:Int)≠w) (fun k=>11-k) 1 rfl ⟨by omega,by omega,fun j a b=>by omega⟩ ?_
 rintro k ⟨k1,k2,hn⟩
 rcases Nat.lt_or_ge k 11 with hlt | hge
 ·have hk:(k:Int)≤10:=by omega
  have w2:IntKind.i64.wrap ((k:Int)+1)=((k+1:Nat):Int):=z0j _ (by omega) (by omega)
  have fw:=fun (h':Heap) (K':Post)=>zts (h:=h') (K:=K') k (by omega) hk
  by_cases he:z1A (k:Int)=w
  ·rw[zzP k1 (by omega) he]
   simp only[go_sem,hk,fw,he]
  ·simp only[go_sem,hk,fw,he,w2]
   refine⟨k+1,rfl,⟨by omega,by omega,fun j j1 j2=>?_⟩,by omega⟩
   by_cases hj:j=k
   ·subst hj;exact he
   ·exact hn j j1 (by omega)
 ·have hk:¬ (k:Int)≤10:=by omega
  rw[zzO fun j j1 j2=>hn j j1 (by omega)]
  simp only[go_sem,hk]
theorem kP_le (w:List UInt8):0≤kP w∧kP w≤10:=by unfold kP;split <;> omega
theorem zb1 {ws:List (List UInt8)} {i:Nat} (hi:i<ws.length):(ws.map PV.str)[i]?=some (.str (wd ws i)):=by
 unfold wd
 rw[List.getElem?_map,List.getElem?_eq_getElem hi]
 rfl
theorem zwt {w:List UInt8} {k:Nat} (hk:k<4) (he:z1I ((z1Z[k]?).getD 0)=w):tV w=k:=by
 have:k=0∨k=1∨k=2∨k=3:=by omega
 rcases this with rfl | rfl | rfl | rfl <;> subst he <;> rfl
theorem zkh {k:Nat} (hk:k<4):z1I ((z1Z[k]?).getD 0)=(z5x[k]?).getD []:=by
 have:k=0∨k=1∨k=2∨k=3:=by omega
 rcases this with rfl | rfl | rfl | rfl <;> rfl
theorem y0Z {w:List UInt8} (hn:∀ j:Nat,j<4→z1I ((z1Z[j]?).getD 0)≠w):¬ tV w<4:=by
 intro hl
 refine hn (tV w) hl ?_
 have hl':tV w<z5x.length:=hl
 have:=List.findIdx_getElem (w:=hl')
 have e:z5x[tV w]=w:=of_decide_eq_true this
 rw[zkh hl,List.getElem?_eq_getElem hl']
 exact e
attribute [-go_sem] z5S z3l
set_option maxHeartbeats 8000000 in
theorem zgp (s:List UInt8) (hs:s.length≤900000):z0c X zaO [AS s] h K=K (.tup [.p (cmdP (rdPC (z0q 32 s)).1),AB (rdPC (z0q 32 s)).2]) h []:=by
 refine rule ?_
 rw[c_q06i rfl]
 have q:=fun h K=>zto (h:=h) (K:=K) s 32 (by omega)
 have hl:(z0q 32 s).length≤1000000:=by
  rw[z1t]
  have:s.count 32≤s.length:=List.count_le_length
  omega
 have hl1:1≤(z0q 32 s).length:=by rw[z1t];omega
 have wln:(wd (z0q 32 s) 1).length≤900000:=by
  unfold wd
  cases hx:(z0q 32 s)[1]? with
  | none=>simp
  | some x=>have:=z2x (List.mem_of_getElem? hx);simp only[Option.getD_some];omega
 generalize z0q 32 s=ws at *
 have qc:=fun h K=>zkE (h:=h) (K:=K) ws (fun h' _=>strS _) [] hl
 have cw:∀ w:List UInt8,cutP none 0 (PV.str w)=some (PV.str w):=fun _=>rfl
 have g0:=zb1 (ws:=ws) (i:=0) (by omega)
 have qk:=fun h K=>zvV (h:=h) (K:=K) (wd ws 0)
 unfold rdPC
 by_cases hc:ws.contains []=true
 ·rw[hc] at qc
  rw[if_pos hc]
  simp only[z23,go_sem,↓q,q,↓qc,qc,splice,cmd0]
 ·have hc':ws.contains []=false:=by simpa using hc
  rw[hc'] at qc
  rw[if_neg hc]
  obtain⟨kb1,kb2⟩:=kP_le (wd ws 0)
  generalize kP (wd ws 0)=kd at *
  have qs:=fun h K=>z2d (h:=h) (K:=K) kd
  by_cases h78:kd=7∨kd=8
  ·have e2:(decide (kd=7)||decide (kd=8))=true:=by simpa using h78
   rw[e2] at qs
   have n0:¬ kd=0:=by omega
   by_cases h4:ws.length=4
   ·have h4':(ws.length:Int)=4:=by omega
    have b1:1<ws.length:=by omega
    have b2:2<ws.length:=by omega
    have b3:3<ws.length:=by omega
    have g1:=zb1 b1
    have g2:=zb1 b2
    have g3:=zb1 b3
    rw[if_pos ⟨h78,h4⟩]
    simp only[z23,go_sem,↓q,q,↓qc,qc,↓qk,qk,↓qs,qs,g0,g1,g2,g3,cw,hl1,b1,b2,b3,h4',splice]
   ·have h4':¬ (ws.length:Int)=4:=by omega
    rw[if_neg (fun z=>h4 z.2)]
    by_cases h2:ws.length=2
    ·have h2':(ws.length:Int)=2:=by omega
     have b1:1<ws.length:=by omega
     have g1:=zb1 b1
     rw[if_neg (by rintro (h | h);exact n0 h;exact h h2),if_neg (by omega),if_neg (by omega),if_pos (.inl h78)]
     have m1:¬ kd=1:=by omega
     have m2:¬ kd=2:=by omega
     have m10:¬ kd=10:=by omega
     have m9:¬ kd=9:=by omega
     simp only[z23,z3l,go_sem,↓q,q,↓qc,qc,↓qk,qk,↓qs,qs,g0,g1,cw,hl1,b1,h2',n0,m1,m2,m9,m10,splice]
    ·have h2':¬ (ws.length:Int)=2:=by omega
     rw[if_pos (.inr h2)]
     simp only[z23,go_sem,↓q,q,↓qc,qc,↓qk,qk,↓qs,qs,g0,cw,hl1,h4',h2',n0,splice,cmd0]
  ·have e2:(decide (kd=7)||decide (kd=8))=false:=by simpa using h78
   rw[e2] at qs
   rw[if_neg (fun z=>h78 z.1)]
   by_cases n0:kd=0
   ·subst n0
    rw[if_pos (.inl rfl)]
    simp only[z23,go_sem,↓q,q,↓qc,qc,↓qk,qk,↓qs,qs,g0,cw,hl1,splice,cmd0]
   by_cases h2:ws.length=2
   ·have h2':(ws.length:Int)=2:=by omega
    have b1:1<ws.length:=by omega
    have g1:=zb1 b1
    rw[if_neg (by rintro (h | h);exact n0 h;exact h h2)]
    by_cases hst:kd=1∨kd=2∨kd=10
    ·rw[if_pos hst]
     have fin:∀ kd:Int,(kd=1∨kd=2∨kd=10)→z1a (z0c X) X.gl z2F (z0t 1 (seqN (z0c X) X.gl z4A (z0t 0 (seqN (z0c X) X.gl z4B (finR [.cell 2 (some 6),.t 3] false h.length fun v1 h1 x1=>v1 = .tup [.p (cmdP (if tV (wd ws 1)<4 then ((⟨kd,stT (wd ws 1),0,[],[],[]⟩:Cmd),true) else (cmd0,false)).1),AB (if tV (wd ws 1)<4 then ((⟨kd,stT (wd ws 1),0,[],[],[]⟩:Cmd),true) else (cmd0,false)).2]∧h1=h∧x1=[])))))
      [(2,.ref h.length 0),(4,AStr ws),(5,.ref (h.length+1) 0),(64,AL z1Z),(65,AI 4),(66,AI 0)] (h++[.box [AI 0,AI 0,AI 0,AS [],AS [],AS []],.box [AI kd,AI 0,AI 0,AS [],AS [],AS []]]) []:=by
      intro kd hkd
      refine z0Y (fun k:Nat=>⟨[(2,.ref h.length 0),(4,AStr ws),(5,.ref (h.length+1) 0),(64,AL z1Z),(65,AI 4),(66,AI k)],h++[.box [AI 0,AI 0,AI 0,AS [],AS [],AS []],.box [AI kd,AI 0,AI 0,AS [],AS [],AS []]],[]⟩) (fun k=>k≤4∧∀ j:Nat,j<k→z1I ((z1Z[j]?).getD 0)≠wd ws 1) (fun k=>4-k) 0 rfl ⟨by omega,fun j hj=>by omega⟩ ?_
      rintro k ⟨hk,hn⟩
      rcases Nat.lt_or_ge k 4 with hlt | hge
      ·have hk4:(k:Int)<4:=by omega
       have hgs:(z1Z.map eI)[k]?=some (eI ((z1Z[k]?).getD 0)):=by
        have:k=0∨k=1∨k=2∨k=3:=by omega
        rcases this with rfl | rfl | rfl | rfl <;> rfl
       have hkl:k<z1Z.length:=hlt
       have w2:IntKind.i64.wrap ((k:Int)+1)=((k+1:Nat):Int):=z0j _ (by omega) (by omega)
       have fs:=fun (h':Heap) (K':Post)=>z9I (h:=h') (K:=K') ((z1Z[k]?).getD 0)
       by_cases he:z1I ((z1Z[k]?).getD 0)=wd ws 1
       ·have et:=zwt hlt he
        have es:stT (wd ws 1)=(z1Z[k]?).getD 0:=by unfold stT;rw[et]
        rw[if_pos (by omega),es]
        simp only[go_sem,hk4,hgs,hkl,fs,b1,g1,cw,he,splice]
       ·simp only[go_sem,hk4,hgs,hkl,fs,b1,g1,cw,he,w2]
        refine⟨k+1,rfl,⟨by omega,fun j hj=>?_⟩,by omega⟩
        by_cases hjk:j=k
        ·subst hjk;exact he
        ·exact hn j (by omega)
      ·obtain rfl:k=4:=by omega
       rw[if_neg (y0Z hn)]
       have hk4:¬ ((4:Nat):Int)<4:=by omega
       simp only[go_sem,hk4,z5S,splice,cmd0]
     have f1:=fin kd hst
     rcases hst with rfl | rfl | rfl
     ·simp only[z23,go_sem,↓q,q,↓qc,qc,↓qk,qk,↓qs,qs,g0,cw,hl1,h2',splice]
      exact f1
     ·simp only[z23,go_sem,↓q,q,↓qc,qc,↓qk,qk,↓qs,qs,g0,cw,hl1,h2',splice]
      exact f1
     ·simp only[z23,go_sem,↓q,q,↓qc,qc,↓qk,qk,↓qs,qs,g0,cw,hl1,h2',splice]
      exact f1
    ·rw[if_neg hst]
     have m1:¬ kd=1:=fun e=>hst (.inl e)
     have m2:¬ kd=2:=fun e=>hst (.inr (.inl e))
     have m10:¬ kd=10:=fun e=>hst (.inr (.inr e))
     by_cases h9:kd=9
     ·subst h9
      rw[if_pos rfl]
      have qn:=fun h K=>ztm (h:=h) (K:=K) (wd ws 1) 15 (by omega) (by omega)
      have e15:((15:Nat):Int)=15:=rfl
      rw[e15] at qn
      simp only[z23,go_sem,↓q,q,↓qc,qc,↓qk,qk,↓qs,qs,g0,g1,cw,hl1,b1,h2',↓qn,qn,splice]
     ·rw[if_neg h9]
      by_cases h45:wd ws 1=[45]
      ·rw[if_neg (by rintro (h | h);exact h78 h;exact h h45)]
       simp only[z23,z3l,go_sem,↓q,q,↓qc,qc,↓qk,qk,↓qs,qs,g0,g1,cw,hl1,b1,h2',n0,m1,m2,m10,h9,h45,splice]
      ·rw[if_pos (.inr h45)]
       simp only[z23,z3l,go_sem,↓q,q,↓qc,qc,↓qk,qk,↓qs,qs,g0,g1,cw,hl1,b1,h2',n0,m1,m2,m10,h9,h45,splice]
   ·have h2':¬ (ws.length:Int)=2:=by omega
    rw[if_pos (.inr h2)]
    simp only[z23,go_sem,↓q,q,↓qc,qc,↓qk,qk,↓qs,qs,g0,cw,hl1,h2',n0,splice,cmd0]
end Go.Am
end
section
/- Programs read: a line,the reference. -/
open Go
set_option linter.all false
set_option maxRecDepth 100000
namespace Go.Am
variable {h:Heap} {K:Post}
end Go.Am
end
section
/- A text taken line by line: base.Each,scanref2.Lines. -/
open Go
set_option linter.all false
namespace Go.Am
variable {h:Heap} {K:Post}
attribute [-go_sem] z8D
theorem z5b (s:List UInt8):(ze5 s=true∧z1r s=lnsD s∧lnsT s=false)∨(ze5 s=false∧(∃ t,z1r s=lnsD s++[t])∧lnsT s=true):=by
 by_cases h0:s=[]
 ·subst h0
  exact .inl ⟨rfl,rfl,rfl⟩
 ·by_cases h1:s.getLast?=some 10
  ·left
   obtain⟨e1,e2⟩:=zjK h1
   refine⟨by simp [ze5,z3o,h1],?_,e2⟩
   unfold z1r z3g z3o
   rw[if_neg h0,if_pos (by simpa using h1),e1]
  ·right
   obtain⟨t,e1,e2⟩:=zq8 h0 h1
   refine⟨by simp [ze5,z3o,h0,h1],⟨t,?_⟩,e2⟩
   unfold z1r z3g z3o
   rw[if_neg h0,if_neg (by simpa using h1),e1]
theorem zhW {s l:List UInt8} (h:l∈lnsD s):l.length≤s.length:=z2x (List.dropLast_subset _ h)
theorem zhV (s:List UInt8):(lnsD s).length≤s.length:=by
 unfold lnsD
 rw[List.length_dropLast,z1t]
 have:s.count 10≤s.length:=List.count_le_length
 omega
theorem s_Each {σ:Type} (c:Nat) (caps:List AV) (take:σ→List UInt8→Bool × σ) (H:σ→Heap) (I:Nat→σ→Prop) (s:List UInt8) (hs:s.length≤900000) (n:Nat) (hn:∀ t,(H t).length=n)
 (hc:∀ (k:Nat) (t:σ) (l:List UInt8) (K:Post),I k t→k≤900000→l.length≤s.length→z0c X c (AS l::caps) (H t) K=K (AB (take t l).1) (H (take t l).2) [])
 (hI:∀ (k:Nat) (t:σ) (l:List UInt8),I k t→l.length≤s.length→(take t l).1=true→I (k+1) (take t l).2) (t0:σ) (h0:I 0 t0) {K:Post} :
 z0c X zar [AS s,.fn c caps] (H t0) K=K (.tup [AI (lnsF take (lnsT s) 0 (lnsD s) t0).1.1,AB (lnsF take (lnsT s) 0 (lnsD s) t0).1.2]) (H (lnsF take (lnsT s) 0 (lnsD s) t0).2) []:=by
 refine rule ?_
 rw[c_q001 rfl]
 have q:=fun h K=>y04 (h:=h) (K:=K) s (by omega)
 have hD:=zhV s
 simp only[zgX,go_sem,↓q,q]
 have hT:∀ t,List.take (List.length (H t0)) (H t)=H t:=fun t=>List.take_of_length_le (by rw[hn,hn];exact Nat.le_refl _)
 have hLl:(z1r s).length≤(lnsD s).length+1∧(lnsD s).length≤(z1r s).length:=by
  rcases z5b s with ⟨e1,e2,e3⟩ | ⟨e1,⟨t,e2⟩,e3⟩ <;> rw[e2] <;> simp
 refine z0Y (fun y:Nat × σ=>⟨[(1,.fn c caps),(6,AStr (z1r s)),(7,AB (ze5 s)),(15,AStr (z1r s)),(16,AI (z1r s).length),(17,AI y.1)],H y.2,[]⟩) (fun y=>I y.1 y.2∧y.1≤(lnsD s).length∧lnsF take (lnsT s) 0 (lnsD s) t0=lnsF take (lnsT s) y.1 ((lnsD s).drop y.1) y.2) (fun y=>(lnsD s).length-y.1) (0,t0) (by simp) ⟨h0,by omega,rfl⟩ ?_
 rintro⟨k,t⟩ ⟨hi,hk,hF⟩
 dsimp only at hi hk hF ⊢
 rw[hF]
 rcases Nat.lt_or_ge k (lnsD s).length with hlt | hge
 ·have hL:k<(z1r s).length:=by omega
  have hg:(z1r s)[k]=(lnsD s)[k]:=by
   rcases z5b s with ⟨e1,e2,e3⟩ | ⟨e1,⟨t,e2⟩,e3⟩
   ·simp only[e2]
   ·simp only[e2]
    rw[List.getElem_append_left hlt]
  have hL':(k:Int)<((z1r s).length:Int):=by omega
  have hgm:=z1E PV.str hL
  rw[hg] at hgm
  have cz:cutP none 0 (PV.str (lnsD s)[k])=some (PV.str (lnsD s)[k]):=rfl
  have hll:((lnsD s)[k]).length≤s.length:=zhW (List.getElem_mem hlt)
  have wk:IntKind.i64.wrap ((k:Int)+1)=((k+1:Nat):Int):=z0j _ (by omega) (by omega)
  have wl:IntKind.i64.wrap (((z1r s).length:Int)-1)=(((z1r s).length-1:Nat):Int):=by rw[z0j _ (by omega) (by omega)];omega
  have hq:=fun K=>hc k t (lnsD s)[k] K hi (by omega) hll
  rw[List.drop_eq_getElem_cons hlt,z8Z]
  rcases z5b s with ⟨e1,e2,e3⟩ | ⟨e1,⟨t1,e2⟩,e3⟩
  ·cases hb:(take t (lnsD s)[k]).1 with
   | true=>
    rw[hb] at hq
    simp only[go_sem,hL',hL,hgm,cz,e1,↓hq,hq,wk,cond_true]
    exact⟨(k+1,(take t (lnsD s)[k]).2),rfl,⟨hI k t _ hi hll hb,by omega,rfl⟩,by simp;omega⟩
   | false=>
    rw[hb] at hq
    simp only[go_sem,hL',hL,hgm,cz,e1,↓hq,hq,wk,cond_false,hT]
  ·have hne:¬ (k:Int)=(((z1r s).length-1:Nat):Int):=by
    rw[e2];simp;omega
   cases hb:(take t (lnsD s)[k]).1 with
   | true=>
    rw[hb] at hq
    simp only[go_sem,hL',hL,hgm,cz,e1,wl,hne,↓hq,hq,wk,cond_true]
    exact⟨(k+1,(take t (lnsD s)[k]).2),rfl,⟨hI k t _ hi hll hb,by omega,rfl⟩,by simp;omega⟩
   | false=>
    rw[hb] at hq
    simp only[go_sem,hL',hL,hgm,cz,e1,wl,hne,↓hq,hq,wk,cond_false,hT]
 ·have hk':k=(lnsD s).length:=by omega
  subst hk'
  rw[List.drop_length,zbZ]
  rcases z5b s with ⟨e1,e2,e3⟩ | ⟨e1,⟨t1,e2⟩,e3⟩
  ·have hL':¬ ((lnsD s).length:Int)<((z1r s).length:Int):=by rw[e2];omega
   have hL:¬ (lnsD s).length<(z1r s).length:=by rw[e2];omega
   simp only[go_sem,hL',hL,decide_false,e3,cond_false]
   rw[z8D]
   simp only[z8r,go_sem,hT]
  ·have hL:(lnsD s).length<(z1r s).length:=by rw[e2];simp
   have hL':((lnsD s).length:Int)<((z1r s).length:Int):=by omega
   have hgm:=z1E PV.str hL
   have cz:cutP none 0 (PV.str (z1r s)[(lnsD s).length])=some (PV.str (z1r s)[(lnsD s).length]):=rfl
   have wl:IntKind.i64.wrap (((z1r s).length:Int)-1)=((lnsD s).length:Int):=by rw[z0j _ (by omega) (by omega),e2];simp
   simp only[go_sem,hL',hL,hgm,cz,e1,wl,e3,cond_true,hT]
end Go.Am
end
section
/- Faults read. -/
open Go
set_option linter.all false
namespace Go.Am
variable {h:Heap} {K:Post}
end Go.Am
end
section
/- Lists of faults read. -/
open Go
set_option linter.all false
namespace Go.Am
variable {h:Heap} {K:Post}
end Go.Am
end
section
/- fault.Read,scanref2.FaultsRead. -/
open Go
set_option linter.all false
namespace Go.Am
variable {h:Heap} {K:Post}
theorem frzA {h:Heap} {sh:Sh} {xs:List PV} {o:Obj} {k:Nat}:frz (h++[.row sh xs 0,o]) h.length k=h++[.row sh xs k,o]:=by
 unfold frz
 rw[List.getElem?_append_right (Nat.le_refl _),Nat.sub_self]
 simp
end Go.Am
end
section
/- A text changed at random. -/
open Go
set_option linter.all false
namespace Go.Am
variable {L:List Int} {a:Int} {h l:Heap} {id:Nat} {K:Post}
end Go.Am
end
section
/- What is drawn: faults. -/
open Go
set_option linter.all false
namespace Go.Am
variable {L:List Int} {a:Int} {h l:Heap} {id:Nat} {K:Post}
end Go.Am
end
section
/- Deleting faults: printed by program. -/
open Go
set_option linter.unusedSimpArgs false
namespace Go.Am
attribute [-go_sem] PV.cells splice
variable {h:Heap} {K:Post}
attribute [-go_sem] AV.cells cut
attribute [go_sem] AV.cells cut
end Go.Am
end
section
/- What is drawn: lists of faults. -/
open Go
set_option linter.all false
namespace Go.Am
variable {L:List Int} {a:Int} {h l:Heap} {id:Nat} {K:Post}
end Go.Am
end
section
/- Stable sorts of numbers: printed by program. -/
open Go
set_option linter.unusedSimpArgs false
namespace Go.Am
attribute [-go_sem] PV.cells splice
variable {h:Heap} {K:Post}
end Go.Am
end
section
/- Faults compared;texts of faults drawn. -/
open Go
set_option linter.all false
namespace Go.Am
variable {L:List Int} {a:Int} {h:Heap} {K:Post}
theorem zv2 {f:Nat} {F:AFun} {id fz:Nat} {sh:Sh} {xs:List PV} (hf:X.fn f=some F) (hr:F.byref=false) (hl:F.nparams=1) (hh:h[id]?=some (.row sh xs fz)):z0c X f [.own id xs.length 0 xs.length] h K=z0c X f [.p (.sl sh xs)] (frz h id xs.length) K:=
 zyQ (X:=X) (a:=[.own id xs.length 0 xs.length]) (vs:=[.sl sh xs]) hf hr (by
  have:win xs 0 xs.length=xs:=ziQ rfl
  simp [z0p,pur,rd,hh,this]) rfl (by simp [hl]) zzA
end Go.Am
end
section
/- What is drawn: bits,commands. -/
open Go
set_option linter.all false
namespace Go.Am
variable {L:List Int} {a:Int} {h l:Heap} {id:Nat} {K:Post}
attribute [-go_sem] oEqa z1x
theorem zut (a:Int):z5m [[48],[49]] L a=[48]∨z5m [[48],[49]] L a=[49]:=by
 have:=z6F (l:=[[48],[49]]) (L:=L) (a:=a) (by simp) (by simp)
 simpa using this
theorem zhL (n:Nat) (hn:n≤1000) (hp:posN 1200 a):GenE z4b [AI n] L a (fun v a2=>a2=a+n∧∃ s:List UInt8,z0Q s=true∧s.length=n∧v=AS s):=by
 refine GenE.of fun h id hid=>?_
 rw[c_q02x rfl]
 simp only[zhl,go_sem]
 refine z0Y (fun t:Nat × List UInt8=>⟨[(0,.ref id 0),(5,AS t.2),(6,AI n),(7,AI t.1)],h.set id (strm L (a+t.1)),[]⟩) (fun t=>t.1≤n∧t.2.length=t.1∧z0Q t.2=true) (fun t=>n-t.1) (0,[]) (by simp) ⟨Nat.zero_le _,rfl,rfl⟩ ?_
 rintro⟨k,s⟩ ⟨hk,hs,hb⟩
 dsimp only at hk hs hb ⊢
 rcases Nat.lt_or_ge k n with hlt | hge
 ·have w2:IntKind.i64.wrap ((k:Int)+1)=((k+1:Nat):Int):=z0j _ (by omega) (by omega)
  have P:=z10 (n:=0) hp (show a≤a+(k:Int) by omega) (by omega)
  have hlt':(k:Int)<(n:Int):=by omega
  have e:a+((k+1:Nat):Int)=a+(k:Int)+1:=by omega
  rcases zut (L:=L) (a+(k:Int)) with e1 | e1
  ·have hl:s.length+1≤z0n:=by unfold z0n;omega
   simp only[go_sem,hlt,hlt',hid,P,w2,e1,hl]
   exact⟨(k+1,s++[48]),by dsimp only;rw[e],⟨by dsimp only;omega,by simp [hs],by unfold z0Q at *;rw[List.all_append,hb];rfl⟩,by dsimp only;omega⟩
  ·have hl:s.length+1≤z0n:=by unfold z0n;omega
   simp only[go_sem,hlt,hlt',hid,P,w2,e1,hl]
   exact⟨(k+1,s++[49]),by dsimp only;rw[e],⟨by dsimp only;omega,by simp [hs],by unfold z0Q at *;rw[List.all_append,hb];rfl⟩,by dsimp only;omega⟩
 ·obtain rfl:k=n:=by omega
  simp only[go_sem,Nat.lt_irrefl,Int.lt_irrefl]
  exact⟨a+(k:Int),⟨rfl,s,hb,hs,rfl⟩,rfl⟩
structure CmdB (m:Nat) (c:Cmd):Prop where
 k : -1152921504606846976≤c.k∧c.k≤1152921504606846976
 s : -1152921504606846976≤c.s∧c.s≤1152921504606846976
 cl : -1152921504606846976≤c.cl∧c.cl≤1152921504606846976
 b:c.b.length≤m
 w:c.w.length≤m
 m:c.m.length≤m
theorem CmdB.ok {m:Nat} {c:Cmd} (hm:m≤100000) (H:CmdB m c):CmdOk c:=⟨by have:=H.b;omega,by have:=H.w;omega,by have:=H.m;omega⟩
abbrev cmdV (c:Cmd):List AV:=[AI c.k,AI c.s,AI c.cl,AS c.b,AS c.w,AS c.m]
set_option maxHeartbeats 4000000 in
theorem ac_k4 (hid:id<h.length) {b:Int} (hp:posN 60 b) (c:Cmd) (hc:CmdB 8 c) {z1 z2 z3:Int} {z4 z5 z6:List UInt8} {Kx:Ex→St→Prop}
 (hK:∀ (c2:Cmd) (b2:Int),b≤b2→b2≤b+8→CmdB 2100 c2→Kx .ret ⟨[(2,.ref h.length 0)],h.set id (strm L b2)++[.box (cmdV c2),.box (cmdV c2)],[]⟩) :
 z1x (z0c X) X.gl z42 (.ref id 0) (.ref h.length 0) (.ref (h.length+1) 0) (h.set id (strm L b)++[.box [AI z1,AI z2,AI z3,AS z4,AS z5,AS z6],.box (cmdV c)]) [] Kx:=by
 have hid':id≤h.length:=by omega
 have P:=zil (z10 hp (Int.le_refl b) (by omega))
 obtain⟨k,s,cl,bb,w,m⟩:=c
 obtain⟨q1,q2,q3,q4,q5,q6⟩:=hc
 dsimp only at q1 q2 q3 q4 q5 q6
 by_cases hf:z1K L b 60=0
 ·obtain⟨m1,m2⟩:=z5d L (b+1) 4 (by omega) (by omega)
  generalize hn:z1K L (b+1) 4=nx at m1 m2
  have:nx=0∨nx=1∨nx=2∨nx=3:=by omega
  rcases this with rfl | rfl | rfl | rfl
  ·obtain⟨kv,a3,c1,c2,c3,c4,O⟩:=g_Odd (L:=L) (a:=b+1+1) (z10 hp (by omega) (by omega)) 1 10 (by omega) (by omega) (by omega)
   have O':=fun l K=>O.app (h:=h) (id:=id) (l:=l) (K:=K) hid
   simp only[z1x,go_sem,hid,hid',P,hf,hn,O']
   exact hK ⟨kv,s,cl,bb,w,m⟩ a3 (by omega) (by omega) ⟨by dsimp only;omega,q2,q3,by dsimp only;omega,by dsimp only;omega,by dsimp only;omega⟩
  ·obtain⟨kv,a3,c1,c2,c3,c4,O⟩:=g_Odd (L:=L) (a:=b+1+1) (z10 hp (by omega) (by omega)) 0 15 (by omega) (by omega) (by omega)
   have O':=fun l K=>O.app (h:=h) (id:=id) (l:=l) (K:=K) hid
   have P3:posN 0 a3:=z10 hp (by omega) (by omega)
   have pm:=z94 (l:=[0,1,-1,20000,20001]) (L:=L) (a:=a3) (by simp) (by simp)
   simp only[List.mem_cons,List.not_mem_nil,or_false] at pm
   simp only[z1x,go_sem,hid,hid',P,P3,hf,hn,O']
   exact hK ⟨k,kv,z4i [0,1,-1,20000,20001] L a3,bb,w,m⟩ (a3+1) (by omega) (by omega) ⟨q1,by dsimp only;omega,by dsimp only;omega,by dsimp only;omega,by dsimp only;omega,by dsimp only;omega⟩
  ·have w1:IntKind.i64.wrap (2000-(bb.length:Int))=((2000-bb.length:Nat):Int):=by
    rw[show (2000:Int)-(bb.length:Int)=((2000-bb.length:Nat):Int) by omega];exact z0j _ (by omega) (by omega)
   have r1:=fun (h':Heap) (K':Post)=>zbq (h:=h') (K:=K') ((2000-bb.length:Nat):Int) (by omega) (by omega)
   have r2:=fun (h':Heap) (K':Post)=>zbq (h:=h') (K:=K') 2001 (by omega) (by omega)
   simp only[Int.toNat_natCast] at r1
   have pm:=z6F (l:=[[120],[],zs (2000-bb.length),zs (Int.toNat 2001)]) (L:=L) (a:=b+1+1) (by simp) (by simp)
   have pl:(z5m [[120],[],zs (2000-bb.length),zs (Int.toNat 2001)] L (b+1+1)).length≤2001:=by
    simp only[List.mem_cons,List.not_mem_nil,or_false] at pm
    rcases pm with e | e | e | e
    ·rw[e];decide
    ·rw[e];decide
    ·rw[e];simp only[zs,List.length_replicate];omega
    ·rw[e];simp only[zs,List.length_replicate];omega
   generalize hps:z5m [[120],[],zs (2000-bb.length),zs (Int.toNat 2001)] L (b+1+1)=ps at pl
   have hl:bb.length+ps.length≤z0n:=by unfold z0n;omega
   simp only[z1x,go_sem,hid,hid',P,hf,hn,w1,r1,r2,hps,hl]
   exact hK ⟨k,s,cl,bb++ps,w,m⟩ (b+1+1+1) (by omega) (by omega) ⟨q1,q2,q3,by simp;omega,by dsimp only;omega,by dsimp only;omega⟩
  ·have pm:=z6F (l:=[[],[48],w++[49]]) (L:=L) (a:=b+1+1) (by simp) (by simp)
   have pl:(z5m [[],[48],w++[49]] L (b+1+1)).length≤9:=by
    simp only[List.mem_cons,List.not_mem_nil,or_false] at pm
    rcases pm with e | e | e
    ·rw[e];decide
    ·rw[e];decide
    ·rw[e,List.length_append,List.length_singleton];omega
   have pm2:=z6F (l:=[[],[49],[120],m]) (L:=L) (a:=b+1+1+1) (by simp) (by simp)
   have pl2:(z5m [[],[49],[120],m] L (b+1+1+1)).length≤9:=by
    simp only[List.mem_cons,List.not_mem_nil,or_false] at pm2
    rcases pm2 with e | e | e | e
    ·rw[e];decide
    ·rw[e];decide
    ·rw[e];decide
    ·rw[e];omega
   have hl:w.length+1≤z0n:=by unfold z0n;omega
   generalize hps:z5m [[],[48],w++[49]] L (b+1+1)=ps at pl
   generalize hps2:z5m [[],[49],[120],m] L (b+1+1+1)=ps2 at pl2
   simp only[z1x,go_sem,hid,hid',P,hf,hn,hps,hps2,hl]
   exact hK ⟨k,s,cl,bb,ps,ps2⟩ (b+1+1+1+1) (by omega) (by omega) ⟨q1,q2,q3,by dsimp only;omega,by dsimp only;omega,by dsimp only;omega⟩
 ·simp only[z1x,go_sem,hid,hid',P,hf]
  exact hK ⟨k,s,cl,bb,w,m⟩ (b+1) (by omega) (by omega) ⟨q1,q2,q3,by dsimp only;omega,by dsimp only;omega,by dsimp only;omega⟩
theorem z5e {l:List Int} {lo hi:Int} (hl:0<l.length) (hl2:l.length<4611686018427387904) (h:∀ x∈l,lo≤x∧x≤hi) (a:Int):lo≤z4i l L a∧z4i l L a≤hi:=h _ (z94 hl hl2)
set_option maxHeartbeats 4000000 in
theorem zjC (hp:posN 2000 a):GenE zaz [] L a (fun v a2=>a≤a2∧a2≤a+60∧∃ c:Cmd,CmdB 2100 c∧v=ACm c):=by
 refine GenE.of fun h id hid=>?_
 rw[c_q02m rfl]
 have hid':id≤h.length:=by omega
 have P:=zil (z10 hp (Int.le_refl a) (by omega))
 obtain⟨k1,k2⟩:=z5e (L:=L) (l:=[7,7,8,8,8,1,2,3,4,5,6,9,10]) (lo:=1) (hi:=10) (by simp) (by simp) (by simp) a
 generalize hkd:z4i [7,7,8,8,8,1,2,3,4,5,6,9,10] L a=kd at k1 k2
 have hb2:∀ o1 o2:Obj,(h.set id (strm L a)++[o1,o2]).length=h.length+2:=fun o1 o2=>by simp
 have fin:∀ (c:Cmd) (b:Int),a≤b→b≤a+50→CmdB 8 c→z1x (z0c X) X.gl z42 (.ref id 0) (.ref h.length 0) (.ref (h.length+1) 0) (h.set id (strm L b)++[.box [AI 0,AI 0,AI 0,AS [],AS [],AS []],.box (cmdV c)]) []
  (finR [.cell 2 (some 6)] false h.length fun v1 h1 x1=>∃ a2,(a≤a2∧a2≤a+60∧∃ c:Cmd,CmdB 2100 c∧v1=ACm c)∧h1=h.set id (strm L a2)∧x1=[]):=by
  intro c b hb1 hb2 hc
  refine ac_k4 hid (z10 hp hb1 (by omega)) c hc fun c2 b2 q1 q2 q3=>?_
  simp only[go_sem]
  exact⟨b2,⟨by omega,by omega,c2,q3,rfl⟩,rfl⟩
 have z:(-1152921504606846976:Int)≤0∧(0:Int)≤1152921504606846976:=by omega
 have ck:∀ k:Int,1≤k→k≤10 → -1152921504606846976≤k∧k≤1152921504606846976:=fun k _ _=>by omega
 by_cases hs:kd=1∨kd=2∨kd=10
 ·obtain⟨s1,s2⟩:=z5e (L:=L) (l:=[0,1,1,6,13]) (lo:=0) (hi:=13) (by simp) (by simp) (by simp) (a+1)
  generalize hsv:z4i [0,1,1,6,13] L (a+1)=sv at s1 s2
  have hf:=fin ⟨kd,sv,0,[],[],[]⟩ (a+1+1) (by omega) (by omega) ⟨ck _ k1 k2,by dsimp only;omega,z,Nat.zero_le _,Nat.zero_le _,Nat.zero_le _⟩
  rcases hs with rfl | rfl | rfl
  ·simp only[z4a,go_sem,hid,hid',P,hkd,hsv]
   exact hf
  ·simp only[z4a,go_sem,hid,hid',P,hkd,hsv]
   exact hf
  ·simp only[z4a,go_sem,hid,hid',P,hkd,hsv]
   exact hf
 have n1:¬ kd=1:=fun e=>hs (.inl e)
 have n2:¬ kd=2:=fun e=>hs (.inr (.inl e))
 have n10:¬ kd=10:=fun e=>hs (.inr (.inr e))
 by_cases h9:kd=9
 ·obtain⟨s1,s2⟩:=z5e (L:=L) (l:=[0,0,1,3]) (lo:=0) (hi:=3) (by simp) (by simp) (by simp) (a+1)
  generalize hsv:z4i [0,0,1,3] L (a+1)=sv at s1 s2
  have hf:=fin ⟨9,0,sv,[],[],[]⟩ (a+1+1) (by omega) (by omega) ⟨ck 9 (by omega) (by omega),z,by dsimp only;omega,Nat.zero_le _,Nat.zero_le _,Nat.zero_le _⟩
  subst h9
  simp only[z4a,go_sem,hid,hid',P,hkd,hsv]
  exact hf
 by_cases h78:kd=7∨kd=8
 ·obtain⟨s1,s2⟩:=z5e (L:=L) (l:=[1,2,3,5,8]) (lo:=1) (hi:=8) (by simp) (by simp) (by simp) (a+1)
  generalize hsv:z4i [1,2,3,5,8] L (a+1)=sv at s1 s2
  obtain⟨n,rfl⟩:∃ n:Nat,sv=n:=⟨sv.toNat,by omega⟩
  obtain⟨_,a3,⟨e3,s,sb,sl,rfl⟩,V⟩:=(zhL (L:=L) (a:=a+1+1) n (by omega) (z10 hp (by omega) (by omega))).app (h:=h) (l:=[.box [AI 0,AI 0,AI 0,AS [],AS [],AS []],.box [AI kd,AI 0,AI 0,AS [],AS [],AS []]]) hid
  have P3:posN 0 a3:=z10 hp (by omega) (by omega)
  have hid2:id<(h.set id (strm L (a3+1))++[Obj.box [AI 0,AI 0,AI 0,AS [],AS [],AS []],.box [AI kd,AI 0,AI 0,AS s,AS [],AS []]]).length:=by simp;omega
  obtain⟨_,a4,⟨e4,t,tb,tl,rfl⟩,V2⟩:=(zhL (L:=L) (a:=a3+1) s.length (by omega) (z10 hp (by omega) (by omega))).app (h:=h) (l:=[.box [AI 0,AI 0,AI 0,AS [],AS [],AS []],.box [AI kd,AI 0,AI 0,AS s,AS [],AS []]]) hid
  obtain⟨_,a5,⟨e5,u,ub,ul,rfl⟩,V3⟩:=(zhL (L:=L) (a:=a4) s.length (by omega) (z10 hp (by omega) (by omega))).app (h:=h) (l:=[.box [AI 0,AI 0,AI 0,AS [],AS [],AS []],.box [AI kd,AI 0,AI 0,AS s,AS [],AS []]]) hid
  have hf:=fin ⟨kd,0,0,s,[],[]⟩ (a3+1) (by omega) (by omega) ⟨ck _ k1 k2,z,z,by dsimp only;omega,Nat.zero_le _,Nat.zero_le _⟩
  have hf2:=fin ⟨kd,0,0,s,t,u⟩ a5 (by omega) (by omega) ⟨ck _ k1 k2,z,z,by dsimp only;omega,by dsimp only;omega,by dsimp only;omega⟩
  by_cases hfl:z1K L a3 2=0
  ·rcases h78 with rfl | rfl
   ·simp only[z4a,go_sem,hid,hid',P,P3,hkd,hsv,V,V2,V3,hfl]
    exact hf2
   ·simp only[z4a,go_sem,hid,hid',P,P3,hkd,hsv,V,V2,V3,hfl]
    exact hf2
  ·rcases h78 with rfl | rfl
   ·simp only[z4a,go_sem,hid,hid',P,P3,hkd,hsv,V,hfl]
    exact hf
   ·simp only[z4a,go_sem,hid,hid',P,P3,hkd,hsv,V,hfl]
    exact hf
 ·have n7:¬ kd=7:=fun e=>h78 (.inl e)
  have n8:¬ kd=8:=fun e=>h78 (.inr e)
  obtain⟨s1,s2⟩:=z5e (L:=L) (l:=[0,0,1,2,3]) (lo:=0) (hi:=3) (by simp) (by simp) (by simp) (a+1)
  generalize hsv:z4i [0,0,1,2,3] L (a+1)=sv at s1 s2
  obtain⟨n,rfl⟩:∃ n:Nat,sv=n:=⟨sv.toNat,by omega⟩
  obtain⟨_,a3,⟨e3,s,sb,sl,rfl⟩,V⟩:=(zhL (L:=L) (a:=a+1+1) n (by omega) (z10 hp (by omega) (by omega))).app (h:=h) (l:=[.box [AI 0,AI 0,AI 0,AS [],AS [],AS []],.box [AI kd,AI 0,AI 0,AS [],AS [],AS []]]) hid
  have hf:=fin ⟨kd,0,0,s,[],[]⟩ a3 (by omega) (by omega) ⟨ck _ k1 k2,z,z,by dsimp only;omega,Nat.zero_le _,Nat.zero_le _⟩
  simp only[z4a,go_sem,hid,hid',P,hkd,hsv,n1,n2,n10,h9,n7,n8,V]
  exact hf
end Go.Am
end
section
/- What is drawn: programs. -/
open Go
set_option linter.all false
namespace Go.Am
variable {L:List Int} {a:Int} {h l:Heap} {id:Nat} {K:Post}
attribute [-go_sem] oEqa
theorem repO_x (n:Int) (h0:0≤n) (h1:n≤1000000) (h:Heap) (K:Post):z0c X z1l [AS [49],AI n] h K=K (AS (List.replicate n.toNat 49)) h []:=by
 rw[zcs [49] n h0 (by simp;omega) h1,zi0]
set_option maxHeartbeats 4000000 in
theorem zjD (n:Nat) (hn:n≤20) (hp:posN 4000 a):GenE za0 [AI n] L a (fun v a2=>a≤a2∧a2≤a+1300∧∃ l:List Cmd,l.length≤n+11∧(∀ c∈l,CmdB 2100 c)∧v=ACs l):=by
 refine GenE.of fun h id hid=>?_
 rw[c_q02p rfl]
 have hid':id≤h.length:=by omega
 have hz:PV.shp (some 6) (.agg [.int .i64 0,.int .i64 0,.int .i64 0,.str [],.str [],.str []])=true:=rfl
 simp only[zhh,go_sem]
 refine z0Y (fun t:List Cmd × Int=>⟨[(0,.ref id 0),(5,.own h.length t.1.length 0 t.1.length),(6,AI n),(7,AI t.1.length)],h.set id (strm L t.2)++[.row (some 6) (t.1.map cmdP) 0],[]⟩)
  (fun t=>t.1.length≤n∧(∀ c∈t.1,CmdB 2100 c)∧a≤t.2∧t.2≤a+60*t.1.length) (fun t=>n-t.1.length) ([],a) rfl ⟨by simp,by simp,by simp,by simp⟩ ?_
 rintro⟨cs,b⟩ ⟨q1,q2,q3,q4⟩
 dsimp only at q1 q2 q3 q4 ⊢
 have hcz:∀ c:Cmd,PV.shp (some 6) (cmdP c)=true:=fun c=>rfl
 rcases Nat.lt_or_ge cs.length n with hlt | hge
 ·have w2:IntKind.i64.wrap ((cs.length:Int)+1)=((cs.length+1:Nat):Int):=z0j _ (by omega) (by omega)
  obtain⟨_,a3,⟨d1,d2,c,hc,rfl⟩,V⟩:=(zjC (L:=L) (a:=b) (z10 hp (by omega) (by omega))).app (h:=h) (l:=[.row (some 6) (cs.map cmdP) 0]) hid
  have hmx:cs.length+1≤z0J:=by unfold z0J;omega
  have hc':=hcz c
  have hlt':(cs.length:Int)<(n:Int):=by omega
  simp only[go_sem,hid,hid',hlt,hlt',V,hmx,hz,hc',w2]
  refine⟨(cs++[c],a3),by simp,⟨by simp;omega,fun g hg=>?_,by dsimp only;omega,by simp;omega⟩,by simp;omega⟩
  rcases List.mem_append.1 hg with hg | hg
  ·exact q2 g hg
  ·rw[List.mem_singleton.1 hg];exact hc
 ·have hge':¬ cs.length<n:=by omega
  have P:=z10 (n:=0) hp q3 (by omega)
  by_cases hf:z1K L b 80=0
  ·simp only[go_sem,hid,hid',hge',P,hf]
   refine z0Y (fun t:List Cmd × Int × Nat=>⟨[(0,.ref id 0),(5,.own h.length t.1.length 0 t.1.length),(17,AI t.2.2)],h.set id (strm L t.2.1)++[.row (some 6) (t.1.map cmdP) 0],[]⟩)
    (fun t=>t.2.2≤11∧t.1.length=cs.length+t.2.2∧(∀ c∈t.1,CmdB 2100 c)∧t.2.1=b+1+t.2.2) (fun t=>11-t.2.2) (cs,b+1,0) rfl ⟨by simp,by simp,q2,by simp⟩ ?_
   rintro⟨ds,b2,k⟩ ⟨r1,r2,r3,r4⟩
   dsimp only at r1 r2 r3 r4 ⊢
   subst r4
   have P2:=z10 (n:=0) (b:=b+1+(k:Int)) hp (by omega) (by omega)
   rcases Nat.lt_or_ge k 11 with hk | hk
   ·have w2:IntKind.i64.wrap ((k:Int)+1)=((k+1:Nat):Int):=z0j _ (by omega) (by omega)
    obtain⟨s1,s2⟩:=z5e (L:=L) (l:=[1800,1830,2000]) (lo:=1800) (hi:=2000) (by simp) (by simp) (by simp) (b+1+(k:Int))
    generalize hsv:z4i [1800,1830,2000] L (b+1+(k:Int))=sv at s1 s2
    have r0:=fun (h':Heap) (K':Post)=>repO_x sv (by omega) (by omega) h' K'
    have hmx:ds.length+1≤z0J:=by unfold z0J;omega
    have hk':(k:Int)<11:=by omega
    have hc':=hcz ⟨8,0,0,List.replicate sv.toNat 49,[],[]⟩
    simp only[go_sem,hid,hid',hk',P2,hsv,r0,hmx,hz,hc',w2]
    refine⟨(ds++[⟨8,0,0,List.replicate sv.toNat 49,[],[]⟩],b+1+(k:Int)+1,k+1),by simp,⟨by dsimp only;omega,by simp;omega,fun g hg=>?_,by dsimp only;omega⟩,by dsimp only;omega⟩
    rcases List.mem_append.1 hg with hg | hg
    ·exact r3 g hg
    ·rw[List.mem_singleton.1 hg]
     exact⟨by dsimp only;omega,by dsimp only;omega,by dsimp only;omega,by simp;omega,Nat.zero_le _,Nat.zero_le _⟩
   ·obtain rfl:k=11:=by omega
    have hk':¬ ((11:Nat):Int)<11:=by omega
    simp only[go_sem,hid,hid',hk']
    refine⟨b+1+((11:Nat):Int),⟨by omega,by omega,ds,by omega,r3,?_⟩,rfl⟩
    exact congrArg (fun x=>AV.p (PV.sl (some 6) x)) (List.take_of_length_le (by simp))
  ·simp only[go_sem,hid,hid',hge',P,hf]
   refine⟨b+1,⟨by omega,by omega,cs,by omega,q2,?_⟩,rfl⟩
   exact congrArg (fun x=>AV.p (PV.sl (some 6) x)) (List.take_of_length_le (by simp))
end Go.Am
end
section
/- What is drawn and right: programs. -/
open Go
set_option linter.all false
namespace Go.Am
variable {L:List Int} {a:Int} {h l:Heap} {id:Nat} {K:Post}
theorem z8X (n:Nat) (hn:n≤20) (hp:posN 20000 a):GenE za1 [AI n] L a (fun v a2=>a≤a2∧a2≤a+7800∧∃ l:List Cmd,l.length≤n∧(∀ c∈l,CmdB 2100 c)∧z1F z0f l=0∧v=ACs l):=by
 refine GenE.of fun h id hid=>?_
 rw[c_q02v rfl]
 simp only[zhk,go_sem,hid]
 refine z0Y (fun t:Nat × Int=>⟨[(0,.ref id 0),(1,AI n),(6,AI t.1)],h.set id (strm L t.2),[]⟩) (fun t=>t.1≤6∧a≤t.2∧t.2≤a+1300*t.1) (fun t=>6-t.1) (0,a) rfl ⟨by simp,by simp,by simp⟩ ?_
 rintro⟨k,b⟩ ⟨h1,h2,h3⟩
 dsimp only at h1 h2 h3 ⊢
 rcases Nat.lt_or_ge k 6 with hlt | hge
 ·have hk:(k:Int)<6:=by omega
  have w1:IntKind.i64.wrap ((k:Int)+1)=((k+1:Nat):Int):=z0j _ (by omega) (by omega)
  obtain⟨_,a2,⟨c1,c2,l,l1,lb,rfl⟩,V⟩:=(zjD (L:=L) (a:=b) n hn (z10 hp h2 (by omega))).set (h:=h) hid
  have F:=fun h K=>z9D (h:=h) (K:=K) l (fun c hc=>(lb c hc).ok (by omega)) (by omega)
  by_cases hf:z1F z0f l=0
  ·have hf':((z1F z0f l:Nat):Int)=0:=by omega
   by_cases hl:l.length≤n
   ·have hl':(l.length:Int)≤(n:Int):=by omega
    simp only[go_sem,hid,hk,↓V,V,↓F,F,hf,hf',hl,hl']
    exact⟨a2,⟨by omega,by omega,l,hl,lb,hf,rfl⟩,rfl⟩
   ·have hl':¬ (l.length:Int)≤(n:Int):=by omega
    simp only[go_sem,hid,hk,↓V,V,↓F,F,hf,hf',hl,hl',w1]
    exact⟨(k+1,a2),rfl,⟨by dsimp only;omega,by dsimp only;omega,by dsimp only;omega⟩,by dsimp only;omega⟩
  ·have hf':¬ ((z1F z0f l:Nat):Int)=0:=by omega
   simp only[go_sem,hid,hk,↓V,V,↓F,F,hf,hf',w1]
   exact⟨(k+1,a2),rfl,⟨by dsimp only;omega,by dsimp only;omega,by dsimp only;omega⟩,by dsimp only;omega⟩
 ·have hk:¬ (k:Int)<6:=by omega
  simp only[go_sem,hid,hk]
  exact⟨b,⟨by omega,by omega,[],by simp,by simp,rfl,rfl⟩,rfl⟩
end Go.Am
end
