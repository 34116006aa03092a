/- Texts of the proof, laid together: SpVec15, SpVec3, SpVec4b, SpVec4c, SpVec4d, SpVec4e, SpVec5, SpVec6, SpVec7, SpVec8, SpVec9, SpVec10, SpVec11, SpVec16, SpVec17, SpTap8, PSplit, SpIdx, AmL4, AmL5, SpSplit, SpTap9, SpTap10, SpTaq1, SpTaq2, PTxt, PNum, PFltR, SpLines, SpNum, SpNums, SpQNum, SpTaq3, SpTaq4, SpTaq5, SpTaq6, SpTaq7, SpTaq8, SpTaq9, SpSig, SpRnV1, SpRnV2, SpRnV4, SpRnV5. -/
import Derived.Shelf.Strings.Repeat
import Derived.Shelf.Strings.SlTrimAscii
import Derived.Shelf.Spec.TrailingZeros
import Derived.Shelf.Strings.Count
import Derived.Shelf.Strings.OnBuilder
import Derived.Test.YthlhdniejglcnaaGreatDoorlawLN8
set_option linter.all false
section
/- The program: a step. -/
open Go
set_option linter.all false
namespace Go.Am
variable {h l l2:aA} {K:kA} {r:Run} {n:Nat} {o:Obj} {x:Esc}
attribute [-go_sem] SA splice UN
attribute [local go_sem] fV eV rc_1 rc_7 ZU aV bV cV uM fI vM wM xM yM zM AM BM dV iV jV kV lV nV oV pV qV rV
section
variable {s:Sett} {st ck ni nd:Int} {a b c d e:AV} {w:Bool} {q1 q2 q3:Int} {q4 q5 q6:List UInt8}
theorem rct_0:splice (rc s st ck ni nd a b c d e w) 0 [AI q1,AI q2,AI q3,AS q4,AS q5,AS q6]=rc { s with e1:=⟨q1,q2,q3,q4,q5,q6⟩ } st ck ni nd a b c d e w:=(rfl)
theorem rct_6:splice (rc s st ck ni nd a b c d e w) 6 [AI q1,AI q2,AI q3,AS q4,AS q5,AS q6]=rc { s with e2:=⟨q1,q2,q3,q4,q5,q6⟩ } st ck ni nd a b c d e w:=(rfl)
theorem zoJ:splice (rc s st ck ni nd a b c d e w) 12 [AI q1,AI q2,AI q3,AS q4,AS q5,AS q6]=rc { s with h1:=⟨q1,q2,q3,q4,q5,q6⟩ } st ck ni nd a b c d e w:=(rfl)
theorem zoK:splice (rc s st ck ni nd a b c d e w) 18 [AI q1,AI q2,AI q3,AS q4,AS q5,AS q6]=rc { s with t1:=⟨q1,q2,q3,q4,q5,q6⟩ } st ck ni nd a b c d e w:=(rfl)
theorem zoL:splice (rc s st ck ni nd a b c d e w) 24 [AI q1,AI q2,AI q3,AS q4,AS q5,AS q6]=rc { s with h2:=⟨q1,q2,q3,q4,q5,q6⟩ } st ck ni nd a b c d e w:=(rfl)
theorem zoM:splice (rc s st ck ni nd a b c d e w) 30 [AI q1,AI q2,AI q3,AS q4,AS q5,AS q6]=rc { s with t2:=⟨q1,q2,q3,q4,q5,q6⟩ } st ck ni nd a b c d e w:=(rfl)
end
attribute [local go_sem] rct_0 rct_6 zoJ zoK zoL zoM
def TH (k:Int):Nat:=if k=1 then 0 else if k=2 then 6 else if k=3 then 12 else if k=4 then 18 else if k=5 then 24 else 30
theorem s_ofK {id:Nat}(hid:id<h.length)(k:Int):bA X mJ [.ref id 0,AI k] h K=K (.ref id (TH k)) h []:=by
 refine xA ?_;rw[zeE rfl];have e1:max h.length (id+1)=h.length:=by omega
 have e2:id+1≤h.length:=by omega
 unfold TH;by_cases h1:k=1
 ·simp only[GG,go_sem,h1,e1,e2]
 by_cases h2:k=2
 ·simp only[GG,go_sem,h1,h2,e1,e2]
 by_cases h3:k=3
 ·simp only[GG,go_sem,h1,h2,h3,e1,e2]
 by_cases h4:k=4
 ·simp only[GG,go_sem,h1,h2,h3,h4,e1,e2]
 by_cases h5:k=5
 ·simp only[GG,go_sem,h1,h2,h3,h4,h5,e1,e2]
 simp only[GG,go_sem,h1,h2,h3,h4,h5,e1,e2]
set_option maxHeartbeats 2000000 in
theorem uS {Kx:Ex→St→Prop}(hs:r.sts.length≤100000)(hf:r.frs.length≤100000)(f:Nat):UN (bA X) X.gl (.ref (h.length+5) 0) (AI f) (rh h r l) x Kx=Kx .normal ⟨[],rh h { r with sts:=r.sts++[r.st],frs:=r.frs++[f] } l,x⟩:=by
 obtain⟨se,st,ck,ni,nd,sts,frs,tms,tdi,want,wr⟩:=r;dsimp only at *;unfold rh;have m1:sts.length+1≤NA:=by unfold NA;omega
 have m2:frs.length+1≤NA:=by unfold NA;omega
 have e2:∀k n o m,k<5→UC (h.length+5) (.own (h.length+k) n o m)=[]:=fun k n o m hk=>by unfold UC;rw[z32,if_neg (by omega)]
 have e3:=fun n o m=>e2 0 n o m (by decide)
 have e4:=fun n o m=>e2 1 n o m (by decide)
 simp only[Nat.add_zero]at e3;simp only[UN,go_sem,m1,m2,e3,e4,List.length_map];simp
attribute [local go_sem] iI FM JJ KJ LJ GM IJ RP
theorem z9G (c:Cmd):(r.scn eA c).sts=r.sts∧(r.scn eA c).frs=r.frs∧(r.scn eA c).se=r.se:=by
 unfold Run.scn;by_cases h7:c.k=7
 ·simp only[h7,if_true]
  obtain⟨a1,a2,a3,a4,_⟩:=RB eA ({ Run.clk { r.go eA 11 with ni:=(r.go eA 11).ni+(r.se.h1.b++c.b++r.se.t1.b).length } (TA c r.se.h1.b (r.se.h1.b++c.b++r.se.t1.b)) with st:=12 }) r.se.e1.s.toNat
  obtain⟨b1,b2,b3,b4,_⟩:=bD { r.go eA 11 with ni:=(r.go eA 11).ni+(r.se.h1.b++c.b++r.se.t1.b).length } (TA c r.se.h1.b (r.se.h1.b++c.b++r.se.t1.b))
  obtain⟨d1,d2,d3,d4,_⟩:=RB eA r 11;exact⟨a3.trans (b3.trans d3),a4.trans (b4.trans d4),a1.trans (b1.trans d1)⟩
 ·simp only[h7,if_false]
  obtain⟨a1,a2,a3,a4,_⟩:=RB eA ({ Run.clk { r.go eA 4 with nd:=(r.go eA 4).nd+(r.se.h2.b++c.b++r.se.t2.b).length } (TA c r.se.h2.b (r.se.h2.b++c.b++r.se.t2.b)) with st:=5 }) r.se.e2.s.toNat
  obtain⟨b1,b2,b3,b4,_⟩:=bD { r.go eA 4 with nd:=(r.go eA 4).nd+(r.se.h2.b++c.b++r.se.t2.b).length } (TA c r.se.h2.b (r.se.h2.b++c.b++r.se.t2.b))
  obtain⟨d1,d2,d3,d4,_⟩:=RB eA r 4;exact⟨a3.trans (b3.trans d3),a4.trans (b4.trans d4),a1.trans (b1.trans d1)⟩
set_option maxHeartbeats 4000000 in
theorem zqe (R:RunOk r)(N:YJ r)(hck:r.ck≤700000000)(hst:r.st∈stb)(S:SetR r.se)(hl1:r.sts.length≤100000)(hl2:r.frs.length≤100000)(c:Cmd)(hc:FA c=0) :
 bA X ZK [.ref (h.length+5) 0,ACm c] (rh h r l) K=K (.tup []) (rh h (r.step eA c) l) []:=by
 refine xA ?_;rw[zeB rfl];have e0:(AI ((0:Nat):Int))=AI 0:=rfl
 have setf:∀h1:1≤c.k∧c.k≤6,WE (bA X) X.gl DJ CP (.ref (h.length+5) 0) (ACm c) (rh h r l) [] (qA [] false (rh h r l).length fun v1 h1 x1=>v1 = .tup []∧h1=rh h (r.step eA c) l∧x1=[]):=by
  intro h1;rw[UJ eA h1];have k2:=fun(l:aA) (x:Esc) (Kx:Ex→St→Prop)=>uS (h:=h) (l:=l) (x:=x) (Kx:=Kx) (r:={ r with se:=r.se.put c }) hl1 hl2 0
  rw[e0]at k2;have ho:=fun(l:aA) (k:Int) (K':kA)=>s_ofK (h:=rh h r l) (K:=K') (id:=h.length+5) (by rw[iI];omega) k
  obtain⟨k,s,cl,b,w,m⟩:=c;dsimp only at h1;have:k=1∨k=2∨k=3∨k=4∨k=5∨k=6:=by omega
  rcases this with rfl|rfl|rfl|rfl|rfl|rfl
  ·have ep:r.se.put ⟨1,s,cl,b,w,m⟩={ r.se with e1:=⟨1,s,cl,b,w,m⟩ }:=rfl
   rw[ep];simp only[ep]at k2;simp only[WE,go_sem,cH,ho,TH,k2]
  ·have ep:r.se.put ⟨2,s,cl,b,w,m⟩={ r.se with e2:=⟨2,s,cl,b,w,m⟩ }:=rfl
   rw[ep];simp only[ep]at k2;simp only[WE,go_sem,cH,ho,TH,k2]
  ·have ep:r.se.put ⟨3,s,cl,b,w,m⟩={ r.se with h1:=⟨3,s,cl,b,w,m⟩ }:=rfl
   rw[ep];simp only[ep]at k2;simp only[WE,go_sem,cH,ho,TH,k2]
  ·have ep:r.se.put ⟨4,s,cl,b,w,m⟩={ r.se with t1:=⟨4,s,cl,b,w,m⟩ }:=rfl
   rw[ep];simp only[ep]at k2;simp only[WE,go_sem,cH,ho,TH,k2]
  ·have ep:r.se.put ⟨5,s,cl,b,w,m⟩={ r.se with h2:=⟨5,s,cl,b,w,m⟩ }:=rfl
   rw[ep];simp only[ep]at k2;simp only[WE,go_sem,cH,ho,TH,k2]
  ·have ep:r.se.put ⟨6,s,cl,b,w,m⟩={ r.se with t2:=⟨6,s,cl,b,w,m⟩ }:=rfl
   rw[ep];simp only[ep]at k2;simp only[WE,go_sem,cH,ho,TH,k2]
 cases SD hc with
 | set h hs e=>exact setf (by omega)
 | pad h0 h1 hb hl e=>exact setf ⟨by omega,h1⟩
 | go hk hs e=>
  rw[aQ eA hk];obtain⟨g1,g2,g3,g4,g5,g6,_,_⟩:=RB eA r c.s.toNat;obtain⟨n1,n2⟩:=AC hs;have k2:=fun(l:aA) (x:Esc) (Kx:Ex→St→Prop)=>uS (h:=h) (l:=l) (x:=x) (Kx:=Kx) (r:=r.go eA c.s.toNat) (by rw[g3];exact hl1) (by rw[g4];exact hl2) 0
  rw[e0]at k2;have hw:=fun(l:aA) (K':kA)=>KM (h:=h) (l:=l) (K:=K') R (by omega) (TB hst) (iD n1)
  obtain⟨k,s,cl,b,w,m⟩:=c;dsimp only at hk n2 hw k2 ⊢;subst hk;rw[n2]at hw;simp only[WE,go_sem,cH,yF,hw,k2]
 | idle hk h0 h1 e=>
  rw[RM eA hk];obtain⟨g1,g2,g3,g4,g5,g6,_,_⟩:=RB eA r 1;have hw:=fun(l:aA) (K':kA)=>KM (h:=h) (l:=l) (K:=K') R (by omega) (TB hst) (show 1∈toS by decide)
  have R1:=PJ (tov:=1) R
  have c1:(r.go eA 1).ck≤700000008:=by have:=(SB (TB hst) (show 1∈toS by decide)).2.1;rw[nJ];omega
  simp only[show((1:Nat):Int)=1 from rfl]at hw
  obtain⟨k,s,cl,b,w,m⟩:=c;dsimp only at hk h0 h1 ⊢;subst hk;obtain⟨n,rfl⟩:∃n:Nat,cl=n:=⟨cl.toNat,by omega⟩
  simp only[Int.toNat_natCast];generalize r.go eA 1=r1 at *;simp only[WE,go_sem,cH,yF,hw];refine jB (fun k:Nat=>⟨[(0,.ref (h.length+5) 0),(4,AI 0),(35,AI n),(36,AI k)],rh h (r1.clk (List.replicate k (48,48,120))) (l++[.box [AI 9,AI s,AI n,AS b,AS w,AS m]]),[]⟩) (fun k=>k≤n) (fun k=>n-k) 0 (by rw[List.replicate_zero,LQ];rfl) (by omega) ?_
  intro k hk;have R2:=OJ (L:=List.replicate k (48,48,120)) R1
  rcases Nat.lt_or_ge k n with hlt|hge
  ·have w2:IntKind.i64.wrap ((k:Int)+1)=((k+1:Nat):Int):=GA _ (by omega) (by omega)
   have hc:=fun(l:aA) (K':kA)=>HV (h:=h) (l:=l) (K:=K') R2 (by rw[pN,List.length_replicate];omega) 48 48 120
   simp only[show(((48:UInt8).toNat:Nat):Int)=48 from rfl,show(((120:UInt8).toNat:Nat):Int)=120 from rfl]at hc
   simp only[go_sem,hlt,w2,hc];exact⟨k+1,by rw[MQ,←List.replicate_succ'],by omega,by omega⟩
  ·obtain rfl:k=n:=by omega
   have q:=bD r1 (List.replicate k (48,48,120))
   have k2:=fun(l:aA) (x:Esc) (Kx:Ex→St→Prop)=>uS (h:=h) (l:=l) (x:=x) (Kx:=Kx) (r:=r1.clk (List.replicate k (48,48,120))) (by rw[q.2.2.1,g3];exact hl1) (by rw[q.2.2.2.1,g4];exact hl2) 0
   rw[e0]at k2;simp only[go_sem,Nat.lt_irrefl,k2]
 | scan hk hs e=>
  rw[TM eA hk];obtain⟨g3,g4,_⟩:=z9G (r:=r) c;have k2:=fun(l:aA) (x:Esc) (Kx:Ex→St→Prop)=>uS (h:=h) (l:=l) (x:=x) (Kx:=Kx) (r:=r.scn eA c) (by rw[g3];exact hl1) (by rw[g4];exact hl2) (r.scnF eA c)
  have hscan:∀(l:aA) (K':kA),bA X RG [.ref (h.length+5) 0,ACm c] (rh h r l) K'=K' (AI (r.scnF eA c:Nat)) (rh h (r.scn eA c) l) []:=fun l K'=>by
   rcases hk with h7|h8
   ·exact zqb R N (by omega) hst S c h7 hs
   ·exact zpY R N (by omega) hst S c h8 hs
  have f1:¬c.k≤6:=by omega
  have f2:1≤c.k:=by omega
  have f3:(decide (c.k=7)||decide (c.k=8))=true:=by simpa using hk
  generalize r.scn eA c=r9 at k2 hscan ⊢;generalize r.scnF eA c=f9 at k2 hscan ⊢;simp only[WE,go_sem,cH,yF,f1,f2,f3,hscan,k2]
end Go.Am
end
section
/- A command's fault,the reference. -/
open Go
set_option linter.all false
namespace Go.Am
variable {h:aA} {K:kA} {Kx:Ex→St→Prop} {q q2:ACode} {k s cl k' s' cl' v9:Int} {b w m b' w' m':List UInt8} {x:Esc}
theorem eqa6 {k s cl k' s' cl':Int}{b w m b' w' m':List UInt8}:SA [0,0,0,2,2,2] true (.p (.agg [.int .i64 k,.int .i64 s,.int .i64 cl,.str b,.str w,.str m])) (.p (.agg [.int .i64 k',.int .i64 s',.int .i64 cl',.str b',.str w',.str m']))=some (AB (!decide ((⟨k,s,cl,b,w,m⟩:Cmd)=⟨k',s',cl',b',w',m'⟩))):=by
 unfold SA;dsimp only;rw[if_pos ⟨rfl,rfl,by simp⟩,eqs6]
 rfl
attribute [-go_sem] SA VI IF FD oK
abbrev cfH (h:aA)(k s cl:Int)(b w m:List UInt8)(k' s' cl':Int)(b' w' m':List UInt8):aA:=h++[.box [AI k,AI s,AI cl,AS b,AS w,AS m],.box [AI k',AI s',AI cl',AS b',AS w',AS m']]
theorem PE:oK (bA X) X.gl (.ref h.length 0) (.ref (h.length+1) 0) (cfH h k s cl b w m k' s' cl' b' w' m') x Kx=Kx .ret ⟨[(2,AI (if (⟨k,s,cl,b,w,m⟩:Cmd)=⟨k',s',cl',b',w',m'⟩ then 0 else 3:Nat))],cfH h k s cl b w m k' s' cl' b' w' m',x⟩:=by
 by_cases he:(⟨k,s,cl,b,w,m⟩:Cmd)=⟨k',s',cl',b',w',m'⟩
 ·simp only[oK,go_sem,eqa6,he]
 ·simp only[oK,go_sem,eqa6,he]
theorem SX:FD (bA X) X.gl q2 (.ref h.length 0) (.ref (h.length+1) 0) (AI v9) (AB true) (cfH h k s cl b w m k 0 0 [] [] []) [] Kx =
 if MB s=true then Kx .normal ⟨[(1,.ref h.length 0),(3,.ref (h.length+1) 0),(20,AB false)],cfH h k s cl b w m k s 0 [] [] [],[]⟩ else Kx .ret ⟨[(2,AI 1)],cfH h k s cl b w m k s 0 [] [] [],[]⟩:=by
 rcases hs:MB s with _|_
 ·simp only[FD,go_sem,z97,hs,splice]
 ·simp only[FD,go_sem,z97,hs,splice]
theorem GQ (hb:b.length≤100000):IF (bA X) X.gl q (.ref h.length 0) (.ref (h.length+1) 0) (AI v9) (AB true) (cfH h k s cl b w m k 0 0 [] [] []) [] Kx =
 if zA b=true then(if 2000<b.length then Kx .ret ⟨[(2,AI 2)],cfH h k s cl b w m k 0 0 b [] [],[]⟩ else Kx .normal ⟨[(1,.ref h.length 0),(3,.ref (h.length+1) 0),(43,AB false)],cfH h k s cl b w m k 0 0 b [] [],[]⟩) else Kx .ret ⟨[(2,AI 9)],cfH h k s cl b w m k 0 0 b [] [],[]⟩:=by
 have k1:=fun(h':aA) (K':kA)=>DV (h:=h') (K:=K') b (by omega)
 rcases hs:zA b with _|_
 ·simp only[IF,go_sem,k1,hs,splice]
 ·by_cases g1:2000<b.length
  ·have g2:(2000:Int)<(b.length:Int):=by omega
   simp only[IF,go_sem,k1,hs,g1,g2,splice]
  ·have g2:¬(2000:Int)<(b.length:Int):=by omega
   simp only[IF,go_sem,k1,hs,g1,g2,splice]
theorem z4R (hc:CmdOk ⟨k,s,cl,b,w,m⟩):VI (bA X) X.gl (.ref h.length 0) (.ref (h.length+1) 0) (AB true) (cfH h k s cl b w m k 0 0 [] [] []) [] Kx =
 if xC ⟨k,s,cl,b,w,m⟩=0 then Kx .normal ⟨[(1,.ref h.length 0),(3,.ref (h.length+1) 0),(4,AI 0),(63,AB false)],cfH h k s cl b w m k 0 0 b w m,[]⟩ else Kx .ret ⟨[(2,AI (xC ⟨k,s,cl,b,w,m⟩:Nat))],cfH h k s cl b w m k 0 0 b w m,[]⟩:=by
 have k2:=fun(h':aA) (K':kA)=>zqa (h:=h') (K:=K') ⟨k,s,cl,b,w,m⟩ hc
 by_cases g1:xC ⟨k,s,cl,b,w,m⟩=0
 ·simp only[VI,go_sem,k2,g1,splice]
 ·have g2:¬((xC ⟨k,s,cl,b,w,m⟩:Nat):Int)=0:=by omega
  simp only[VI,go_sem,k2,g1,g2,splice]
set_option maxHeartbeats 4000000 in
theorem zpF (c:Cmd)(hc:CmdOk c):bA X BO [ACm c] h K=K (AI (FA c:Nat)) h []:=by
 refine xA ?_;rw[zdJ rfl];have b1:=hc.b
 obtain⟨k,s,cl,b,w,m⟩:=c;simp only at b1;have st:∀k,(k=1∨k=2∨k=10)→FA ⟨k,s,cl,b,w,m⟩=if MB s=true then(if(⟨k,s,cl,b,w,m⟩:Cmd)=⟨k,s,0,[],[],[]⟩ then 0 else 3) else 1:=fun k hk=>by
  unfold FA;dsimp only;rw[if_pos hk];cases MB s <;> simp
 have sc:∀k,(k=7∨k=8)→FA ⟨k,s,cl,b,w,m⟩=if xC ⟨k,s,cl,b,w,m⟩=0 then(if(⟨k,s,cl,b,w,m⟩:Cmd)=⟨k,0,0,b,w,m⟩ then 0 else 3) else xC ⟨k,s,cl,b,w,m⟩:=fun k hk=>by
  unfold FA;dsimp only;rw[if_neg (by omega),if_neg (by omega),if_pos hk];split <;> simp_all
 have pd:∀k,3≤k∧k≤6→FA ⟨k,s,cl,b,w,m⟩=if zA b=true then(if 2000<b.length then 2 else if(⟨k,s,cl,b,w,m⟩:Cmd)=⟨k,0,0,b,[],[]⟩ then 0 else 3) else 9:=fun k hk=>by
  unfold FA;dsimp only;rw[if_neg (by omega),if_neg (by omega),if_neg (by omega),if_pos hk];cases zA b <;> simp
 by_cases h1:k=1
 ·subst h1
  rw[st 1 (by omega)]
  simp only[TD,go_sem,SX,PE,splice];split <;> simp only[go_sem,PE] <;> rfl
 by_cases h2:k=2
 ·subst h2
  rw[st 2 (by omega)]
  simp only[TD,go_sem,SX,PE,splice];split <;> simp only[go_sem,PE] <;> rfl
 by_cases h10:k=10
 ·subst h10
  rw[st 10 (by omega)]
  simp only[TD,go_sem,SX,PE,splice];split <;> simp only[go_sem,PE] <;> rfl
 by_cases h9:k=9
 ·subst h9
  by_cases g1:0≤cl
  ·by_cases g2:cl≤20000
   ·have g3:¬(cl<0∨20000<cl):=by omega
    rw[show FA ⟨9,s,cl,b,w,m⟩=if(⟨9,s,cl,b,w,m⟩:Cmd)=⟨9,0,cl,[],[],[]⟩ then 0 else 3 by simp only[FA,g3];simp]
    simp only[TD,FD,go_sem,s_in,g1,g2,PE,splice]
   ·have g3:cl<0∨20000<cl:=by omega
    rw[show FA ⟨9,s,cl,b,w,m⟩=1 by simp [FA,g3]]
    simp only[TD,FD,go_sem,s_in,g1,g2,splice]
  ·have g3:cl<0∨20000<cl:=by omega
   rw[show FA ⟨9,s,cl,b,w,m⟩=1 by simp [FA,g3]]
   simp only[TD,FD,go_sem,s_in,g1,splice]
 by_cases h3:k=3
 ·subst h3
  rw[pd 3 (by omega)]
  simp only[TD,FD,go_sem,GQ (show b.length≤100000 by omega),splice]
  split
  ·split <;> simp only[go_sem,PE] <;> rfl
  ·simp only[go_sem] <;> rfl
 by_cases h4:k=4
 ·subst h4
  rw[pd 4 (by omega)]
  simp only[TD,FD,go_sem,GQ (show b.length≤100000 by omega),splice]
  split
  ·split <;> simp only[go_sem,PE] <;> rfl
  ·simp only[go_sem] <;> rfl
 by_cases h5:k=5
 ·subst h5
  rw[pd 5 (by omega)]
  simp only[TD,FD,go_sem,GQ (show b.length≤100000 by omega),splice]
  split
  ·split <;> simp only[go_sem,PE] <;> rfl
  ·simp only[go_sem] <;> rfl
 by_cases h6:k=6
 ·subst h6
  rw[pd 6 (by omega)]
  simp only[TD,FD,go_sem,GQ (show b.length≤100000 by omega),splice]
  split
  ·split <;> simp only[go_sem,PE] <;> rfl
  ·simp only[go_sem] <;> rfl
 by_cases h7:k=7
 ·subst h7
  rw[sc 7 (by omega)]
  simp only[TD,FD,IF,go_sem,z4R hc,splice];split <;> simp only[go_sem,PE] <;> rfl
 by_cases h8:k=8
 ·subst h8
  rw[sc 8 (by omega)]
  simp only[TD,FD,IF,go_sem,z4R hc,splice];split <;> simp only[go_sem,PE] <;> rfl
 rw[show FA ⟨k,s,cl,b,w,m⟩=4 from z5f (by dsimp only;omega)]
 simp only[TD,FD,IF,VI,go_sem,h1,h2,h3,h4,h5,h6,h7,h8,h9,h10,splice]
end Go.Am
end
section
/- The reference: the part of a command that waits,or sets something. -/
open Go
set_option linter.all false
namespace Go.Am
variable {h:aA} {K:kA}
attribute [-go_sem] SA EG vH
set_option maxHeartbeats 4000000 in
theorem zpR (l:List Cmd)(i:Nat)(c:Cmd)(hi:l[i]?=some c)(h9:c.k=9)(h0:0≤c.cl)(h1:c.cl≤20000)(state:Nat)(hst:state∈stb) :
 bA X kG [ACs l,AI i,AI state] h K=K (.p (WD (nA eA (l.take i) c state))) h []:=by
 refine xA ?_;rw[gN rfl];have hg:(l.map dB)[i]?=some (dB c):=by rw[List.getElem?_map,hi];rfl
 have hilt:i<l.length:=by
  rcases Nat.lt_or_ge i l.length with h|h
  ·exact h
  ·rw[List.getElem?_eq_none h]at hi;cases hi
 rw[YH eA h9];obtain⟨k,s,cl,b,w,m⟩:=c;dsimp only at h9 h0 h1 hg ⊢;obtain⟨n,rfl⟩:∃n:Nat,cl=n:=⟨cl.toNat,by omega⟩
 simp only[Int.toNat_natCast];have ht:(1:Nat)∈toS:=by decide
 have p1:∀(h':aA) (K':kA),bA X VD [AI state,AI 1] h' K'=K' (AS (eA state 1)) h' []:=fun h' K'=>GV (h:=h') (K:=K') (TB hst) ht
 have pl:=(SB (TB hst) ht).2.1
 subst h9;generalize eA state 1=w1 at p1 pl ⊢;have hz:∀n,(zs n).length=n:=fun n=>by simp [zs]
 have r0:=fun(h':aA) (K':kA)=>uG (h:=h') (K:=K') (n:Int) (by omega) (by omega)
 simp only[Int.toNat_natCast]at r0;have l0:w1.length+n≤PA:=by simp [PA];omega
 have l0':w1.length+(zs n).length≤PA:=by rw[hz];exact l0
 have l3:(w1++zs n).length=w1.length+n:=by rw[List.length_append,hz]
 have P3:=fun(z1 z2 z3 z4 z5 c1 c2 c3 c4 c5 c6:AV) (Kx:Ex→St→Prop)=>pk3 (h:=h) (Kx:=Kx) (T:=w1++zs n) (D:=[]) (W:=[]) (fr:=0) (st:=1) (z1:=z1) (z2:=z2) (z3:=z3) (z4:=z4) (z5:=z5) (c1:=c1) (c2:=c2) (c3:=c3) (c4:=c4) (c5:=c5) (c6:=c6) (Nat.zero_le _) (Nat.zero_le _) (by omega)
 rw[←z28];unfold IB WD;dsimp only;generalize hT:w1++zs n=T at P3 ⊢;simp only[uH,go_sem,uD,hg,hilt,p1,r0,l0,l0',hT,P3]
end Go.Am
end
section
/- The reference: the part of a command that sets something. -/
open Go
set_option linter.all false
namespace Go.Am
variable {h:aA} {K:kA}
attribute [-go_sem] SA EG vH
set_option maxHeartbeats 4000000 in
theorem z92 (l:List Cmd)(i:Nat)(c:Cmd)(hi:l[i]?=some c)(h6:c.k≤6)(state:Nat) :
 bA X kG [ACs l,AI i,AI state] h K=K (.p (WD (nA eA (l.take i) c state))) h []:=by
 refine xA ?_;rw[gN rfl];have hg:(l.map dB)[i]?=some (dB c):=by rw[List.getElem?_map,hi];rfl
 have hilt:i<l.length:=by
  rcases Nat.lt_or_ge i l.length with h|h
  ·exact h
  ·rw[List.getElem?_eq_none h]at hi;cases hi
 rw[bF eA h6];obtain⟨k,s,cl,b,w,m⟩:=c;dsimp only at h6 hg ⊢;have k10:¬k=10:=by omega
 have k9:¬k=9:=by omega
 have k7:¬k=7:=by omega
 have k8:¬k=8:=by omega
 have P3:=fun(z1 z2 z3 z4 z5 c1 c2 c3 c4 c5 c6:AV) (Kx:Ex→St→Prop)=>pk3 (h:=h) (Kx:=Kx) (T:=[]) (D:=[]) (W:=[]) (fr:=0) (st:=state) (z1:=z1) (z2:=z2) (z3:=z3) (z4:=z4) (z5:=z5) (c1:=c1) (c2:=c2) (c3:=c3) (c4:=c4) (c5:=c5) (c6:=c6) (Nat.zero_le _) (Nat.zero_le _) (Nat.zero_le _)
 simp only[uH,go_sem,uD,hg,hilt,k10,k9,k7,k8,P3];rfl
end Go.Am
end
section
/- The reference: the part of a scan. -/
open Go
set_option linter.all false
namespace Go.Am
variable {h:aA} {K:kA} {Kx:Ex→St→Prop}
attribute [-go_sem] SA EG vH
set_option maxHeartbeats 8000000 in
theorem pk1 {z1 z2 z3 z4 z5:AV}(l:List Cmd)(i:Nat)(c:Cmd)(hi:i≤l.length)(hs:xC c=0)(hl:l.length≤1000000)(state sh ex:Nat)(a b e:Int)(n1:MB (mA (l.take i) e).s=true)(hst:state∈stb)(m1:sh∈toS)(m2:ex∈frS)
 (b1:(mA (l.take i) a).b.length≤2000) (b2:(mA (l.take i) b).b.length≤2000) :
 vH (bA X) X.gl (ACs l) (AI i) (AI state) (.ref h.length 0) (.ref (h.length+1) 0) (.ref (h.length+2) 0) (AI sh) (AI ex) (.p (.sl none [.int .i64 a,.int .i64 b,.int .i64 e]))
  (h++[.box [z1,z2,z3,z4,z5],.box [AI c.k,AI c.s,AI c.cl,AS c.b,AS c.w,AS c.m],.box [AS [],AS [],AS [],AI 0,AI state]]) [] Kx =
 Kx .normal ⟨[(6,.ref h.length 0),(8,.ref (h.length+2) 0)],h++[.box [z1,z2,z3,z4,z5],.box [AI c.k,AI c.s,AI c.cl,AS c.b,AS c.w,AS c.m],
  .box [AS (mB eA c state sh ex (mA (l.take i) a).b (mA (l.take i) b).b (mA (l.take i) e).s.toNat).tms,AS (mB eA c state sh ex (mA (l.take i) a).b (mA (l.take i) b).b (mA (l.take i) e).s.toNat).tdi,AS (mB eA c state sh ex (mA (l.take i) a).b (mA (l.take i) b).b (mA (l.take i) e).s.toNat).want,
   AI ((mB eA c state sh ex (mA (l.take i) a).b (mA (l.take i) b).b (mA (l.take i) e).s.toNat).fr:Nat),AI ((mA (l.take i) e).s.toNat:Nat)]],[]⟩:=by
 obtain⟨q1,q2,q3,q4,q5,q6⟩:=IE hs;have hm:c.m.length≤c.b.length:=by rcases q6 with⟨_,h⟩|⟨_,h⟩ <;> simp [h]
 have hw:c.m.length≤c.w.length:=by rcases q6 with⟨h0,h⟩|⟨h0,h⟩ <;> simp [h0,h]
 obtain⟨n1,n2⟩:=AC n1;have x1:=fun(h':aA) (K':kA)=>z3k (h:=h') (K:=K') l i a hi hl
 have x2:=fun(h':aA) (K':kA)=>z3k (h:=h') (K:=K') l i b hi hl
 have x3:=fun(h':aA) (K':kA)=>z3k (h:=h') (K:=K') l i e hi hl
 generalize mA (l.take i) a=ca at x1 b1 ⊢;generalize mA (l.take i) b=cb at x2 b2 ⊢;generalize mA (l.take i) e=ce at x3 n1 n2 ⊢;obtain⟨ak,as_,acl,hd,aw,am⟩:=ca;obtain⟨bk,bs,bcl,tl,bw,bm⟩:=cb;obtain⟨ek,es,ecl,eb,ew,em⟩:=ce;have x4:=fun(h':aA) (K':kA)=>zpJ (h:=h') (K:=K') c (by omega) hm hw
 dsimp only at n1 n2 x1 x2 x3 b1 b2 ⊢;obtain⟨n,rfl⟩:∃n:Nat,es=n:=⟨es.toNat,n2.symm⟩;simp only[Int.toNat_natCast]at n1 ⊢;have p1:∀(h':aA) (K':kA),bA X VD [AI state,AI sh] h' K'=K' (AS (eA state sh)) h' []:=fun h' K'=>GV (h:=h') (K:=K') (TB hst) m1
 have p2:∀(h':aA) (K':kA),bA X VD [AI ex,AI n] h' K'=K' (AS (eA ex n)) h' []:=fun h' K'=>GV (h:=h') (K:=K') m2 (iD n1)
 have pl1:=(SB (TB hst) m1).2.1
 have pl2:=(SB m2 (iD n1)).2.1
 unfold mB;dsimp only;generalize eA state sh=P1 at p1 pl1 ⊢;generalize eA ex n=P2 at p2 pl2 ⊢;obtain⟨k,s,cl,b',w,m⟩:=c;dsimp only at q1 q3 hm hw x4 ⊢;have hpos:=List.length_pos_iff.2 q1
 have hal:(hd++b'++tl).length=hd.length+b'.length+tl.length:=by simp only[List.length_append]
 generalize hale:hd++b'++tl=al at hal ⊢;have hz:∀n,(zs n).length=n:=fun n=>by simp [zs]
 have hx:∀n,(xsL n).length=n:=fun n=>by simp [xsL]
 have hec:(fC ⟨k,s,cl,b',w,m⟩).length=b'.length:=by simp [fC]
 generalize fC ⟨k,s,cl,b',w,m⟩=ec at x4 hec ⊢;have w1:IntKind.i64.wrap ((al.length:Int)-1)=((al.length-1:Nat):Int):=by
  rw[show(al.length:Int)-1=((al.length-1:Nat):Int) by omega];exact GA _ (by omega) (by omega)
 have w2:IntKind.i64.wrap ((P1.length:Int)+(hd.length:Int))=((P1.length+hd.length:Nat):Int):=by
  rw[show(P1.length:Int)+(hd.length:Int)=((P1.length+hd.length:Nat):Int) by omega];exact GA _ (by omega) (by omega)
 have r1:=fun(h':aA) (K':kA)=>uG (h:=h') (K:=K') ((al.length-1:Nat):Int) (by omega) (by omega)
 have r2:=fun(h':aA) (K':kA)=>uG (h:=h') (K:=K') (P1.length:Int) (by omega) (by omega)
 have r3:=fun(h':aA) (K':kA)=>z3f (h:=h') (K:=K') ((P1.length+hd.length:Nat):Int) (by omega) (by omega)
 simp only[Int.toNat_natCast]at r1 r2 r3;have lT2b:P1.length+(zs (al.length-1)).length+1≤PA:=by rw[hz];unfold PA;omega
 have lT1:P1.length+(zs (al.length-1)).length≤PA:=by rw[hz];unfold PA;omega
 have lT2:(P1++zs (al.length-1)).length+1≤PA:=by rw[List.length_append,hz];unfold PA;omega
 have lT3:(P1++zs (al.length-1)++[49]).length+P2.length≤PA:=by simp only[List.length_append,hz,List.length_singleton];unfold PA;omega
 have lT3b:P1.length+((zs (al.length-1)).length+1)+P2.length≤PA:=by rw[hz];unfold PA;omega
 have lD:(zs P1.length).length+al.length≤PA:=by rw[hz];unfold PA;omega
 have lW:(xsL (P1.length+hd.length)).length+ec.length≤PA:=by rw[hx,hec];unfold PA;omega
 have la:hd.length+b'.length≤PA:=by unfold PA;omega
 have lbn:hd.length+b'.length+tl.length≤PA:=by unfold PA;omega
 have lb:(hd++b').length+tl.length≤PA:=by rw[List.length_append];unfold PA;omega
 have hTn:P1++(zs (al.length-1)++49::P2)=P1++zs (al.length-1)++[49]++P2:=by simp
 generalize hTe:P1++zs (al.length-1)++[49]++P2=T at hTn ⊢;clear hTe;simp (config:={maxSteps:=4000000}) only[vH,go_sem,splice,x1,x2,x3,x4,p1,p2,w1,w2,r1,r2,r3,hale,hTn,lT2b,lT3b,lbn,lT1,lT2,lT3,lD,lW,la,lb]
end Go.Am
end
section
/- The reference: the part of a scan. -/
open Go
set_option linter.all false
namespace Go.Am
variable {h:aA} {K:kA}
attribute [-go_sem] SA EG vH
set_option maxHeartbeats 4000000 in
theorem zpQ (l:List Cmd)(i:Nat)(c:Cmd)(hi:l[i]?=some c)(h7:c.k=7)(hs:xC c=0)(hl:l.length≤1000000)(S:SetOk (l.take i))(state:Nat)(hst:state∈stb) :
 bA X kG [ACs l,AI i,AI state] h K=K (.p (WD (nA eA (l.take i) c state))) h []:=by
 refine xA ?_;rw[gN rfl];have hg:(l.map dB)[i]?=some (dB c):=by rw[List.getElem?_map,hi];rfl
 have hilt:i<l.length:=by
  rcases Nat.lt_or_ge i l.length with h|h
  ·exact h
  ·rw[List.getElem?_eq_none h]at hi;cases hi
 obtain⟨q1,q2,q3,q4,q5,q6⟩:=IE hs;have ep:nA eA (l.take i) c state=IB (mB eA c state 11 12 (mA (l.take i) 3).b (mA (l.take i) 4).b (mA (l.take i) 1).s.toNat):=by
  unfold nA;rw[if_neg (by omega),if_neg (by omega),if_pos h7]
 rw[ep];obtain⟨_,b1⟩:=S.b1 3 (by omega) (by omega)
 obtain⟨_,b2⟩:=S.b1 4 (by omega) (by omega)
 obtain⟨n1,n2⟩:=AC S.s1;have P1:=fun(z1 z2 z3 z4 z5:AV) (Kx:Ex→St→Prop)=>pk1 (h:=h) (z1:=z1) (z2:=z2) (z3:=z3) (z4:=z4) (z5:=z5) (Kx:=Kx) l i c (by omega) hs hl state 11 12 3 4 1 S.s1 hst (by decide) (by decide) b1 b2
 have pl1:=(SB (TB hst) (show 11∈toS by decide)).2.1
 have pl2:=(SB (show 12∈frS by decide) (iD n1)).2.1
 have hz:∀n,(zs n).length=n:=fun n=>by simp [zs]
 have hx:∀n,(xsL n).length=n:=fun n=>by simp [xsL]
 have hec:(fC c).length=c.b.length:=by simp [fC]
 have hpos:=List.length_pos_iff.2 q1
 have lens:(mB eA c state 11 12 (mA (l.take i) 3).b (mA (l.take i) 4).b (mA (l.take i) 1).s.toNat).tdi.length≤(mB eA c state 11 12 (mA (l.take i) 3).b (mA (l.take i) 4).b (mA (l.take i) 1).s.toNat).tms.length ∧
  (mB eA c state 11 12 (mA (l.take i) 3).b (mA (l.take i) 4).b (mA (l.take i) 1).s.toNat).want.length≤(mB eA c state 11 12 (mA (l.take i) 3).b (mA (l.take i) 4).b (mA (l.take i) 1).s.toNat).tms.length ∧
  (mB eA c state 11 12 (mA (l.take i) 3).b (mA (l.take i) 4).b (mA (l.take i) 1).s.toNat).tms.length≤1000000:=by
  unfold mB;simp only[List.length_append,hz,hx,hec,List.length_singleton];omega
 have est:(mB eA c state 11 12 (mA (l.take i) 3).b (mA (l.take i) 4).b (mA (l.take i) 1).s.toNat).st=(mA (l.take i) 1).s.toNat:=rfl
 generalize mB eA c state 11 12 (mA (l.take i) 3).b (mA (l.take i) 4).b (mA (l.take i) 1).s.toNat=p at P1 lens est ⊢;rw[←est]at P1;obtain⟨l1,l2,l3⟩:=lens;have P3:=fun(z1 z2 z3 z4 z5 c1 c2 c3 c4 c5 c6:AV) (Kx:Ex→St→Prop)=>pk3 (h:=h) (Kx:=Kx) (T:=p.tms) (D:=p.tdi) (W:=p.want) (fr:=(p.fr:Nat)) (st:=(p.st:Nat)) (z1:=z1) (z2:=z2) (z3:=z3) (z4:=z4) (z5:=z5) (c1:=c1) (c2:=c2) (c3:=c3) (c4:=c4) (c5:=c5) (c6:=c6) l1 l2 l3
 obtain⟨k,s,cl,b',w,m⟩:=c;dsimp only at h7 hg P1 ⊢;subst h7;simp only[show((11:Nat):Int)=11 from rfl,show((12:Nat):Int)=12 from rfl]at P1
 unfold IB WD;dsimp only;simp only[uH,go_sem,uD,hg,hilt,P1,P3]
set_option maxHeartbeats 4000000 in
theorem zpO (l:List Cmd)(i:Nat)(c:Cmd)(hi:l[i]?=some c)(h7:c.k=8)(hs:xC c=0)(hl:l.length≤1000000)(S:SetOk (l.take i))(state:Nat)(hst:state∈stb) :
 bA X kG [ACs l,AI i,AI state] h K=K (.p (WD (nA eA (l.take i) c state))) h []:=by
 refine xA ?_;rw[gN rfl];have hg:(l.map dB)[i]?=some (dB c):=by rw[List.getElem?_map,hi];rfl
 have hilt:i<l.length:=by
  rcases Nat.lt_or_ge i l.length with h|h
  ·exact h
  ·rw[List.getElem?_eq_none h]at hi;cases hi
 obtain⟨q1,q2,q3,q4,q5,q6⟩:=IE hs;have ep:nA eA (l.take i) c state=IB (mB eA c state 4 5 (mA (l.take i) 5).b (mA (l.take i) 6).b (mA (l.take i) 2).s.toNat):=by
  unfold nA;rw[if_neg (by omega),if_neg (by omega),if_neg (by omega),if_pos h7]
 rw[ep];obtain⟨_,b1⟩:=S.b1 5 (by omega) (by omega)
 obtain⟨_,b2⟩:=S.b1 6 (by omega) (by omega)
 obtain⟨n1,n2⟩:=AC S.s2;have P1:=fun(z1 z2 z3 z4 z5:AV) (Kx:Ex→St→Prop)=>pk1 (h:=h) (z1:=z1) (z2:=z2) (z3:=z3) (z4:=z4) (z5:=z5) (Kx:=Kx) l i c (by omega) hs hl state 4 5 5 6 2 S.s2 hst (by decide) (by decide) b1 b2
 have pl1:=(SB (TB hst) (show 4∈toS by decide)).2.1
 have pl2:=(SB (show 5∈frS by decide) (iD n1)).2.1
 have hz:∀n,(zs n).length=n:=fun n=>by simp [zs]
 have hx:∀n,(xsL n).length=n:=fun n=>by simp [xsL]
 have hec:(fC c).length=c.b.length:=by simp [fC]
 have hpos:=List.length_pos_iff.2 q1
 have lens:(mB eA c state 4 5 (mA (l.take i) 5).b (mA (l.take i) 6).b (mA (l.take i) 2).s.toNat).tdi.length≤(mB eA c state 4 5 (mA (l.take i) 5).b (mA (l.take i) 6).b (mA (l.take i) 2).s.toNat).tms.length ∧
  (mB eA c state 4 5 (mA (l.take i) 5).b (mA (l.take i) 6).b (mA (l.take i) 2).s.toNat).want.length≤(mB eA c state 4 5 (mA (l.take i) 5).b (mA (l.take i) 6).b (mA (l.take i) 2).s.toNat).tms.length ∧
  (mB eA c state 4 5 (mA (l.take i) 5).b (mA (l.take i) 6).b (mA (l.take i) 2).s.toNat).tms.length≤1000000:=by
  unfold mB;simp only[List.length_append,hz,hx,hec,List.length_singleton];omega
 have est:(mB eA c state 4 5 (mA (l.take i) 5).b (mA (l.take i) 6).b (mA (l.take i) 2).s.toNat).st=(mA (l.take i) 2).s.toNat:=rfl
 generalize mB eA c state 4 5 (mA (l.take i) 5).b (mA (l.take i) 6).b (mA (l.take i) 2).s.toNat=p at P1 lens est ⊢;rw[←est]at P1;obtain⟨l1,l2,l3⟩:=lens;have P3:=fun(z1 z2 z3 z4 z5 c1 c2 c3 c4 c5 c6:AV) (Kx:Ex→St→Prop)=>pk3 (h:=h) (Kx:=Kx) (T:=p.tms) (D:=p.tdi) (W:=p.want) (fr:=(p.fr:Nat)) (st:=(p.st:Nat)) (z1:=z1) (z2:=z2) (z3:=z3) (z4:=z4) (z5:=z5) (c1:=c1) (c2:=c2) (c3:=c3) (c4:=c4) (c5:=c5) (c6:=c6) l1 l2 l3
 obtain⟨k,s,cl,b',w,m⟩:=c;dsimp only at h7 hg P1 ⊢;subst h7;simp only[show((4:Nat):Int)=4 from rfl,show((5:Nat):Int)=5 from rfl]at P1
 unfold IB WD;dsimp only;simp only[uH,go_sem,uD,hg,hilt,P1,P3]
end Go.Am
end
section
/- The reference: the parts of a program. -/
open Go
set_option linter.all false
namespace Go.Am
variable {h:aA} {K:kA}
attribute [-go_sem] SA
theorem zpS (l:List Cmd)(i:Nat)(c:Cmd)(hi:l[i]?=some c)(hc:FA c=0)(hl:l.length≤1000000)(S:SetOk (l.take i))(state:Nat)(hst:state∈stb) :
 bA X kG [ACs l,AI i,AI state] h K=K (.p (WD (nA eA (l.take i) c state))) h []:=by
 cases SD hc with
 | set h hs e=>exact z92 l i c hi (by omega) state
 | pad h0 h1 hb hl e=>exact z92 l i c hi h1 state
 | go h hs e=>exact zpP l i c hi h hs state hst
 | idle h h0 h1 e=>exact zpR l i c hi h h0 h1 state hst
 | scan h hs e=>
  rcases h with h|h
  ·exact zpQ l i c hi h hs hl S state hst
  ·exact zpO l i c hi h hs hl S state hst
theorem zqz {pre:List Cmd}{c:Cmd}(S:SetOk pre)(hc:FA c=0):SetOk (pre++[c]):=by
 have K:=SD hc
 refine⟨?_,?_,fun k h1 h2=>?_⟩
 ·rw[QC];split
  ·cases K with
   | set h hs e=>exact hs
   | pad h0 h1 hb hl e=>omega
   | go h hs e=>omega
   | idle h h0 h1 e=>omega
   | scan h hs e=>omega
  ·exact S.s1
 ·rw[QC];split
  ·cases K with
   | set h hs e=>exact hs
   | pad h0 h1 hb hl e=>omega
   | go h hs e=>omega
   | idle h h0 h1 e=>omega
   | scan h hs e=>omega
  ·exact S.s2
 ·rw[QC];split
  ·cases K with
   | set h hs e=>omega
   | pad h0 h1 hb hl e=>exact⟨hb,hl⟩
   | go h hs e=>omega
   | idle h h0 h1 e=>omega
   | scan h hs e=>omega
  ·exact S.b1 k h1 h2
theorem zqy:SetOk []:=⟨rfl,rfl,fun k _ _=>⟨rfl,Nat.zero_le _⟩⟩
end Go.Am
end
section
/- The reference: the parts of a program,one by one. -/
open Go
set_option linter.all false
namespace Go.Am
variable {h:aA} {K:kA}
def JB (pre:List Cmd)(state:Nat):List Cmd→Nat
 | []=>state
 | c::r=>JB (pre++[c]) (nA eA pre c state).st r
theorem EP (c:Cmd):∀(l pre:List Cmd) (state:Nat),oA eA pre state (l++[c])=oA eA pre state l++[nA eA (pre++l) c (JB pre state l)]∧JB pre state (l++[c])=(nA eA (pre++l) c (JB pre state l)).st
 | [],pre,state=>by simp [oA,JB]
 | d::l,pre,state=>by
  obtain⟨a,b⟩:=EP c l (pre++[d]) (nA eA pre d state).st;have e:pre++[d]++l=pre++d::l:=by rw[List.append_assoc];rfl
  rw[e]at a b;constructor
  ·simp only[List.cons_append,oA];rw[a];rfl
  ·exact b
theorem z5h:∀ {l:List Cmd},cD l=0→∀ c∈l,FA c=0
 | [],_,c,hc=>by cases hc
 | d::l,h,c,hc=>by
  unfold cD at h;split at h
  ·rename_i h1;exact absurd h h1
  ·rename_i h1
   rcases List.mem_cons.1 hc with rfl|hc
   ·omega
   ·exact z5h h c hc
theorem pM {l:List Cmd}(hc:∀ c∈l,FA c=0):∀k,k≤l.length→SetOk (l.take k)∧JB [] 0 (l.take k)∈stb
 | 0,_=>⟨zqy,by show 0∈stb;decide⟩
 | k+1,hk=>by
  obtain⟨S,T⟩:=pM hc k (by omega)
  have hlt:k<l.length:=by omega
  have h0:=hc _ (List.getElem_mem hlt)
  rw[List.take_succ_eq_append_getElem hlt];refine⟨zqz S h0,?_⟩;rw[(EP l[k] (l.take k) [] 0).2,List.nil_append];cases SD h0 with
  | set h hs e=>rw[bF eA (by omega)];exact T
  | pad h0 h1 hb hl e=>rw[bF eA h1];exact T
  | go h hs e=>rw[XH eA h];exact(AC hs).1
  | idle h h0 h1 e=>rw[YH eA h];show 1∈stb;decide
  | scan h hs e=>
   unfold nA;rcases h with h|h
   ·rw[if_neg (by omega),if_neg (by omega),if_pos h];exact(AC S.s1).1
   ·rw[if_neg (by omega),if_neg (by omega),if_neg (by omega),if_pos h];exact(AC S.s2).1
abbrev APs (l:List Part):AV:=.p (.sl (some 5) (l.map WD))
set_option maxHeartbeats 2000000 in
theorem zpU (l:List Cmd)(hc:∀ c∈l,FA c=0)(hl:l.length≤1000):bA X DO [ACs l] h K=K (APs (oA eA [] 0 l)) h []:=by
 refine xA ?_;rw[zdN rfl];simp only[xR,go_sem];refine jB (fun k:Nat=>⟨[(0,ACs l),(3,.own h.length k 0 k),(4,AI (JB [] 0 (l.take k))),(8,AI l.length),(9,AI k)],h++[.row (some 5) ((oA eA [] 0 (l.take k)).map WD) 0],[]⟩) (fun k=>k≤l.length) (fun k=>l.length-k) 0 rfl (by omega) ?_
 intro k hk;have hpl:∀j,j≤l.length→(oA eA [] 0 (l.take j)).length=j:=by
  intro j hj;have:∀(l:List Cmd) (pre:List Cmd) (s:Nat),(oA eA pre s l).length=l.length:=by
   intro l;induction l with
   | nil=>intro pre s;rfl
   | cons c l ih=>intro pre s;simp [oA,ih]
  rw[this];simp;omega
 have hlen:((oA eA [] 0 (l.take k)).map WD).length=k:=by rw[List.length_map,hpl k hk]
 rcases Nat.lt_or_ge k l.length with hlt|hge
 ·obtain⟨S,T⟩:=pM hc k hk
  have hi:l[k]?=some l[k]:=List.getElem?_eq_getElem hlt
  have h0:=hc _ (List.getElem_mem hlt)
  have w2:IntKind.i64.wrap ((k:Int)+1)=((k+1:Nat):Int):=GA _ (by omega) (by omega)
  have hmx:k+1≤NA:=by unfold NA;omega
  have hp:=fun(h':aA) (K':kA)=>zpS (h:=h') (K:=K') l k l[k] hi h0 (by omega) S _ T
  simp only[go_sem,hlt,hp,w2,hmx,hlen];refine⟨k+1,?_,by omega,by omega⟩
  obtain⟨e1,e2⟩:=EP l[k] (l.take k) [] 0;rw[List.take_succ_eq_append_getElem hlt,e1,e2,List.nil_append,List.map_append];rfl
 ·obtain rfl:k=l.length:=by omega
  have hpe:(oA eA [] 0 l).length=l.length:=by have:=hpl l.length (Nat.le_refl _);rwa [List.take_length]at this
  simp only[go_sem,Nat.lt_irrefl,hlen,List.take_length,hpe];exact congrArg (fun x=>AV.p (PV.sl (some 5) x)) (List.take_of_length_le (by simp [hpe]))
end Go.Am
end
section
/- The reference: the signals of a program: three builders. -/
open Go
set_option linter.all false
namespace Go.Am
variable {h:aA} {K:kA}
def b3 (h:aA)(u1:Bool)(s1:List UInt8)(u2:Bool)(s2:List UInt8)(u3:Bool)(s3:List UInt8)(l:aA):aA:=
 h++QD u1 h.length s1.length :: .row none (vA s1) 0::QD u2 (h.length+2) s2.length :: .row none (vA s2) 0::QD u3 (h.length+4) s3.length :: .row none (vA s3) 0::l
variable {u1 u2 u3:Bool} {s1 s2 s3 t:List UInt8} {l:aA}
theorem DI {n:Nat}:(b3 h u1 s1 u2 s2 u3 s3 l)[h.length+n]?=(QD u1 h.length s1.length::Obj.row none (vA s1) 0::QD u2 (h.length+2) s2.length::Obj.row none (vA s2) 0::QD u3 (h.length+4) s3.length::Obj.row none (vA s3) 0::l)[n]?:=by
 unfold b3;rw[List.getElem?_append_right (by omega),show h.length+n-h.length=n by omega]
theorem z44:xI (b3 h u1 s1 u2 s2 u3 s3 l) u1 h.length s1:=⟨DI (n:=0),DI (n:=1)⟩
theorem z45:xI (b3 h u1 s1 u2 s2 u3 s3 l) u2 (h.length+2) s2:=⟨DI (n:=2),DI (n:=3)⟩
theorem z47:xI (b3 h u1 s1 u2 s2 u3 s3 l) u3 (h.length+4) s3:=⟨DI (n:=4),DI (n:=5)⟩
theorem b3_e1:LH (b3 h u1 s1 u2 s2 u3 s3 l) h.length t=b3 h true t u2 s2 u3 s3 l:=by
 unfold LH b3;rw[List.set_append_right _ _ (by omega),List.set_append_right _ _ (by omega),Nat.sub_self,show h.length+1-h.length=1 by omega]
 rfl
theorem b3_e2:LH (b3 h u1 s1 u2 s2 u3 s3 l) (h.length+2) t=b3 h u1 s1 true t u3 s3 l:=by
 unfold LH b3;rw[List.set_append_right _ _ (by omega),List.set_append_right _ _ (by omega),show h.length+2-h.length=2 by omega,show h.length+2+1-h.length=3 by omega]
 rfl
theorem b3_e3:LH (b3 h u1 s1 u2 s2 u3 s3 l) (h.length+4) t=b3 h u1 s1 u2 s2 true t l:=by
 unfold LH b3;rw[List.set_append_right _ _ (by omega),List.set_append_right _ _ (by omega),show h.length+4-h.length=4 by omega,show h.length+4+1-h.length=5 by omega]
 rfl
theorem zcB (hm:s1.length+t.length≤200000000000):bA X lG [.ref h.length 0,AS t] (b3 h u1 s1 u2 s2 u3 s3 l) K=K (.tup [AI t.length,.nili]) (b3 h true (s1++t) u2 s2 u3 s3 l) []:=by
 rw[z3h z44 hm,b3_e1]
theorem zcC (hm:s2.length+t.length≤200000000000):bA X lG [.ref (h.length+2) 0,AS t] (b3 h u1 s1 u2 s2 u3 s3 l) K=K (.tup [AI t.length,.nili]) (b3 h u1 s1 true (s2++t) u3 s3 l) []:=by
 rw[z3h z45 hm,b3_e2]
theorem zcD (hm:s3.length+t.length≤200000000000):bA X lG [.ref (h.length+4) 0,AS t] (b3 h u1 s1 u2 s2 u3 s3 l) K=K (.tup [AI t.length,.nili]) (b3 h u1 s1 u2 s2 true (s3++t) l) []:=by
 rw[z3h z47 hm,b3_e3]
theorem z48:(b3 h u1 s1 u2 s2 u3 s3 l).length=h.length+(l.length+6):=by unfold b3;simp
theorem zc4 {l2:aA}:b3 h u1 s1 u2 s2 u3 s3 l++l2=b3 h u1 s1 u2 s2 u3 s3 (l++l2):=by unfold b3;simp
theorem zc5 {n:Nat}:(b3 h u1 s1 u2 s2 u3 s3 l)[h.length+(n+6)]?=l[n]?:=DI
theorem zc7 {n:Nat}{o:Obj}:(b3 h u1 s1 u2 s2 u3 s3 l).set (h.length+(n+6)) o=b3 h u1 s1 u2 s2 u3 s3 (l.set n o):=by
 unfold b3;rw[List.set_append_right _ _ (by omega),show h.length+(n+6)-h.length=n+6 by omega]
 rfl
theorem zc9 {n:Nat}:(b3 h u1 s1 u2 s2 u3 s3 l).take (h.length+(n+6))=b3 h u1 s1 u2 s2 u3 s3 (l.take n):=by
 unfold b3;rw[List.take_length_add_append];rfl
theorem zcA:(b3 h u1 s1 u2 s2 u3 s3 l).take h.length=h:=by unfold b3;exact List.take_left
theorem z3r {hp:aA}{id id':Nat}{u:Bool}{s s':List UInt8}(H:xI hp u id' s')(h1:id'≠id+1)(h2:id'+1≠id+1):xI (vG hp id s) u id' s':=by
 unfold vG;split
 ·exact H
 ·exact⟨by rw[List.getElem?_set_ne (by omega)];exact H.1,by rw[List.getElem?_set_ne (by omega)];exact H.2⟩
theorem z3s {hp:aA}{id n:Nat}{s:List UInt8}(hn:n≤id+1):(vG hp id s).take n=hp.take n:=by
 unfold vG;split
 ·rfl
 ·exact List.take_set_of_le (by omega)
end Go.Am
end
section
/- The reference: the signals of a program. -/
open Go
set_option linter.all false
namespace Go.Am
variable {h:aA} {K:kA}
attribute [-go_sem] SA
section
variable {u1 u2 u3:Bool} {s1 s2 s3:List UInt8} {l:aA} {o:Obj}
theorem zc6:(b3 h u1 s1 u2 s2 u3 s3 l)[h.length+6]?=l[0]?:=zc5 (n:=0)
theorem zc8:(b3 h u1 s1 u2 s2 u3 s3 l).set (h.length+6) o=b3 h u1 s1 u2 s2 u3 s3 (l.set 0 o):=zc7 (n:=0)
theorem z49:(b3 h u1 s1 u2 s2 u3 s3 l).take (h.length+6)=b3 h u1 s1 u2 s2 u3 s3 (l.take 0):=zc9 (n:=0)
end
theorem z05 {β:Type}(f:Part→List β)(ps:List Part){k:Nat}(hk:k<ps.length):((ps.take k).flatMap f).length+(f ps[k]).length≤(ps.flatMap f).length:=by
 have e:ps.flatMap f=(ps.take (k+1)).flatMap f++(ps.drop (k+1)).flatMap f:=by rw[←List.flatMap_append,List.take_append_drop]
 rw[e,List.take_succ_eq_append_getElem hk,List.flatMap_append,List.length_append,List.length_append];simp
theorem ZH:∀ (l pre:List Cmd) (s:Nat),(oA eA pre s l).length=l.length
 | [],_,_=>rfl
 | c::l,pre,s=>by simp [oA,ZH l]
set_option maxHeartbeats 2000000 in
theorem zpA (l:List Cmd)(hc:∀ c∈l,FA c=0)(hl:l.length≤1000)(hT:(sA (oA eA [] 0 l)).length≤1000000000)(hI:(xB (oA eA [] 0 l)).length≤1000000000)(hW:(IC (oA eA [] 0 l)).length≤1000000000):bA X JK [ACs l] h K=K (.tup [AS (sA (oA eA [] 0 l)),AS (xB (oA eA [] 0 l)),AS (IC (oA eA [] 0 l))]) h []:=by
 refine xA ?_;rw[zdI rfl];have hp:=fun(h':aA) (K':kA)=>zpU (h:=h') (K:=K') l hc hl
 simp only[tR,go_sem,hp];have hpl:=ZH l [] 0
 generalize oA eA [] 0 l=ps at hT hI hW hpl ⊢;refine jB (fun k:Nat=>⟨[(5,.ref h.length 0),(6,.ref (h.length+2) 0),(7,.ref (h.length+4) 0),(11,APs ps),(12,AI ps.length),(13,AI k)],b3 h (decide (0<k)) (sA (ps.take k)) (decide (0<k)) (xB (ps.take k)) (decide (0<k)) (IC (ps.take k)) [],[(h.length+4,h.length+6),(h.length+2,h.length+4),(h.length,h.length+2)]⟩) (fun k=>k≤ps.length) (fun k=>ps.length-k) 0 rfl (by omega) ?_
 intro k hk;rcases Nat.lt_or_ge k ps.length with hlt|hge
 ·have hg:=iC WD hlt
  have w2:IntKind.i64.wrap ((k:Int)+1)=((k+1:Nat):Int):=GA _ (by omega) (by omega)
  have m1:(sA (ps.take k)).length+(ps[k].tms).length≤200000000000:=by have:=z05 Part.tms ps hlt;unfold sA at *;omega
  have m2:(xB (ps.take k)).length+(ps[k].tdi).length≤200000000000:=by have:=z05 Part.tdi ps hlt;unfold xB at *;omega
  have m3:(IC (ps.take k)).length+(ps[k].want).length≤200000000000:=by have:=z05 Part.want ps hlt;unfold IC at *;omega
  simp only[go_sem,hlt,hg,w2,zc4,z48,zc6,zc8,z49,zcB m1,zcC m2,zcD m3];refine⟨k+1,?_,by omega,by omega⟩
  obtain⟨e1,e2,e3⟩:=LV (ps.take k) ps[k];rw[List.take_succ_eq_append_getElem hlt,e1,e2,e3];simp
 ·obtain rfl:k=ps.length:=by omega
  have H1:=fun(u:Bool) (s1 s2 s3:List UInt8)=>z44 (h:=h) (u1:=u) (s1:=s1) (u2:=u) (s2:=s2) (u3:=u) (s3:=s3) (l:=[])
  have H2:=fun(u:Bool) (s1 s2 s3:List UInt8)=>z45 (h:=h) (u1:=u) (s1:=s1) (u2:=u) (s2:=s2) (u3:=u) (s3:=s3) (l:=[])
  have H3:=fun(u:Bool) (s1 s2 s3:List UInt8)=>z47 (h:=h) (u1:=u) (s1:=s1) (u2:=u) (s2:=s2) (u3:=u) (s3:=s3) (l:=[])
  have d1:h.length+1≤h.length+6:=by omega
  have d2:h.length+2+1≤h.length+6:=by omega
  have d3:h.length+4+1≤h.length+6:=by omega
  simp only[go_sem,Nat.lt_irrefl,List.take_length,z48,List.length_nil,Nat.zero_add,d1,d2,d3,z49,List.take_nil];rw[z3d (H1 _ _ _ _) (by omega)]
  rw[z3d (z3r (H2 _ _ _ _) (by omega) (by omega)) (by omega)]
  rw[z3d (z3r (z3r (H3 _ _ _ _) (by omega) (by omega)) (by omega) (by omega)) (by omega)]
  simp only[go_sem];have ht:(vG (vG (vG (b3 h (decide (0<ps.length)) (sA ps) (decide (0<ps.length)) (xB ps) (decide (0<ps.length)) (IC ps) []) h.length (sA ps)) (h.length+2) (xB ps)) (h.length+4) (IC ps)).take h.length=h:=by
   rw[z3s (by omega),z3s (by omega),z3s (by omega),zcA]
  revert ht
  generalize vG _ (h.length+4) (IC ps)=hp1;intro ht;have n4:¬(h.length+4<h.length):=by omega
  have n2:¬(h.length+2<h.length):=by omega
  have n0:¬(h.length<h.length):=by omega
  have e3:EB 3 [(h.length+4,h.length+6),(h.length+2,h.length+4),(h.length,h.length+2)] h.length=h.length:=by simp only[EB,ED,List.foldl_cons,List.foldl_nil,n4,n2,n0,if_false];try simp [n4,n2]
  have e4:NB [(h.length+4,h.length+6),(h.length+2,h.length+4),(h.length,h.length+2)] h.length=true:=by simp [NB]
  simp only[wD,go_sem,e3,e4,ht];simp
end Go.Am
end
section
/- The reference: the fault of a program. -/
open Go
set_option linter.all false
namespace Go.Am
variable {h:aA} {K:kA}
attribute [-go_sem] SA
theorem zo0 {pre:List Cmd}{c:Cmd}{state:Nat}(S:SetOk pre)(hst:state∈stb)(hc:FA c=0) :
 (nA eA pre c state).tms.length≤20008∧(nA eA pre c state).tdi.length=(nA eA pre c state).tms.length∧(nA eA pre c state).want.length=(nA eA pre c state).tms.length:=by
 have hz:∀n,(zs n).length=n:=fun n=>by simp [zs]
 have hx:∀n,(xsL n).length=n:=fun n=>by simp [xsL]
 cases SD hc with
 | set h hs e=>rw[bF eA (by omega)];exact⟨Nat.zero_le _,rfl,rfl⟩
 | pad h0 h1 hb hl e=>rw[bF eA h1];exact⟨Nat.zero_le _,rfl,rfl⟩
 | go h hs e=>
  rw[XH eA h];have:=(SB (TB hst) (iD (AC hs).1)).2.1;exact⟨by show(eA state c.s.toNat).length≤_;omega,hz _,hx _⟩
 | idle h h0 h1 e=>
  rw[YH eA h];have:=(SB (TB hst) (show 1∈toS by decide)).2.1
  refine⟨?_,?_,?_⟩ <;> simp only[List.length_append,hz,hx] <;> omega
 | scan h hs e=>
  obtain⟨q1,q2,q3,q4,q5,q6⟩:=IE hs;have hpos:=List.length_pos_iff.2 q1
  have he:(fC c).length=c.b.length:=by simp [fC]
  have key:∀(sh ex:Nat) (hd tl:List UInt8) (en:Nat),sh∈toS→ex∈frS→en∈stb→hd.length≤2000→tl.length≤2000 →
   (IB (mB eA c state sh ex hd tl en)).tms.length≤20008∧(IB (mB eA c state sh ex hd tl en)).tdi.length=(IB (mB eA c state sh ex hd tl en)).tms.length∧(IB (mB eA c state sh ex hd tl en)).want.length=(IB (mB eA c state sh ex hd tl en)).tms.length:=by
   intro sh ex hd tl en h1 h2 h3 h4 h5;have p1:=(SB (TB hst) h1).2.1
   have p2:=(SB h2 (iD h3)).2.1
   rw[EJ eA c state sh ex hd tl en q1];refine⟨?_,?_,?_⟩ <;> simp only[List.length_append,hz,hx,he,List.length_singleton] <;> omega
  rcases h with h|h
  ·have ep:nA eA pre c state=IB (mB eA c state 11 12 (mA pre 3).b (mA pre 4).b (mA pre 1).s.toNat):=by
    unfold nA;rw[if_neg (by omega),if_neg (by omega),if_pos h]
   rw[ep];exact key _ _ _ _ _ (by decide) (by decide) (AC S.s1).1 (S.b1 3 (by omega) (by omega)).2 (S.b1 4 (by omega) (by omega)).2
  ·have ep:nA eA pre c state=IB (mB eA c state 4 5 (mA pre 5).b (mA pre 6).b (mA pre 2).s.toNat):=by
    unfold nA;rw[if_neg (by omega),if_neg (by omega),if_neg (by omega),if_pos h]
   rw[ep];exact key _ _ _ _ _ (by decide) (by decide) (AC S.s2).1 (S.b1 5 (by omega) (by omega)).2 (S.b1 6 (by omega) (by omega)).2
theorem z9R {l:List Cmd}(hc:∀ c∈l,FA c=0):∀k,k≤l.length→(sA (oA eA [] 0 (l.take k))).length≤k*20008∧(xB (oA eA [] 0 (l.take k))).length=(sA (oA eA [] 0 (l.take k))).length∧(IC (oA eA [] 0 (l.take k))).length=(sA (oA eA [] 0 (l.take k))).length
 | 0,_=>⟨Nat.zero_le _,rfl,rfl⟩
 | k+1,hk=>by
  obtain⟨a,b,c⟩:=z9R hc k (by omega)
  obtain⟨S,T⟩:=pM hc k (by omega)
  have hlt:k<l.length:=by omega
  obtain⟨x,y,z⟩:=zo0 S T (hc _ (List.getElem_mem hlt));rw[List.take_succ_eq_append_getElem hlt,(EP l[k] (l.take k) [] 0).1,List.nil_append];obtain⟨e1,e2,e3⟩:=LV (oA eA [] 0 (l.take k)) (nA eA (l.take k) l[k] (JB [] 0 (l.take k)));rw[e1,e2,e3,List.length_append,List.length_append,List.length_append];refine⟨?_,by omega,by omega⟩
  rw[Nat.add_mul];omega
theorem zp9 (l:List Cmd)(hc:∀ c∈l,FA c=0)(hl:l.length≤1000):bA X JK [ACs l] h K=K (.tup [AS (sA (oA eA [] 0 l)),AS (xB (oA eA [] 0 l)),AS (IC (oA eA [] 0 l))]) h []:=by
 obtain⟨a,b,c⟩:=z9R hc l.length (Nat.le_refl _);rw[List.take_length]at a b c;have:l.length*20008≤1000*20008:=Nat.mul_le_mul_right _ hl
 exact zpA l hc (by omega) (by omega) (by omega) (by omega)
theorem QI:∀ {l:List Cmd},(∀ c∈l,FA c=0)→cD l=0
 | [],_=>rfl
 | d::l,h=>by
  unfold cD;rw[if_neg (by rw[h d (List.mem_cons_self ..)];simp)]
  exact QI fun c hc=>h c (List.mem_cons_of_mem _ hc)
theorem mY:∀ {l:List Cmd} {k:Nat} (hk:k<l.length),(∀ c∈l.take k,FA c=0)→FA l[k]≠0→cD l=FA l[k]
 | d::l,0,hk,_,h2=>by unfold cD;rw[if_pos (by simpa using h2)];rfl
 | d::l,k+1,hk,h1,h2=>by
  unfold cD;rw[if_neg (by rw[h1 d (by simp)];simp)]
  exact mY (l:=l) (k:=k) (by simpa using hk) (fun c hc=>h1 c (by simp [hc])) (by simpa using h2)
set_option maxHeartbeats 2000000 in
theorem zp1 (l:List Cmd)(hok:∀ c∈l,CmdOk c)(hl:l.length≤1000000):bA X IK [ACs l] h K=K (AI (DB eA l:Nat)) h []:=by
 refine xA ?_;rw[zdH rfl];by_cases hbig:1000<l.length
 ·have h1:(1000:Int)<(l.length:Int):=by omega
  have e:DB eA l=2:=by unfold DB;rw[if_pos hbig]
  rw[e];simp only[zN,go_sem,h1]
 have h1:¬(1000:Int)<(l.length:Int):=by omega
 simp only[zN,go_sem,h1];refine jB (fun k:Nat=>⟨[(0,ACs l),(12,ACs l),(13,AI l.length),(14,AI k)],h,[]⟩) (fun k=>k≤l.length∧∀c∈l.take k,FA c=0) (fun k=>l.length-k) 0 rfl ⟨Nat.zero_le _,by simp⟩ ?_
 rintro k ⟨hk,hn⟩
 rcases Nat.lt_or_ge k l.length with hlt|hge
 ·have hg:=iC dB hlt
  have w2:IntKind.i64.wrap ((k:Int)+1)=((k+1:Nat):Int):=GA _ (by omega) (by omega)
  have hf:=fun(h':aA) (K':kA)=>zpF (h:=h') (K:=K') l[k] (hok _ (List.getElem_mem hlt))
  by_cases h0:FA l[k]=0
  ·have h0':((FA l[k]:Nat):Int)=0:=by omega
   simp only[go_sem,hlt,hg,w2,hf,h0'];refine⟨k+1,rfl,⟨by omega,?_⟩,by omega⟩
   intro c hc;rw[List.take_succ_eq_append_getElem hlt]at hc;rcases List.mem_append.1 hc with hc|hc
   ·exact hn c hc
   ·obtain rfl:c=l[k]:=by simpa using hc
    exact h0
  ·have h0':¬((FA l[k]:Nat):Int)=0:=by omega
   simp only[go_sem,hlt,hg,w2,hf,h0'];have e:DB eA l=FA l[k]:=by
    unfold DB;rw[if_neg (by omega),mY hlt hn h0,if_pos h0]
   rw[e]
 ·obtain rfl:k=l.length:=by omega
  rw[List.take_length]at hn;have hs:=fun(h':aA) (K':kA)=>zp9 (h:=h') (K:=K') l hn (by omega)
  have e:DB eA l=if 20000<(sA (oA eA [] 0 l)).length then 2 else 0:=by
   unfold DB;rw[if_neg (by omega),QI hn,if_neg (by simp)]
  rw[e];by_cases h2:20000<(sA (oA eA [] 0 l)).length
  ·have h2':(20000:Int)<((sA (oA eA [] 0 l)).length:Int):=by omega
   simp only[go_sem,Nat.lt_irrefl,Int.lt_irrefl,hs,h2,h2']
  ·have h2':¬(20000:Int)<((sA (oA eA [] 0 l)).length:Int):=by omega
   simp only[go_sem,Nat.lt_irrefl,Int.lt_irrefl,hs,h2,h2']
theorem zp0 (l:List Cmd)(hok:∀ c∈l,CmdOk c)(hl:l.length≤40):bA X IK [ACs l] h K=K (AI (DB eA l:Nat)) h []:=zp1 l hok (by omega)
end Go.Am
end
section
/- The reference: states,bits that are shifted. -/
open Go
set_option linter.all false
namespace Go.Am
variable {h:aA} {K:kA}
attribute [-go_sem] SA
theorem z87 {l:List Cmd}(hc:∀ c∈l,FA c=0){k:Nat}(hk:k<l.length) :
 WA (JB [] 0 (l.take k)) (nA eA (l.take k) l[k] (JB [] 0 (l.take k))).tms=(nA eA (l.take k) l[k] (JB [] 0 (l.take k))).st∧zA (nA eA (l.take k) l[k] (JB [] 0 (l.take k))).tms=true:=by
 obtain⟨S,T⟩:=pM hc k (by omega)
 have h0:=hc _ (List.getElem_mem hk)
 have bz:∀n,zA (zs n)=true:=fun n=>by simp [zA,zs,pJ]
 have ba:∀a b,zA a=true→zA b=true→zA (a++b)=true:=fun a b h1 h2=>by unfold zA at *;rw[List.all_append,h1,h2];rfl
 generalize JB [] 0 (l.take k)=state at T ⊢;generalize l.take k=pre at S ⊢;generalize l[k]=c at h0 ⊢;cases SD h0 with
 | set h hs e=>rw[bF eA (by omega)];exact⟨rfl,rfl⟩
 | pad h0 h1 hb hl e=>rw[bF eA h1];exact⟨rfl,rfl⟩
 | go h hs e=>
  rw[XH eA h];have:=SB (TB T) (iD (AC hs).1);exact⟨this.2.2,this.1⟩
 | idle h h0 h1 e=>
  rw[YH eA h];have:=SB (TB T) (show 1∈toS by decide)
  refine⟨?_,ba _ _ this.1 (bz _)⟩;show WA state (eA state 1++zs c.cl.toNat)=1
  rw[JG,this.2.2];exact(eQ rfl _).2
 | scan h hs e=>
  obtain⟨q1,q2,q3,q4,q5,q6⟩:=IE hs;have hpos:=List.length_pos_iff.2 q1
  rcases h with h|h
  ·have ep:nA eA pre c state=IB (mB eA c state 11 12 (mA pre 3).b (mA pre 4).b (mA pre 1).s.toNat):=by
    unfold nA;rw[if_neg (by omega),if_neg (by omega),if_pos h]
   have hen:=(AC S.s1).1
   rw[ep,EJ eA c state 11 12 _ _ _ q1];refine⟨(IV GP T (.inl ⟨rfl,rfl⟩) hen _ (by simp only[List.length_append];omega)).1,?_⟩
   exact ba _ _ (ba _ _ (SB (TB T) (by decide)).1 (ba _ _ (bz _) rfl)) (SB (by decide) (iD hen)).1
  ·have ep:nA eA pre c state=IB (mB eA c state 4 5 (mA pre 5).b (mA pre 6).b (mA pre 2).s.toNat):=by
    unfold nA;rw[if_neg (by omega),if_neg (by omega),if_neg (by omega),if_pos h]
   have hen:=(AC S.s2).1
   rw[ep,EJ eA c state 4 5 _ _ _ q1];refine⟨(IV GP T (.inr ⟨rfl,rfl⟩) hen _ (by simp only[List.length_append];omega)).1,?_⟩
   exact ba _ _ (ba _ _ (SB (TB T) (by decide)).1 (ba _ _ (bz _) rfl)) (SB (by decide) (iD hen)).1
theorem FJ {l:List Cmd}{k:Nat}(hk:k<l.length):(oA eA [] 0 l)[k]?=some (nA eA (l.take k) l[k] (JB [] 0 (l.take k))):=by
 have key:∀(l pre:List Cmd) (s k:Nat) (hk:k<l.length),(oA eA pre s l)[k]?=some (nA eA (pre++l.take k) l[k] (JB pre s (l.take k))):=by
  intro l;induction l with
  | nil=>intro pre s k hk;simp at hk
  | cons c l ih=>
   intro pre s k hk;cases k with
   | zero=>simp [oA,JB]
   | succ k=>
    have:=ih (pre++[c]) (nA eA pre c s).st k (by simpa using hk)
    rw[oA,List.getElem?_cons_succ,this,List.append_assoc];rfl
 have:=key l [] 0 k hk;rwa [List.nil_append]at this
theorem zdc {l:List Cmd}(hc:∀ c∈l,FA c=0):zA (sA (oA eA [] 0 l))=true:=by
 unfold zA sA;rw[List.all_flatMap];rw[List.all_eq_true];intro p hp;obtain⟨k,hk⟩:=List.mem_iff_getElem?.1 hp;have hlt:k<l.length:=by
  have:=(List.getElem?_eq_some_iff.1 hk).1;rwa [ZH]at this
 rw[FJ hlt]at hk;cases hk;exact(z87 hc hlt).2
theorem zqE {l:List Cmd}{k:Nat}(hk:k<l.length):JB [] 0 (l.take (k+1))=(nA eA (l.take k) l[k] (JB [] 0 (l.take k))).st:=by
 rw[List.take_succ_eq_append_getElem hk,(EP l[k] (l.take k) [] 0).2,List.nil_append]
end Go.Am
end
section
/- The reference: StatesOf,ShiftedBits. -/
open Go
set_option linter.all false
namespace Go.Am
variable {h:aA} {K:kA}
attribute [-go_sem] SA
end Go.Am
end
section
/- The program: a program that is played. -/
open Go
set_option linter.all false
namespace Go.Am
variable {h l2:aA} {K:kA} {r:Run} {n:Nat} {o:Obj} {x:Esc}
attribute [-go_sem] SA splice
attribute [local go_sem] iI FM JJ KJ LJ GM
theorem z2R {l:aA}:(rh h r l)[h.length+6]?=l[0]?:=JJ (n:=0)
theorem z2S {l:aA}:(rh h r l).set (h.length+6) o=rh h r (l.set 0 o):=KJ (n:=0)
theorem z2T {l:aA}:(rh h r l).take (h.length+6)=rh h r (l.take 0):=LJ (n:=0)
attribute [local go_sem] z2R z2S z2T
structure RunI (r:Run) (k:Nat):Prop where
 R:RunOk r
 N:YJ r
 st:r.st∈stb
 S:SetR r.se
 sl:r.sts.length=k
 fl:r.frs.length=k
theorem zpr (w:Bool):RunI (lC w) 0:=⟨⟨Nat.le_refl _,Nat.le_refl _,Nat.le_refl _⟩,⟨Nat.le_refl _,Nat.le_refl _⟩,by show 0∈stb;decide,⟨rfl,rfl,Nat.zero_le _,Nat.zero_le _,Nat.zero_le _,Nat.zero_le _⟩,rfl,rfl⟩
theorem zq0 {s:Sett}{c:Cmd}(S:SetR s)(hc:FA c=0)(h1:1≤c.k∧c.k≤6):SetR (s.put c):=by
 have hb:c.k≤2→MB c.s=true:=fun h=>by
  cases SD hc with
  | set h hs e=>exact hs
  | pad h0 h1 hb hl e=>omega
  | go h hs e=>omega
  | idle h h0 h1 e=>omega
  | scan h hs e=>omega
 have hp:3≤c.k→c.b.length≤2000:=fun h=>by
  cases SD hc with
  | set h hs e=>omega
  | pad h0 h1 hb hl e=>exact hl
  | go h hs e=>omega
  | idle h h0 h1 e=>omega
  | scan h hs e=>omega
 obtain⟨s1,s2,a1,a2,a3,a4⟩:=S;unfold Sett.put;split
 ·exact⟨hb (by omega),s2,a1,a2,a3,a4⟩
 split
 ·exact⟨s1,hb (by omega),a1,a2,a3,a4⟩
 split
 ·exact⟨s1,s2,hp (by omega),a2,a3,a4⟩
 split
 ·exact⟨s1,s2,a1,hp (by omega),a3,a4⟩
 split
 ·exact⟨s1,s2,a1,a2,hp (by omega),a4⟩
 ·exact⟨s1,s2,a1,a2,a3,hp (by omega)⟩
theorem zps {k:Nat}(I:RunI r k){c:Cmd}(hc:FA c=0):RunI (r.step eA c) (k+1)∧(r.step eA c).ck≤r.ck+20016:=by
 obtain⟨R,N,st,S,sl,fl⟩:=I;have setf:1≤c.k∧c.k≤6→RunI (r.step eA c) (k+1)∧(r.step eA c).ck≤r.ck+20016:=fun h1=>by
  rw[UJ eA h1];exact⟨⟨⟨R.t,R.i,R.w⟩,N,st,zq0 S hc h1,by simp [sl],by simp [fl]⟩,by dsimp only;omega⟩
 cases SD hc with
 | set h hs e=>exact setf (by omega)
 | pad h0 h1 hb hl e=>exact setf ⟨by omega,h1⟩
 | go hk hs e=>
  rw[aQ eA hk];obtain⟨g1,g2,g3,g4,g5,g6,_,_⟩:=RB eA r c.s.toNat;obtain⟨n1,n2⟩:=AC hs;have R1:=PJ (tov:=c.s.toNat) R
  have N1:=HM (tov:=c.s.toNat) N
  have pl:=(SB (TB st) (iD n1)).2.1
  refine⟨⟨⟨R1.t,R1.i,R1.w⟩,N1,?_,?_,?_,?_⟩,?_⟩
  ·show(r.go eA c.s.toNat).st∈stb;rw[g2];exact n1
  ·show SetR (r.go eA c.s.toNat).se;rw[g1];exact S
  ·simp [g3,sl]
  ·simp [g4,fl]
  ·show(r.go eA c.s.toNat).ck≤_;rw[nJ];omega
 | idle hk h0 h1 e=>
  rw[RM eA hk];obtain⟨g1,g2,g3,g4,g5,g6,g7,g8⟩:=RB eA r 1;obtain⟨q1,q2,q3,q4,q5,q6,q7,q8⟩:=bD (r.go eA 1) (List.replicate c.cl.toNat (48,48,120));have R1:=OJ (L:=List.replicate c.cl.toNat (48,48,120)) (PJ (tov:=1) R)
  have N1:=HM (tov:=1) N
  have pl:=(SB (TB st) (show 1∈toS by decide)).2.1
  refine⟨⟨⟨R1.t,R1.i,R1.w⟩,?_,?_,?_,?_,?_⟩,?_⟩
  ·obtain⟨x,y⟩:=N1
   exact⟨by show Run.ni (Run.clk _ _)≤Run.ck (Run.clk _ _);rw[q7,q6];omega,by show Run.nd (Run.clk _ _)≤Run.ck (Run.clk _ _);rw[q8,q6];omega⟩
  ·show Run.st (Run.clk _ _)∈stb;rw[q2,g2];decide
  ·show SetR (Run.se (Run.clk _ _));rw[q1,g1];exact S
  ·simp [q3,g3,sl]
  ·simp [q4,g4,fl]
  ·show Run.ck (Run.clk _ _)≤_;rw[q6,nJ,List.length_replicate];omega
 | scan hk hs e=>
  rw[TM eA hk];obtain⟨g3,g4,g1⟩:=z9G (r:=r) c;obtain⟨q1,q2,q3,q4,q5,q6⟩:=IE hs;have key:∀(sh ex:Nat) (en:Int) (hd tl:List UInt8) (r2:Run),sh∈toS→ex∈frS→MB en=true→hd.length≤2000→tl.length≤2000→RunOk r2→r2.ck=(r.go eA sh).ck→r2.ni≤r2.ck+(hd++c.b++tl).length→r2.nd≤r2.ck+(hd++c.b++tl).length →
   r.scn eA c=Run.go eA { Run.clk r2 (TA c hd (hd++c.b++tl)) with st:=ex } en.toNat→RunI { r.scn eA c with sts:=(r.scn eA c).sts++[(r.scn eA c).st],frs:=(r.scn eA c).frs++[r.scnF eA c] } (k+1)∧(r.scn eA c).ck≤r.ck+20016:=by
   intro sh ex en hd tl r2 m1 m2 m3 m4 m5 R2 m6 m7 m8 e;obtain⟨n1,n2⟩:=AC m3;have R3:=OJ (L:=TA c hd (hd++c.b++tl)) R2
   have R4:=PJ (r:={ Run.clk r2 (TA c hd (hd++c.b++tl)) with st:=ex }) (tov:=en.toNat) ⟨R3.t,R3.i,R3.w⟩
   have N4:=HM (r:={ Run.clk r2 (TA c hd (hd++c.b++tl)) with st:=ex }) (tov:=en.toNat) (by
    obtain⟨_,_,_,_,_,z1,z2,z3⟩:=bD r2 (TA c hd (hd++c.b++tl));have z4:=VP c hd (hd++c.b++tl)
    exact⟨by show Run.ni (Run.clk _ _)≤Run.ck (Run.clk _ _);omega,by show Run.nd (Run.clk _ _)≤Run.ck (Run.clk _ _);omega⟩)
   have st4:=(RB eA { Run.clk r2 (TA c hd (hd++c.b++tl)) with st:=ex } en.toNat).2.1
   have ck4:=nJ (r:={ Run.clk r2 (TA c hd (hd++c.b++tl)) with st:=ex }) (tov:=en.toNat)
   have ck3:=pN (r:=r2) (L:=TA c hd (hd++c.b++tl))
   have ck2:=nJ (r:=r) (tov:=sh)
   have p1:=(SB (TB st) m1).2.1
   have p2:=(SB m2 (iD n1)).2.1
   have z4:=VP c hd (hd++c.b++tl)
   simp only[List.length_append]at z4;rw[←e]at R4 N4 st4 ck4;refine⟨⟨⟨R4.t,R4.i,R4.w⟩,N4,by show(r.scn eA c).st∈stb;rw[st4];exact n1,by show SetR (r.scn eA c).se;rw[g1];exact S,by simp [g3,sl],by simp [g4,fl]⟩,?_⟩
   dsimp only at ck4;omega
  have N1:=fun sh=>HM (tov:=sh) N
  have R1:=fun sh=>PJ (tov:=sh) R
  rcases hk with h7|h8
  ·refine key 11 12 r.se.e1.s r.se.h1.b r.se.t1.b { r.go eA 11 with ni:=(r.go eA 11).ni+(r.se.h1.b++c.b++r.se.t1.b).length } (by decide) (by decide) S.s1 S.h1 S.t1 ⟨(R1 11).t,(R1 11).i,(R1 11).w⟩ rfl ?_ ?_ (z3q h7).1
   ·have:=(N1 11).1;dsimp only;omega
   ·have:=(N1 11).2;dsimp only;omega
  ·refine key 4 5 r.se.e2.s r.se.h2.b r.se.t2.b { r.go eA 4 with nd:=(r.go eA 4).nd+(r.se.h2.b++c.b++r.se.t2.b).length } (by decide) (by decide) S.s2 S.h2 S.t2 ⟨(R1 4).t,(R1 4).i,(R1 4).w⟩ rfl ?_ ?_ (z3p h8).1
   ·have:=(N1 4).1;dsimp only;omega
   ·have:=(N1 4).2;dsimp only;omega
theorem z98:bA X eL [] h K=K (.p (.agg [eI 1,eI 1,eI 0,.str [],.str [],.str [],eI 2,eI 1,eI 0,.str [],.str [],.str [],eI 3,eI 0,eI 0,.str [],.str [],.str [],eI 4,eI 0,eI 0,.str [],.str [],.str [],eI 5,eI 0,eI 0,.str [],.str [],.str [],eI 6,eI 0,eI 0,.str [],.str [],.str []])) h []:=by
 refine xA ?_;rw[zeH rfl];simp only[tS,go_sem,splice]
set_option maxHeartbeats 4000000 in
theorem z93 (l:List Cmd)(hc:∀ c∈l,FA c=0)(hl:l.length≤1000)(p:AV)(w:Bool)(hp:(p = .nilp∧w=false)∨(∃ i,p = .ref i 0)∧w=true) :
 bA X oG [ACs l,p] h K=K (.ref (h.length+5) 0) (rh h ((lC w).play eA l) []) []:=by
 refine xA ?_;have main:∀Kx:Ex→St→Prop,(∀r,(lC w).play eA l=r→Kx .ret ⟨[(4,.ref (h.length+5) 0)],rh h r [],[]⟩)→QA (bA X) X.gl (.scope CJ) (tC 0 (xD (bA X) X.gl BP Kx)) [(5,.ref (h.length+5) 0),(13,ACs l),(14,AI l.length),(15,AI 0)] (rh h (lC w) []) []:=by
  intro Kx hK;refine jB (fun t:Nat×Run=>⟨[(5,.ref (h.length+5) 0),(13,ACs l),(14,AI l.length),(15,AI t.1)],rh h t.2 [],[]⟩) (fun t=>t.1≤l.length∧RunI t.2 t.1∧t.2.ck≤50000∧(lC w).play eA l=t.2.play eA (l.drop t.1)) (fun t=>l.length-t.1) (0,lC w) rfl ⟨Nat.zero_le _,zpr w,Nat.zero_le _,rfl⟩ ?_
  rintro⟨k,r⟩ ⟨hk,I,hck,hpl⟩
  dsimp only at hk I hck hpl ⊢;rcases Nat.lt_or_ge k l.length with hlt|hge
  ·have hg:=iC dB hlt
   have w2:IntKind.i64.wrap ((k:Int)+1)=((k+1:Nat):Int):=GA _ (by omega) (by omega)
   have hdr:l.drop k=l[k]::l.drop (k+1):=(List.getElem_cons_drop hlt).symm
   rw[hdr]at hpl;have hpc:∀(c:Cmd) (L:List Cmd),r.play eA (c::L)=if 20000<r.ck then r else(r.step eA c).play eA L:=fun c L=>rfl
   rw[hpc]at hpl;have h0:=hc _ (List.getElem_mem hlt)
   by_cases hb:20000<r.ck
   ·have hb':(20000:Int)<(r.ck:Int):=by omega
    rw[if_pos hb]at hpl;simp only[go_sem,hlt,hg,IJ,fI,hb',splice];exact hK r hpl
   ·have hb':¬(20000:Int)<(r.ck:Int):=by omega
    rw[if_neg hb]at hpl;have hs:=fun(l2:aA) (K':kA)=>zqe (h:=h) (l:=l2) (K:=K') I.R I.N (by omega) I.st I.S (by rw[I.sl];omega) (by rw[I.fl];omega) l[k] h0
    obtain⟨I2,c2⟩:=zps I h0;simp only[go_sem,hlt,hg,IJ,fI,hb',hs,w2,splice];exact⟨(k+1,r.step eA l[k]),rfl,⟨by dsimp only;omega,I2,by dsimp only;omega,hpl⟩,by dsimp only;omega⟩
  ·obtain rfl:k=l.length:=by omega
   rw[List.drop_length]at hpl;simp only[go_sem,Nat.lt_irrefl];exact hK r hpl
 rcases hp with⟨rfl,rfl⟩|⟨⟨i,rfl⟩,rfl⟩
 ·rw[z4N rfl]
  simp only[PN,go_sem,z98,splice];refine main _ fun r e=>?_
  rw[e];have q1:h.length+5+1=h.length+6:=rfl
  have q2:max h.length (h.length+6)=h.length+6:=by omega
  simp only[go_sem,q1,q2,List.take_nil]
 ·rw[z4N rfl]
  simp only[PN,go_sem,z98,splice];refine main _ fun r e=>?_
  rw[e];have q1:h.length+5+1=h.length+6:=rfl
  have q2:max h.length (h.length+6)=h.length+6:=by omega
  simp only[go_sem,q1,q2,List.take_nil]
end Go.Am
end
section
/- The program: what is wrong with a program;clocks,signals,states,bits. -/
open Go
set_option linter.all false
namespace Go.Am
variable {h:aA} {K:kA} {r:Run} {n:Nat} {o:Obj} {x:Esc}
attribute [-go_sem] SA splice
attribute [local go_sem] iI FM JJ KJ LJ GM z2R z2S z2T IJ uM fI vM wM xM yM zM AM BM
theorem zoA {l:List Cmd}(hc:∀ c∈l,FA c=0)(w:Bool):20000<((lC w).play eA l).ck↔20000<(sA (oA eA [] 0 l)).length:=by
 have e:=QI hc
 constructor
 ·intro h
  rcases Nat.lt_or_ge 20000 (sA (oA eA [] 0 l)).length with h1|h1
  ·exact h1
  ·have:=(z2H GP e w h1).1;omega
 ·intro h
  have:=(z2I eA l (rel0 w) e).2;simp only[List.nil_append]at this;exact this h
theorem zpV (l:List Cmd)(hc:∀ c∈l,FA c=0)(hl:l.length≤1000):bA X oG [ACs l,.nilp] h K=K (.ref (h.length+5) 0) (rh h ((lC false).play eA l) []) []:=z93 l hc hl .nilp false (.inl ⟨rfl,rfl⟩)
theorem zpW (l:List Cmd)(hc:∀ c∈l,FA c=0)(hl:l.length≤1000)(i:Nat):bA X oG [ACs l,.ref i 0] h K=K (.ref (h.length+5) 0) (rh h ((lC true).play eA l) []) []:=z93 l hc hl _ true (.inr ⟨⟨i,rfl⟩,rfl⟩)
set_option maxHeartbeats 4000000 in
theorem z9k (l:List Cmd)(hok:∀ c∈l,CmdOk c)(hl:l.length≤1000000):bA X PG [ACs l] h K=K (AI (DB eA l:Nat)) h []:=by
 refine xA ?_;rw[ze0 rfl];by_cases hbig:1000<l.length
 ·have h1:(1000:Int)<(l.length:Int):=by omega
  have e:DB eA l=2:=by unfold DB;rw[if_pos hbig]
  rw[e];simp only[HN,go_sem,h1]
 have h1:¬(1000:Int)<(l.length:Int):=by omega
 simp only[HN,go_sem,h1];refine jB (fun k:Nat=>⟨[(0,ACs l),(10,ACs l),(11,AI l.length),(12,AI k)],h,[]⟩) (fun k=>k≤l.length∧∀c∈l.take k,FA c=0) (fun k=>l.length-k) 0 rfl ⟨Nat.zero_le _,by simp⟩ ?_
 rintro k ⟨hk,hn⟩
 rcases Nat.lt_or_ge k l.length with hlt|hge
 ·have hg:=iC dB hlt
  have w2:IntKind.i64.wrap ((k:Int)+1)=((k+1:Nat):Int):=GA _ (by omega) (by omega)
  have hf:=fun(h':aA) (K':kA)=>zpM (h:=h') (K:=K') l[k] (hok _ (List.getElem_mem hlt))
  have hsn:FA l[k]=0→∀c∈l.take (k+1),FA c=0:=fun h0 c hc=>by
   rw[List.take_succ_eq_append_getElem hlt]at hc;rcases List.mem_append.1 hc with hc|hc
   ·exact hn c hc
   ·obtain rfl:c=l[k]:=by simpa using hc
    exact h0
  have hpf:FA l[k]≠0→DB eA l=FA l[k]:=fun h0=>by
   unfold DB;rw[if_neg (by omega),mY hlt hn h0,if_pos h0]
  have hbr:=zeX (c:=l[k])
  have hkd:=z5f (c:=l[k])
  generalize l[k]=c at *;generalize hke:kL c=ke at *;generalize hbc:dN c=bc at *;obtain⟨k0,s0,cl0,b0,w0,m0⟩:=c;obtain⟨k1,s1,cl1,b1,w1,m1⟩:=bc;dsimp only at hbr hkd hf hg;by_cases i1:k0<1
  ·have e:=hkd (by omega)
   rw[hpf (by omega),e]
   simp only[go_sem,hlt,hg,w2,hf,GC,i1,splice]
  by_cases i2:10<k0
  ·have e:=hkd (by omega)
   rw[hpf (by omega),e]
   simp only[go_sem,hlt,hg,w2,hf,GC,i1,i2,splice]
  have e:=hbr (by omega)
  by_cases i3:ke=0
  ·subst i3
   rw[if_neg (by simp)]at e
   by_cases i4:(⟨k1,s1,cl1,b1,w1,m1⟩:Cmd)=⟨k0,0,0,[],[],[]⟩
   ·rw[if_pos i4]at e
    simp only[go_sem,hlt,hg,w2,hf,GC,i1,i2,splice,eqa6,i4];exact⟨k+1,rfl,⟨by omega,hsn e⟩,by omega⟩
   ·rw[if_neg i4]at e
    rw[hpf (by omega),e]
    simp only[go_sem,hlt,hg,w2,hf,GC,i1,i2,splice,eqa6,i4]
  ·have i3':¬((ke:Nat):Int)=0:=by omega
   rw[if_pos i3]at e;rw[hpf (by omega),e]
   simp only[go_sem,hlt,hg,w2,hf,GC,i1,i2,splice,i3']
 ·obtain rfl:k=l.length:=by omega
  rw[List.take_length]at hn;have hs:=fun(h':aA) (K':kA)=>zpV (h:=h') (K:=K') l hn (by omega)
  have e:DB eA l=if 20000<(sA (oA eA [] 0 l)).length then 2 else 0:=by
   unfold DB;rw[if_neg (by omega),QI hn,if_neg (by simp)]
  rw[e];have hm:=zoA hn false
  by_cases h2:20000<(sA (oA eA [] 0 l)).length
  ·have h3:=hm.2 h2
   have h2':(20000:Int)<(((lC false).play eA l).ck:Int):=by omega
   simp only[go_sem,Nat.lt_irrefl,Int.lt_irrefl,hs,h2,h2',splice]
  ·have h3:=fun q=>h2 (hm.1 q)
   have h2':¬(20000:Int)<(((lC false).play eA l).ck:Int):=by omega
   simp only[go_sem,Nat.lt_irrefl,Int.lt_irrefl,hs,h2,h2',splice]
theorem zpw (l:List Cmd)(hok:∀ c∈l,CmdOk c)(hl:l.length≤40):bA X PG [ACs l] h K=K (AI (DB eA l:Nat)) h []:=z9k l hok (by omega)
theorem sM {l:List Cmd}(h:DB eA l=0):(∀c∈l,FA c=0)∧(sA (oA eA [] 0 l)).length≤20000∧l.length≤1000:=by
 unfold DB at h;split at h
 ·cases h
 split at h
 ·rename_i h1;exact absurd h h1
 split at h
 ·cases h
 ·rename_i h0 h1 h2
  exact⟨z5h (by omega),by omega,by omega⟩
theorem z8Q {l:aA}:(rh h r l)[h.length+1]?=some (.row none (r.frs.map eN) 0):=by unfold rh;rw[PD];rfl
theorem z8R {l:aA}:(rh h r l)[h.length+2]?=some (.row none (vA r.tms) 0):=by unfold rh;rw[PD];rfl
theorem z8S {l:aA}:(rh h r l)[h.length+3]?=some (.row none (vA r.tdi) 0):=by unfold rh;rw[PD];rfl
theorem z8T {l:aA}:(rh h r l)[h.length+4]?=some (.row none (vA r.want) 0):=by unfold rh;rw[PD];rfl
attribute [local go_sem] z8Q z8R z8S z8T
def hbx (h:aA):aA:=h++[.box [AB true]]
theorem z96 (l:List Cmd)(hc:∀ c∈l,FA c=0)(hl:l.length≤1000):bA X bL [ACs l] h K=K (.ref ((hbx h).length+5) 0) (rh (hbx h) ((lC true).play eA l) []) []:=by
 refine xA ?_;rw[zeF rfl];have hp:=fun(K':kA)=>zpW (h:=h++[.box [AB true]]) (K:=K') l hc (by omega) h.length
 have el:(h++[Obj.box [AB true]]).length=h.length+1:=by simp
 have el2:(hbx h).length=h.length+1:=by simp [hbx]
 have et:(rh (h++[Obj.box [AB true]]) ((lC true).play eA l) []).length=h.length+7:=by rw[iI,el];simp
 simp only[sS,go_sem,hp,splice];refine⟨by omega,by rw[el2],?_⟩
 exact List.take_of_length_le (by rw[et];omega)
def sigV (l:List Cmd):AV:=.tup [AS (if DB eA l=0 then sA (oA eA [] 0 l) else []),AS (if DB eA l=0 then xB (oA eA [] 0 l) else []),AS (if DB eA l=0 then IC (oA eA [] 0 l) else []),AI (DB eA l:Nat)]
theorem z9x (l:List Cmd)(hok:∀ c∈l,CmdOk c)(hl:l.length≤40):bA X XK [ACs l] h K=K (sigV l) h []:=by
 refine xA ?_;rw[ze4 rfl];have hk:=fun(h':aA) (K':kA)=>zpw (h:=h') (K:=K') l hok hl
 unfold sigV;by_cases h0:DB eA l=0
 ·obtain⟨hc,hn,_⟩:=sM h0
  have hp:=fun(h':aA) (K':kA)=>z96 (h:=h') (K:=K') l hc (by omega)
  obtain⟨a1,a2,a3,a4,a5⟩:=z2H GP (QI hc) true hn;obtain⟨b1,b2,b3⟩:=a5 rfl;have ww:∀s:List UInt8,win (vA s) 0 s.length=vA s:=fun s=>by unfold win;rw[List.drop_zero];exact List.take_of_length_le (by rw[CF];omega)
  have et:(rh (hbx h) ((lC true).play eA l) []).take h.length=h:=by unfold rh hbx;rw[List.append_assoc];exact cK ..
  simp only[ON,go_sem,hk,h0,hp,b1,b2,b3,show((0:Nat):Int)=0 from rfl,CF,ww,VJ,et,Nat.le_refl]
 ·have h0':¬((DB eA l:Nat):Int)=0:=by omega
  simp only[ON,go_sem,hk,h0,h0',show((0:Nat):Int)=0 from rfl]
end Go.Am
end
section
/- A chain is run: the program. -/
open Go
set_option linter.all false
set_option maxRecDepth 100000
namespace Go.Am
variable {h:aA} {K:kA}
attribute [-go_sem] SA XB rC
theorem zlm {ds:List TDev}:BB ds ds.length=ds.map vF:=by unfold BB;rw[List.take_length]
theorem zln {ds:List TDev}:(ds.map vF).map PortS.d=ds:=by rw[List.map_map];exact List.map_id _
theorem zlp {ds:List TDev}:(ds.map vF).map PortS.p=wF ds:=by rw[List.map_map];rfl
theorem zlo {ds:List TDev}(hd:∀ d∈ds,DevOk d):∀q∈ds.map vF,PSOk q:=by
 intro q hq;obtain⟨d,hm,rfl⟩:=List.mem_map.1 hq;have D:=hd d hm
 exact⟨D,⟨by simp [vF],by simp [vF,aC],by simp [vF],by simp [vF]⟩,fun r hr=>z7R d d.regs [] D.nd r hr⟩
theorem z4C {s:List UInt8}(hs:zA s=true){k:Nat}(hk:k<s.length):aC s[k]:=OX hs (List.getElem_mem hk)
theorem zpt (ds:List TDev)(st:Nat)(ps:List JC)(a b:UInt8)(r:List (UInt8 × UInt8)):YD ds st ps ((a,b)::r)=nI st (tE st ds ps b).2::YD ds (stW st a) (tE st ds ps b).1 r:=rfl
set_option maxHeartbeats 4000000 in
theorem zpB (ds:List TDev)(hd:∀ d∈ds,DevOk d)(h0:ds≠[])(h20:ds.length≤20)(hck:∀ h K,bA X JH [jD ds] h K=K (AI 0) h [])(tms tdi:List UInt8)(hl:tms.length=tdi.length)(hn:tms.length≤20000)(hb1:zA tms=true)(hb2:zA tdi=true) :
 bA X PO [jD ds,AS tms,AS tdi] h K=K (.tup [AS (YD ds 0 (wF ds) (tms.zip tdi)),AI 0]) h []:=by
 refine xA ?_;rw[zen rfl];have nw:=fun h K=>s_New (h:=h) (K:=K) ds hd h0 h20 hck
 have B1:=fun h K=>RJ (h:=h) (K:=K) tms (by omega)
 have B2:=fun h K=>RJ (h:=h) (K:=K) tdi (by omega)
 rw[hb1]at B1;rw[hb2]at B2;have t1:¬(20000:Int)<(tms.length:Int):=by omega
 have t2:¬(20000:Int)<(tdi.length:Int):=by omega
 have t3:(tms.length:Int)=(tdi.length:Int):=by omega
 have l0:(CH h 0 (BB ds ds.length) []).length=h.length+(2+4*ds.length):=by rw[uI,z8v (Nat.le_refl _)];rfl
 have ap:∀(st:Int) (l:List PortS) (t u:aA),CH h st l t++u=CH h st l (t++u):=fun _ _ _ _=>XV
 simp only[XR,go_sem,↓nw,nw,t1,t2,eq_true t3,↓B1,B1,↓B2,B2,l0,ap,List.nil_append];have zl:(tms.zip tdi).length=tms.length:=by rw[List.length_zip];omega
 have Rl:(YD ds 0 (wF ds) (tms.zip tdi)).length=tms.length:=by rw[z2W,zl]
 generalize hR:YD ds 0 (wF ds) (tms.zip tdi)=R at *;refine jB (fun t:Nat×Nat×List PortS=>⟨[(1,AS tms),(2,AS tdi),(8,.ref (h.length+1) 0),(10,.own (h.length+(2+4*ds.length)) t.1 0 t.1),(46,AI tms.length),(47,AI t.1)],CH h t.2.1 t.2.2 [.row none (vA (R.take t.1)) 0],KG h ds.length⟩)
  (fun t=>(t.1≤tms.length∧t.2.1<16)∧(t.2.2.map PortS.d=ds∧∀q∈t.2.2,PSOk q)∧YD ds t.2.1 (t.2.2.map PortS.p) ((tms.zip tdi).drop t.1)=R.drop t.1) (fun t=>tms.length-t.1) (0,0,ds.map vF) (by rw[zlm];rfl) ⟨⟨by dsimp only;omega,by dsimp only;omega⟩,⟨zln,zlo hd⟩,by dsimp only;rw[zlp,List.drop_zero,hR];rfl⟩ ?_
 rintro⟨k,st,l⟩ ⟨⟨i1,i2⟩,⟨i3,i4⟩,i5⟩
 dsimp only at i1 i2 i3 i4 i5 ⊢;have ll:l.length=ds.length:=by rw[←i3,List.length_map]
 generalize hP:h.length+(2+4*ds.length)=P at *;have gl:∀(st:Int) (l:List PortS),l.length=ds.length→∀t:aA,(CH h st l t).length=P+t.length:=fun st l e t=>by rw[uI,e,hP]
 have gg:∀(st:Int) (l:List PortS),l.length=ds.length→∀(t:aA),(CH h st l t)[P]?=t[0]?:=fun st l e t=>by
  have:=@CH_t h st l t 0;rw[e,hP]at this;exact this
 have gs:∀(st:Int) (l:List PortS),l.length=ds.length→∀(t:aA) (o:Obj),(CH h st l t).set P o=CH h st l (t.set 0 o):=fun st l e t o=>by
  have:=@YV h st l t 0 o;rw[e,hP]at this;exact this
 have gk:∀(st:Int) (l:List PortS),l.length=ds.length→∀(t:aA) (n:Nat),(CH h st l t).take (P+n)=CH h st l (t.take n):=fun st l e t n=>by
  have:=@z3M h st l t n;rw[e,hP]at this;exact this
 have lr:(vA (R.take k)).length=k:=by rw[CF,List.length_take];omega
 rw[kH];rcases Nat.lt_or_ge k tms.length with hlt|hge
 ·have hlt':(k:Int)<(tms.length:Int):=by omega
  have hk2:k<tdi.length:=by omega
  have w2:IntKind.i64.wrap ((k:Int)+1)=((k+1:Nat):Int):=GA _ (by omega) (by omega)
  have ea:(tms.zip tdi).drop k=(tms[k],tdi[k])::(tms.zip tdi).drop (k+1):=by
   rw[List.drop_eq_getElem_cons (by rw[zl];exact hlt),List.getElem_zip]
  have ba:=z4C hb1 hlt
  have bb:=z4C hb2 hk2
  have ga:tms[k]?=some tms[k]:=List.getElem?_eq_getElem hlt
  have gb:tdi[k]?=some tdi[k]:=List.getElem?_eq_getElem hk2
  rw[ea]at i5;generalize tms[k]=ca at *;generalize tdi[k]=cb at *;rw[zpt]at i5;have wS:∀c:UInt8,aC c→IntKind.u8.wrap ((c.toNat:Int)-48)=((c.toNat-48:Nat):Int):=fun c hc=>by rcases hc with rfl|rfl <;> rfl
  have wT:∀c:UInt8,aC c→IntKind.i64.wrap ((c.toNat-48:Nat):Int)=((c.toNat-48:Nat):Int):=fun c hc=>by rcases hc with rfl|rfl <;> rfl
  have x1:=wS ca ba
  have x2:=wT ca ba
  have x3:=wS cb bb
  have x4:=wT cb bb
  have ck:=fun K=>zqf (h:=h) (K:=K) [.row none (vA (R.take k)) 0] l i4 (by omega) st i2 ca cb ba bb
  obtain⟨n1,n2,n3⟩:=z4n st l cb;obtain⟨o1,o2⟩:=z4p st l cb i4 bb;have ol:=z4o st l cb
  rw[i3]at n1 n2 n3;rw[←n1,←n2]at i5;generalize (KC st l cb).1=l' at *;generalize (KC st l cb).2=b' at *;have l'l:l'.length=ds.length:=by rw[ol,ll]
  have gl':=gl (stW st ca) l' l'l
  have gg':=gg (stW st ca) l' l'l
  have gs':=gs (stW st ca) l' l'l
  have gk':=gk (stW st ca) l' l'l
  have gl0:=gl st l ll
  have hst':stW st ca<16:=z9U i2 ba
  have f1:h.length+1+1≤P+1:=by omega
  have f2:h.length+1≤P:=by omega
  have ms:k+1≤NA:=by unfold NA;omega
  have eR:R.drop k=nI st b'::R.drop (k+1):=by
   have:R.drop (k+1)=(R.drop k).drop 1:=by rw[List.drop_drop]
   rw[this,←i5];rfl
  have i6:YD ds (stW st ca) (l'.map PortS.p) ((tms.zip tdi).drop (k+1))=R.drop (k+1):=by
   rw[eR]at i5;injection i5
  have eT:R.take (k+1)=R.take k++[nI st b']:=by
   have hk:k<R.length:=by omega
   rw[List.take_succ_eq_append_getElem hk];congr 2
   rw[List.drop_eq_getElem_cons hk]at eR;injection eR
  have eB:vA (R.take (k+1))=vA (R.take k)++[.int .u8 (nI st b').toNat]:=by rw[eT];simp [vA]
  unfold clkO at ck;unfold nI at eB;by_cases hs:st=4∨st=11
  ·rw[if_pos hs]at ck eB
   have y1:¬(b'.toNat:Int)-48<0:=by rcases o2 with e|e <;> rw[e] <;> decide
   have y2:IntKind.i64.wrap (48+((b'.toNat:Int)-48))=(b'.toNat:Int):=by rcases o2 with e|e <;> rw[e] <;> rfl
   have y3:IntKind.u8.wrap (b'.toNat:Int)=(b'.toNat:Int):=by rcases o2 with e|e <;> rw[e] <;> rfl
   simp only[ES,tK,go_sem,hlt',ga,gb,x1,x2,x3,x4,↓ck,ck,y1,y2,y3,gg',gs',gk',gl0,lr,ms,f1,f2,w2,List.length_cons,List.length_nil];refine⟨(k+1,stW st ca,l'),?_,⟨⟨by dsimp only;omega,hst'⟩,⟨n3,o1⟩,i6⟩,by dsimp only;omega⟩
   rw[eB]
  ·rw[if_neg hs]at ck eB
   have y1:(-1:Int)<0:=by decide
   simp only[ES,tK,go_sem,hlt',ga,gb,x1,x2,x3,x4,↓ck,ck,y1,gg',gs',gk',gl0,lr,ms,f1,f2,w2,List.length_cons,List.length_nil];refine⟨(k+1,stW st ca,l'),?_,⟨⟨by dsimp only;omega,hst'⟩,⟨n3,o1⟩,i6⟩,by dsimp only;omega⟩
   rw[eB];rfl
 ·have ek:k=tms.length:=by omega
  subst ek;have eR:R.take tms.length=R:=List.take_of_length_le (by omega)
  rw[eR]at lr ⊢;have tb:iF (vA R)=some R:=VJ _
  have wf:win (vA R) 0 tms.length=vA R:=YF lr
  have gl0:=gl st l ll
  have gg0:=gg st l ll
  have gk0:=gk st l ll
  have f1:h.length+1+1≤P+1:=by omega
  simp only[ES,tK,go_sem,Nat.lt_irrefl,gl0,gg0,gk0,f1,List.length_cons,List.length_nil,lr,wf,tb];rw[zpj (v:=.tup [AS R,AI 0]) (fun y hy=>by have:=(z0l hy).1;omega) (by simp only[go_sem]) (by simp [AV.top,AV.tops])]
  have th:(CH h st l [.row none (vA R) 0]).take h.length=h:=by unfold CH;rw[cK]
  rw[th];exact⟨rfl,rfl,rfl⟩
end Go.Am
end
section
/- A text split at a byte. -/
set_option linter.all false
namespace Go.Am
end Go.Am
end
section
/- Where a byte stands in a text. -/
open Go
set_option linter.all false
namespace Go.Am
variable {h:aA} {K:kA}
theorem zqc (s:List UInt8)(c:UInt8):bA X FH [AS s,.p (.int .u8 c.toNat)] h K=K (AI (dD s c)) h []:=by
 refine xA ?_;rw[z4L rfl];simp only[rN,go_sem,z90]
end Go.Am
end
section
/- The abstract machine,part L4: strings.Repeat,strings.Trim,math/bits.TrailingZeros64 asv rows. -/
set_option linter.all false
namespace Go.Am
variable {P:Program} {gl:Nat→Option PV}
open Go.Shelf
theorem fN {w w':World}(h:Go.RowKit.Below w.heap.size w w'):WExt w w':=⟨h.size,fun b hb=>h.block b hb,by unfold zed;rw[h.os,h.tape,h.output]⟩
theorem z8e (s:List UInt8):∀c,Go.Lib.repeatL s c=gI s c
 | 0=>rfl
 | c+1=>by rw[Go.Lib.repeatL,gI,z8e s c]
theorem ztu {ρ:Ren}(L:Go.Proofs.Lays.n105 P ρ)(E:Go.Proofs.Builder.Extra P ρ)(he:∀ us w,(callFunc (ρ.f 105) us).run P w = .ok (.enter (ρ.f 105) us) w):PureRow P gl (ρ.f 105) DM where
 enter:=he
 run M w vs r us hc hb hG hl hr hs:=by
  unfold DM at hs;split at hs
  ·rename_i s c
   split at hs
   ·rename_i hbd
    match us,hl with
    | [u,v],_=>
     have q:=hr 0 _ u rfl rfl
     cases q;have q2:=hr 1 _ v rfl rfl
     cases q2;simp only[Option.some.injEq]at hs
     subst hs;obtain⟨n,rfl⟩:=Int.eq_ofNat_of_zero_le hbd.1;have hsz:(⟨s.toArray⟩:ByteArray).size=s.length:=by simp [ByteArray.size]
     simp only[Int.toNat_natCast]at hbd ⊢;refine(Go.Proofs.Any.strings_Repeat L E ⟨s.toArray⟩ n w (by omega) (by rw[hsz];omega)).mono fun e w' h=>?_
     obtain⟨rfl,h⟩:=h;exact⟨_,rfl,fN h,by rw[z8e];exact .p _ _ (.str _)⟩
   ·cases hs
  ·cases hs
theorem zkQ (s cs:List UInt8):Go.Lib.trimS s cs=zF s cs:=rfl
theorem trimRow {ρ:Ren}(L:Go.Proofs.Lays.n160 P ρ)(h116:(P.info? (ρ.t 116)).map (fun i=>(i.zero,i.size))=some (some (.agg (Array.replicate 256 (.bool false))),256))(he:∀ us w,(callFunc (ρ.f 160) us).run P w = .ok (.enter (ρ.f 160) us) w):PureRow P gl (ρ.f 160) trimS where
 enter:=he
 run M w vs r us hc hb hG hl hr hs:=by
  unfold trimS at hs;split at hs
  ·rename_i s cs
   split at hs
   ·rename_i hbd
    match us,hl with
    | [u,v],_=>
     have q:=hr 0 _ u rfl rfl
     cases q;have q2:=hr 1 _ v rfl rfl
     cases q2;simp only[Option.some.injEq]at hs
     subst hs;have hsz:∀l:List UInt8,(⟨l.toArray⟩:ByteArray).size=l.length:=fun l=>by simp [ByteArray.size]
     refine(Go.Proofs.Any.strings_Trim_laid L h116 ⟨s.toArray⟩ ⟨cs.toArray⟩ w (by rw[hsz];omega) (by rw[hsz];omega) (Go.Proofs.ascii_of_all hbd.2.2)).mono fun e w' h=>?_
     obtain⟨rfl,h⟩:=h;exact⟨_,rfl,fN h,by rw[←zkQ];exact .p _ _ (.str _)⟩
   ·cases hs
  ·cases hs
end Go.Am
end
section
/- The abstract machine,part L5: strings.Count at one byte,strings.Join asv rows. -/
set_option linter.all false
namespace Go.Am
variable {P:Program} {gl:Nat→Option PV}
open Go.Shelf
end Go.Am
end
section
/- Texts split at a byte. -/
open Go
set_option linter.all false
namespace Go.Am
variable {h:aA} {K:kA}
theorem zqd (s:List UInt8)(c:UInt8)(hs:s.length≤1000000):bA X iO [AS s,AS [c]] h K=K (AI (dD s c)) h []:=by
 refine xA ?_;rw[zdp rfl];have q:=fun h K=>zqc (h:=h) (K:=K) s c
 simp only[WQ,go_sem,↓q,q,List.length_cons,List.length_nil];split
 ·rename_i h1;subst h1;simp [dD]
 ·trivial
end Go.Am
end
section
/- What is wrong with devices: the program. -/
open Go
set_option linter.all false
set_option maxRecDepth 100000
namespace Go.Am
variable {h:aA} {K:kA}
attribute [-go_sem] SA
theorem z99 (s:List UInt8)(hs:s.length≤1000000):bA X TK [AS s,AS [48]] h K=K (AB (s.contains 48)) h []:=by
 refine xA ?_;rw[zef rfl];have IX:∀(hh:aA) (K:kA),bA X LO [AS s,AS [48]] hh K=K (AI (dD s 48)) hh []:=fun hh K=>by
  refine xA ?_;rw[zeg rfl];have q:=fun h K=>zqd (h:=h) (K:=K) s 48 hs
  simp only[PR,go_sem,↓q,q]
 have e:=z0B s 48
 have e2:decide (0≤dD s 48)=s.contains 48:=by
  cases hc:s.contains 48 with
  | true=>
   rw[hc]at e;have:¬dD s 48<0:=by simpa using e
   exact decide_eq_true (by omega)
  | false=>
   rw[hc]at e;have:dD s 48<0:=by simpa using e
   exact decide_eq_false (by omega)
 simp only[OR,go_sem,↓IX,IX,e2]
theorem NX {n:List UInt8}{l:List TReg}:(l.map DA).any (XC n)=l.any fun x=>decide (x.name=n):=by rw[List.any_map];rfl
theorem z4x {n:List UInt8}{l:List TIns}:(l.map ZA).any (XC n)=l.any fun x=>decide (x.code=n):=by rw[List.any_map];rfl
theorem z4w {n:List UInt8}{l:List TDev}:(l.map JA).any (XC n)=l.any fun x=>decide (x.name=n):=by rw[List.any_map];rfl
set_option maxHeartbeats 2000000 in
theorem zpX (d:TDev)(B:DevB d):bA X XO [iB d] h K=K (AI (LD [] d.regs)) h []:=by
 refine xA ?_;rw[zex rfl];have hl:=B.rs
 obtain⟨T,hT⟩:∃T,T=LD [] d.regs:=⟨_,rfl⟩;rw[←hT];simp only[gS,go_sem,iB,JA,List.length_map];refine jB (fun k:Nat=>⟨[(1,.ref h.length 0),(6,.p (.sl (some 2) (d.regs.map DA))),(7,AI d.regs.length),(8,AI k)],h++[.box (OB d)],[]⟩) (fun k=>k≤d.regs.length∧LD (d.regs.take k) (d.regs.drop k)=T) (fun k=>d.regs.length-k) 0 rfl ⟨by omega,hT.symm⟩ ?_
 rintro k ⟨hk,hp⟩
 rcases Nat.lt_or_ge k d.regs.length with hlt|hge
 ·have hg:=iC DA hlt
  have w2:IntKind.i64.wrap ((k:Int)+1)=((k+1:Nat):Int):=GA _ (by omega) (by omega)
  have cx:nB (some 2) 0 (DA d.regs[k])=some (DA d.regs[k]):=rfl
  have fp:∀y:TReg,DA y = .agg [.str y.name,eI y.long]:=fun _=>rfl
  have nl:=B.rn _ (List.getElem_mem hlt)
  have tk:=List.take_succ_eq_append_getElem hlt
  have hw:win (d.regs.map DA) 0 k=(d.regs.take k).map DA:=by simp [win,List.map_take]
  have hk2:k≤d.regs.length:=hk
  have lt:(d.regs.take k).length≤1000:=by rw[List.length_take];omega
  have d3:ldB none 3 (some (.box (OB d)))=some (.p (.sl (some 2) (d.regs.map DA))):=rfl
  rw[List.drop_eq_getElem_cons hlt]at hp;unfold LD at hp;rw[←tk]at hp;generalize hrr:d.regs[k]=r at *;generalize d.regs.take k=pre at *;rw[fp]at hg cx;have ky:=fun h K=>z9p (h:=h) (K:=K) r.name (by omega)
  have tl:sE YO [.ref (h.length+1) 0] (XC r.name) (pre.map DA) (h++[.box (OB d),.box [AS r.name,AI r.long]]):=fun x hx K=>by
   obtain⟨y,_,rfl⟩:=List.mem_map.1 hx;refine xA ?_;rw[zey rfl];simp only[jS,go_sem,Nat.add_assoc,DA,XC]
  have ct:=fun K=>ZV (h:=h++[.box (OB d),.box [AS r.name,AI r.long]]) (K:=K) tl sV (by simp;omega)
  rw[NX]at ct;cases kb:MC r.name with
  | false=>
   have e:UB pre r=5:=by unfold UB;rw[if_pos kb]
   rw[e,if_pos (by decide)]at hp
   rw[←hp];simp only[zH,gG,go_sem,Nat.add_assoc,hlt,hg,cx,fp,↓ky,ky,kb,splice]
  | true=>
   by_cases n1:r.name=[98,121,112,97,115,115]
   ·have e:UB pre r=6:=by unfold UB tB sB;rw[if_neg (by simp [kb]),if_pos (.inl n1)]
    rw[e,if_pos (by decide)]at hp
    rw[←hp];simp only[zH,gG,go_sem,Nat.add_assoc,hlt,hg,cx,fp,↓ky,ky,kb,eq_true n1,splice]
   by_cases n2:r.name=[105,100,99,111,100,101]
   ·have e:UB pre r=6:=by unfold UB tB sB;rw[if_neg (by simp [kb]),if_pos (.inr (.inl n2))]
    rw[e,if_pos (by decide)]at hp
    rw[←hp];simp only[zH,gG,go_sem,Nat.add_assoc,hlt,hg,cx,fp,↓ky,ky,kb,n1,eq_true n2,splice]
   cases ha:(pre.any fun x=>decide (x.name=r.name)) with
   | true=>
    have e:UB pre r=6:=by unfold UB tB sB;rw[if_neg (by simp [kb]),if_pos (.inr (.inr ha))]
    rw[e,if_pos (by decide)]at hp
    rw[←hp];rw[ha]at ct;simp only[zH,gG,go_sem,Nat.add_assoc,hlt,hg,cx,fp,↓ky,ky,kb,n1,n2,d3,hw,hk2,↓ct,ct,splice]
   | false=>
    have e0:¬(r.name=[98,121,112,97,115,115]∨r.name=[105,100,99,111,100,101]∨(pre.any fun x=>decide (x.name=r.name))=true):=by rw[ha];simp [n1,n2]
    rw[ha]at ct;by_cases o1:r.long<1∨1000<r.long
    ·have e:UB pre r=1:=by unfold UB tB sB;rw[if_neg (by simp [kb]),if_neg e0,if_pos o1]
     rw[e,if_pos (by decide)]at hp
     rw[←hp];have o2:(decide (r.long<1)||decide (1000<r.long))=true:=by simpa using o1
     simp only[zH,gG,go_sem,Nat.add_assoc,hlt,hg,cx,fp,↓ky,ky,kb,n1,n2,d3,hw,hk2,↓ct,ct,splice,GC,o2]
    ·have e:UB pre r=0:=by unfold UB tB sB;rw[if_neg (by simp [kb]),if_neg e0,if_neg o1]
     rw[e,if_neg (by decide)]at hp
     have o2:(decide (r.long<1)||decide (1000<r.long))=false:=by simpa using o1
     simp only[zH,gG,go_sem,Nat.add_assoc,hlt,hg,cx,fp,↓ky,ky,kb,n1,n2,d3,hw,hk2,↓ct,ct,splice,GC,o2,w2];exact⟨k+1,rfl,⟨by omega,hp⟩,by omega⟩
 ·have ek:k=d.regs.length:=by omega
  subst ek;rw[List.drop_length]at hp;rw[←hp];simp only[zH,gG,go_sem,Nat.lt_irrefl,z5H,iS,LD]
set_option maxHeartbeats 4000000 in
theorem zpL (d:TDev)(B:DevB d):bA X SO [iB d] h K=K (AI (mE d [] d.ins)) h []:=by
 refine xA ?_;rw[zeq rfl];have hl:=B.is
 obtain⟨T,hT⟩:∃T,T=mE d [] d.ins:=⟨_,rfl⟩;rw[←hT];simp only[ZR,go_sem,iB,JA,List.length_map];refine jB (fun k:Nat=>⟨[(1,.ref h.length 0),(8,.p (.sl (some 2) (d.ins.map ZA))),(9,AI d.ins.length),(10,AI k)],h++[.box (OB d)],[]⟩) (fun k=>k≤d.ins.length∧mE d (d.ins.take k) (d.ins.drop k)=T) (fun k=>d.ins.length-k) 0 rfl ⟨by omega,hT.symm⟩ ?_
 rintro k ⟨hk,hp⟩
 rcases Nat.lt_or_ge k d.ins.length with hlt|hge
 ·have hg:=iC ZA hlt
  have w2:IntKind.i64.wrap ((k:Int)+1)=((k+1:Nat):Int):=GA _ (by omega) (by omega)
  have cx:nB (some 2) 0 (ZA d.ins[k])=some (ZA d.ins[k]):=rfl
  have fp:∀y:TIns,ZA y = .agg [.str y.code,.str y.reg]:=fun _=>rfl
  obtain⟨nl1,nl2⟩:=B.ic _ (List.getElem_mem hlt);have tk:=List.take_succ_eq_append_getElem hlt
  have hw:win (d.ins.map ZA) 0 k=(d.ins.take k).map ZA:=by simp [win,List.map_take]
  have hk2:k≤d.ins.length:=hk
  have lt:(d.ins.take k).length≤1000:=by rw[List.length_take];omega
  have d1:ldB none 1 (some (.box (OB d)))=some (AI d.long):=rfl
  have d4:ldB none 4 (some (.box (OB d)))=some (.p (.sl (some 2) (d.ins.map ZA))):=rfl
  have d5:ldB (some 5) 0 (some (.box (OB d)))=some (iB d):=rfl
  rw[List.drop_eq_getElem_cons hlt]at hp;unfold mE at hp;rw[←tk]at hp;generalize hrr:d.ins[k]=r at *;generalize d.ins.take k=pre at *;rw[fp]at hg cx;have bt:=fun h K=>RJ (h:=h) (K:=K) r.code (by omega)
  have sc:=fun h K=>z99 (h:=h) (K:=K) r.code (by omega)
  have rg:=fun h K=>z3m (h:=h) (K:=K) d r.reg (by have:=B.rs;omega)
  have tl:sE TO [.ref (h.length+1) 0] (XC r.code) (pre.map ZA) (h++[.box (OB d),.box [AS r.code,AS r.reg]]):=fun x hx K=>by
   obtain⟨y,_,rfl⟩:=List.mem_map.1 hx;refine xA ?_;rw[zer rfl];simp only[bS,go_sem,Nat.add_assoc,ZA,XC]
  have ct:=fun K=>z3P (h:=h++[.box (OB d),.box [AS r.code,AS r.reg]]) (K:=K) tl z7U (by simp;omega)
  rw[z4x]at ct;by_cases n1:(r.code.length:Int)=d.long
  case neg=>
   have e:QB d pre r=3:=by unfold QB;rw[if_pos n1]
   rw[e,if_pos (by decide)]at hp
   rw[←hp];simp only[yH,fG,go_sem,Nat.add_assoc,hlt,hg,cx,fp,splice,d1,n1]
  cases n2:zA r.code with
  | false=>
   have e:QB d pre r=9:=by unfold QB;rw[if_neg (by simp [n1]),if_pos n2]
   rw[e,if_pos (by decide)]at hp
   rw[←hp];rw[n2]at bt;simp only[yH,fG,go_sem,Nat.add_assoc,hlt,hg,cx,fp,splice,d1,eq_true n1,↓bt,bt]
  | true=>
   rw[n2]at bt;cases n3:r.code.contains 48 with
   | false=>
    have e:QB d pre r=16:=by unfold QB;rw[if_neg (by simp [n1]),if_neg (by simp [n2]),if_pos n3]
    rw[e,if_pos (by decide)]at hp
    rw[←hp];rw[n3]at sc;simp only[yH,fG,go_sem,Nat.add_assoc,hlt,hg,cx,fp,splice,d1,eq_true n1,↓bt,bt,↓sc,sc]
   | true=>
    rw[n3]at sc;cases n4:(pre.any fun y=>decide (y.code=r.code)) with
    | true=>
     have e:QB d pre r=6:=by unfold QB;rw[if_neg (by simp [n1]),if_neg (by simp [n2]),if_neg (by rw[n3];simp),if_pos n4]
     rw[e,if_pos (by decide)]at hp
     rw[←hp];rw[n4]at ct;simp only[yH,fG,go_sem,Nat.add_assoc,hlt,hg,cx,fp,splice,d1,eq_true n1,↓bt,bt,↓sc,sc,d4,hw,hk2,↓ct,ct]
    | false=>
     rw[n4]at ct;cases n5:kC d r.reg with
     | none=>
      have e:QB d pre r=8:=by unfold QB;rw[if_neg (by simp [n1]),if_neg (by simp [n2]),if_neg (by rw[n3];simp),if_neg (by rw[n4];simp),if_pos (by rw[n5];rfl)]
      rw[e,if_pos (by decide)]at hp
      rw[←hp];unfold CM at rg;rw[n5]at rg;dsimp only at rg;simp only[yH,fG,go_sem,Nat.add_assoc,hlt,hg,cx,fp,splice,d1,eq_true n1,↓bt,bt,↓sc,sc,d4,d5,hw,hk2,↓ct,ct,↓rg,rg]
     | some g=>
      have e:QB d pre r=0:=by unfold QB;rw[if_neg (by simp [n1]),if_neg (by simp [n2]),if_neg (by rw[n3];simp),if_neg (by rw[n4];simp),if_neg (by rw[n5];simp)]
      rw[e,if_neg (by decide)]at hp
      unfold CM at rg;rw[n5]at rg;dsimp only at rg;have fr:∀y:TReg,DA y = .agg [.str y.name,eI y.long]:=fun _=>rfl
      rw[fr]at rg;simp only[yH,fG,go_sem,Nat.add_assoc,hlt,hg,cx,fp,splice,d1,eq_true n1,↓bt,bt,↓sc,sc,d4,d5,hw,hk2,↓ct,ct,↓rg,rg,w2];exact⟨k+1,rfl,⟨by omega,hp⟩,by omega⟩
 ·have ek:k=d.ins.length:=by omega
  subst ek;rw[List.drop_length]at hp;rw[←hp];simp only[yH,fG,go_sem,Nat.lt_irrefl,z5E,aS,mE]
end Go.Am
end
section
/- What is wrong with devices,all: the program. -/
open Go
set_option linter.all false
set_option maxRecDepth 100000
namespace Go.Am
variable {h:aA} {K:kA}
attribute [-go_sem] SA
theorem orL2 (a b:Int):orL [a,b]=if a≠0 then a else b:=by
 unfold orL orL;by_cases h:a=0
 ·by_cases h2:b=0
  ·simp [h,h2,orL]
  ·simp [h,h2]
 ·simp [h]
set_option maxHeartbeats 4000000 in
theorem zpH (pre:List TDev)(hpre:pre.length≤1000)(d:TDev)(B:DevB d):bA X QO [iB d,jD pre] h K=K (AI (JF pre d)) h []:=by
 refine xA ?_;rw[zeo rfl];have ky:=fun h K=>z9p (h:=h) (K:=K) d.name (by have:=B.n;omega)
 have tl:sE RO [.ref h.length 0] (XC d.name) (pre.map JA) (h++[.box [AS d.name,AI d.long,AI d.id,.p (.sl (some 2) (d.regs.map DA)),.p (.sl (some 2) (d.ins.map ZA))]]):=fun x hx K=>by
  obtain⟨y,_,rfl⟩:=List.mem_map.1 hx;refine xA ?_;rw[zep rfl];simp only[YR,go_sem,Nat.add_assoc,JA,XC]
 have ct:=fun K=>z3O (h:=h++[.box [AS d.name,AI d.long,AI d.id,.p (.sl (some 2) (d.regs.map DA)),.p (.sl (some 2) (d.ins.map ZA))]]) (K:=K) tl z5v (by simp;omega)
 rw[z4w]at ct;have rf:=fun h K=>zpX (h:=h) (K:=K) d B
 have nf:=fun h K=>zpL (h:=h) (K:=K) d B
 have fa:iB d = .p (.agg [.str d.name,eI d.long,eI d.id,.sl (some 2) (d.regs.map DA),.sl (some 2) (d.ins.map ZA)]):=rfl
 rw[fa]at rf nf;have fst:=fun h K=>z9m (h:=h) (K:=K) [LD [] d.regs,mE d [] d.ins] (by simp)
 rw[orL2]at fst;simp only[AL,List.map_cons,List.map_nil]at fst;unfold JF;cases kb:MC d.name with
 | false=>
  rw[if_pos rfl];simp only[xE,go_sem,iB,JA,↓ky,ky,kb]
 | true=>
  rw[if_neg (by simp)]
  cases ha:(pre.any fun x=>decide (x.name=d.name)) with
  | true=>
   rw[if_pos rfl];rw[ha]at ct;simp only[xE,go_sem,iB,JA,↓ky,ky,kb,↓ct,ct]
  | false=>
   rw[if_neg (by simp)]
   rw[ha]at ct;by_cases o1:d.long<2∨32<d.long
   ·rw[if_pos (.inl o1)]
    have o2:(decide (d.long<2)||decide (32<d.long))=true:=by simpa using o1
    simp only[xE,go_sem,iB,JA,↓ky,ky,kb,↓ct,ct,GC,o2]
   have o2:(decide (d.long<2)||decide (32<d.long))=false:=by simpa using o1
   by_cases p1:d.id<0∨4294967295<d.id
   ·rw[if_pos (.inr p1)]
    have p2:(decide (d.id<0)||decide (4294967295<d.id))=true:=by simpa using p1
    simp only[xE,go_sem,iB,JA,↓ky,ky,kb,↓ct,ct,GC,o2,p2]
   have p2:(decide (d.id<0)||decide (4294967295<d.id))=false:=by simpa using p1
   rw[if_neg (by omega)]
   have t2:¬(2:Int)=0:=by decide
   by_cases q1:d.id≠0∧d.id.tmod 2=0
   ·rw[if_pos q1]
    obtain⟨q2,q3⟩:=q1;simp only[xE,go_sem,iB,JA,↓ky,ky,kb,↓ct,ct,GC,o2,p2,q2,t2,eq_true q3]
   rw[if_neg q1];have rest:∀(b:Bool),(10:Int)<d.regs.length∨(100:Int)<d.ins.length∨¬((10:Int)<d.regs.length∨(100:Int)<d.ins.length):=fun _=>by omega
   by_cases z:d.id=0
   ·by_cases g1:(10:Int)<d.regs.length
    ·rw[if_pos (.inl g1)]
     simp only[xE,go_sem,iB,JA,↓ky,ky,kb,↓ct,ct,GC,o2,p2,eq_true z,g1,List.length_map]
    by_cases g2:(100:Int)<d.ins.length
    ·rw[if_pos (.inr g2)]
     simp only[xE,go_sem,iB,JA,↓ky,ky,kb,↓ct,ct,GC,o2,p2,eq_true z,g1,g2,List.length_map]
    rw[if_neg (by omega)]
    simp only[xE,go_sem,iB,JA,↓ky,ky,kb,↓ct,ct,GC,o2,p2,eq_true z,g1,g2,List.length_map,↓rf,rf,↓nf,nf,↓fst,fst]
   ·have q3:¬d.id.tmod 2=0:=fun e=>q1 ⟨z,e⟩
    by_cases g1:(10:Int)<d.regs.length
    ·rw[if_pos (.inl g1)]
     simp only[xE,go_sem,iB,JA,↓ky,ky,kb,↓ct,ct,GC,o2,p2,z,t2,q3,g1,List.length_map]
    by_cases g2:(100:Int)<d.ins.length
    ·rw[if_pos (.inr g2)]
     simp only[xE,go_sem,iB,JA,↓ky,ky,kb,↓ct,ct,GC,o2,p2,z,t2,q3,g1,g2,List.length_map]
    rw[if_neg (by omega)]
    simp only[xE,go_sem,iB,JA,↓ky,ky,kb,↓ct,ct,GC,o2,p2,z,t2,q3,g1,g2,List.length_map,↓rf,rf,↓nf,nf,↓fst,fst]
theorem z9l (ds:List TDev)(hB:∀ d∈ds,DevB d)(hl:ds.length≤1000):bA X JH [jD ds] h K=K (AI (rF ds)) h []:=by
 refine xA ?_;rw[zek rfl];unfold rF;by_cases z:ds.length=0
 ·have z':(ds.length:Int)=0:=by omega
  rw[if_pos z];simp only[qK,go_sem,List.length_map,eq_true z']
 have z':¬(ds.length:Int)=0:=by omega
 rw[if_neg z];by_cases g:20<ds.length
 ·have g':(20:Int)<ds.length:=by omega
  rw[if_pos g];simp only[qK,go_sem,List.length_map,z',g']
 have g':¬(20:Int)<ds.length:=by omega
 rw[if_neg g];obtain⟨T,hT⟩:∃T,T=sF [] ds:=⟨_,rfl⟩;rw[←hT];simp only[qK,go_sem,List.length_map,z',g'];refine jB (fun k:Nat=>⟨[(0,jD ds),(14,jD ds),(15,AI ds.length),(16,AI k)],h,[]⟩) (fun k=>k≤ds.length∧sF (ds.take k) (ds.drop k)=T) (fun k=>ds.length-k) 0 rfl ⟨by omega,hT.symm⟩ ?_
 rintro k ⟨hk,hp⟩
 rcases Nat.lt_or_ge k ds.length with hlt|hge
 ·have hg:=iC JA hlt
  have w2:IntKind.i64.wrap ((k:Int)+1)=((k+1:Nat):Int):=GA _ (by omega) (by omega)
  have cx:nB (some 5) 0 (JA ds[k])=some (JA ds[k]):=rfl
  have fp:∀y:TDev,JA y = .agg [.str y.name,eI y.long,eI y.id,.sl (some 2) (y.regs.map DA),.sl (some 2) (y.ins.map ZA)]:=fun _=>rfl
  have tk:=List.take_succ_eq_append_getElem hlt
  have hw:win (ds.map JA) 0 k=(ds.take k).map JA:=by simp [win,List.map_take]
  have lt:(ds.take k).length≤1000:=by rw[List.length_take];omega
  have B:=hB _ (List.getElem_mem hlt)
  rw[List.drop_eq_getElem_cons hlt]at hp;unfold sF at hp;rw[←tk]at hp;generalize hrr:ds[k]=d at *;generalize ds.take k=pre at *;have df:=fun h K=>zpH (h:=h) (K:=K) pre lt d B
  have fa:iB d = .p (.agg [.str d.name,eI d.long,eI d.id,.sl (some 2) (d.regs.map DA),.sl (some 2) (d.ins.map ZA)]):=rfl
  rw[fa]at df;rw[fp]at hg cx;by_cases e:JF pre d=0
  ·rw[e,if_neg (by decide)]at hp
   rw[e]at df;simp only[CS,rK,go_sem,hlt,hk,hg,cx,fp,hw,splice,↓df,df,w2];exact⟨k+1,rfl,⟨by omega,hp⟩,by omega⟩
  ·rw[if_pos e]at hp
   rw[←hp];simp only[CS,rK,go_sem,hlt,hk,hg,cx,fp,hw,splice,↓df,df,e]
 ·have ek:k=ds.length:=by omega
  subst ek;rw[List.drop_length]at hp;rw[←hp];simp only[CS,rK,go_sem,Nat.lt_irrefl,z5D,UR,sF]
end Go.Am
end
section
/- Devices on a chain: the reference: which register is selected;a new port. -/
open Go
set_option linter.all false
set_option maxRecDepth 100000
namespace Go.Am
variable {h:aA} {K:kA}
attribute [-go_sem] SA
end Go.Am
end
section
/- A new port: the reference. -/
open Go
set_option linter.all false
set_option maxRecDepth 100000
namespace Go.Am
variable {h:aA} {K:kA}
attribute [-go_sem] SA XB rC rP oP
end Go.Am
end
section
/- A text read line by line. -/
set_option linter.all false
namespace Go.Am
end Go.Am
end
section
/- Numbers in texts. -/
set_option linter.all false
namespace Go.Am
end Go.Am
end
section
/- Faults read: the program's line and the reference's line agree. -/
set_option linter.all false
namespace Go.Am
end Go.Am
end
section
/- Lines of a text. -/
open Go
set_option linter.all false
namespace Go.Am
variable {h:aA} {K:kA}
end Go.Am
end
section
/- Numbers read. -/
open Go
set_option linter.all false
namespace Go.Am
variable {h:aA} {K:kA}
end Go.Am
end
section
/- Several numbers read. -/
open Go
set_option linter.all false
namespace Go.Am
variable {h:aA} {K:kA}
end Go.Am
end
section
/- Numbers read,the reference's way. -/
open Go
set_option linter.all false
namespace Go.Am
variable {h:aA} {K:kA}
end Go.Am
end
section
/- What a port captures,and does: the reference. -/
open Go
set_option linter.all false
set_option maxRecDepth 100000
namespace Go.Am
variable {h:aA} {K:kA}
attribute [-go_sem] SA XB rC
end Go.Am
end
section
/- A port is clocked;a run: the reference. -/
open Go
set_option linter.all false
set_option maxRecDepth 100000
namespace Go.Am
variable {h:aA} {K:kA}
attribute [-go_sem] SA XB rC
end Go.Am
end
section
/- A chain is run: the reference. -/
open Go
set_option linter.all false
set_option maxRecDepth 100000
namespace Go.Am
variable {h:aA} {K:kA}
attribute [-go_sem] SA XB rC
end Go.Am
end
section
/- What is wrong with devices: the reference. -/
open Go
set_option linter.all false
set_option maxRecDepth 100000
namespace Go.Am
variable {h:aA} {K:kA}
attribute [-go_sem] SA
theorem gF (n a b:Int):bA X HH [AI n,AI a,AI b] h K=K (AB (decide (a≤n)&&decide (n≤b))) h []:=by
 refine xA ?_;rw[zdA rfl];by_cases h1:a≤n <;> simp only[oR,go_sem,h1] <;> simp [h1]
theorem zro (s cs:List UInt8):decide (zF s cs=[])=s.all fun c=>cs.contains c:=by
 unfold zF;rw[Bool.eq_iff_iff,decide_eq_true_eq,aJ,List.all_reverse];constructor
 ·intro h
  have key:∀l:List UInt8,(l.dropWhile (cs.contains ·)).all (cs.contains ·)=true→l.all (cs.contains ·)=true:=by
   intro l;induction l with
   | nil=>intro _;rfl
   | cons c r ih=>
    intro hh;rw[List.dropWhile_cons]at hh;rw[List.all_cons];cases hc:cs.contains c with
    | true=>rw[hc,if_pos rfl]at hh;simp only[Bool.true_and];exact ih hh
    | false=>rw[hc,if_neg (by simp),List.all_cons,hc]at hh;simp at hh
  have:=key _ h;rwa [List.all_reverse]at this
 ·intro h
  have:s.reverse.dropWhile (cs.contains ·)=[]:=by rw[aJ,List.all_reverse];exact h
  rw[this];rfl
def sJ:List UInt8:=97::98::99::100::101::102::103::104::105::106::107::108::109::110::111::112::113::114::115::116::117::118::119::120::121::122::48::49::50::51::52::53::54::55::56::57::45::95::[]
def OM:List UInt8:=97::98::99::100::101::102::103::104::105::106::107::108::109::110::111::112::113::114::115::116::117::118::119::120::121::122::[]
theorem zjJ:∀ n<256,sJ.contains (UInt8.ofNat n)=GE (UInt8.ofNat n)∧OM.contains (UInt8.ofNat n)=(decide ((97:Int)≤(UInt8.ofNat n).toNat)&&decide (((UInt8.ofNat n).toNat:Int)≤122)):=by decide +kernel
theorem z7X (c:UInt8):sJ.contains c=GE c∧OM.contains c=(decide ((97:Int)≤c.toNat)&&decide ((c.toNat:Int)≤122)):=by
 have:=zjJ c.toNat c.toNat_lt;rwa [UInt8.ofNat_toNat]at this
theorem z9q (s:List UInt8)(hs:s.length≤1000000):bA X HK [AS s] h K=K (AB (MC s)) h []:=by
 refine xA ?_;rw[zd6 rfl];have tr:=fun h K=>z3g (h:=h) (K:=K) s sJ hs (by decide) (by decide)
 unfold sJ at tr;by_cases h1:1≤s.length∧s.length≤40
 case neg=>
  have e:MC s=false:=by
   cases hk:MC s with
   | false=>rfl
   | true=>
    obtain⟨k1,k2⟩:=z7W hk;have:=List.length_pos_iff.2 k2;omega
  have e2:(decide ((1:Int)≤s.length)&&decide ((s.length:Int)≤40))=false:=by
   rw[Bool.eq_false_iff];intro c;simp at c;omega
  rw[e];simp only[TI,go_sem,gF,e2]
 have e2:(decide ((1:Int)≤s.length)&&decide ((s.length:Int)≤40))=true:=by simp;omega
 cases s with
 | nil=>simp at h1
 | cons c r=>
  have e2:(decide ((1:Int)≤((r.length+1:Nat):Int))&&decide (((r.length+1:Nat):Int)≤40))=true:=by simp at h1 ⊢;omega
  have ta:=zro (c::r) sJ
  have al:((c::r).all fun c=>sJ.contains c)=(c::r).all GE:=by
   congr 1
   funext x
   exact(z7X x).1
  rw[al]at ta;unfold sJ at ta;have hr:decide (r.length<40)=true:=by simp at h1 ⊢;omega
  have ke:MC (c::r)=((decide ((97:Int)≤c.toNat)&&decide ((c.toNat:Int)≤122))&&(c::r).all GE):=by
   show(decide (r.length<40)&&(decide ((97:Int)≤c.toNat)&&decide ((c.toNat:Int)≤122))&&(c::r).all GE)=_
   rw[hr,Bool.true_and]
  rw[ke,←(z7X c).2];have ix:=fun h K=>z3e (h:=h) (K:=K) OM c
  have ne:=z0B OM c
  unfold OM at ix ne;cases ha:(c::r).all GE with
  | false=>
   rw[ha]at ta;have t2:¬zF (c::r) (97::98::99::100::101::102::103::104::105::106::107::108::109::110::111::112::113::114::115::116::117::118::119::120::121::122::48::49::50::51::52::53::54::55::56::57::45::95::[])=[]:=by simpa using ta
   rw[Bool.and_false];simp only[TI,go_sem,gF,e2,↓tr,tr,t2]
  | true=>
   rw[ha]at ta;have t2:zF (c::r) (97::98::99::100::101::102::103::104::105::106::107::108::109::110::111::112::113::114::115::116::117::118::119::120::121::122::48::49::50::51::52::53::54::55::56::57::45::95::[])=[]:=by simpa using ta
   rw[Bool.and_true];unfold OM;cases hc:((97::98::99::100::101::102::103::104::105::106::107::108::109::110::111::112::113::114::115::116::117::118::119::120::121::122::[]):List UInt8).contains c with
   | true=>
    rw[hc]at ne;have:decide ((0:Int)≤dD (97::98::99::100::101::102::103::104::105::106::107::108::109::110::111::112::113::114::115::116::117::118::119::120::121::122::[]) c)=true:=by
     simp at ne ⊢;omega
    simp only[TI,go_sem,gF,e2,↓tr,tr,t2,↓ix,ix,this]
   | false=>
    rw[hc]at ne;have:decide ((0:Int)≤dD (97::98::99::100::101::102::103::104::105::106::107::108::109::110::111::112::113::114::115::116::117::118::119::120::121::122::[]) c)=false:=by
     simp at ne ⊢;omega
    simp only[TI,go_sem,gF,e2,↓tr,tr,t2,↓ix,ix,this]
end Go.Am
end
section
/- What is wrong with devices,all: the reference. -/
open Go
set_option linter.all false
set_option maxRecDepth 100000
namespace Go.Am
variable {h:aA} {K:kA}
attribute [-go_sem] SA
theorem zpv (s:List UInt8)(hs:s.length≤1000000):bA X oO [AS s] h K=K (AI (if zA s=true then 0 else 9)) h []:=by
 refine xA ?_;rw[zd3 rfl];have tr:=fun h K=>z3g (h:=h) (K:=K) s [48,49] hs (by simp) (by decide)
 have tb:decide (zF s [48,49]=[])=zA s:=zae s
 cases hb:zA s with
 | true=>
  rw[hb]at tb;have t2:zF s [48,49]=[]:=by simpa using tb
  rw[if_pos rfl];simp only[wN,go_sem,↓tr,tr,t2]
 | false=>
  rw[hb]at tb;have t2:¬zF s [48,49]=[]:=by simpa using tb
  rw[if_neg (by simp)]
  simp only[wN,go_sem,↓tr,tr,t2]
theorem zoQ (d:TDev)(n:List UInt8):(kC d n).isSome=true↔n=tB∨(n=sB∧d.id≠0)∨(d.regs.any fun x=>decide (x.name=n))=true:=by
 unfold kC;by_cases h1:n=tB
 ·simp [h1]
 by_cases h2:n=sB∧d.id≠0
 ·rw[if_neg h1,if_pos h2];simp [h2]
 rw[if_neg h1,if_neg h2,List.find?_isSome];simp only[h1,h2,false_or,List.any_eq_true,decide_eq_true_eq,beq_iff_eq]
set_option maxHeartbeats 4000000 in
theorem zpK (d:TDev)(B:DevB d)(i:Nat)(hlt:i<d.ins.length):bA X tO [iB d,AI i] h K=K (AI (QB d (d.ins.take i) d.ins[i])) h []:=by
 refine xA ?_;rw[zdB rfl];have hl:=B.is
 have hrl:=B.rs
 have hg:=iC ZA hlt
 have cx:nB (some 2) 0 (ZA d.ins[i])=some (ZA d.ins[i]):=rfl
 have fp:∀y:TIns,ZA y = .agg [.str y.code,.str y.reg]:=fun _=>rfl
 obtain⟨nl1,nl2⟩:=B.ic _ (List.getElem_mem hlt);have hw:win (d.ins.map ZA) 0 i=(d.ins.take i).map ZA:=by simp [win,List.map_take]
 have hk2:i≤d.ins.length:=by omega
 have lt:(d.ins.take i).length≤1000:=by rw[List.length_take];omega
 generalize d.ins[i]=r at *;generalize d.ins.take i=pre at *;rw[fp]at hg cx;have bt:=fun h K=>zpv (h:=h) (K:=K) r.code (by omega)
 have sc:=fun h K=>z99 (h:=h) (K:=K) r.code (by omega)
 have t1:sE vO [.ref (h.length+1) 0] (XC r.reg) (d.regs.map DA) (h++[.box [AS d.name,AI d.long,AI d.id,.p (.sl (some 2) (d.regs.map DA)),.p (.sl (some 2) (d.ins.map ZA))],.box [AS r.code,AS r.reg]]):=fun x hx K=>by
  obtain⟨y,_,rfl⟩:=List.mem_map.1 hx;refine xA ?_;rw[zdC rfl];simp only[pR,go_sem,Nat.add_assoc,DA,XC]
 have cr:=fun K=>ZV (h:=h++[.box [AS d.name,AI d.long,AI d.id,.p (.sl (some 2) (d.regs.map DA)),.p (.sl (some 2) (d.ins.map ZA))],.box [AS r.code,AS r.reg]]) (K:=K) t1 sV (by simp;omega)
 have t2:sE xO [.ref (h.length+1) 0] (XC r.code) (pre.map ZA) (h++[.box [AS d.name,AI d.long,AI d.id,.p (.sl (some 2) (d.regs.map DA)),.p (.sl (some 2) (d.ins.map ZA))],.box [AS r.code,AS r.reg]]):=fun x hx K=>by
  obtain⟨y,_,rfl⟩:=List.mem_map.1 hx;refine xA ?_;rw[zdD rfl];simp only[qR,go_sem,Nat.add_assoc,ZA,XC]
 have ct:=fun K=>z3P (h:=h++[.box [AS d.name,AI d.long,AI d.id,.p (.sl (some 2) (d.regs.map DA)),.p (.sl (some 2) (d.ins.map ZA))],.box [AS r.code,AS r.reg]]) (K:=K) t2 z7U (by simp;omega)
 rw[z4x]at ct;rw[NX]at cr;have rs:=zoQ d r.reg
 unfold tB sB at rs;by_cases n1:(r.code.length:Int)=d.long
 case neg=>
  have e:QB d pre r=3:=by unfold QB;rw[if_pos n1]
  rw[e];simp only[UE,go_sem,Nat.add_assoc,iB,JA,hlt,hg,cx,fp,splice,↓cr,cr,n1]
 cases n2:zA r.code with
 | false=>
  have e:QB d pre r=9:=by unfold QB;rw[if_neg (by simp [n1]),if_pos n2]
  rw[e];rw[n2,if_neg (by simp)]at bt
  simp only[UE,go_sem,Nat.add_assoc,iB,JA,hlt,hg,cx,fp,splice,↓cr,cr,eq_true n1,↓bt,bt]
 | true=>
  rw[n2,if_pos rfl]at bt;cases n3:r.code.contains 48 with
  | false=>
   have e:QB d pre r=16:=by unfold QB;rw[if_neg (by simp [n1]),if_neg (by simp [n2]),if_pos n3]
   rw[e];rw[n3]at sc;simp only[UE,go_sem,Nat.add_assoc,iB,JA,hlt,hg,cx,fp,splice,↓cr,cr,eq_true n1,↓bt,bt,↓sc,sc]
  | true=>
   rw[n3]at sc;cases n4:(pre.any fun y=>decide (y.code=r.code)) with
   | true=>
    have e:QB d pre r=6:=by unfold QB;rw[if_neg (by simp [n1]),if_neg (by simp [n2]),if_neg (by rw[n3];simp),if_pos n4]
    rw[e];rw[n4]at ct;simp only[UE,go_sem,Nat.add_assoc,iB,JA,hlt,hg,cx,fp,splice,↓cr,cr,eq_true n1,↓bt,bt,↓sc,sc,hw,hk2,↓ct,ct]
   | false=>
    rw[n4]at ct;have eT:(kC d r.reg).isSome=true→QB d pre r=0:=fun q=>by unfold QB;rw[if_neg (by simp [n1]),if_neg (by simp [n2]),if_neg (by rw[n3];simp),if_neg (by rw[n4];simp),if_neg (by rw[q];simp)]
    have eF:¬(kC d r.reg).isSome=true→QB d pre r=8:=fun q=>by unfold QB;rw[if_neg (by simp [n1]),if_neg (by simp [n2]),if_neg (by rw[n3];simp),if_neg (by rw[n4];simp),if_pos (by cases z:(kC d r.reg).isSome with|true=>exact absurd z q|false=>rfl)]
    by_cases m1:r.reg=[98,121,112,97,115,115]
    ·rw[eT (rs.2 (.inl m1))]
     simp only[UE,go_sem,Nat.add_assoc,iB,JA,hlt,hg,cx,fp,splice,↓cr,cr,eq_true n1,↓bt,bt,↓sc,sc,hw,hk2,↓ct,ct,eq_true m1]
    by_cases m2:r.reg=[105,100,99,111,100,101]
    ·by_cases m3:d.id=0
     ·cases m4:(d.regs.any fun x=>decide (x.name=r.reg)) with
      | true=>
       rw[eT (rs.2 (.inr (.inr m4)))];rw[m4]at cr;simp only[UE,go_sem,Nat.add_assoc,iB,JA,hlt,hg,cx,fp,splice,↓cr,cr,eq_true n1,↓bt,bt,↓sc,sc,hw,hk2,↓ct,ct,m1,eq_true m2,eq_true m3]
      | false=>
       rw[eF (fun q=>by rcases rs.1 q with c|c|c;exact m1 c;exact c.2 m3;rw[m4]at c;cases c)]
       rw[m4]at cr;simp only[UE,go_sem,Nat.add_assoc,iB,JA,hlt,hg,cx,fp,splice,↓cr,cr,eq_true n1,↓bt,bt,↓sc,sc,hw,hk2,↓ct,ct,m1,eq_true m2,eq_true m3]
     ·rw[eT (rs.2 (.inr (.inl ⟨m2,m3⟩)))]
      simp only[UE,go_sem,Nat.add_assoc,iB,JA,hlt,hg,cx,fp,splice,↓cr,cr,eq_true n1,↓bt,bt,↓sc,sc,hw,hk2,↓ct,ct,m1,eq_true m2,eq_false m3]
    ·cases m4:(d.regs.any fun x=>decide (x.name=r.reg)) with
     | true=>
      rw[eT (rs.2 (.inr (.inr m4)))];rw[m4]at cr;simp only[UE,go_sem,Nat.add_assoc,iB,JA,hlt,hg,cx,fp,splice,↓cr,cr,eq_true n1,↓bt,bt,↓sc,sc,hw,hk2,↓ct,ct,m1,m2]
     | false=>
      rw[eF (fun q=>by rcases rs.1 q with c|c|c;exact m1 c;exact m2 c.1;rw[m4]at c;cases c)]
      rw[m4]at cr;simp only[UE,go_sem,Nat.add_assoc,iB,JA,hlt,hg,cx,fp,splice,↓cr,cr,eq_true n1,↓bt,bt,↓sc,sc,hw,hk2,↓ct,ct,m1,m2]
end Go.Am
end
section
/- What is wrong with devices,all: the reference. -/
open Go
set_option linter.all false
set_option maxRecDepth 100000
namespace Go.Am
variable {h:aA} {K:kA}
attribute [-go_sem] SA
attribute [-go_sem] IG HF VN UI VZ xN WZ yN
theorem pf_k4 (d:TDev)(B:DevB d){b:Nat}(hb:b=h.length){P:kA}(hP:P (AI (mE d [] d.ins)) h []){y:List (Nat × AV)}(y1:gA y 1 = .ref h.length 0) :
 NW (bA X) X.gl zP ⟨y,h++[.box (OB d)],[]⟩ (qA [.t 2] false b P):=by
 subst hb;have hl:=B.is
 have d4:ldB none 4 (some (.box (OB d)))=some (.p (.sl (some 2) (d.ins.map ZA))):=rfl
 have d5:ldB (some 5) 0 (some (.box (OB d)))=some (iB d):=rfl
 rw[WZ];simp only[yN,y1];simp only[go_sem,d4,List.length_map];obtain⟨T,hT⟩:∃T,T=mE d [] d.ins:=⟨_,rfl⟩;rw[←hT]at hP;refine jB (fun k:Nat=>⟨[(1,.ref h.length 0),(55,AI d.ins.length),(56,AI k)],h++[.box (OB d)],[]⟩) (fun k=>k≤d.ins.length∧mE d (d.ins.take k) (d.ins.drop k)=T) (fun k=>d.ins.length-k) 0 rfl ⟨by omega,hT.symm⟩ ?_
 rintro k ⟨hk,hp⟩
 rcases Nat.lt_or_ge k d.ins.length with hlt|hge
 ·have hlt':(k:Int)<(d.ins.length:Int):=by omega
  have w2:IntKind.i64.wrap ((k:Int)+1)=((k+1:Nat):Int):=GA _ (by omega) (by omega)
  have tk:=List.take_succ_eq_append_getElem hlt
  have nf:=fun h K=>zpK (h:=h) (K:=K) d B k hlt
  rw[List.drop_eq_getElem_cons hlt]at hp;unfold mE at hp;rw[←tk]at hp;generalize d.ins[k]=r at *;generalize d.ins.take k=pre at *;by_cases e:QB d pre r=0
  ·rw[e,if_neg (by decide)]at hp
   rw[e]at nf;simp only[VN,UI,go_sem,hlt',d5,↓nf,nf,w2];exact⟨k+1,rfl,⟨by omega,hp⟩,by omega⟩
  ·rw[if_pos e]at hp
   rw[hp]at nf e;simp only[VN,UI,go_sem,hlt',d5,↓nf,nf,e];exact hP
 ·have ek:k=d.ins.length:=by omega
  subst ek;rw[List.drop_length]at hp;have hp:T=0:=by rw[←hp];rfl
  rw[hp]at hP;simp only[VN,UI,go_sem,Nat.lt_irrefl,VZ,xN];exact hP
def FP (d:TDev):Int:=if(10:Int)<d.regs.length∨(100:Int)<d.ins.length then 2 else if LD [] d.regs≠0 then LD [] d.regs else mE d [] d.ins
set_option maxHeartbeats 4000000 in
theorem zpT (d:TDev)(B:DevB d):bA X yO [iB d] h K=K (AI (FP d)) h []:=by
 refine xA ?_;rw[zdE rfl];have hl:=B.rs
 unfold FP;by_cases g1:(10:Int)<d.regs.length
 ·rw[if_pos (.inl g1)]
  simp only[nK,go_sem,iB,JA,List.length_map,g1]
 by_cases g2:(100:Int)<d.ins.length
 ·rw[if_pos (.inr g2)]
  simp only[nK,go_sem,iB,JA,List.length_map,g1,g2]
 rw[if_neg (by omega)]
 obtain⟨T,hT⟩:∃T,T=LD [] d.regs:=⟨_,rfl⟩;rw[←hT];simp only[nK,go_sem,iB,JA,List.length_map,g1,g2];refine jB (fun k:Nat=>⟨[(1,.ref h.length 0),(18,.p (.sl (some 2) (d.regs.map DA))),(19,AI d.regs.length),(20,AI k)],h++[.box (OB d)],[]⟩) (fun k=>k≤d.regs.length∧LD (d.regs.take k) (d.regs.drop k)=T) (fun k=>d.regs.length-k) 0 rfl ⟨by omega,hT.symm⟩ ?_
 rintro k ⟨hk,hp⟩
 rcases Nat.lt_or_ge k d.regs.length with hlt|hge
 ·have hg:=iC DA hlt
  have w2:IntKind.i64.wrap ((k:Int)+1)=((k+1:Nat):Int):=GA _ (by omega) (by omega)
  have cx:nB (some 2) 0 (DA d.regs[k])=some (DA d.regs[k]):=rfl
  have fp:∀y:TReg,DA y = .agg [.str y.name,eI y.long]:=fun _=>rfl
  have nl:=B.rn _ (List.getElem_mem hlt)
  have tk:=List.take_succ_eq_append_getElem hlt
  have hw:win (d.regs.map DA) 0 k=(d.regs.take k).map DA:=by simp [win,List.map_take]
  have hk2:k≤d.regs.length:=hk
  have lt:(d.regs.take k).length≤1000:=by rw[List.length_take];omega
  have d3:ldB none 3 (some (.box (OB d)))=some (.p (.sl (some 2) (d.regs.map DA))):=rfl
  rw[List.drop_eq_getElem_cons hlt]at hp;unfold LD at hp;rw[←tk]at hp;generalize hrr:d.regs[k]=r at *;generalize d.regs.take k=pre at *;rw[fp]at hg cx;have ky:=fun h K=>z9q (h:=h) (K:=K) r.name (by omega)
  have tl:sE zO [.ref (h.length+1) 0] (XC r.name) (pre.map DA) (h++[.box (OB d),.box [AS r.name,AI r.long]]):=fun x hx K=>by
   obtain⟨y,_,rfl⟩:=List.mem_map.1 hx;refine xA ?_;rw[zdF rfl];simp only[rR,go_sem,Nat.add_assoc,DA,XC]
  have ct:=fun K=>ZV (h:=h++[.box (OB d),.box [AS r.name,AI r.long]]) (K:=K) tl sV (by simp;omega)
  rw[NX]at ct;have nz:∀n:Int,n≠0→T=n→¬T=0:=fun n h1 h2 h3=>h1 (h2 ▸ h3)
  cases kb:MC r.name with
  | false=>
   have e:UB pre r=5:=by unfold UB;rw[if_pos kb]
   rw[e,if_pos (by decide)]at hp
   rw[←hp,if_pos (by decide)]
   simp only[IG,HF,go_sem,Nat.add_assoc,hlt,hg,cx,fp,↓ky,ky,kb,splice]
  | true=>
   by_cases n1:r.name=[98,121,112,97,115,115]
   ·have e:UB pre r=6:=by unfold UB tB sB;rw[if_neg (by simp [kb]),if_pos (.inl n1)]
    rw[e,if_pos (by decide)]at hp
    rw[←hp,if_pos (by decide)]
    simp only[IG,HF,go_sem,Nat.add_assoc,hlt,hg,cx,fp,↓ky,ky,kb,splice,eq_true n1]
   by_cases n2:r.name=[105,100,99,111,100,101]
   ·have e:UB pre r=6:=by unfold UB tB sB;rw[if_neg (by simp [kb]),if_pos (.inr (.inl n2))]
    rw[e,if_pos (by decide)]at hp
    rw[←hp,if_pos (by decide)]
    simp only[IG,HF,go_sem,Nat.add_assoc,hlt,hg,cx,fp,↓ky,ky,kb,splice,n1,eq_true n2]
   cases ha:(pre.any fun x=>decide (x.name=r.name)) with
   | true=>
    have e:UB pre r=6:=by unfold UB tB sB;rw[if_neg (by simp [kb]),if_pos (.inr (.inr ha))]
    rw[e,if_pos (by decide)]at hp
    rw[←hp,if_pos (by decide)]
    rw[ha]at ct;simp only[IG,HF,go_sem,Nat.add_assoc,hlt,hg,cx,fp,↓ky,ky,kb,splice,n1,n2,d3,hw,hk2,↓ct,ct]
   | false=>
    have e0:¬(r.name=[98,121,112,97,115,115]∨r.name=[105,100,99,111,100,101]∨(pre.any fun x=>decide (x.name=r.name))=true):=by rw[ha];simp [n1,n2]
    rw[ha]at ct;by_cases o1:r.long<1∨1000<r.long
    ·have e:UB pre r=1:=by unfold UB tB sB;rw[if_neg (by simp [kb]),if_neg e0,if_pos o1]
     rw[e,if_pos (by decide)]at hp
     rw[←hp,if_pos (by decide)]
     have o2:(decide ((1:Int)≤r.long)&&decide (r.long≤1000))=false:=by rw[Bool.eq_false_iff];intro c;simp at c;omega
     simp only[IG,HF,go_sem,Nat.add_assoc,hlt,hg,cx,fp,↓ky,ky,kb,splice,n1,n2,d3,hw,hk2,↓ct,ct,gF,o2]
    ·have e:UB pre r=0:=by unfold UB tB sB;rw[if_neg (by simp [kb]),if_neg e0,if_neg o1]
     rw[e,if_neg (by decide)]at hp
     have o2:(decide ((1:Int)≤r.long)&&decide (r.long≤1000))=true:=by simp;omega
     simp only[IG,HF,go_sem,Nat.add_assoc,hlt,hg,cx,fp,↓ky,ky,kb,splice,n1,n2,d3,hw,hk2,↓ct,ct,gF,o2,w2];exact⟨k+1,rfl,⟨by omega,hp⟩,by omega⟩
 ·have ek:k=d.regs.length:=by omega
  subst ek;rw[List.drop_length]at hp;have hp:T=0:=by rw[←hp];rfl
  rw[hp,if_neg (by simp)]
  simp only[IG,HF,go_sem,Nat.lt_irrefl];exact pf_k4 d B rfl ⟨rfl,rfl,rfl⟩ rfl
theorem zfs (pre:List TDev)(d:TDev):JF pre d=if MC d.name=false then 5 else if(pre.any fun x=>decide (x.name=d.name))=true then 6 else if(d.long<2∨32<d.long)∨(d.id<0∨4294967295<d.id) then 1
 else if d.id≠0∧d.id.tmod 2=0 then 3 else FP d:=rfl
end Go.Am
end
section
/- What is wrong with devices,all: the reference. -/
open Go
set_option linter.all false
set_option maxRecDepth 100000
namespace Go.Am
variable {h:aA} {K:kA}
attribute [-go_sem] SA
set_option maxHeartbeats 4000000 in
theorem zp3 (ds:List TDev)(hB:∀ d∈ds,DevB d)(hl:ds.length≤1000):bA X pO [jD ds] h K=K (AI (rF ds)) h []:=by
 refine xA ?_;rw[zd4 rfl];unfold rF;by_cases z:ds.length=0
 ·have z':(ds.length:Int)=0:=by omega
  rw[if_pos z];simp only[mK,go_sem,List.length_map,eq_true z']
 have z':¬(ds.length:Int)=0:=by omega
 rw[if_neg z];by_cases g:20<ds.length
 ·have g':(20:Int)<ds.length:=by omega
  rw[if_pos g];simp only[mK,go_sem,List.length_map,z',g']
 have g':¬(20:Int)<ds.length:=by omega
 rw[if_neg g];obtain⟨T,hT⟩:∃T,T=sF [] ds:=⟨_,rfl⟩;rw[←hT];simp only[mK,go_sem,List.length_map,z',g'];refine jB (fun k:Nat=>⟨[(0,jD ds),(14,jD ds),(15,AI ds.length),(16,AI k)],h,[]⟩) (fun k=>k≤ds.length∧sF (ds.take k) (ds.drop k)=T) (fun k=>ds.length-k) 0 rfl ⟨by omega,hT.symm⟩ ?_
 rintro k ⟨hk,hp⟩
 rcases Nat.lt_or_ge k ds.length with hlt|hge
 ·have hg:=iC JA hlt
  have w2:IntKind.i64.wrap ((k:Int)+1)=((k+1:Nat):Int):=GA _ (by omega) (by omega)
  have cx:nB (some 5) 0 (JA ds[k])=some (JA ds[k]):=rfl
  have fp:∀y:TDev,JA y = .agg [.str y.name,eI y.long,eI y.id,.sl (some 2) (y.regs.map DA),.sl (some 2) (y.ins.map ZA)]:=fun _=>rfl
  have tk:=List.take_succ_eq_append_getElem hlt
  have hw:win (ds.map JA) 0 k=(ds.take k).map JA:=by simp [win,List.map_take]
  have lt:(ds.take k).length≤1000:=by rw[List.length_take];omega
  have B:=hB _ (List.getElem_mem hlt)
  rw[List.drop_eq_getElem_cons hlt]at hp;unfold sF at hp;rw[←tk]at hp;generalize hrr:ds[k]=d at *;generalize ds.take k=pre at *;have ky:=fun h K=>z9q (h:=h) (K:=K) d.name (by have:=B.n;omega)
  have tl:sE qO [.ref h.length 0] (XC d.name) (pre.map JA) (h++[.box [AS d.name,AI d.long,AI d.id,.p (.sl (some 2) (d.regs.map DA)),.p (.sl (some 2) (d.ins.map ZA))]]):=fun x hx K=>by
   obtain⟨y,_,rfl⟩:=List.mem_map.1 hx;refine xA ?_;rw[zd5 rfl];simp only[kR,go_sem,Nat.add_assoc,JA,XC]
  have ct:=fun K=>z3O (h:=h++[.box [AS d.name,AI d.long,AI d.id,.p (.sl (some 2) (d.regs.map DA)),.p (.sl (some 2) (d.ins.map ZA))]]) (K:=K) tl z5v (by simp;omega)
  rw[z4w]at ct;have pf:=fun h K=>zpT (h:=h) (K:=K) d B
  have fa:iB d = .p (.agg [.str d.name,eI d.long,eI d.id,.sl (some 2) (d.regs.map DA),.sl (some 2) (d.ins.map ZA)]):=rfl
  rw[fa]at pf;rw[fp]at hg cx;have dv:=zfs pre d
  generalize hV:JF pre d=V at *;cases kb:MC d.name with
  | false=>
   rw[if_pos kb]at dv;rw[dv,if_pos (by decide)]at hp
   rw[←hp];simp only[MF,TE,go_sem,hlt,hk,hg,cx,fp,hw,splice,↓ky,ky,kb]
  | true=>
   have kf:¬MC d.name=false:=by simp [kb]
   rw[if_neg kf]at dv;cases ha:(pre.any fun x=>decide (x.name=d.name)) with
   | true=>
    rw[if_pos ha]at dv;rw[dv,if_pos (by decide)]at hp
    rw[←hp];rw[ha]at ct;simp only[MF,TE,go_sem,hlt,hk,hg,cx,fp,hw,splice,↓ky,ky,kb,↓ct,ct]
   | false=>
    have hf:¬(pre.any fun x=>decide (x.name=d.name))=true:=by rw[ha];simp
    rw[if_neg hf]at dv;rw[ha]at ct;by_cases o1:d.long<2∨32<d.long
    ·rw[if_pos (.inl o1)]at dv
     rw[dv,if_pos (by decide)]at hp
     rw[←hp];have o2:(decide ((2:Int)≤d.long)&&decide (d.long≤32))=false:=by rw[Bool.eq_false_iff];intro c;simp at c;omega
     simp only[MF,TE,go_sem,hlt,hk,hg,cx,fp,hw,splice,↓ky,ky,kb,↓ct,ct,gF,o2]
    have o2:(decide ((2:Int)≤d.long)&&decide (d.long≤32))=true:=by simp;omega
    by_cases p1:d.id<0∨4294967295<d.id
    ·rw[if_pos (.inr p1)]at dv
     rw[dv,if_pos (by decide)]at hp
     rw[←hp];have p2:(decide ((0:Int)≤d.id)&&decide (d.id≤4294967295))=false:=by rw[Bool.eq_false_iff];intro c;simp at c;omega
     simp only[MF,TE,go_sem,hlt,hk,hg,cx,fp,hw,splice,↓ky,ky,kb,↓ct,ct,gF,o2,p2]
    have p2:(decide ((0:Int)≤d.id)&&decide (d.id≤4294967295))=true:=by simp;omega
    have nof:¬((d.long<2∨32<d.long)∨(d.id<0∨4294967295<d.id)):=by omega
    rw[if_neg nof]at dv;have t2:¬(2:Int)=0:=by decide
    by_cases q1:d.id≠0∧d.id.tmod 2=0
    ·rw[if_pos q1]at dv
     rw[dv,if_pos (by decide)]at hp
     rw[←hp];obtain⟨q2,q3⟩:=q1;simp only[MF,TE,go_sem,hlt,hk,hg,cx,fp,hw,splice,↓ky,ky,kb,↓ct,ct,gF,o2,p2,q2,t2,eq_true q3]
    rw[if_neg q1]at dv;rw[dv]at hp;have fin:∀(z2:d.id=0∨¬d.id=0),True:=fun _=>trivial
    by_cases z2:d.id=0
    ·by_cases e:FP d=0
     ·rw[e,if_neg (by decide)]at hp
      rw[e]at pf;simp only[MF,TE,go_sem,hlt,hk,hg,cx,fp,hw,splice,↓ky,ky,kb,↓ct,ct,gF,o2,p2,eq_true z2,↓pf,pf,w2];exact⟨k+1,rfl,⟨by omega,hp⟩,by omega⟩
     ·rw[if_pos e]at hp
      rw[hp]at pf e;simp only[MF,TE,go_sem,hlt,hk,hg,cx,fp,hw,splice,↓ky,ky,kb,↓ct,ct,gF,o2,p2,eq_true z2,↓pf,pf,e]
    ·have q3:¬d.id.tmod 2=0:=fun e=>q1 ⟨z2,e⟩
     by_cases e:FP d=0
     ·rw[e,if_neg (by decide)]at hp
      rw[e]at pf;simp only[MF,TE,go_sem,hlt,hk,hg,cx,fp,hw,splice,↓ky,ky,kb,↓ct,ct,gF,o2,p2,z2,t2,q3,↓pf,pf,w2];exact⟨k+1,rfl,⟨by omega,hp⟩,by omega⟩
     ·rw[if_pos e]at hp
      rw[hp]at pf e;simp only[MF,TE,go_sem,hlt,hk,hg,cx,fp,hw,splice,↓ky,ky,kb,↓ct,ct,gF,o2,p2,z2,t2,q3,↓pf,pf,e]
 ·have ek:k=ds.length:=by omega
  subst ek;rw[List.drop_length]at hp;rw[←hp];simp only[MF,TE,go_sem,Nat.lt_irrefl,z5C,jR,sF]
end Go.Am
end
section
/- The signals of a program: asv long asv there are clocks;what is expected in them. -/
open Go
set_option linter.all false
namespace Go.Am
theorem z5j:∀ (m:List UInt8) (n:Nat),m.length≤n→(List.range n).countP (fun i=>m[i]?==some 49)=m.count 49
 | [],n,_=>by simp [List.countP_eq_zero]
 | x::r,0,h=>by simp at h
 | x::r,n+1,h=>by
  rw[List.range_succ_eq_map,List.countP_cons,List.countP_map,List.count_cons];have ih:=z5j r n (by simpa using h)
  have e:((fun i=>(x::r)[i]?==some 49) ∘ Nat.succ)=fun i=>r[i]?==some 49:=by funext i;simp
  rw[e,ih];simp
theorem ziL {c:Cmd}(hb:c.m.length≤c.b.length)(hw:c.m≠[]→c.w.length=c.b.length)(hwb:zA c.w=true):(fC c).count 120+c.m.count 49=c.b.length:=by
 rw[←z5j c.m c.b.length hb,fC,List.count_eq_countP,List.countP_map];have e:(List.range c.b.length).countP ((fun x=>x==(120:UInt8)) ∘ VC c)=(List.range c.b.length).countP (fun i=>¬(c.m[i]?==some 49)=true):=by
  apply List.countP_congr
  intro i hi;have hi':i<c.b.length:=List.mem_range.1 hi
  simp only[Function.comp,VC,beq_iff_eq,decide_eq_true_eq];by_cases h:c.m[i]?=some 49
  ·rw[if_pos h]
   have hm:c.m≠[]:=by intro e;rw[e]at h;simp at h
   have hlt:i<c.w.length:=by rw[hw hm];exact hi'
   rw[List.getElem?_eq_getElem hlt];have:=OX hwb (List.getElem_mem hlt);simp only[Option.getD_some,h,not_true,iff_false];rcases this with e|e <;> rw[e] <;> decide
  ·rw[if_neg h];simp [h]
 have key:=List.length_eq_countP_add_countP (l:=List.range c.b.length) (fun i=>c.m[i]?==some 49)
 rw[List.length_range]at key;rw[e];omega
theorem z2B {l:List Cmd}(hc:∀ c∈l,FA c=0){k:Nat}(hk:k<l.length) :
 (nA eA (l.take k) l[k] (JB [] 0 (l.take k))).tdi.length=(nA eA (l.take k) l[k] (JB [] 0 (l.take k))).tms.length∧(nA eA (l.take k) l[k] (JB [] 0 (l.take k))).want.length=(nA eA (l.take k) l[k] (JB [] 0 (l.take k))).tms.length ∧
 (nA eA (l.take k) l[k] (JB [] 0 (l.take k))).want.length=(nA eA (l.take k) l[k] (JB [] 0 (l.take k))).want.count 120+l[k].m.count 49:=by
 have h0:=hc _ (List.getElem_mem hk)
 have hz:∀n,(zs n).length=n:=fun n=>by simp [zs]
 have hx:∀n,(xsL n).length=n:=fun n=>by simp [xsL]
 have hxc:∀n,(xsL n).count 120=n:=fun n=>by simp [xsL]
 generalize JB [] 0 (l.take k)=state;generalize l.take k=pre;generalize l[k]=c at h0 ⊢;cases SD h0 with
 | set h hs e=>rw[bF eA (by omega),e];exact⟨rfl,rfl,rfl⟩
 | pad h0 h1 hb hl e=>rw[bF eA h1,e];exact⟨rfl,rfl,rfl⟩
 | go h hs e=>
  have em:c.m=[]:=by rw[e]
  rw[XH eA h,em];simp [hz,hx,hxc]
 | idle h h0 h1 e=>
  have em:c.m=[]:=by rw[e]
  rw[YH eA h,em];simp [hz,hx,hxc]
 | scan h hs e=>
  obtain⟨q1,q2,q3,q4,q5,q6⟩:=IE hs;have hpos:=List.length_pos_iff.2 q1
  have hml:c.m.length≤c.b.length:=by rcases q6 with⟨_,e⟩|⟨_,e⟩ <;> simp [e]
  have hec:=ziL hml (fun hm=>by rcases q6 with⟨_,e⟩|⟨e,_⟩;exact absurd e hm;exact e) q4
  have hel:(fC c).length=c.b.length:=by simp [fC]
  have key:∀(sh ex:Nat) (hd tl:List UInt8) (en:Nat),nA eA pre c state=IB (mB eA c state sh ex hd tl en) →
   (nA eA pre c state).tdi.length=(nA eA pre c state).tms.length∧(nA eA pre c state).want.length=(nA eA pre c state).tms.length∧(nA eA pre c state).want.length=(nA eA pre c state).want.count 120+c.m.count 49:=by
   intro sh ex hd tl en ep;rw[ep,EJ eA c state sh ex hd tl en q1];simp only[List.length_append,List.count_append,hz,hx,hxc,hel,List.length_singleton];omega
  rcases h with h|h
  ·exact key 11 12 _ _ _ (by unfold nA;rw[if_neg (by omega),if_neg (by omega),if_pos h])
  ·exact key 4 5 _ _ _ (by unfold nA;rw[if_neg (by omega),if_neg (by omega),if_neg (by omega),if_pos h])
def maskN (l:List Cmd):Nat:=(l.map fun c=>c.m.count 49).sum
theorem z9S:∀ ps:List Part,(∀ p∈ps,p.tdi.length=p.tms.length∧p.want.length=p.tms.length)→(xB ps).length=(sA ps).length∧(IC ps).length=(sA ps).length
 | [],_=>⟨rfl,rfl⟩
 | p::ps,h=>by
  obtain⟨a,b⟩:=z9S ps (fun q hq=>h q (List.mem_cons_of_mem _ hq))
  obtain⟨c,d⟩:=h p (List.mem_cons_self ..);simp only[xB,sA,IC,List.flatMap_cons,List.length_append]at a b ⊢;omega
theorem z9Q:∀ (ps:List Part),(IC ps).length=(IC ps).count 120+(ps.map fun p=>p.want.length-p.want.count 120).sum
 | []=>rfl
 | p::ps=>by
  have a:=z9Q ps
  have b:p.want.count 120≤p.want.length:=List.count_le_length
  simp only[IC,List.flatMap_cons,List.length_append,List.count_append,List.map_cons,List.sum_cons]at a ⊢;omega
theorem zo2 {l:List Cmd}(hc:∀ c∈l,FA c=0){p:Part}(hp:p∈oA eA [] 0 l):∃k,∃hk:k<l.length,p=nA eA (l.take k) l[k] (JB [] 0 (l.take k)):=by
 obtain⟨k,hk⟩:=List.mem_iff_getElem?.1 hp;have hlt:k<l.length:=by
  have:=(List.getElem?_eq_some_iff.1 hk).1;rwa [ZH]at this
 rw[FJ hlt]at hk;exact⟨k,hlt,(Option.some.inj hk).symm⟩
theorem z3v {l:List Cmd}(hc:∀ c∈l,FA c=0) :
 (xB (oA eA [] 0 l)).length=(sA (oA eA [] 0 l)).length∧(IC (oA eA [] 0 l)).length=(sA (oA eA [] 0 l)).length ∧
 (sA (oA eA [] 0 l)).length=(IC (oA eA [] 0 l)).count 120+maskN l:=by
 obtain⟨a,b⟩:=z9S (oA eA [] 0 l) (fun p hp=>by
  obtain⟨k,hk,rfl⟩:=zo2 hc hp;exact⟨(z2B hc hk).1,(z2B hc hk).2.1⟩)
 have c:=z9Q (oA eA [] 0 l)
 have e:(oA eA [] 0 l).map (fun p=>p.want.length-p.want.count 120)=l.map fun c=>c.m.count 49:=by
  apply List.ext_getElem?
  intro k;rw[List.getElem?_map,List.getElem?_map];rcases Nat.lt_or_ge k l.length with hk|hk
  ·rw[FJ hk,List.getElem?_eq_getElem hk]
   have:=(z2B hc hk).2.2;simp only[Option.map_some];congr 1
   omega
  ·rw[List.getElem?_eq_none (by rw[ZH];exact hk),List.getElem?_eq_none hk];rfl
 rw[e]at c;exact⟨a,b,by rw[←b];exact c⟩
end Go.Am
end
section
/- What comes out of a program's scans: the program. -/
open Go
set_option linter.all false
set_option maxRecDepth 100000
namespace Go.Am
variable {h:aA} {K:kA}
attribute [-go_sem] SA splice
theorem zo1 {l:List Cmd}(hc:∀ c∈l,FA c=0){k:Nat}(hk:k<l.length):zA (nA eA (l.take k) l[k] (JB [] 0 (l.take k))).tdi=true:=by
 obtain⟨S,T⟩:=pM hc k (by omega)
 have h0:=hc _ (List.getElem_mem hk)
 have bz:∀n,zA (zs n)=true:=fun n=>by simp [zA,zs,pJ]
 have ba:∀a b,zA a=true→zA b=true→zA (a++b)=true:=fun a b h1 h2=>by unfold zA at *;rw[List.all_append,h1,h2];rfl
 generalize JB [] 0 (l.take k)=state at T ⊢;generalize l.take k=pre at S ⊢;generalize l[k]=c at h0 ⊢;cases SD h0 with
 | set h hs e=>rw[bF eA (by omega)];rfl
 | pad h0 h1 hb hl e=>rw[bF eA h1];rfl
 | go h hs e=>
  rw[XH eA h];exact bz _
 | idle h h0 h1 e=>
  rw[YH eA h];exact ba _ _ (bz _) (bz _)
 | scan h hs e=>
  obtain⟨q1,q2,q3,q4,q5,q6⟩:=IE hs;rcases h with h|h
  ·have ep:nA eA pre c state=IB (mB eA c state 11 12 (mA pre 3).b (mA pre 4).b (mA pre 1).s.toNat):=by
    unfold nA;rw[if_neg (by omega),if_neg (by omega),if_pos h]
   rw[ep];show zA ((zs _++((mA pre 3).b++c.b++(mA pre 4).b))++zs _)=true
   exact ba _ _ (ba _ _ (bz _) (ba _ _ (ba _ _ (S.b1 3 (by omega) (by omega)).1 q2) (S.b1 4 (by omega) (by omega)).1)) (bz _)
  ·have ep:nA eA pre c state=IB (mB eA c state 4 5 (mA pre 5).b (mA pre 6).b (mA pre 2).s.toNat):=by
    unfold nA;rw[if_neg (by omega),if_neg (by omega),if_neg (by omega),if_pos h]
   rw[ep];show zA ((zs _++((mA pre 5).b++c.b++(mA pre 6).b))++zs _)=true
   exact ba _ _ (ba _ _ (bz _) (ba _ _ (ba _ _ (S.b1 5 (by omega) (by omega)).1 q2) (S.b1 6 (by omega) (by omega)).1)) (bz _)
theorem z4D {l:List Cmd}(hc:∀ c∈l,FA c=0):zA (xB (oA eA [] 0 l))=true:=by
 unfold zA xB;rw[List.all_flatMap];rw[List.all_eq_true];intro p hp;obtain⟨k,hk⟩:=List.mem_iff_getElem?.1 hp;have hlt:k<l.length:=by
  have:=(List.getElem?_eq_some_iff.1 hk).1;rwa [ZH]at this
 rw[FJ hlt]at hk;cases hk;exact zo1 hc hlt
def cC (ds:List TDev)(l:List Cmd):List UInt8:=YD ds 0 (wF ds) ((sA (oA eA [] 0 l)).zip (xB (oA eA [] 0 l)))
def FB (ds:List TDev)(l:List Cmd):List (List UInt8):=PC eA [] 0 l 0 (cC ds l)
abbrev tI (us:List (List UInt8)):AV:=.p (.sl none (us.map PV.str))
structure ChOk (ds:List TDev):Prop where
 d:∀d∈ds,DevOk d
 n:(ds.map TDev.name).Nodup
 e:ds≠[]
 l:ds.length≤20
theorem chOk {ds:List TDev}(h:rF ds=0):ChOk ds:=by
 obtain⟨a,b,c,d⟩:=zft h;exact⟨a,b,c,d⟩
theorem bQ {ds:List TDev}{l:List Cmd}(hc:∀ c∈l,FA c=0):(cC ds l).length=(sA (oA eA [] 0 l)).length:=by
 unfold cC;rw[z2W,List.length_zip,(z3v hc).1,Nat.min_self]
attribute [local go_sem] iI FM JJ KJ LJ GM z2R z2S z2T IJ uM fI vM wM xM yM zM AM BM z8Q z8R z8S z8T
set_option maxHeartbeats 4000000 in
theorem z3i (ds:List TDev)(hB:∀ d∈ds,DevB d)(hz:rF ds=0)(l:List Cmd)(hp:DB eA l=0) :
 bA X kJ [jD ds,ACs l] h K=K (tI (FB ds l)) h []:=by
 refine xA ?_;rw[ze8 rfl];obtain⟨hc,hn,hl⟩:=sM hp;have O:=chOk hz
 have cd:=fun h K=>z9l (h:=h) (K:=K) ds hB (by have:=O.l;omega)
 rw[hz]at cd;have sg:=fun h K=>z96 (h:=h) (K:=K) l hc hl
 obtain⟨a1,a2,a3,a4,a5⟩:=z2H GP (QI hc) true hn;obtain⟨b1,b2,b3⟩:=a5 rfl;have fr:=z8A eA l (rel0 true) (QI hc) (by simpa using hn)
 have fr:((lC true).play eA l).frs=PF eA [] 0 l 0:=fr
 obtain⟨f1,f2,_⟩:=z3v hc;have TR:=fun h K=>zpB (h:=h) (K:=K) ds O.d O.e O.l cd (sA (oA eA [] 0 l)) (xB (oA eA [] 0 l)) f1.symm hn (zdc hc) (z4D hc)
 have tl:=bQ (ds:=ds) hc
 have hR:YD ds 0 (wF ds) ((sA (oA eA [] 0 l)).zip (xB (oA eA [] 0 l)))=cC ds l:=rfl
 rw[hR]at TR;have ql:=fun k hk hs=>z07 eA (R:=cC ds l) l (pre:=[]) (state:=0) (at_:=0) (by omega) k hk hs
 have qn:=fun k hk hs=>z2O eA (R:=cC ds l) l (pre:=[]) (state:=0) (at_:=0) k hk hs
 have rl:(FB ds l).length=l.length:=EM eA l [] 0 0 (cC ds l)
 have hRV:PC eA [] 0 l 0 (cC ds l)=FB ds l:=rfl
 rw[hRV]at ql qn;have fl:(PF eA [] 0 l 0).length=l.length:=z7m eA l [] 0 0
 generalize FB ds l=RV at *;generalize cC ds l=R at *;generalize PF eA [] 0 l 0=FR at *;generalize (lC true).play eA l=r at *;have cT:iF (vA r.tms)=some r.tms:=VJ _
 have cI:iF (vA r.tdi)=some r.tdi:=VJ _
 have wT:win (vA r.tms) 0 r.tms.length=vA r.tms:=YF (CF _)
 have wI:win (vA r.tdi) 0 r.tdi.length=vA r.tdi:=YF (CF _)
 rw[←b1,←b2]at TR;have lT:=CF r.tms
 have lI:=CF r.tdi
 have hHl:(hbx h).length=h.length+1:=by simp [hbx]
 have hT0:∀t:aA,(rh (hbx h) r t).take h.length=h:=fun t=>by
  unfold rh hbx;rw[List.append_assoc,cK]
 generalize hHH:hbx h=H at *;simp only[oS,go_sem,↓sg,sg,lT,lI,wT,wI,cT,cI,↓TR,TR];rw[hHH];refine jB (fun k:Nat=>⟨[(5,.ref (H.length+5) 0),(6,AS R),(8,.own (H.length+6) k 0 k),(29,ACs l),(30,AI l.length),(31,AI k)],rh H r [.row none ((RV.take k).map .str) 0],[]⟩) (fun k=>k≤l.length) (fun k=>l.length-k) 0 rfl (by omega) ?_
 intro k hk;rw[kH];have lml:((RV.take k).map PV.str).length=k:=by rw[List.length_map,List.length_take];omega
 have ms:k+1≤NA:=by unfold NA;omega
 rcases Nat.lt_or_ge k l.length with hlt|hge
 ·have hlt':(k:Int)<(l.length:Int):=by omega
  have hg:=iC dB hlt
  have w2:IntKind.i64.wrap ((k:Int)+1)=((k+1:Nat):Int):=GA _ (by omega) (by omega)
  have ql:=ql k hlt
  have qn:=qn k hlt
  have eT:∀s,RV[k]?=some s→(RV.take (k+1)).map PV.str=(RV.take k).map PV.str++[.str s]:=fun s hs=>by
   rw[List.take_add_one,hs,List.map_append];rfl
  generalize l[k]=c at *;cases hs:zB c with
  | true=>
   obtain⟨f,x1,x2,x3⟩:=ql hs;have is:(decide (c.k=7)||decide (c.k=8))=true:=by rcases WC.1 hs with e|e <;> simp [e]
   have gf:(r.frs.map eN)[k]?=some (eN f):=by rw[List.getElem?_map,fr,x1];rfl
   have ff:eN f = .int .i64 (f:Int):=rfl
   rw[ff]at gf;have flr:r.frs.length=l.length:=by rw[fr,fl]
   have lfm:(r.frs.map eN).length=l.length:=by rw[List.length_map,flr]
   have hlk:k<r.frs.length:=by omega
   have w3:IntKind.i64.wrap ((f:Int)+(c.b.length:Int))=((f+c.b.length:Nat):Int):=by rw[GA _ (by omega) (by omega)];omega
   have y1:f≤f+c.b.length:=by omega
   have y2:f+c.b.length-f=c.b.length:=by omega
   have e1:=eT _ x3
   obtain⟨k0,s0,cl0,b0,w0,m0⟩:=c;dsimp only at is w3 x2 y1 y2 hs e1;simp only[FS,zK,z0g,QN,z0h,RN,go_sem,splice,hlt',hg,yF,is,flr,lfm,hlk,gf,hlt,w3,x2,y1,y2,lml,ms,w2];exact⟨k+1,by rw[e1],by omega,by omega⟩
  | false=>
   have is:(decide (c.k=7)||decide (c.k=8))=false:=by
    cases q:(decide (c.k=7)||decide (c.k=8)) with
    | false=>rfl
    | true=>
     have:c.k=7∨c.k=8:=by simpa using q
     rw[WC.2 this]at hs;cases hs
   have e1:=eT _ (qn hs)
   obtain⟨k0,s0,cl0,b0,w0,m0⟩:=c;dsimp only at is hs e1;simp only[FS,zK,z0g,QN,z0h,RN,go_sem,splice,hlt',hg,yF,is,lml,ms,w2];exact⟨k+1,by rw[e1],by omega,by omega⟩
 ·have ek:k=l.length:=by omega
  subst ek;have e1:RV.take l.length=RV:=List.take_of_length_le (by omega)
  rw[e1]at lml ⊢;have wf:win (RV.map PV.str) 0 l.length=RV.map PV.str:=YF lml
  have hH6:h.length≤H.length+6:=by omega
  simp only[FS,zK,z5K,pS,go_sem,Nat.lt_irrefl,lml,wf,hT0,hH6]
end Go.Am
end
section
/- Programs run: the program: Run. -/
open Go
set_option linter.all false
set_option maxRecDepth 100000
namespace Go.Am
variable {h:aA} {K:kA}
attribute [-go_sem] SA splice
def fD (ds:List TDev)(l:List Cmd):Int:=orL [rF ds,(DB eA l:Nat)]
theorem z3j (ds:List TDev)(hB:∀ d∈ds,DevB d)(h3:ds.length≤1000)(l:List Cmd)(hok:∀ c∈l,CmdOk c)(hl:l.length≤1000000):bA X lJ [jD ds,ACs l] h K=K (AI (fD ds l)) h []:=by
 refine xA ?_;rw[ze9 rfl];have q1:=fun h K=>z9l (h:=h) (K:=K) ds hB h3
 have q2:=fun h K=>z9k (h:=h) (K:=K) l hok hl
 have q3:=fun h K=>z9m (h:=h) (K:=K) [rF ds,(DB eA l:Nat)] (by simp)
 simp only[AL,List.map_cons,List.map_nil]at q3;unfold fD;simp only[qS,go_sem,↓q1,q1,↓q2,q2,↓q3,q3]
theorem yV {ds:List TDev}{l:List Cmd}(h:fD ds l=0):rF ds=0∧DB eA l=0:=by
 unfold fD at h;rw[orL2]at h;split at h
 ·rename_i q;exact absurd h q
 ·rename_i q;exact⟨by omega,by omega⟩
theorem zpC (ds:List TDev)(hB:∀ d∈ds,DevB d)(h3:ds.length≤1000)(l:List Cmd)(hok:∀ c∈l,CmdOk c)(hl:l.length≤1000000) :
 bA X cP [jD ds,ACs l] h K=K (.tup [tI (if fD ds l=0 then FB ds l else []),AI (fD ds l)]) h []:=by
 refine xA ?_;rw[ze3 rfl];have q1:=fun h K=>z3j (h:=h) (K:=K) ds hB h3 l hok hl
 by_cases e:fD ds l=0
 ·obtain⟨e1,e2⟩:=yV e
  have q2:=fun h K=>z3i (h:=h) (K:=K) ds hB e1 l e2
  rw[if_pos e];rw[e]at q1 ⊢;simp only[NN,go_sem,↓q1,q1,↓q2,q2]
 ·rw[if_neg e]
  simp only[NN,go_sem,↓q1,q1,e,List.map_nil];rfl
def pG (c:Cmd)(s:List UInt8):Nat:=(List.range c.m.length).countP fun k=>decide (c.m[k]?=some 49)&&decide (s[k]?≠c.w[k]?)
def oC (l:List Cmd)(rs:List (List UInt8))(k:Nat):List (Nat×Nat):=(List.range k).filterMap fun i=>if 0<pG (l.getD i XG) (rs.getD i []) then some (i,pG (l.getD i XG) (rs.getD i [])) else none
theorem z6Y (l:List Cmd)(rs:List (List UInt8))(k:Nat):oC l rs (k+1)=oC l rs k++if 0<pG (l.getD k XG) (rs.getD k []) then [(k,pG (l.getD k XG) (rs.getD k []))] else []:=by
 unfold oC;rw[List.range_succ,List.filterMap_append];congr 1
 split <;> rename_i h
 ·simp only[List.filterMap_cons,List.filterMap_nil,if_pos h]
 ·simp only[List.filterMap_cons,List.filterMap_nil,if_neg h]
theorem z6X (l:List Cmd)(rs:List (List UInt8)):∀k,(oC l rs k).length≤k
 | 0=>by simp [oC]
 | k+1=>by
  rw[z6Y,List.length_append];have:=z6X l rs k;split <;> simp <;> omega
theorem z2N {R:List UInt8}(l:List Cmd)(hR:(sA (oA eA [] 0 l)).length≤R.length)(k:Nat)(hk:k<l.length):∃s,(PC eA [] 0 l 0 R)[k]?=some s∧s.length=if zB l[k]=true then l[k].b.length else 0:=by
 cases hs:zB l[k]with
 | true=>
  obtain⟨f,x1,x2,x3⟩:=z07 eA (R:=R) l (pre:=[]) (state:=0) (at_:=0) (by omega) k hk hs
  exact⟨_,x3,by rw[if_pos rfl];simp [win];omega⟩
 | false=>exact⟨[],z2O eA (R:=R) l (pre:=[]) (state:=0) (at_:=0) k hk hs,by simp⟩
theorem z0K {c:Cmd}(hc:FA c=0):(zB c=true∧c.b.length≤2000∧zA c.w=true∧(c.m=[]∨(c.m.length=c.b.length∧c.w.length=c.b.length)))∨(zB c=false∧c.m=[]):=by
 cases SD hc with
 | set h hs e=>exact .inr ⟨by cases q:zB c with|true=>have:=WC.1 q;omega|false=>rfl,by rw[e]⟩
 | pad h0 h1 hb hl e=>exact .inr ⟨by cases q:zB c with|true=>have:=WC.1 q;omega|false=>rfl,by rw[e]⟩
 | go h hs e=>exact .inr ⟨by cases q:zB c with|true=>have:=WC.1 q;omega|false=>rfl,by rw[e]⟩
 | idle h h0 h1 e=>exact .inr ⟨by cases q:zB c with|true=>have:=WC.1 q;omega|false=>rfl,by rw[e]⟩
 | scan h hs e=>
  obtain⟨q1,q2,q3,q4,q5,q6⟩:=IE hs;refine .inl ⟨WC.2 h,q3,q4,?_⟩;rcases q6 with⟨_,q⟩|⟨q,r⟩
  ·exact .inl q
  ·exact .inr ⟨r,q⟩
end Go.Am
end
section
/- Programs run: the reference: RanOf. -/
open Go
set_option linter.all false
set_option maxRecDepth 100000
namespace Go.Am
variable {h:aA} {K:kA}
attribute [-go_sem] SA splice
theorem zpx (l:List Cmd)(hl:l.length≤1000000):bA X EO [.p (.sl (some 6) (l.map dB))] h K=K (.own h.length l.length 0 l.length) (h++[.row (some 6) (l.map dB) 0]) []:=by
 refine xA ?_;rw[zdQ rfl];simp only[zR];cases l with
 | nil=>
  refine⟨_,_,_,⟨rfl,rfl,rfl⟩,?_⟩;simp only[List.map_nil,List.length_nil,go_sem];have:max h.length (h.length+1)=h.length+1:=by omega
  rw[this,List.take_of_length_le (by simp)]
  try trivial
 | cons x r=>
  refine⟨_,_,_,⟨rfl,rfl,rfl⟩,?_⟩;have hm:r.length+1≤NA:=by simp only[List.length_cons]at hl;unfold NA;omega
  simp only[List.map_cons,List.length_cons,go_sem,hm];have:max h.length (h.length+1)=h.length+1:=by omega
  rw[this,List.take_of_length_le (by simp)]
theorem z8P (R:List UInt8):∀(l pre:List Cmd) (state at_ k:Nat) (hk:k<l.length) (p:Part),(oA eA pre state l)[k]?=some p →
 (PC eA pre state l at_ R)[k]?=some (if zB l[k]=true then win R (at_+(sA ((oA eA pre state l).take k)).length+p.fr) l[k].b.length else [])∧(zB l[k]=true→p.fr+l[k].b.length≤p.tms.length)
 | [],_,_,_,k,hk,_,_=>by simp at hk
 | c::l,pre,state,at_,0,hk,p,hp=>by
  have ep:nA eA pre c state=p:=by simpa [oA] using hp
  subst ep;refine⟨by simp [PC,sA],fun hs=>?_⟩
  have hs:zB c=true:=hs
  rcases WC.1 hs with e|e
  ·exact(z29 eA e).2
  ·exact(z2A eA e).2
 | c::l,pre,state,at_,k+1,hk,p,hp=>by
  have hk':k<l.length:=by simpa using hk
  obtain⟨a,b⟩:=z8P R l (pre++[c]) (nA eA pre c state).st (at_+(nA eA pre c state).tms.length) k hk' p (by simpa [oA] using hp)
  refine⟨?_,b⟩;show(PC eA (pre++[c]) (nA eA pre c state).st l (at_+(nA eA pre c state).tms.length) R)[k]?=_
  rw[a];show _=some (if zB l[k]=true then win R (at_+(sA (nA eA pre c state::(oA eA (pre++[c]) (nA eA pre c state).st l).take k)).length+p.fr) l[k].b.length else [])
  have:(sA (nA eA pre c state::(oA eA (pre++[c]) (nA eA pre c state).st l).take k)).length=(nA eA pre c state).tms.length+(sA ((oA eA (pre++[c]) (nA eA pre c state).st l).take k)).length:=by simp [sA]
  rw[this,Nat.add_assoc at_]
end Go.Am
end
section
/- Programs run: Learned and LearnedOf. -/
open Go
set_option linter.all false
set_option maxRecDepth 100000
namespace Go.Am
variable {h:aA} {K:kA}
attribute [-go_sem] SA splice
def nE (n:Nat):List UInt8:=List.replicate n 49
def ID (c:Cmd)(s:List UInt8):Cmd:=if zB c=true then { c with w:=s,m:=nE s.length } else c
def pC (l:List Cmd)(RV:List (List UInt8))(k:Nat):List Cmd:=(List.range l.length).map fun i=>if i<k then ID (l.getD i XG) (RV.getD i []) else l.getD i XG
def uC (l:List Cmd)(RV:List (List UInt8)):List Cmd:=pC l RV l.length
theorem aT (l:List Cmd)(RV:List (List UInt8))(k:Nat):(pC l RV k).length=l.length:=by simp [pC]
theorem zkC (l:List Cmd)(RV:List (List UInt8)):pC l RV 0=l:=by
 apply List.ext_getElem
 ·simp [pC]
 ·intro i h1 h2
  simp [pC,List.getD_eq_getElem?_getD,List.getElem?_eq_getElem h2]
theorem z8a (l:List Cmd)(RV:List (List UInt8)){k:Nat}(hk:k<l.length):(pC l RV k)[k]?=some l[k]:=by
 rw[List.getElem?_eq_getElem (by rw[aT];exact hk)]
 simp [pC,List.getD_eq_getElem?_getD,List.getElem?_eq_getElem hk]
theorem z8b (l:List Cmd)(RV:List (List UInt8)){k:Nat}(hk:k<l.length){s:List UInt8}(hs:RV[k]?=some s):pC l RV (k+1)=(pC l RV k).set k (ID l[k] s):=by
 apply List.ext_getElem
 ·simp [pC]
 ·intro j h1 h2
  rw[List.getElem_set];by_cases hj:k=j
  ·subst hj
   simp [pC,List.getD_eq_getElem?_getD,List.getElem?_eq_getElem hk,hs]
  ·rw[if_neg hj]
   simp only[pC,List.getElem_map,List.getElem_range];by_cases h3:j<k
   ·rw[if_pos h3,if_pos (by omega)]
   ·rw[if_neg h3,if_neg (by omega)]
theorem zkD (l:List Cmd)(RV:List (List UInt8)){k:Nat}(hk:k<l.length){s:List UInt8}(hs:RV[k]?=some s)(hc:zB l[k]=false):pC l RV (k+1)=pC l RV k:=by
 rw[z8b l RV hk hs];have:ID l[k] s=l[k]:=by unfold ID;rw[if_neg (by rw[hc];simp)]
 rw[this];have g:=z8a l RV hk
 apply List.ext_getElem?
 intro j;rw[List.getElem?_set];split
 ·rename_i e;subst e
  rw[g,aT,if_pos hk]
 ·rfl
theorem zp8 (n:Int)(h0:0≤n)(h1:n≤1000000):bA X PB [AS [49],AI n] h K=K (AS (nE n.toNat)) h []:=by
 rw[EV [49] n h0 (by simp;omega) h1,OP];rfl
set_option maxHeartbeats 4000000 in
theorem zp5 (ds:List TDev)(hB:∀ d∈ds,DevB d)(h3:ds.length≤1000)(l:List Cmd)(hok:∀ c∈l,CmdOk c)(hl:l.length≤1000000) :
 bA X bP [jD ds,ACs l] h K=K (.tup [ACs (if fD ds l=0 then uC l (FB ds l) else []),AI (fD ds l)]) h []:=by
 refine xA ?_;rw[ze2 rfl];have q1:=fun h K=>z3j (h:=h) (K:=K) ds hB h3 l hok hl
 by_cases e:fD ds l=0
 ·obtain⟨e1,e2⟩:=yV e
  have q2:=fun h K=>z3i (h:=h) (K:=K) ds hB e1 l e2
  have q3:=fun h K=>zpx (h:=h) (K:=K) l hl
  rw[if_pos e];rw[e]at q1 ⊢;obtain⟨hc,hn,hl⟩:=sM e2;have tl:=bQ (ds:=ds) hc
  have rl:(FB ds l).length=l.length:=EM eA l [] 0 0 (cC ds l)
  have rs:=fun k hk=>z2N (R:=cC ds l) l (by omega) k hk
  have hRV:PC eA [] 0 l 0 (cC ds l)=FB ds l:=rfl
  rw[hRV]at rs;simp only[KN,go_sem,↓q1,q1,↓q2,q2,↓q3,q3];unfold uC;generalize FB ds l=RV at *;refine jB (fun k:Nat=>⟨[(7,.own h.length l.length 0 l.length),(20,tI RV),(21,.p (.int .i64 (RV.length:Nat))),(22,AI k)],h++[.row (some 6) ((pC l RV k).map dB) 0],[]⟩) (fun k=>k≤l.length) (fun k=>l.length-k) 0 (by rw[zkC];rfl) (by omega) ?_
  intro k hk;have lml:((pC l RV k).map dB).length=l.length:=by rw[List.length_map,aT]
  rcases Nat.lt_or_ge k l.length with hlt|hge
  ·have hlt':(k:Int)<(RV.length:Int):=by omega
   obtain⟨s,x1,x2⟩:=rs k hlt;have hgs:(RV.map PV.str)[k]?=some (.str s):=by rw[List.getElem?_map,x1];rfl
   have w2:IntKind.i64.wrap ((k:Int)+1)=((k+1:Nat):Int):=GA _ (by omega) (by omega)
   have hg:((pC l RV k).map dB)[k]?=some (dB l[k]):=by rw[List.getElem?_map,z8a l RV hlt];rfl
   have ls:=z8b l RV hlt x1
   have lsm:=fun hq=>zkD l RV hlt x1 hq
   have ml:=z0K (hc _ (List.getElem_mem hlt))
   generalize hLI:pC l RV (k+1)=L1 at *;generalize pC l RV k=LI at *;generalize l[k]=c at *;have fp:dB c = .agg [eI c.k,eI c.s,eI c.cl,.str c.b,.str c.w,.str c.m]:=rfl
   rw[fp]at hg;cases hs:zB c with
   | true=>
    have is:(decide (c.k=7)||decide (c.k=8))=true:=by rcases WC.1 hs with e|e <;> simp [e]
    have sl:s.length≤2000:=by
     rcases ml with⟨m1,m2,_⟩|⟨m1,_⟩
     ·rw[if_pos hs]at x2;omega
     ·rw[hs]at m1;cases m1
    have ro:=fun h K=>zp8 (h:=h) (K:=K) (s.length:Int) (by omega) (by omega)
    simp only[Int.toNat_natCast]at ro;have el:ID c s=⟨c.k,c.s,c.cl,c.b,s,nE s.length⟩:=by unfold ID;rw[if_pos hs]
    have e2:L1.map dB=(LI.map dB).set k (.agg [eI c.k,eI c.s,eI c.cl,.str c.b,.str s,.str (nE s.length)]):=by rw[ls,el,List.map_set]
    have gs:∀v,((LI.map dB).set k v)[k]?=some v:=fun v=>List.getElem?_set_self (by omega)
    have ss:∀v w,((LI.map dB).set k v).set k w=(LI.map dB).set k w:=fun v w=>List.set_set ..
    have lls:∀v,((LI.map dB).set k v).length=l.length:=fun v=>by rw[List.length_set,lml]
    simp only[z0e,LN,z0f,MN,go_sem,splice,hlt',hlt,hgs,hg,yF,is,lml,↓ro,ro,gs,ss,lls,w2];exact⟨k+1,by rw[hLI,e2],by omega,by omega⟩
   | false=>
    have is:(decide (c.k=7)||decide (c.k=8))=false:=by
     cases q:(decide (c.k=7)||decide (c.k=8)) with
     | false=>rfl
     | true=>
      have:c.k=7∨c.k=8:=by simpa using q
      rw[WC.2 this]at hs;cases hs
    have e2:=lsm hs
    simp only[z0e,LN,z0f,MN,go_sem,splice,hlt',hlt,hgs,hg,yF,is,lml,w2];exact⟨k+1,by rw[hLI,e2],by omega,by omega⟩
  ·have ek:k=l.length:=by omega
   have hlt':¬(k:Int)<(RV.length:Int):=by omega
   rw[ek]at lml ⊢;rw[ek]at hlt';have wf:win ((pC l RV l.length).map dB) 0 l.length=(pC l RV l.length).map dB:=YF lml
   simp only[z5J,nS,go_sem,hlt',lml,wf]
 ·rw[if_neg e]
  simp only[KN,go_sem,↓q1,q1,e,List.map_nil];rfl
end Go.Am
end
