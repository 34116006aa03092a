/- Texts of the proof, laid together: SpVec9, SpVec10, SpVec11, SpVec16, SpVec17, SpVTxt, SpVTxtQ, SpVRead, SpVReadQ, SpEach, SpFltR, SpFltR2, SpFltR3, SpChg, SpGenA2, SpDelF, SpGenF2, SpInts, SpFltE, SpVec19, SpVec20, SpGenV, SpVRd2, SpVTxt3, SpVec18, SpLawSM, SpEqC, SpLawPT, Bridge, AmL2, AmL6, AmL3. -/
import Derived.ProofKit
import Derived.Shelf.Strconv.Itoa3
import Derived.Lib.LaidTab
import Derived.Shelf.Strconv.AtoiAll
import Derived.Test.YtojjldhoodnjiaaGreatDoorlawPT8
set_option linter.all false
section
/- The reference: the fault of a program. -/
open Go
set_option linter.all false
namespace Go.Am
variable {h:Heap} {K:Post}
attribute [-go_sem] oEqa
theorem zuz {pre:List Cmd} {c:Cmd} {state:Nat} (S:SetOk pre) (hst:state∈stb) (hc:cmdF c=0) :
 (z0R z0f pre c state).tms.length≤20008∧(z0R z0f pre c state).tdi.length=(z0R z0f pre c state).tms.length∧(z0R z0f pre c state).want.length=(z0R z0f pre c state).tms.length:=by
 have hz:∀ n,(zs n).length=n:=fun n=>by simp [zs]
 have hx:∀ n,(xsL n).length=n:=fun n=>by simp [xsL]
 cases z1e hc with
 | set h hs e=>rw[z2A z0f (by omega)];exact⟨Nat.zero_le _,rfl,rfl⟩
 | pad h0 h1 hb hl e=>rw[z2A z0f h1];exact⟨Nat.zero_le _,rfl,rfl⟩
 | go h hs e=>
  rw[z9W z0f h]
  have:=(z02 (z1t hst) (z2h (z03 hs).1)).2.1
  exact⟨by show (z0f state c.s.toNat).length≤_;omega,hz _,hx _⟩
 | idle h h0 h1 e=>
  rw[z4O z0f h]
  have:=(z02 (z1t hst) (show 1∈toS by decide)).2.1
  refine⟨?_,?_,?_⟩ <;> simp only[List.length_append,hz,hx] <;> omega
 | scan h hs e=>
  obtain⟨q1,q2,q3,q4,q5,q6⟩:=z1Q hs
  have hpos:=List.length_pos_iff.2 q1
  have he:(expC c).length=c.b.length:=by simp [expC]
  have key:∀ (sh ex:Nat) (hd tl:List UInt8) (en:Nat),sh∈toS→ex∈frS→en∈stb→hd.length≤2000→tl.length≤2000 →
   (padP (z1n z0f c state sh ex hd tl en)).tms.length≤20008∧(padP (z1n z0f c state sh ex hd tl en)).tdi.length=(padP (z1n z0f c state sh ex hd tl en)).tms.length∧(padP (z1n z0f c state sh ex hd tl en)).want.length=(padP (z1n z0f c state sh ex hd tl en)).tms.length:=by
   intro sh ex hd tl en h1 h2 h3 h4 h5
   have p1:=(z02 (z1t hst) h1).2.1
   have p2:=(z02 h2 (z2h h3)).2.1
   rw[z6W z0f c state sh ex hd tl en q1]
   refine⟨?_,?_,?_⟩ <;> simp only[List.length_append,hz,hx,he,List.length_singleton] <;> omega
  rcases h with h | h
  ·have ep:z0R z0f pre c state=padP (z1n z0f c state 11 12 (setC pre 3).b (setC pre 4).b (setC pre 1).s.toNat):=by
    unfold z0R;rw[if_neg (by omega),if_neg (by omega),if_pos h]
   rw[ep]
   exact key _ _ _ _ _ (by decide) (by decide) (z03 S.s1).1 (S.b1 3 (by omega) (by omega)).2 (S.b1 4 (by omega) (by omega)).2
  ·have ep:z0R z0f pre c state=padP (z1n z0f c state 4 5 (setC pre 5).b (setC pre 6).b (setC pre 2).s.toNat):=by
    unfold z0R;rw[if_neg (by omega),if_neg (by omega),if_neg (by omega),if_pos h]
   rw[ep]
   exact key _ _ _ _ _ (by decide) (by decide) (z03 S.s2).1 (S.b1 5 (by omega) (by omega)).2 (S.b1 6 (by omega) (by omega)).2
theorem zsz {l:List Cmd} (hc:∀ c∈l,cmdF c=0):∀ k,k≤l.length→(sigT (z0u z0f [] 0 (l.take k))).length≤k*20008∧(sigI (z0u z0f [] 0 (l.take k))).length=(sigT (z0u z0f [] 0 (l.take k))).length∧(sigW (z0u z0f [] 0 (l.take k))).length=(sigT (z0u z0f [] 0 (l.take k))).length
 | 0,_=>⟨Nat.zero_le _,rfl,rfl⟩
 | k+1,hk=>by
  obtain⟨a,b,c⟩:=zsz hc k (by omega)
  obtain⟨S,T⟩:=zc9 hc k (by omega)
  have hlt:k<l.length:=by omega
  obtain⟨x,y,z⟩:=zuz S T (hc _ (List.getElem_mem hlt))
  rw[List.take_succ_eq_append_getElem hlt,(z3V l[k] (l.take k) [] 0).1,List.nil_append]
  obtain⟨e1,e2,e3⟩:=z8y (z0u z0f [] 0 (l.take k)) (z0R z0f (l.take k) l[k] (stAt [] 0 (l.take k)))
  rw[e1,e2,e3,List.length_append,List.length_append,List.length_append]
  refine⟨?_,by omega,by omega⟩
  rw[Nat.add_mul];omega
theorem s_SigW (l:List Cmd) (hc:∀ c∈l,cmdF c=0) (hl:l.length≤1000):z0c X z9o [ACs l] h K=K (.tup [AS (sigT (z0u z0f [] 0 l)),AS (sigI (z0u z0f [] 0 l)),AS (sigW (z0u z0f [] 0 l))]) h []:=by
 obtain⟨a,b,c⟩:=zsz hc l.length (Nat.le_refl _)
 rw[List.take_length] at a b c
 have:l.length*20008≤1000*20008:=Nat.mul_le_mul_right _ hl
 exact zgM l hc (by omega) (by omega) (by omega) (by omega)
theorem z4w:∀ {l:List Cmd},(∀ c∈l,cmdF c=0)→z5H l=0
 | [],_=>rfl
 | d::l,h=>by
  unfold z5H
  rw[if_neg (by rw[h d (List.mem_cons_self ..)];simp)]
  exact z4w fun c hc=>h c (List.mem_cons_of_mem _ hc)
theorem z8K:∀ {l:List Cmd} {k:Nat} (hk:k<l.length),(∀ c∈l.take k,cmdF c=0)→cmdF l[k]≠0→z5H l=cmdF l[k]
 | d::l,0,hk,_,h2=>by unfold z5H;rw[if_pos (by simpa using h2)];rfl
 | d::l,k+1,hk,h1,h2=>by
  unfold z5H
  rw[if_neg (by rw[h1 d (by simp)];simp)]
  exact z8K (l:=l) (k:=k) (by simpa using hk) (fun c hc=>h1 c (by simp [hc])) (by simpa using h2)
set_option maxHeartbeats 2000000 in
theorem z4r (l:List Cmd) (hok:∀ c∈l,CmdOk c) (hl:l.length≤1000000):z0c X z4k [ACs l] h K=K (AI (z1i z0f l:Nat)) h []:=by
 refine rule ?_
 rw[c_q033 rfl]
 by_cases hbig:1000<l.length
 ·have h1:(1000:Int)<(l.length:Int):=by omega
  have e:z1i z0f l=2:=by unfold z1i;rw[if_pos hbig]
  rw[e]
  simp only[zeq,go_sem,h1]
 have h1:¬ (1000:Int)<(l.length:Int):=by omega
 simp only[zeq,go_sem,h1]
 refine z0T (fun k:Nat=>⟨[(0,ACs l),(12,ACs l),(13,AI l.length),(14,AI k)],h,[]⟩) (fun k=>k≤l.length∧∀ c∈l.take k,cmdF c=0) (fun k=>l.length-k) 0 rfl ⟨Nat.zero_le _,by simp⟩ ?_
 rintro k ⟨hk,hn⟩
 rcases Nat.lt_or_ge k l.length with hlt | hge
 ·have hg:=z1B cmdP hlt
  have w2:IntKind.i64.wrap ((k:Int)+1)=((k+1:Nat):Int):=z0j _ (by omega) (by omega)
  have hf:=fun (h':Heap) (K':Post)=>zaz (h:=h') (K:=K') l[k] (hok _ (List.getElem_mem hlt))
  by_cases h0:cmdF l[k]=0
  ·have h0':((cmdF l[k]:Nat):Int)=0:=by omega
   simp only[go_sem,hlt,hg,w2,hf,h0']
   refine⟨k+1,rfl,⟨by omega,?_⟩,by omega⟩
   intro c hc
   rw[List.take_succ_eq_append_getElem hlt] at hc
   rcases List.mem_append.1 hc with hc | hc
   ·exact hn c hc
   ·obtain rfl:c=l[k]:=by simpa using hc
    exact h0
  ·have h0':¬ ((cmdF l[k]:Nat):Int)=0:=by omega
   simp only[go_sem,hlt,hg,w2,hf,h0']
   have e:z1i z0f l=cmdF l[k]:=by
    unfold z1i
    rw[if_neg (by omega),z8K hlt hn h0,if_pos h0]
   rw[e]
 ·obtain rfl:k=l.length:=by omega
  rw[List.take_length] at hn
  have hs:=fun (h':Heap) (K':Post)=>s_SigW (h:=h') (K:=K') l hn (by omega)
  have e:z1i z0f l=if 20000<(sigT (z0u z0f [] 0 l)).length then 2 else 0:=by
   unfold z1i
   rw[if_neg (by omega),z4w hn,if_neg (by simp)]
  rw[e]
  by_cases h2:20000<(sigT (z0u z0f [] 0 l)).length
  ·have h2':(20000:Int)<((sigT (z0u z0f [] 0 l)).length:Int):=by omega
   simp only[go_sem,Nat.lt_irrefl,Int.lt_irrefl,hs,h2,h2']
  ·have h2':¬ (20000:Int)<((sigT (z0u z0f [] 0 l)).length:Int):=by omega
   simp only[go_sem,Nat.lt_irrefl,Int.lt_irrefl,hs,h2,h2']
theorem z4U (l:List Cmd) (hok:∀ c∈l,CmdOk c) (hl:l.length≤40):z0c X z4k [ACs l] h K=K (AI (z1i z0f l:Nat)) h []:=z4r l hok (by omega)
end Go.Am
end
section
/- The reference: states,bits that are shifted. -/
open Go
set_option linter.all false
namespace Go.Am
variable {h:Heap} {K:Post}
attribute [-go_sem] oEqa
end Go.Am
end
section
/- The reference: StatesOf,ShiftedBits. -/
open Go
set_option linter.all false
namespace Go.Am
variable {h:Heap} {K:Post}
attribute [-go_sem] oEqa
end Go.Am
end
section
/- The program: a program that is played. -/
open Go
set_option linter.all false
namespace Go.Am
variable {h l2:Heap} {K:Post} {r:Run} {n:Nat} {o:Obj} {x:Esc}
attribute [-go_sem] oEqa splice
attribute [local go_sem] zbD zfC zbC zbE z71 z7d
theorem zrR {l:Heap}:(rh h r l)[h.length+6]?=l[0]?:=zbC (n:=0)
theorem zrS {l:Heap}:(rh h r l).set (h.length+6) o=rh h r (l.set 0 o):=zbE (n:=0)
theorem ziK {l:Heap}:(rh h r l).take (h.length+6)=rh h r (l.take 0):=z71 (n:=0)
attribute [local go_sem] zrR zrS ziK
structure RunI (r:Run) (k:Nat):Prop where
 R:RunOk r
 N:RunN r
 st:r.st∈stb
 S:SetR r.se
 sl:r.sts.length=k
 fl:r.frs.length=k
theorem runI_0 (w:Bool):RunI (run0 w) 0:=⟨⟨Nat.le_refl _,Nat.le_refl _,Nat.le_refl _⟩,⟨Nat.le_refl _,Nat.le_refl _⟩,by show 0∈stb;decide,⟨rfl,rfl,Nat.zero_le _,Nat.zero_le _,Nat.zero_le _,Nat.zero_le _⟩,rfl,rfl⟩
theorem zvf {s:Sett} {c:Cmd} (S:SetR s) (hc:cmdF c=0) (h1:1≤c.k∧c.k≤6):SetR (s.put c):=by
 have hb:c.k≤2→z07 c.s=true:=fun h=>by
  cases z1e hc with
  | set h hs e=>exact hs
  | pad h0 h1 hb hl e=>omega
  | go h hs e=>omega
  | idle h h0 h1 e=>omega
  | scan h hs e=>omega
 have hp:3≤c.k→c.b.length≤2000:=fun h=>by
  cases z1e hc with
  | set h hs e=>omega
  | pad h0 h1 hb hl e=>exact hl
  | go h hs e=>omega
  | idle h h0 h1 e=>omega
  | scan h hs e=>omega
 obtain⟨s1,s2,a1,a2,a3,a4⟩:=S
 unfold Sett.put
 split
 ·exact⟨hb (by omega),s2,a1,a2,a3,a4⟩
 split
 ·exact⟨s1,hb (by omega),a1,a2,a3,a4⟩
 split
 ·exact⟨s1,s2,hp (by omega),a2,a3,a4⟩
 split
 ·exact⟨s1,s2,a1,hp (by omega),a3,a4⟩
 split
 ·exact⟨s1,s2,a1,a2,hp (by omega),a4⟩
 ·exact⟨s1,s2,a1,a2,a3,hp (by omega)⟩
theorem zsb {k:Nat} (I:RunI r k) {c:Cmd} (hc:cmdF c=0):RunI (r.step z0f c) (k+1)∧(r.step z0f c).ck≤r.ck+20016:=by
 obtain⟨R,N,st,S,sl,fl⟩:=I
 have setf:1≤c.k∧c.k≤6→RunI (r.step z0f c) (k+1)∧(r.step z0f c).ck≤r.ck+20016:=fun h1=>by
  rw[z5u z0f h1]
  exact⟨⟨⟨R.t,R.i,R.w⟩,N,st,zvf S hc h1,by simp [sl],by simp [fl]⟩,by dsimp only;omega⟩
 cases z1e hc with
 | set h hs e=>exact setf (by omega)
 | pad h0 h1 hb hl e=>exact setf ⟨by omega,h1⟩
 | go hk hs e=>
  rw[zcV z0f hk]
  obtain⟨g1,g2,g3,g4,g5,g6,_,_⟩:=z08 z0f r c.s.toNat
  obtain⟨n1,n2⟩:=z03 hs
  have R1:=z3Y (tov:=c.s.toNat) R
  have N1:=z74 (tov:=c.s.toNat) N
  have pl:=(z02 (z1t st) (z2h n1)).2.1
  refine⟨⟨⟨R1.t,R1.i,R1.w⟩,N1,?_,?_,?_,?_⟩,?_⟩
  ·show (r.go z0f c.s.toNat).st∈stb;rw[g2];exact n1
  ·show SetR (r.go z0f c.s.toNat).se;rw[g1];exact S
  ·simp [g3,sl]
  ·simp [g4,fl]
  ·show (r.go z0f c.s.toNat).ck≤_;rw[zgA];omega
 | idle hk h0 h1 e=>
  rw[z4X z0f hk]
  obtain⟨g1,g2,g3,g4,g5,g6,g7,g8⟩:=z08 z0f r 1
  obtain⟨q1,q2,q3,q4,q5,q6,q7,q8⟩:=z2c (r.go z0f 1) (List.replicate c.cl.toNat (48,48,120))
  have R1:=z2C (L:=List.replicate c.cl.toNat (48,48,120)) (z3Y (tov:=1) R)
  have N1:=z74 (tov:=1) N
  have pl:=(z02 (z1t st) (show 1∈toS by decide)).2.1
  refine⟨⟨⟨R1.t,R1.i,R1.w⟩,?_,?_,?_,?_,?_⟩,?_⟩
  ·obtain⟨x,y⟩:=N1
   exact⟨by show Run.ni (Run.clk _ _)≤Run.ck (Run.clk _ _);rw[q7,q6];omega,by show Run.nd (Run.clk _ _)≤Run.ck (Run.clk _ _);rw[q8,q6];omega⟩
  ·show Run.st (Run.clk _ _)∈stb;rw[q2,g2];decide
  ·show SetR (Run.se (Run.clk _ _));rw[q1,g1];exact S
  ·simp [q3,g3,sl]
  ·simp [q4,g4,fl]
  ·show Run.ck (Run.clk _ _)≤_;rw[q6,zgA,List.length_replicate];omega
 | scan hk hs e=>
  rw[z4Y z0f hk]
  obtain⟨g3,g4,g1⟩:=ziT (r:=r) c
  obtain⟨q1,q2,q3,q4,q5,q6⟩:=z1Q hs
  have key:∀ (sh ex:Nat) (en:Int) (hd tl:List UInt8) (r2:Run),sh∈toS→ex∈frS→z07 en=true→hd.length≤2000→tl.length≤2000→RunOk r2→r2.ck=(r.go z0f sh).ck→r2.ni≤r2.ck+(hd++c.b++tl).length→r2.nd≤r2.ck+(hd++c.b++tl).length →
   r.scn z0f c=Run.go z0f { Run.clk r2 (z0S c hd (hd++c.b++tl)) with st:=ex } en.toNat→RunI { r.scn z0f c with sts:=(r.scn z0f c).sts++[(r.scn z0f c).st],frs:=(r.scn z0f c).frs++[r.scnF z0f c] } (k+1)∧(r.scn z0f c).ck≤r.ck+20016:=by
   intro sh ex en hd tl r2 m1 m2 m3 m4 m5 R2 m6 m7 m8 e
   obtain⟨n1,n2⟩:=z03 m3
   have R3:=z2C (L:=z0S c hd (hd++c.b++tl)) R2
   have R4:=z3Y (r:={ Run.clk r2 (z0S c hd (hd++c.b++tl)) with st:=ex }) (tov:=en.toNat) ⟨R3.t,R3.i,R3.w⟩
   have N4:=z74 (r:={ Run.clk r2 (z0S c hd (hd++c.b++tl)) with st:=ex }) (tov:=en.toNat) (by
    obtain⟨_,_,_,_,_,z1,z2,z3⟩:=z2c r2 (z0S c hd (hd++c.b++tl))
    have z4:=z2f c hd (hd++c.b++tl)
    exact⟨by show Run.ni (Run.clk _ _)≤Run.ck (Run.clk _ _);omega,by show Run.nd (Run.clk _ _)≤Run.ck (Run.clk _ _);omega⟩)
   have st4:=(z08 z0f { Run.clk r2 (z0S c hd (hd++c.b++tl)) with st:=ex } en.toNat).2.1
   have ck4:=zgA (r:={ Run.clk r2 (z0S c hd (hd++c.b++tl)) with st:=ex }) (tov:=en.toNat)
   have ck3:=zdG (r:=r2) (L:=z0S c hd (hd++c.b++tl))
   have ck2:=zgA (r:=r) (tov:=sh)
   have p1:=(z02 (z1t st) m1).2.1
   have p2:=(z02 m2 (z2h n1)).2.1
   have z4:=z2f c hd (hd++c.b++tl)
   simp only[List.length_append] at z4
   rw[← e] at R4 N4 st4 ck4
   refine⟨⟨⟨R4.t,R4.i,R4.w⟩,N4,by show (r.scn z0f c).st∈stb;rw[st4];exact n1,by show SetR (r.scn z0f c).se;rw[g1];exact S,by simp [g3,sl],by simp [g4,fl]⟩,?_⟩
   dsimp only at ck4
   omega
  have N1:=fun sh=>z74 (tov:=sh) N
  have R1:=fun sh=>z3Y (tov:=sh) R
  rcases hk with h7 | h8
  ·refine key 11 12 r.se.e1.s r.se.h1.b r.se.t1.b { r.go z0f 11 with ni:=(r.go z0f 11).ni+(r.se.h1.b++c.b++r.se.t1.b).length } (by decide) (by decide) S.s1 S.h1 S.t1 ⟨(R1 11).t,(R1 11).i,(R1 11).w⟩ rfl ?_ ?_ (zss h7).1
   ·have:=(N1 11).1;dsimp only;omega
   ·have:=(N1 11).2;dsimp only;omega
  ·refine key 4 5 r.se.e2.s r.se.h2.b r.se.t2.b { r.go z0f 4 with nd:=(r.go z0f 4).nd+(r.se.h2.b++c.b++r.se.t2.b).length } (by decide) (by decide) S.s2 S.h2 S.t2 ⟨(R1 4).t,(R1 4).i,(R1 4).w⟩ rfl ?_ ?_ (zsr h8).1
   ·have:=(N1 4).1;dsimp only;omega
   ·have:=(N1 4).2;dsimp only;omega
theorem zsk:z0c X zb0 [] h K=K (.p (.agg [eI 1,eI 1,eI 0,.str [],.str [],.str [],eI 2,eI 1,eI 0,.str [],.str [],.str [],eI 3,eI 0,eI 0,.str [],.str [],.str [],eI 4,eI 0,eI 0,.str [],.str [],.str [],eI 5,eI 0,eI 0,.str [],.str [],.str [],eI 6,eI 0,eI 0,.str [],.str [],.str []])) h []:=by
 refine rule ?_
 rw[c_q06r rfl]
 simp only[zoa,go_sem,splice]
set_option maxHeartbeats 4000000 in
theorem zuX (l:List Cmd) (hc:∀ c∈l,cmdF c=0) (hl:l.length≤1000) (p:AV) (w:Bool) (hp:(p = .nilp∧w=false)∨(∃ i,p = .ref i 0)∧w=true) :
 z0c X z6k [ACs l,p] h K=K (.ref (h.length+5) 0) (rh h ((run0 w).play z0f l) []) []:=by
 refine rule ?_
 have main:∀ Kx:Ex→St→Prop,(∀ r,(run0 w).play z0f l=r→Kx .ret ⟨[(4,.ref (h.length+5) 0)],rh h r [],[]⟩)→z0Z (z0c X) X.gl (.scope z27) (z0s 0 (seqN (z0c X) X.gl z4J Kx)) [(5,.ref (h.length+5) 0),(13,ACs l),(14,AI l.length),(15,AI 0)] (rh h (run0 w) []) []:=by
  intro Kx hK
  refine z0T (fun t:Nat × Run=>⟨[(5,.ref (h.length+5) 0),(13,ACs l),(14,AI l.length),(15,AI t.1)],rh h t.2 [],[]⟩) (fun t=>t.1≤l.length∧RunI t.2 t.1∧t.2.ck≤50000∧(run0 w).play z0f l=t.2.play z0f (l.drop t.1)) (fun t=>l.length-t.1) (0,run0 w) rfl ⟨Nat.zero_le _,runI_0 w,Nat.zero_le _,rfl⟩ ?_
  rintro⟨k,r⟩ ⟨hk,I,hck,hpl⟩
  dsimp only at hk I hck hpl ⊢
  rcases Nat.lt_or_ge k l.length with hlt | hge
  ·have hg:=z1B cmdP hlt
   have w2:IntKind.i64.wrap ((k:Int)+1)=((k+1:Nat):Int):=z0j _ (by omega) (by omega)
   have hdr:l.drop k=l[k]::l.drop (k+1):=(List.getElem_cons_drop hlt).symm
   rw[hdr] at hpl
   have hpc:∀ (c:Cmd) (L:List Cmd),r.play z0f (c::L)=if 20000<r.ck then r else (r.step z0f c).play z0f L:=fun c L=>rfl
   rw[hpc] at hpl
   have h0:=hc _ (List.getElem_mem hlt)
   by_cases hb:20000<r.ck
   ·have hb':(20000:Int)<(r.ck:Int):=by omega
    rw[if_pos hb] at hpl
    simp only[go_sem,hlt,hg,zbB,zgJ,hb',splice]
    exact hK r hpl
   ·have hb':¬ (20000:Int)<(r.ck:Int):=by omega
    rw[if_neg hb] at hpl
    have hs:=fun (l2:Heap) (K':Post)=>s_step (h:=h) (l:=l2) (K:=K') I.R I.N (by omega) I.st I.S (by rw[I.sl];omega) (by rw[I.fl];omega) l[k] h0
    obtain⟨I2,c2⟩:=zsb I h0
    simp only[go_sem,hlt,hg,zbB,zgJ,hb',hs,w2,splice]
    exact⟨(k+1,r.step z0f l[k]),rfl,⟨by dsimp only;omega,I2,by dsimp only;omega,hpl⟩,by dsimp only;omega⟩
  ·obtain rfl:k=l.length:=by omega
   rw[List.drop_length] at hpl
   simp only[go_sem,Nat.lt_irrefl]
   exact hK r hpl
 rcases hp with ⟨rfl,rfl⟩ | ⟨⟨i,rfl⟩,rfl⟩
 ·rw[zww rfl]
  simp only[zeU,go_sem,zsk,splice]
  refine main _ fun r e=>?_
  rw[e]
  have q1:h.length+5+1=h.length+6:=rfl
  have q2:max h.length (h.length+6)=h.length+6:=by omega
  simp only[go_sem,q1,q2,List.take_nil]
 ·rw[zww rfl]
  simp only[zeU,go_sem,zsk,splice]
  refine main _ fun r e=>?_
  rw[e]
  have q1:h.length+5+1=h.length+6:=rfl
  have q2:max h.length (h.length+6)=h.length+6:=by omega
  simp only[go_sem,q1,q2,List.take_nil]
end Go.Am
end
section
/- The program: what is wrong with a program;clocks,signals,states,bits. -/
open Go
set_option linter.all false
namespace Go.Am
variable {h:Heap} {K:Post} {r:Run} {n:Nat} {o:Obj} {x:Esc}
attribute [-go_sem] oEqa splice
attribute [local go_sem] zbD zfC zbC zbE z71 z7d zrR zrS ziK zbB zrB zgJ zrC zrD zrE zrF zrG zrH zrI
theorem zr9 {l:List Cmd} (hc:∀ c∈l,cmdF c=0) (w:Bool):20000<((run0 w).play z0f l).ck↔20000<(sigT (z0u z0f [] 0 l)).length:=by
 have e:=z4w hc
 constructor
 ·intro h
  rcases Nat.lt_or_ge 20000 (sigT (z0u z0f [] 0 l)).length with h1 | h1
  ·exact h1
  ·have:=(zi4 zwF e w h1).1;omega
 ·intro h
  have:=(zcB z0f l (rel0 w) e).2
  simp only[List.nil_append] at this
  exact this h
theorem zfM (l:List Cmd) (hc:∀ c∈l,cmdF c=0) (hl:l.length≤1000):z0c X z6k [ACs l,.nilp] h K=K (.ref (h.length+5) 0) (rh h ((run0 false).play z0f l) []) []:=zuX l hc hl .nilp false (.inl ⟨rfl,rfl⟩)
set_option maxHeartbeats 4000000 in
theorem z4q (l:List Cmd) (hok:∀ c∈l,CmdOk c) (hl:l.length≤1000000):z0c X z4n [ACs l] h K=K (AI (z1i z0f l:Nat)) h []:=by
 refine rule ?_
 rw[c_q062 rfl]
 by_cases hbig:1000<l.length
 ·have h1:(1000:Int)<(l.length:Int):=by omega
  have e:z1i z0f l=2:=by unfold z1i;rw[if_pos hbig]
  rw[e]
  simp only[zeI,go_sem,h1]
 have h1:¬ (1000:Int)<(l.length:Int):=by omega
 simp only[zeI,go_sem,h1]
 refine z0T (fun k:Nat=>⟨[(0,ACs l),(10,ACs l),(11,AI l.length),(12,AI k)],h,[]⟩) (fun k=>k≤l.length∧∀ c∈l.take k,cmdF c=0) (fun k=>l.length-k) 0 rfl ⟨Nat.zero_le _,by simp⟩ ?_
 rintro k ⟨hk,hn⟩
 rcases Nat.lt_or_ge k l.length with hlt | hge
 ·have hg:=z1B cmdP hlt
  have w2:IntKind.i64.wrap ((k:Int)+1)=((k+1:Nat):Int):=z0j _ (by omega) (by omega)
  have hf:=fun (h':Heap) (K':Post)=>zgR (h:=h') (K:=K') l[k] (hok _ (List.getElem_mem hlt))
  have hsn:cmdF l[k]=0→∀ c∈l.take (k+1),cmdF c=0:=fun h0 c hc=>by
   rw[List.take_succ_eq_append_getElem hlt] at hc
   rcases List.mem_append.1 hc with hc | hc
   ·exact hn c hc
   ·obtain rfl:c=l[k]:=by simpa using hc
    exact h0
  have hpf:cmdF l[k]≠0→z1i z0f l=cmdF l[k]:=fun h0=>by
   unfold z1i
   rw[if_neg (by omega),z8K hlt hn h0,if_pos h0]
  have hbr:=znv (c:=l[k])
  have hkd:=zdI (c:=l[k])
  generalize l[k]=c at *
  generalize hke:zjW c=ke at *
  generalize hbc:znd c=bc at *
  obtain⟨k0,s0,cl0,b0,w0,m0⟩:=c
  obtain⟨k1,s1,cl1,b1,w1,m1⟩:=bc
  dsimp only at hbr hkd hf hg
  by_cases i1:k0<1
  ·have e:=hkd (by omega)
   rw[hpf (by omega),e]
   simp only[go_sem,hlt,hg,w2,hf,z8n,i1,splice]
  by_cases i2:10<k0
  ·have e:=hkd (by omega)
   rw[hpf (by omega),e]
   simp only[go_sem,hlt,hg,w2,hf,z8n,i1,i2,splice]
  have e:=hbr (by omega)
  by_cases i3:ke=0
  ·subst i3
   rw[if_neg (by simp)] at e
   by_cases i4:(⟨k1,s1,cl1,b1,w1,m1⟩:Cmd)=⟨k0,0,0,[],[],[]⟩
   ·rw[if_pos i4] at e
    simp only[go_sem,hlt,hg,w2,hf,z8n,i1,i2,splice,eqa6,i4]
    exact⟨k+1,rfl,⟨by omega,hsn e⟩,by omega⟩
   ·rw[if_neg i4] at e
    rw[hpf (by omega),e]
    simp only[go_sem,hlt,hg,w2,hf,z8n,i1,i2,splice,eqa6,i4]
  ·have i3':¬ ((ke:Nat):Int)=0:=by omega
   rw[if_pos i3] at e
   rw[hpf (by omega),e]
   simp only[go_sem,hlt,hg,w2,hf,z8n,i1,i2,splice,i3']
 ·obtain rfl:k=l.length:=by omega
  rw[List.take_length] at hn
  have hs:=fun (h':Heap) (K':Post)=>zfM (h:=h') (K:=K') l hn (by omega)
  have e:z1i z0f l=if 20000<(sigT (z0u z0f [] 0 l)).length then 2 else 0:=by
   unfold z1i
   rw[if_neg (by omega),z4w hn,if_neg (by simp)]
  rw[e]
  have hm:=zr9 hn false
  by_cases h2:20000<(sigT (z0u z0f [] 0 l)).length
  ·have h3:=hm.2 h2
   have h2':(20000:Int)<(((run0 false).play z0f l).ck:Int):=by omega
   simp only[go_sem,Nat.lt_irrefl,Int.lt_irrefl,hs,h2,h2',splice]
  ·have h3:=fun q=>h2 (hm.1 q)
   have h2':¬ (20000:Int)<(((run0 false).play z0f l).ck:Int):=by omega
   simp only[go_sem,Nat.lt_irrefl,Int.lt_irrefl,hs,h2,h2',splice]
theorem z4T (l:List Cmd) (hok:∀ c∈l,CmdOk c) (hl:l.length≤40):z0c X z4n [ACs l] h K=K (AI (z1i z0f l:Nat)) h []:=z4q l hok (by omega)
theorem zcD {l:List Cmd} (h:z1i z0f l=0):(∀ c∈l,cmdF c=0)∧(sigT (z0u z0f [] 0 l)).length≤20000∧l.length≤1000:=by
 unfold z1i at h
 split at h
 ·cases h
 split at h
 ·rename_i h1;exact absurd h h1
 split at h
 ·cases h
 ·rename_i h0 h1 h2
  exact⟨zdJ (by omega),by omega,by omega⟩
theorem rh_r0 {l:Heap}:(rh h r l)[h.length]?=some (.row none (r.sts.map eN) 0):=by unfold rh;rw[zhh];rfl
theorem rh_r1 {l:Heap}:(rh h r l)[h.length+1]?=some (.row none (r.frs.map eN) 0):=by unfold rh;rw[z3N];rfl
theorem rh_r2 {l:Heap}:(rh h r l)[h.length+2]?=some (.row none (z0q r.tms) 0):=by unfold rh;rw[z3N];rfl
theorem rh_r3 {l:Heap}:(rh h r l)[h.length+3]?=some (.row none (z0q r.tdi) 0):=by unfold rh;rw[z3N];rfl
theorem rh_r4 {l:Heap}:(rh h r l)[h.length+4]?=some (.row none (z0q r.want) 0):=by unfold rh;rw[z3N];rfl
attribute [local go_sem] rh_r0 rh_r1 rh_r2 rh_r3 rh_r4
def clkV (l:List Cmd):AV:=.tup [AI (if z1i z0f l=0 then (sigT (z0u z0f [] 0 l)).length else 0:Nat),AI (z1i z0f l:Nat)]
theorem zuL (l:List Cmd) (hok:∀ c∈l,CmdOk c) (hl:l.length≤40):z0c X zbo [ACs l] h K=K (clkV l) h []:=by
 refine rule ?_
 rw[c_q063 rfl]
 have hk:=fun (h':Heap) (K':Post)=>z4T (h:=h') (K:=K') l hok hl
 unfold clkV
 by_cases h0:z1i z0f l=0
 ·obtain⟨hc,hn,_⟩:=zcD h0
  have hp:=fun (h':Heap) (K':Post)=>zfM (h:=h') (K:=K') l hc (by omega)
  obtain⟨a1,a2,a3,a4,a5⟩:=zi4 zwF (z4w hc) false hn
  simp only[zhL,go_sem,hk,h0,hp,a1,show ((0:Nat):Int)=0 from rfl]
 ·have h0':¬ ((z1i z0f l:Nat):Int)=0:=by omega
  simp only[zhL,go_sem,hk,h0,h0',show ((0:Nat):Int)=0 from rfl]
end Go.Am
end
section
/- Programs written: the program,the reference. -/
open Go
set_option linter.all false
set_option maxRecDepth 100000
namespace Go.Am
variable {h:Heap} {K:Post}
theorem zsl (k:Int) (h1:1≤k) (h2:k≤10):z0c X z8g [AI k] h K=K (AS (z7n k)) h []:=by
 refine rule ?_
 rw[c_q06u rfl]
 have:k=1∨k=2∨k=3∨k=4∨k=5∨k=6∨k=7∨k=8∨k=9∨k=10:=by omega
 have w0:∀ n:Nat,n<10→IntKind.i64.wrap ((n:Int))=(n:Int):=fun n hn=>z0j _ (by omega) (by omega)
 have w00:IntKind.i64.wrap 0=0:=rfl
 have w01:IntKind.i64.wrap 1=1:=rfl
 have w02:IntKind.i64.wrap 2=2:=rfl
 have w03:IntKind.i64.wrap 3=3:=rfl
 have w04:IntKind.i64.wrap 4=4:=rfl
 have w05:IntKind.i64.wrap 5=5:=rfl
 have w06:IntKind.i64.wrap 6=6:=rfl
 have w07:IntKind.i64.wrap 7=7:=rfl
 have w08:IntKind.i64.wrap 8=8:=rfl
 have w09:IntKind.i64.wrap 9=9:=rfl
 rcases this with rfl | rfl | rfl | rfl | rfl | rfl | rfl | rfl | rfl | rfl <;> simp only[zob,go_sem,w00,w01,w02,w03,w04,w05,w06,w07,w08,w09] <;> first | rfl | trivial
theorem zaj (n:Int):z0c X z8f [AI n] h K=K (AS (z2W n)) h []:=by
 refine rule ?_
 rw[c_q06s rfl]
 unfold z2W
 by_cases h0:n=0
 ·subst h0;simp only[zaF,go_sem]
 by_cases h1:n=1
 ·subst h1;simp only[zaF,go_sem]
 by_cases h6:n=6
 ·subst h6;simp only[zaF,go_sem]
 ·simp only[zaF,go_sem,h0,h1,h6]
structure CmdS (c:Cmd):Prop where
 k1:1≤c.k
 k2:c.k≤10
 b:c.b.length≤2000
 w:c.w.length≤2000
 m:c.m.length≤2000
 cl : -1000000000000000000≤c.cl∧c.cl≤1000000000000000000
theorem cmdS {c:Cmd} (hc:cmdF c=0):CmdS c:=by
 cases z1e hc with
 | set h hs e=>rw[e];exact⟨by dsimp only;omega,by dsimp only;omega,Nat.zero_le _,Nat.zero_le _,Nat.zero_le _,by dsimp only;omega⟩
 | go h hs e=>rw[e];exact⟨by dsimp only;omega,by dsimp only;omega,Nat.zero_le _,Nat.zero_le _,Nat.zero_le _,by dsimp only;omega⟩
 | idle h h0 h1 e=>rw[e];exact⟨by dsimp only;omega,by dsimp only;omega,Nat.zero_le _,Nat.zero_le _,Nat.zero_le _,by dsimp only;omega⟩
 | pad h0 h1 hb hl e=>rw[e];exact⟨by dsimp only;omega,by dsimp only;omega,hl,Nat.zero_le _,Nat.zero_le _,by dsimp only;omega⟩
 | scan h hs e=>
  obtain⟨q1,q2,q3,q4,q5,q6⟩:=z1Q hs
  refine⟨by omega,by omega,q3,?_,?_,by rw[e];dsimp only;omega⟩
  ·rcases q6 with ⟨a,b⟩ | ⟨a,b⟩
   ·simp [a]
   ·omega
  ·rcases q6 with ⟨a,b⟩ | ⟨a,b⟩
   ·simp [b]
   ·omega
theorem z5n {n:Int} (h1 : -1000000000000000000≤n) (h2:n≤1000000000000000000):(itoa n).length≤21:=by
 have d:(decN n.natAbs).length≤20:=(zcn 19 n.natAbs (by omega)).2
 unfold itoa
 split
 ·simp;omega
 ·omega
theorem z9z {c:Cmd} (hc:cmdF c=0):(z6p c).length≤6100:=by
 have S:=cmdS hc
 have a:=zar c.k
 have b:=z7D c.s
 have d:=z5n S.cl.1 S.cl.2
 have e1:=S.b;have e2:=S.w;have e3:=S.m
 unfold z6p
 rw[List.length_append,List.length_cons]
 split
 ·omega
 split
 ·omega
 split
 ·simp only[List.length_append,List.length_cons];omega
 split
 ·simp;omega
 ·omega
theorem z5o {l:List Cmd} (h:∀ c∈l,cmdF c=0):(z1C l).length≤l.length*6101:=by
 induction l with
 | nil=>simp [z1C]
 | cons c l ih=>
  have a:=ih (fun d hd=>h d (List.mem_cons_of_mem c hd))
  have b:=z9z (h c (List.mem_cons_self ..))
  have e:z1C (c::l)=z6p c++[10]++z1C l:=rfl
  rw[e,List.length_append,List.length_append,List.length_singleton,List.length_cons]
  omega
theorem z90 {l:List Cmd} {k:Nat} (hk:k<l.length):z1C (l.take (k+1))=z1C (l.take k)++(z6p l[k]++[10]):=by
 unfold z1C
 rw[List.take_succ_eq_append_getElem hk,List.map_append,List.flatten_append]
 simp
set_option maxHeartbeats 4000000 in
theorem s_line (c:Cmd) (hc:cmdF c=0):z0c X zbu [ACm c] h K=K (AS (z6p c)) h []:=by
 refine rule ?_
 rw[c_q06g rfl]
 obtain⟨k1,k2,b1,w1,m1,cl⟩:=cmdS hc
 obtain⟨k,s,cl',b,w,m⟩:=c
 dsimp only at k1 k2 b1 w1 m1 cl
 have fw:=fun (h':Heap) (K':Post)=>zsl (h:=h') (K:=K') k k1 k2
 have fs:=fun (h':Heap) (K':Post)=>zaj (h:=h') (K:=K') s
 have fi:=fun (h':Heap) (K':Post)=>zgL (h:=h') (K:=K') cl' cl.1 cl.2
 have fsc:=fun (h':Heap) (K':Post)=>z2a (h:=h') (K:=K') k
 have a:=zar k
 have a2:=z7D s
 have a3:=z5n cl.1 cl.2
 have mx:1000000≤z0o:=by unfold z0o;omega
 unfold z6p
 dsimp only
 generalize z7n k=W at *
 by_cases hs:k=1∨k=2∨k=10
 ·have l1:W.length+1≤z0o:=by omega
  have l2:W.length+1+(z2W s).length≤z0o:=by omega
  have l3:W.length+((z2W s).length+1)≤z0o:=by omega
  rw[if_pos hs]
  rcases hs with rfl | rfl | rfl <;> simp only[z6c,go_sem,fw,fs,l1,l2,l3,splice,List.length_append,List.length_cons,List.length_nil,Nat.zero_add]
 ·rw[if_neg hs]
  have n1:¬ k=1:=fun e=>hs (.inl e)
  have n2:¬ k=2:=fun e=>hs (.inr (.inl e))
  have n10:¬ k=10:=fun e=>hs (.inr (.inr e))
  have l1:W.length+1≤z0o:=by omega
  by_cases h9:k=9
  ·subst h9
   have l2:W.length+1+(itoa cl').length≤z0o:=by omega
   have l3:W.length+((itoa cl').length+1)≤z0o:=by omega
   simp only[z6c,go_sem,fw,fi,l1,l2,l3,splice,List.length_append,List.length_cons,List.length_nil,Nat.zero_add]
  ·rw[if_neg h9]
   by_cases h78:(k=7∨k=8)∧w≠[]
   ·rw[if_pos h78]
    obtain⟨h7,hw⟩:=h78
    have e2:(decide (k=7)||decide (k=8))=true:=by simpa using h7
    rw[e2] at fsc
    have l2:W.length+1+b.length≤z0o:=by omega
    have l3:W.length+1+b.length+1≤z0o:=by omega
    have l4:W.length+1+b.length+1+w.length≤z0o:=by omega
    have l5:W.length+1+b.length+1+w.length+1≤z0o:=by omega
    have l6:W.length+1+b.length+1+w.length+1+m.length≤z0o:=by omega
    simp only[z6c,go_sem,fw,fsc,n1,n2,n10,h9,hw,l1,splice,List.length_append,List.length_cons,List.length_nil,Nat.zero_add]
    repeat rw[if_pos (by omega)]
    try trivial
   ·rw[if_neg h78]
    by_cases hb:b=[]
    ·subst hb
     rw[if_pos rfl]
     have l2:W.length+1+1≤z0o:=by omega
     by_cases h7:k=7∨k=8
     ·have e2:(decide (k=7)||decide (k=8))=true:=by simpa using h7
      rw[e2] at fsc
      have hw:w=[]:=by simpa [h7] using h78
      simp only[z6c,go_sem,fw,fsc,n1,n2,n10,h9,hw,l1,l2,splice,List.length_append,List.length_cons,List.length_nil,Nat.zero_add]
     ·have e2:(decide (k=7)||decide (k=8))=false:=by simpa using h7
      rw[e2] at fsc
      simp only[z6c,go_sem,fw,fsc,n1,n2,n10,h9,l1,l2,splice,List.length_append,List.length_cons,List.length_nil,Nat.zero_add]
    ·rw[if_neg hb]
     have l2:W.length+1+b.length≤z0o:=by omega
     have l3:W.length+(b.length+1)≤z0o:=by omega
     by_cases h7:k=7∨k=8
     ·have e2:(decide (k=7)||decide (k=8))=true:=by simpa using h7
      rw[e2] at fsc
      have hw:w=[]:=by simpa [h7] using h78
      simp only[z6c,go_sem,fw,fsc,n1,n2,n10,h9,hw,hb,l1,l2,l3,splice,List.length_append,List.length_cons,List.length_nil,Nat.zero_add]
     ·have e2:(decide (k=7)||decide (k=8))=false:=by simpa using h7
      rw[e2] at fsc
      simp only[z6c,go_sem,fw,fsc,n1,n2,n10,h9,hb,l1,l2,l3,splice,List.length_append,List.length_cons,List.length_nil,Nat.zero_add]
end Go.Am
end
section
/- Programs written: the reference. -/
open Go
set_option linter.all false
set_option maxRecDepth 100000
namespace Go.Am
variable {h:Heap} {K:Post}
theorem zfK (c:Cmd):z0c X z4l [ACm c] h K=K (AB (decide (7≤c.k)&&decide (c.k≤8))) h []:=by
 refine rule ?_
 rw[c_q03j rfl]
 simp only[znK,go_sem,s_in,splice]
theorem z5B:z0c X z6j [] h K=K (AStr z3L) h []:=by
 refine rule ?_
 rw[c_q03g rfl]
 simp only[znI,go_sem]
 rfl
theorem z8l:z0c X z7W [] h K=K (.tup [AL z1d,AStr z5d]) h []:=by
 refine rule ?_
 rw[c_q03q rfl]
 simp only[znM,go_sem]
 rfl
theorem zk3 {k:Nat} (hk:k≤10):(z3L.map PV.str)[k]?=some (.str (z7n k)):=by
 have:k=0∨k=1∨k=2∨k=3∨k=4∨k=5∨k=6∨k=7∨k=8∨k=9∨k=10:=by omega
 rcases this with rfl | rfl | rfl | rfl | rfl | rfl | rfl | rfl | rfl | rfl | rfl <;> rfl
theorem zvn {n:Int} (hs:z07 n=true):∃ i:Nat,i<4∧(if z1d.findIdx (fun y=>decide (y=n))<z1d.length then (z1d.findIdx (fun y=>decide (y=n)):Int) else -1)=(i:Int)∧(z5d.map PV.str)[i]?=some (.str (z2W n)):=by
 unfold z07 at hs
 simp only[Bool.or_eq_true,beq_iff_eq] at hs
 rcases hs with ((rfl | rfl) | rfl) | rfl
 ·exact⟨0,by omega,rfl,rfl⟩
 ·exact⟨1,by omega,rfl,rfl⟩
 ·exact⟨2,by omega,rfl,rfl⟩
 ·exact⟨3,by omega,rfl,rfl⟩
set_option maxHeartbeats 4000000 in
theorem zcO (c:Cmd) (hc:cmdF c=0):z0c X zbc [ACm c] h K=K (AS (z6p c)) h []:=by
 refine rule ?_
 rw[c_q03f rfl]
 have S:=cmdS hc
 have hcc:=hc
 obtain⟨k1,k2,b1,w1,m1,cl⟩:=S
 have kinds:=z1e hc
 obtain⟨k,s,cl',b,w,m⟩:=c
 dsimp only at k1 k2 b1 w1 m1 cl
 obtain⟨kn,rfl⟩:∃ kn:Nat,k=kn:=⟨k.toNat,by omega⟩
 have fw:=fun (h':Heap) (K':Post)=>z5B (h:=h') (K:=K')
 have fs:=fun (h':Heap) (K':Post)=>z8l (h:=h') (K:=K')
 have fi:=fun (h':Heap) (K':Post)=>zkl (h:=h') (K:=K') [cl'] (fun n hn=>by rw[List.mem_singleton.1 hn];exact cl) (by simp) (by
  have:=z5n cl.1 cl.2
  simp [zrx];omega)
 have nl:zrx [cl']=itoa cl':=by simp [zrx,List.intercalate]
 rw[nl] at fi
 simp only[AL,List.map_cons,List.map_nil] at fi
 have fsc:=fun (h':Heap) (K':Post)=>zfK (h:=h') (K:=K') ⟨kn,s,cl',b,w,m⟩
 have hg:=zk3 (k:=kn) (by omega)
 have cw:∀ w:List UInt8,cutP none 0 (PV.str w)=some (PV.str w):=fun _=>rfl
 have a:=zar kn
 have a2:=z7D s
 have a3:=z5n cl.1 cl.2
 have mx:1000000≤z0o:=by unfold z0o;omega
 unfold z6p
 dsimp only at fsc ⊢
 generalize z7n (kn:Int)=W at *
 have l1:W.length+1≤z0o:=by omega
 by_cases h78:(kn:Int)=7∨(kn:Int)=8
 ·have e2:(decide (7≤(kn:Int))&&decide ((kn:Int)≤8))=true:=by rw[← Bool.decide_and];exact decide_eq_true (by omega)
  rw[e2] at fsc
  rw[if_neg (by omega),if_neg (by omega)]
  by_cases hw:w=[]
  ·rw[if_neg (fun q=>q.2 hw)]
   have hb:b≠[]:=by
    cases kinds with
    | set h hs e=>dsimp only at h;omega
    | go h hs e=>dsimp only at h;omega
    | idle h h0 h1 e=>dsimp only at h;omega
    | pad h0 h1 hb hl e=>dsimp only at h0 h1;omega
    | scan h hs e=>exact (z1Q hs).1
   rw[if_neg hb]
   have l2:W.length+1+b.length≤z0o:=by omega
   subst hw
   simp only[z7L,go_sem,fw,fs,fsc,hg,cw,l1,l2,splice,List.length_append,List.length_cons,List.length_nil,Nat.zero_add]
  ·rw[if_pos ⟨h78,hw⟩]
   simp only[z7L,go_sem,fw,fs,fsc,hg,cw,hw,l1,splice,List.length_append,List.length_cons,List.length_nil,Nat.zero_add]
   repeat rw[if_pos (by omega)]
   try trivial
 ·have e2:(decide (7≤(kn:Int))&&decide ((kn:Int)≤8))=false:=by rw[← Bool.decide_and];exact decide_eq_false (by omega)
  rw[e2] at fsc
  by_cases h9:(kn:Int)=9
  ·rw[if_neg (by omega),if_pos h9]
   obtain rfl:kn=9:=by omega
   have c9:((9:Nat):Int)=9:=rfl
   rw[c9] at fsc
   have l2:W.length+1+(itoa cl').length≤z0o:=by omega
   simp only[z7L,go_sem,fw,fs,fsc,fi,hg,cw,c9,l1,l2,splice,List.length_append,List.length_cons,List.length_nil,Nat.zero_add]
  ·by_cases h36:3≤(kn:Int)∧(kn:Int)≤6
   ·have e3:(decide (3≤(kn:Int))&&decide ((kn:Int)≤6))=true:=by rw[← Bool.decide_and];exact decide_eq_true h36
    rw[if_neg (by omega),if_neg h9,if_neg (fun q=>h78 q.1)]
    have fin:=fun (h':Heap) (K':Post)=>s_in (h:=h') (K:=K') (kn:Int) 3 6
    rw[e3] at fin
    by_cases hb:b=[]
    ·rw[if_pos hb]
     subst hb
     have l2:W.length+1+1≤z0o:=by omega
     simp only[z7L,go_sem,fw,fs,fsc,fin,hg,cw,h9,l1,l2,splice,List.length_append,List.length_cons,List.length_nil,Nat.zero_add]
    ·rw[if_neg hb]
     have l2:W.length+1+b.length≤z0o:=by omega
     simp only[z7L,go_sem,fw,fs,fsc,fin,hg,cw,h9,hb,l1,l2,splice,List.length_append,List.length_cons,List.length_nil,Nat.zero_add]
   ·have e3:(decide (3≤(kn:Int))&&decide ((kn:Int)≤6))=false:=by rw[← Bool.decide_and];exact decide_eq_false h36
    have fin:=fun (h':Heap) (K':Post)=>s_in (h:=h') (K:=K') (kn:Int) 3 6
    rw[e3] at fin
    rw[if_pos (by omega)]
    have hs:z07 s=true:=by
     cases kinds with
     | set h hs e=>exact hs
     | go h hs e=>exact hs
     | idle h h0 h1 e=>dsimp only at h;omega
     | pad h0 h1 hb hl e=>dsimp only at h0 h1;omega
     | scan h hs e=>dsimp only at h;omega
    obtain⟨i,i4,ei,gi⟩:=zvn hs
    have fx:=fun (h':Heap) (K':Post)=>zv7 (h:=h') (K:=K') (v:=AL z1d) z1d (zcU zsy) s (by decide)
    rw[ei] at fx
    have l2:W.length+1+(z2W s).length≤z0o:=by omega
    simp only[z7L,go_sem,fw,fs,fsc,fin,fx,gi,hg,cw,h9,l1,l2,splice,List.length_append,List.length_cons,List.length_nil,Nat.zero_add]
set_option maxHeartbeats 2000000 in
theorem z5A (l:List Cmd) (hc:∀ c∈l,cmdF c=0) (hl:l.length≤1000):z0c X z7T [ACs l] h K=K (AS (z1C l)) h []:=by
 refine rule ?_
 rw[c_q032 rfl]
 simp only[zh7,go_sem]
 refine z0T (fun k:Nat=>⟨[(3,AS (z1C (l.take k))),(6,ACs l),(7,AI l.length),(8,AI k)],h,[]⟩) (fun k=>k≤l.length) (fun k=>l.length-k) 0 (by simp [z1C]) (by omega) ?_
 intro k hk
 rcases Nat.lt_or_ge k l.length with hlt | hge
 ·have hg:=z1B cmdP hlt
  have w2:IntKind.i64.wrap ((k:Int)+1)=((k+1:Nat):Int):=z0j _ (by omega) (by omega)
  have h0:=hc _ (List.getElem_mem hlt)
  have ft:=fun (h':Heap) (K':Post)=>zcO (h:=h') (K:=K') l[k] h0
  have b1:=z9z h0
  have b2:=z5o (l:=l.take k) (fun c hc'=>hc c (List.mem_of_mem_take hc'))
  rw[List.length_take] at b2
  have b3:min k l.length*6101≤1000*6101:=Nat.mul_le_mul_right _ (by omega)
  have es:=z90 hlt
  have mx:100000000≤z0o:=by unfold z0o;omega
  have m1:(z6p l[k]).length+1≤z0o:=by omega
  generalize z6p l[k]=ln at *
  generalize z1C (l.take k)=acc at *
  simp only[go_sem,hlt,hg,w2,ft,m1,splice,List.length_append,List.length_cons,List.length_nil,Nat.zero_add]
  rw[if_pos (by omega)]
  exact⟨k+1,by rw[es],by omega,by omega⟩
 ·obtain rfl:k=l.length:=by omega
  rw[List.take_length]
  simp only[go_sem,Nat.lt_irrefl,Int.lt_irrefl]
end Go.Am
end
section
/- Programs read: a line,both ways. -/
open Go
set_option linter.all false
set_option maxRecDepth 100000
namespace Go.Am
variable {h:Heap} {K:Post}
theorem zyg {k:Nat} (h1:1≤k) (h2:k≤10) {w:List UInt8} (e:z7n (k:Int)=w):kP w=k:=by
 have:=(zyh (k:=(k:Int)) (by omega) (by omega)).1
 rw[e] at this
 unfold kP
 rw[if_pos (by omega),this]
theorem zyf {w:List UInt8} (hn:∀ j:Nat,1≤j→j≤10→z7n (j:Int)≠w):kP w=0:=by
 unfold kP
 split
 ·rename_i hk
  exfalso
  refine hn (kV w) hk.1 hk.2 ?_
  have hl:kV w<z3L.length:=by show kV w<11;omega
  have:=List.findIdx_getElem (w:=hl)
  have e:z3L[kV w]=w:=of_decide_eq_true this
  unfold z7n
  rw[Int.toNat_natCast,List.getElem?_eq_getElem hl]
  exact e
 ·rfl
theorem zuS (w:List UInt8):z0c X zbt [AS w] h K=K (AI (kP w)) h []:=by
 refine rule ?_
 rw[c_q06f rfl]
 simp only[zhM,go_sem]
 refine z0T (fun k:Nat=>⟨[(0,AS w),(3,AI k)],h,[]⟩) (fun k=>1≤k∧k≤11∧∀ j:Nat,1≤j→j<k→z7n (j:Int)≠w) (fun k=>11-k) 1 rfl ⟨by omega,by omega,fun j a b=>by omega⟩ ?_
 rintro k ⟨k1,k2,hn⟩
 rcases Nat.lt_or_ge k 11 with hlt | hge
 ·have hk:(k:Int)≤10:=by omega
  have w2:IntKind.i64.wrap ((k:Int)+1)=((k+1:Nat):Int):=z0j _ (by omega) (by omega)
  have fw:=fun (h':Heap) (K':Post)=>zsl (h:=h') (K:=K') k (by omega) hk
  by_cases he:z7n (k:Int)=w
  ·rw[zyg k1 (by omega) he]
   simp only[go_sem,hk,fw,he]
  ·simp only[go_sem,hk,fw,he,w2]
   refine⟨k+1,rfl,⟨by omega,by omega,fun j j1 j2=>?_⟩,by omega⟩
   by_cases hj:j=k
   ·subst hj;exact he
   ·exact hn j j1 (by omega)
 ·have hk:¬ (k:Int)≤10:=by omega
  rw[zyf fun j j1 j2=>hn j j1 (by omega)]
  simp only[go_sem,hk]
theorem kP_le (w:List UInt8):0≤kP w∧kP w≤10:=by unfold kP;split <;> omega
theorem z4s {ws:List (List UInt8)} {i:Nat} (hi:i<ws.length):(ws.map PV.str)[i]?=some (.str (wd ws i)):=by
 unfold wd
 rw[List.getElem?_map,List.getElem?_eq_getElem hi]
 rfl
theorem zvt {w:List UInt8} {k:Nat} (hk:k<4) (he:z2W ((z1d[k]?).getD 0)=w):tV w=k:=by
 have:k=0∨k=1∨k=2∨k=3:=by omega
 rcases this with rfl | rfl | rfl | rfl <;> subst he <;> rfl
theorem zku {k:Nat} (hk:k<4):z2W ((z1d[k]?).getD 0)=(z5d[k]?).getD []:=by
 have:k=0∨k=1∨k=2∨k=3:=by omega
 rcases this with rfl | rfl | rfl | rfl <;> rfl
theorem zzs {w:List UInt8} (hn:∀ j:Nat,j<4→z2W ((z1d[j]?).getD 0)≠w):¬ tV w<4:=by
 intro hl
 refine hn (tV w) hl ?_
 have hl':tV w<z5d.length:=hl
 have:=List.findIdx_getElem (w:=hl')
 have e:z5d[tV w]=w:=of_decide_eq_true this
 rw[zku hl,List.getElem?_eq_getElem hl']
 exact e
attribute [-go_sem] z6d z3j
set_option maxHeartbeats 8000000 in
theorem zgO (s:List UInt8) (hs:s.length≤900000):z0c X zbv [AS s] h K=K (.tup [.p (cmdP (rdPC (z0m 32 s)).1),AB (rdPC (z0m 32 s)).2]) h []:=by
 refine rule ?_
 rw[c_q06i rfl]
 have q:=fun h K=>zgN (h:=h) (K:=K) s 32 (by omega)
 have hl:(z0m 32 s).length≤1000000:=by
  rw[z0O]
  have:s.count 32≤s.length:=List.count_le_length
  omega
 have hl1:1≤(z0m 32 s).length:=by rw[z0O];omega
 have wln:(wd (z0m 32 s) 1).length≤900000:=by
  unfold wd
  cases hx:(z0m 32 s)[1]? with
  | none=>simp
  | some x=>have:=z1X (List.mem_of_getElem? hx);simp only[Option.getD_some];omega
 generalize z0m 32 s=ws at *
 have qc:=fun h K=>zdf (h:=h) (K:=K) ws (fun h' _=>strS _) [] hl
 have cw:∀ w:List UInt8,cutP none 0 (PV.str w)=some (PV.str w):=fun _=>rfl
 have g0:=z4s (ws:=ws) (i:=0) (by omega)
 have qk:=fun h K=>zuS (h:=h) (K:=K) (wd ws 0)
 unfold rdPC
 by_cases hc:ws.contains []=true
 ·rw[hc] at qc
  rw[if_pos hc]
  simp only[z2w,go_sem,↓q,q,↓qc,qc,splice,cmd0]
 ·have hc':ws.contains []=false:=by simpa using hc
  rw[hc'] at qc
  rw[if_neg hc]
  obtain⟨kb1,kb2⟩:=kP_le (wd ws 0)
  generalize kP (wd ws 0)=kd at *
  have qs:=fun h K=>z2a (h:=h) (K:=K) kd
  by_cases h78:kd=7∨kd=8
  ·have e2:(decide (kd=7)||decide (kd=8))=true:=by simpa using h78
   rw[e2] at qs
   have n0:¬ kd=0:=by omega
   by_cases h4:ws.length=4
   ·have h4':(ws.length:Int)=4:=by omega
    have b1:1<ws.length:=by omega
    have b2:2<ws.length:=by omega
    have b3:3<ws.length:=by omega
    have g1:=z4s b1
    have g2:=z4s b2
    have g3:=z4s b3
    rw[if_pos ⟨h78,h4⟩]
    simp only[z2w,go_sem,↓q,q,↓qc,qc,↓qk,qk,↓qs,qs,g0,g1,g2,g3,cw,hl1,b1,b2,b3,h4',splice]
   ·have h4':¬ (ws.length:Int)=4:=by omega
    rw[if_neg (fun z=>h4 z.2)]
    by_cases h2:ws.length=2
    ·have h2':(ws.length:Int)=2:=by omega
     have b1:1<ws.length:=by omega
     have g1:=z4s b1
     rw[if_neg (by rintro (h | h);exact n0 h;exact h h2),if_neg (by omega),if_neg (by omega),if_pos (.inl h78)]
     have m1:¬ kd=1:=by omega
     have m2:¬ kd=2:=by omega
     have m10:¬ kd=10:=by omega
     have m9:¬ kd=9:=by omega
     simp only[z2w,z3j,go_sem,↓q,q,↓qc,qc,↓qk,qk,↓qs,qs,g0,g1,cw,hl1,b1,h2',n0,m1,m2,m9,m10,splice]
    ·have h2':¬ (ws.length:Int)=2:=by omega
     rw[if_pos (.inr h2)]
     simp only[z2w,go_sem,↓q,q,↓qc,qc,↓qk,qk,↓qs,qs,g0,cw,hl1,h4',h2',n0,splice,cmd0]
  ·have e2:(decide (kd=7)||decide (kd=8))=false:=by simpa using h78
   rw[e2] at qs
   rw[if_neg (fun z=>h78 z.1)]
   by_cases n0:kd=0
   ·subst n0
    rw[if_pos (.inl rfl)]
    simp only[z2w,go_sem,↓q,q,↓qc,qc,↓qk,qk,↓qs,qs,g0,cw,hl1,splice,cmd0]
   by_cases h2:ws.length=2
   ·have h2':(ws.length:Int)=2:=by omega
    have b1:1<ws.length:=by omega
    have g1:=z4s b1
    rw[if_neg (by rintro (h | h);exact n0 h;exact h h2)]
    by_cases hst:kd=1∨kd=2∨kd=10
    ·rw[if_pos hst]
     have fin:∀ kd:Int,(kd=1∨kd=2∨kd=10)→z0Z (z0c X) X.gl z28 (z0s 1 (seqN (z0c X) X.gl z4K (z0s 0 (seqN (z0c X) X.gl z4L (finR [.cell 2 (some 6),.t 3] false h.length fun v1 h1 x1=>v1 = .tup [.p (cmdP (if tV (wd ws 1)<4 then ((⟨kd,stT (wd ws 1),0,[],[],[]⟩:Cmd),true) else (cmd0,false)).1),AB (if tV (wd ws 1)<4 then ((⟨kd,stT (wd ws 1),0,[],[],[]⟩:Cmd),true) else (cmd0,false)).2]∧h1=h∧x1=[])))))
      [(2,.ref h.length 0),(4,AStr ws),(5,.ref (h.length+1) 0),(64,AL z1d),(65,AI 4),(66,AI 0)] (h++[.box [AI 0,AI 0,AI 0,AS [],AS [],AS []],.box [AI kd,AI 0,AI 0,AS [],AS [],AS []]]) []:=by
      intro kd hkd
      refine z0T (fun k:Nat=>⟨[(2,.ref h.length 0),(4,AStr ws),(5,.ref (h.length+1) 0),(64,AL z1d),(65,AI 4),(66,AI k)],h++[.box [AI 0,AI 0,AI 0,AS [],AS [],AS []],.box [AI kd,AI 0,AI 0,AS [],AS [],AS []]],[]⟩) (fun k=>k≤4∧∀ j:Nat,j<k→z2W ((z1d[j]?).getD 0)≠wd ws 1) (fun k=>4-k) 0 rfl ⟨by omega,fun j hj=>by omega⟩ ?_
      rintro k ⟨hk,hn⟩
      rcases Nat.lt_or_ge k 4 with hlt | hge
      ·have hk4:(k:Int)<4:=by omega
       have hgs:(z1d.map eI)[k]?=some (eI ((z1d[k]?).getD 0)):=by
        have:k=0∨k=1∨k=2∨k=3:=by omega
        rcases this with rfl | rfl | rfl | rfl <;> rfl
       have hkl:k<z1d.length:=hlt
       have w2:IntKind.i64.wrap ((k:Int)+1)=((k+1:Nat):Int):=z0j _ (by omega) (by omega)
       have fs:=fun (h':Heap) (K':Post)=>zaj (h:=h') (K:=K') ((z1d[k]?).getD 0)
       by_cases he:z2W ((z1d[k]?).getD 0)=wd ws 1
       ·have et:=zvt hlt he
        have es:stT (wd ws 1)=(z1d[k]?).getD 0:=by unfold stT;rw[et]
        rw[if_pos (by omega),es]
        simp only[go_sem,hk4,hgs,hkl,fs,b1,g1,cw,he,splice]
       ·simp only[go_sem,hk4,hgs,hkl,fs,b1,g1,cw,he,w2]
        refine⟨k+1,rfl,⟨by omega,fun j hj=>?_⟩,by omega⟩
        by_cases hjk:j=k
        ·subst hjk;exact he
        ·exact hn j (by omega)
      ·obtain rfl:k=4:=by omega
       rw[if_neg (zzs hn)]
       have hk4:¬ ((4:Nat):Int)<4:=by omega
       simp only[go_sem,hk4,z6d,splice,cmd0]
     have f1:=fin kd hst
     rcases hst with rfl | rfl | rfl
     ·simp only[z2w,go_sem,↓q,q,↓qc,qc,↓qk,qk,↓qs,qs,g0,cw,hl1,h2',splice]
      exact f1
     ·simp only[z2w,go_sem,↓q,q,↓qc,qc,↓qk,qk,↓qs,qs,g0,cw,hl1,h2',splice]
      exact f1
     ·simp only[z2w,go_sem,↓q,q,↓qc,qc,↓qk,qk,↓qs,qs,g0,cw,hl1,h2',splice]
      exact f1
    ·rw[if_neg hst]
     have m1:¬ kd=1:=fun e=>hst (.inl e)
     have m2:¬ kd=2:=fun e=>hst (.inr (.inl e))
     have m10:¬ kd=10:=fun e=>hst (.inr (.inr e))
     by_cases h9:kd=9
     ·subst h9
      rw[if_pos rfl]
      have qn:=fun h K=>zsg (h:=h) (K:=K) (wd ws 1) 15 (by omega) (by omega)
      have e15:((15:Nat):Int)=15:=rfl
      rw[e15] at qn
      simp only[z2w,go_sem,↓q,q,↓qc,qc,↓qk,qk,↓qs,qs,g0,g1,cw,hl1,b1,h2',↓qn,qn,splice]
     ·rw[if_neg h9]
      by_cases h45:wd ws 1=[45]
      ·rw[if_neg (by rintro (h | h);exact h78 h;exact h h45)]
       simp only[z2w,z3j,go_sem,↓q,q,↓qc,qc,↓qk,qk,↓qs,qs,g0,g1,cw,hl1,b1,h2',n0,m1,m2,m10,h9,h45,splice]
      ·rw[if_pos (.inr h45)]
       simp only[z2w,z3j,go_sem,↓q,q,↓qc,qc,↓qk,qk,↓qs,qs,g0,g1,cw,hl1,b1,h2',n0,m1,m2,m10,h9,h45,splice]
   ·have h2':¬ (ws.length:Int)=2:=by omega
    rw[if_pos (.inr h2)]
    simp only[z2w,go_sem,↓q,q,↓qc,qc,↓qk,qk,↓qs,qs,g0,cw,hl1,h2',n0,splice,cmd0]
end Go.Am
end
section
/- Programs read: a line,the reference. -/
open Go
set_option linter.all false
set_option maxRecDepth 100000
namespace Go.Am
variable {h:Heap} {K:Post}
theorem kQ_bd (w:List UInt8) : -1≤kQ w∧kQ w≤10:=by unfold kQ;split <;> omega
theorem idx_kQ (w:List UInt8):(if z3L.findIdx (fun y=>decide (y=w))<z3L.length then (z3L.findIdx (fun y=>decide (y=w)):Int) else -1)=kQ w:=rfl
theorem idx_tV (w:List UInt8):(if z5d.findIdx (fun y=>decide (y=w))<z5d.length then (z5d.findIdx (fun y=>decide (y=w)):Int) else -1)=if tV w<4 then (tV w:Int) else -1:=rfl
theorem zzi {w:List UInt8} (hl:tV w<4):(z1d.map eI)[tV w]?=some (eI (stT w)):=by
 unfold stT
 rw[List.getElem?_map]
 have hl':tV w<z1d.length:=hl
 rw[List.getElem?_eq_getElem hl']
 rfl
attribute [-go_sem] z1N
set_option maxHeartbeats 8000000 in
theorem zgP (s:List UInt8) (hs:s.length≤900000):z0c X zbb [AS s] h K=K (.tup [.p (cmdP (rdQC (z0m 32 s)).1),AB (rdQC (z0m 32 s)).2]) h []:=by
 refine rule ?_
 rw[c_q03e rfl]
 have q:=fun h K=>zuR (h:=h) (K:=K) s hs
 have hl1:1≤(z0m 32 s).length:=by rw[z0O];omega
 have wln:(wd (z0m 32 s) 1).length≤900000:=by
  unfold wd
  cases hx:(z0m 32 s)[1]? with
  | none=>simp
  | some x=>have:=z1X (List.mem_of_getElem? hx);simp only[Option.getD_some];omega
 unfold zwQ at q
 generalize z0m 32 s=ws at *
 have cw:∀ w:List UInt8,cutP none 0 (PV.str w)=some (PV.str w):=fun _=>rfl
 have g0:=z4s (ws:=ws) (i:=0) (by omega)
 have fw:=fun (h':Heap) (K':Post)=>z5B (h:=h') (K:=K')
 have fx:=fun (h':Heap) (K':Post)=>zlo (h:=h') (K:=K') z3L (strS z3L) (wd ws 0) (by decide)
 rw[idx_kQ] at fx
 have fst':=fun (h':Heap) (K':Post)=>z8l (h:=h') (K:=K')
 unfold rdQC
 obtain⟨kb1,kb2⟩:=kQ_bd (wd ws 0)
 generalize kQ (wd ws 0)=kd at *
 have qs:=fun h K=>zfK (h:=h) (K:=K) ⟨kd,0,0,[],[],[]⟩
 have qi:=fun h K=>s_in (h:=h) (K:=K) kd 3 6
 dsimp only at qs
 cases hc:ws.contains [] with
 | true=>
  rw[hc] at q
  rw[if_pos (.inl rfl)]
  simp only[z2M,go_sem,↓q,q,Bool.not_true,↓fw,fw,↓fx,fx,g0,cw,hl1,splice]
 | false=>
  rw[hc] at q
  by_cases hk:kd<1
  ·rw[if_pos (.inr hk)]
   simp only[z2M,go_sem,↓q,q,Bool.not_false,↓fw,fw,↓fx,fx,g0,cw,hl1,hk,splice]
  ·rw[if_neg (by rintro (h | h);cases h;exact hk h)]
   by_cases h78:kd=7∨kd=8
   ·have e2:(decide (7≤kd)&&decide (kd≤8))=true:=by rw[← Bool.decide_and];exact decide_eq_true (by omega)
    rw[e2] at qs
    by_cases h4:ws.length=4
    ·have h4':(ws.length:Int)=4:=by omega
     have b1:1<ws.length:=by omega
     have b2:2<ws.length:=by omega
     have b3:3<ws.length:=by omega
     have g1:=z4s b1
     have g2:=z4s b2
     have g3:=z4s b3
     rw[if_pos ⟨h78,h4⟩]
     simp only[z2M,go_sem,↓q,q,Bool.not_false,↓fw,fw,↓fx,fx,↓qs,qs,g0,g1,g2,g3,cw,hl1,b1,b2,b3,h4',hk,splice]
    ·have h4':¬ (ws.length:Int)=4:=by omega
     rw[if_neg (fun z=>h4 z.2)]
     by_cases h2:ws.length=2
     ·have h2':(ws.length:Int)=2:=by omega
      have b1:1<ws.length:=by omega
      have g1:=z4s b1
      rw[if_neg (fun z=>z h2),if_pos h78]
      simp only[z2M,z1N,go_sem,↓q,q,Bool.not_false,↓fw,fw,↓fx,fx,↓qs,qs,↓fst',fst',g0,g1,cw,hl1,b1,h2',hk,splice]
     ·have h2':¬ (ws.length:Int)=2:=by omega
      rw[if_pos h2]
      simp only[z2M,go_sem,↓q,q,Bool.not_false,↓fw,fw,↓fx,fx,↓qs,qs,g0,cw,hl1,h4',h2',hk,splice]
   ·have e2:(decide (7≤kd)&&decide (kd≤8))=false:=by rw[← Bool.decide_and];exact decide_eq_false (by omega)
    rw[e2] at qs
    rw[if_neg (fun z=>h78 z.1)]
    by_cases h2:ws.length=2
    ·have h2':(ws.length:Int)=2:=by omega
     have b1:1<ws.length:=by omega
     have g1:=z4s b1
     rw[if_neg (fun z=>z h2),if_neg h78]
     by_cases h9:kd=9
     ·subst h9
      rw[if_pos rfl]
      have qn:=fun h K=>zsh (h:=h) (K:=K) (wd ws 1) 15 (by omega) (by omega)
      have e15:((15:Nat):Int)=15:=rfl
      rw[e15] at qn
      simp only[z2M,z1N,go_sem,↓q,q,Bool.not_false,↓fw,fw,↓fx,fx,↓qs,qs,↓fst',fst',↓qn,qn,g0,g1,cw,hl1,b1,h2',splice]
     ·rw[if_neg h9]
      by_cases h36:3≤kd∧kd≤6
      ·have e3:(decide (3≤kd)&&decide (kd≤6))=true:=by rw[← Bool.decide_and];exact decide_eq_true h36
       rw[e3] at qi
       rw[if_pos h36]
       by_cases h45:wd ws 1=[45]
       ·rw[if_pos h45]
        simp only[z2M,z1N,go_sem,↓q,q,Bool.not_false,↓fw,fw,↓fx,fx,↓qs,qs,↓fst',fst',↓qi,qi,g0,g1,cw,hl1,b1,h2',h9,hk,h45,splice]
       ·rw[if_neg h45]
        simp only[z2M,z1N,go_sem,↓q,q,Bool.not_false,↓fw,fw,↓fx,fx,↓qs,qs,↓fst',fst',↓qi,qi,g0,g1,cw,hl1,b1,h2',h9,hk,h45,splice]
      ·have e3:(decide (3≤kd)&&decide (kd≤6))=false:=by rw[← Bool.decide_and];exact decide_eq_false h36
       rw[e3] at qi
       rw[if_neg h36]
       have ft:=fun (h':Heap) (K':Post)=>zlo (h:=h') (K:=K') z5d (strS z5d) (wd ws 1) (by decide)
       rw[idx_tV] at ft
       by_cases ht:tV (wd ws 1)<4
       ·rw[if_pos ht] at ft
        rw[if_pos ht]
        have gs:=zzi ht
        have hsl:tV (wd ws 1)<z1d.length:=ht
        have hn:¬ ((tV (wd ws 1):Nat):Int)<0:=by omega
        simp only[z2M,z1N,go_sem,↓q,q,Bool.not_false,↓fw,fw,↓fx,fx,↓qs,qs,↓fst',fst',↓qi,qi,↓ft,ft,g0,g1,gs,hsl,cw,hl1,b1,h2',h9,hk,hn,splice]
       ·rw[if_neg ht] at ft
        rw[if_neg ht]
        simp only[z2M,z1N,go_sem,↓q,q,Bool.not_false,↓fw,fw,↓fx,fx,↓qs,qs,↓fst',fst',↓qi,qi,↓ft,ft,g0,g1,cw,hl1,b1,h2',h9,hk,splice]
    ·have h2':¬ (ws.length:Int)=2:=by omega
     rw[if_pos h2]
     simp only[z2M,go_sem,↓q,q,Bool.not_false,↓fw,fw,↓fx,fx,↓qs,qs,g0,cw,hl1,h2',hk,splice]
end Go.Am
end
section
/- A text taken line by line: base.Each,scanref2.Lines. -/
open Go
set_option linter.all false
namespace Go.Am
variable {h:Heap} {K:Post}
attribute [-go_sem] z9i
theorem z5p (s:List UInt8):(zfm s=true∧z1r s=lnsD s∧lnsT s=false)∨(zfm s=false∧(∃ t,z1r s=lnsD s++[t])∧lnsT s=true):=by
 by_cases h0:s=[]
 ·subst h0
  exact .inl ⟨rfl,rfl,rfl⟩
 ·by_cases h1:s.getLast?=some 10
  ·left
   obtain⟨e1,e2⟩:=zjX h1
   refine⟨by simp [zfm,z3m,h1],?_,e2⟩
   unfold z1r z3e z3m
   rw[if_neg h0,if_pos (by simpa using h1),e1]
  ·right
   obtain⟨t,e1,e2⟩:=zrl h0 h1
   refine⟨by simp [zfm,z3m,h0,h1],⟨t,?_⟩,e2⟩
   unfold z1r z3e z3m
   rw[if_neg h0,if_neg (by simpa using h1),e1]
theorem z6r {s l:List UInt8} (h:l∈lnsD s):l.length≤s.length:=z1X (List.dropLast_subset _ h)
theorem z6q (s:List UInt8):(lnsD s).length≤s.length:=by
 unfold lnsD
 rw[List.length_dropLast,z0O]
 have:s.count 10≤s.length:=List.count_le_length
 omega
theorem s_Each {σ:Type} (c:Nat) (caps:List AV) (take:σ→List UInt8→Bool × σ) (H:σ→Heap) (I:Nat→σ→Prop) (s:List UInt8) (hs:s.length≤900000) (n:Nat) (hn:∀ t,(H t).length=n)
 (hc:∀ (k:Nat) (t:σ) (l:List UInt8) (K:Post),I k t→k≤900000→l.length≤s.length→z0c X c (AS l::caps) (H t) K=K (AB (take t l).1) (H (take t l).2) [])
 (hI:∀ (k:Nat) (t:σ) (l:List UInt8),I k t→l.length≤s.length→(take t l).1=true→I (k+1) (take t l).2) (t0:σ) (h0:I 0 t0) {K:Post} :
 z0c X zaH [AS s,.fn c caps] (H t0) K=K (.tup [AI (lnsF take (lnsT s) 0 (lnsD s) t0).1.1,AB (lnsF take (lnsT s) 0 (lnsD s) t0).1.2]) (H (lnsF take (lnsT s) 0 (lnsD s) t0).2) []:=by
 refine rule ?_
 rw[c_q001 rfl]
 have q:=fun h K=>zyP (h:=h) (K:=K) s (by omega)
 have hD:=z6q s
 simp only[zho,go_sem,↓q,q]
 have hT:∀ t,List.take (List.length (H t0)) (H t)=H t:=fun t=>List.take_of_length_le (by rw[hn,hn];exact Nat.le_refl _)
 have hLl:(z1r s).length≤(lnsD s).length+1∧(lnsD s).length≤(z1r s).length:=by
  rcases z5p s with ⟨e1,e2,e3⟩ | ⟨e1,⟨t,e2⟩,e3⟩ <;> rw[e2] <;> simp
 refine z0T (fun y:Nat × σ=>⟨[(1,.fn c caps),(6,AStr (z1r s)),(7,AB (zfm s)),(15,AStr (z1r s)),(16,AI (z1r s).length),(17,AI y.1)],H y.2,[]⟩) (fun y=>I y.1 y.2∧y.1≤(lnsD s).length∧lnsF take (lnsT s) 0 (lnsD s) t0=lnsF take (lnsT s) y.1 ((lnsD s).drop y.1) y.2) (fun y=>(lnsD s).length-y.1) (0,t0) (by simp) ⟨h0,by omega,rfl⟩ ?_
 rintro⟨k,t⟩ ⟨hi,hk,hF⟩
 dsimp only at hi hk hF ⊢
 rw[hF]
 rcases Nat.lt_or_ge k (lnsD s).length with hlt | hge
 ·have hL:k<(z1r s).length:=by omega
  have hg:(z1r s)[k]=(lnsD s)[k]:=by
   rcases z5p s with ⟨e1,e2,e3⟩ | ⟨e1,⟨t,e2⟩,e3⟩
   ·simp only[e2]
   ·simp only[e2]
    rw[List.getElem_append_left hlt]
  have hL':(k:Int)<((z1r s).length:Int):=by omega
  have hgm:=z1B PV.str hL
  rw[hg] at hgm
  have cz:cutP none 0 (PV.str (lnsD s)[k])=some (PV.str (lnsD s)[k]):=rfl
  have hll:((lnsD s)[k]).length≤s.length:=z6r (List.getElem_mem hlt)
  have wk:IntKind.i64.wrap ((k:Int)+1)=((k+1:Nat):Int):=z0j _ (by omega) (by omega)
  have wl:IntKind.i64.wrap (((z1r s).length:Int)-1)=(((z1r s).length-1:Nat):Int):=by rw[z0j _ (by omega) (by omega)];omega
  have hq:=fun K=>hc k t (lnsD s)[k] K hi (by omega) hll
  rw[List.drop_eq_getElem_cons hlt,z48]
  rcases z5p s with ⟨e1,e2,e3⟩ | ⟨e1,⟨t1,e2⟩,e3⟩
  ·cases hb:(take t (lnsD s)[k]).1 with
   | true=>
    rw[hb] at hq
    simp only[go_sem,hL',hL,hgm,cz,e1,↓hq,hq,wk,cond_true]
    exact⟨(k+1,(take t (lnsD s)[k]).2),rfl,⟨hI k t _ hi hll hb,by omega,rfl⟩,by simp;omega⟩
   | false=>
    rw[hb] at hq
    simp only[go_sem,hL',hL,hgm,cz,e1,↓hq,hq,wk,cond_false,hT]
  ·have hne:¬ (k:Int)=(((z1r s).length-1:Nat):Int):=by
    rw[e2];simp;omega
   cases hb:(take t (lnsD s)[k]).1 with
   | true=>
    rw[hb] at hq
    simp only[go_sem,hL',hL,hgm,cz,e1,wl,hne,↓hq,hq,wk,cond_true]
    exact⟨(k+1,(take t (lnsD s)[k]).2),rfl,⟨hI k t _ hi hll hb,by omega,rfl⟩,by simp;omega⟩
   | false=>
    rw[hb] at hq
    simp only[go_sem,hL',hL,hgm,cz,e1,wl,hne,↓hq,hq,wk,cond_false,hT]
 ·have hk':k=(lnsD s).length:=by omega
  subst hk'
  rw[List.drop_length,z6s]
  rcases z5p s with ⟨e1,e2,e3⟩ | ⟨e1,⟨t1,e2⟩,e3⟩
  ·have hL':¬ ((lnsD s).length:Int)<((z1r s).length:Int):=by rw[e2];omega
   have hL:¬ (lnsD s).length<(z1r s).length:=by rw[e2];omega
   simp only[go_sem,hL',hL,decide_false,e3,cond_false]
   rw[z9i]
   simp only[z8M,go_sem,hT]
  ·have hL:(lnsD s).length<(z1r s).length:=by rw[e2];simp
   have hL':((lnsD s).length:Int)<((z1r s).length:Int):=by omega
   have hgm:=z1B PV.str hL
   have cz:cutP none 0 (PV.str (z1r s)[(lnsD s).length])=some (PV.str (z1r s)[(lnsD s).length]):=rfl
   have wl:IntKind.i64.wrap (((z1r s).length:Int)-1)=((lnsD s).length:Int):=by rw[z0j _ (by omega) (by omega),e2];simp
   simp only[go_sem,hL',hL,hgm,cz,e1,wl,e3,cond_true,hT]
theorem s_CutC (a b:List UInt8) (c:UInt8) (ha:c∉a) (hs:(a++c::b).length≤1000000):z0c X z9r [AS (a++c::b),AS [c]] h K=K (.tup [AS a,AS b,AB true]) h []:=by
 have key:∀ (h:Heap) (K:Post),z0c X z9m [AS (a++c::b),AS [c]] h K=K (.tup [AS a,AS b,AB true]) h []:=by
  intro h K
  refine rule ?_
  rw[zws rfl]
  have q:=fun h K=>z77 (h:=h) (K:=K) (a++c::b) c hs
  rw[zqy a b c ha] at q
  have W1:win (a++c::b) 0 a.length=a:=by unfold win;simp
  have W2:win (a++c::b) (a.length+1) (a.length+(b.length+1)-(a.length+1))=b:=by unfold win;rw[show a++c::b=(a++[c])++b by simp,List.drop_left' (by simp)];exact List.take_of_length_le (by omega)
  have hp:¬ (a.length:Int)<0:=by omega
  have hp2:(0:Int)≤a.length:=by omega
  have hl:a.length≤(a++c::b).length:=by simp
  have hl2:a.length+1≤(a++c::b).length:=by simp
  have w:IntKind.i64.wrap ((a.length:Int)+1)=((a.length+1:Nat):Int):=z0j _ (by simp at hs;omega) (by simp at hs;omega)
  simp only[zhq,go_sem,↓q,q,hp,hp2,hl,hl2,w,W1,W2,List.length_cons,List.length_nil]
 refine rule ?_
 rw[zwv rfl]
 simp only[zhI,go_sem,↓key,key]
theorem zyO (s:List UInt8) (c:UInt8) (ha:c∉s) (hs:s.length≤1000000):z0c X z9r [AS s,AS [c]] h K=K (.tup [AS s,AS [],AB false]) h []:=by
 have key:∀ (h:Heap) (K:Post),z0c X z9m [AS s,AS [c]] h K=K (.tup [AS s,AS [],AB false]) h []:=by
  intro h K
  refine rule ?_
  rw[zws rfl]
  have q:=fun h K=>z77 (h:=h) (K:=K) s c hs
  rw[zxV ha] at q
  have hp:¬ (0:Int) ≤ -1:=by omega
  simp only[zhq,go_sem,↓q,q,hp]
 refine rule ?_
 rw[zwv rfl]
 simp only[zhI,go_sem,↓key,key]
theorem z2q (s:List UInt8):(lnsD s).length=s.count 10:=by
 unfold lnsD
 rw[List.length_dropLast,z0O]
 omega
theorem zyK {s:List UInt8} {k:Nat} (h:k<(lnsD s).length):∃ b,z16 10 k s=(lnsD s)[k]++10::b∧(10:UInt8)∉(lnsD s)[k]∧z16 10 (k+1) s=b:=by
 have hk:k<s.count 10:=by rw[← z2q];exact h
 obtain⟨h1,h2,h3⟩:=z3G 10 k s (by omega)
 obtain⟨a,b,e,ha⟩:=zn4 (c:=10) (s:=z16 10 k s) (List.count_pos_iff.1 (by omega))
 rw[e,z5t ha] at h1
 have hl:k<(z0m 10 s).length:=by rw[z0O];omega
 rw[List.drop_eq_getElem_cons hl] at h1
 injection h1 with h1 h4
 have e2:(lnsD s)[k]=a:=by
  rw[h1]
  exact List.getElem_dropLast h
 refine⟨b,by rw[e2];exact e,by rw[e2];exact ha,?_⟩
 rw[z9Z,e]
 exact zxL ha
theorem zuF (s:List UInt8):(10:UInt8)∉z16 10 (lnsD s).length s∧lnsT s = !(z16 10 (lnsD s).length s).isEmpty:=by
 obtain⟨h1,h2,h3⟩:=z3G 10 (lnsD s).length s (by rw[z2q];exact Nat.le_refl _)
 rw[z2q,Nat.sub_self] at h3
 have hn:(10:UInt8)∉z16 10 (lnsD s).length s:=by rw[z2q];exact List.count_eq_zero.1 h3
 refine⟨hn,?_⟩
 rw[z5O hn] at h1
 unfold lnsT
 have:(z0m 10 s).getLast?=some (z16 10 (lnsD s).length s):=by
  have hl:(lnsD s).length<(z0m 10 s).length:=by rw[z0O,z2q];omega
  have:=List.getLast?_drop (l:=z0m 10 s) (i:=(lnsD s).length)
  rw[if_neg (by omega),← h1] at this
  simpa using this.symm
 rw[this]
 rfl
attribute [-go_sem] z9j
theorem zuO {σ:Type} (c:Nat) (caps:List AV) (take:σ→List UInt8→Bool × σ) (H:σ→Heap) (I:Nat→σ→Prop) (s:List UInt8) (hs:s.length≤900000) (n:Nat) (hn:∀ t,(H t).length=n)
 (hc:∀ (k:Nat) (t:σ) (l:List UInt8) (K:Post),I k t→k≤900000→l.length≤s.length→z0c X c (AS l::caps) (H t) K=K (AB (take t l).1) (H (take t l).2) [])
 (hI:∀ (k:Nat) (t:σ) (l:List UInt8),I k t→l.length≤s.length→(take t l).1=true→I (k+1) (take t l).2) (t0:σ) (h0:I 0 t0) {K:Post} :
 z0c X zaW [AS s,.fn c caps] (H t0) K=K (.tup [AI (lnsF take (lnsT s) 0 (lnsD s) t0).1.1,AB (lnsF take (lnsT s) 0 (lnsD s) t0).1.2]) (H (lnsF take (lnsT s) 0 (lnsD s) t0).2) []:=by
 refine rule ?_
 rw[c_q036 rfl]
 have hD:=z6q s
 have hT:∀ t,List.take (List.length (H t0)) (H t)=H t:=fun t=>List.take_of_length_le (by rw[hn,hn];exact Nat.le_refl _)
 simp only[zh8,go_sem]
 refine z0T (fun y:Nat × σ=>⟨[(0,AS (z16 10 y.1 s)),(1,.fn c caps),(6,AI y.1)],H y.2,[]⟩) (fun y=>I y.1 y.2∧y.1≤(lnsD s).length∧lnsF take (lnsT s) 0 (lnsD s) t0=lnsF take (lnsT s) y.1 ((lnsD s).drop y.1) y.2) (fun y=>(lnsD s).length-y.1) (0,t0) (by simp [z16]) ⟨h0,by omega,rfl⟩ ?_
 rintro⟨k,t⟩ ⟨hi,hk,hF⟩
 dsimp only at hi hk hF ⊢
 rw[hF]
 have hr:=(z3G 10 k s (by rw[← z2q];exact hk)).2.1
 rcases Nat.lt_or_ge k (lnsD s).length with hlt | hge
 ·obtain⟨b,e,hne,e2⟩:=zyK hlt
  rw[e] at hr
  have hcut:=fun h K=>s_CutC (h:=h) (K:=K) _ b 10 hne (by omega)
  rw[← e] at hcut
  have h0:¬ z16 10 k s=[]:=by rw[e];simp
  have hll:((lnsD s)[k]).length≤s.length:=z6r (List.getElem_mem hlt)
  have wk:IntKind.i64.wrap ((k:Int)+1)=((k+1:Nat):Int):=z0j _ (by omega) (by omega)
  have hq:=fun K=>hc k t (lnsD s)[k] K hi (by omega) hll
  rw[List.drop_eq_getElem_cons hlt,z48]
  cases hb:(take t (lnsD s)[k]).1 with
  | true=>
   rw[hb] at hq
   simp only[go_sem,h0,↓hcut,hcut,↓hq,hq,wk,cond_true]
   exact⟨(k+1,(take t (lnsD s)[k]).2),by simp only[e2],⟨hI k t _ hi hll hb,by omega,rfl⟩,by simp;omega⟩
  | false=>
   rw[hb] at hq
   simp only[go_sem,h0,↓hcut,hcut,↓hq,hq,wk,cond_false,hT]
 ·have hk':k=(lnsD s).length:=by omega
  subst hk'
  rw[List.drop_length,z6s]
  obtain⟨r1,r2⟩:=zuF s
  by_cases h0:z16 10 (lnsD s).length s=[]
  ·rw[h0] at r2
   simp only[go_sem,h0,r2,List.isEmpty_nil,Bool.not_true,cond_false]
   rw[z9j]
   simp only[z8V,go_sem,hT]
  ·have hcut:=fun h K=>zyO (h:=h) (K:=K) _ 10 r1 (by omega)
   have r3:lnsT s=true:=by rw[r2];cases hq:z16 10 (lnsD s).length s with | nil=>exact absurd hq h0 | cons a b=>rfl
   simp only[go_sem,h0,r3,↓hcut,hcut,cond_true,hT]
end Go.Am
end
section
/- Faults read. -/
open Go
set_option linter.all false
namespace Go.Am
variable {h:Heap} {K:Post}
end Go.Am
end
section
/- Lists of faults read. -/
open Go
set_option linter.all false
namespace Go.Am
variable {h:Heap} {K:Post}
end Go.Am
end
section
/- fault.Read,scanref2.FaultsRead. -/
open Go
set_option linter.all false
namespace Go.Am
variable {h:Heap} {K:Post}
theorem frzA {h:Heap} {sh:Sh} {xs:List PV} {o:Obj} {k:Nat}:frz (h++[.row sh xs 0,o]) h.length k=h++[.row sh xs k,o]:=by
 unfold frz
 rw[List.getElem?_append_right (Nat.le_refl _),Nat.sub_self]
 simp
end Go.Am
end
section
/- A text changed at random. -/
open Go
set_option linter.all false
namespace Go.Am
variable {L:List Int} {a:Int} {h l:Heap} {id:Nat} {K:Post}
theorem zsJ {α:Type} (xs:List α) (a n:Nat):(win xs a n).length≤n:=by simp [win];omega
theorem zqn (t w:List UInt8) (ht:t.length≤1000000) (hw:w.length≤1000) (hw0:w≠[]) (ha:w.all (fun b=>decide (b.toNat<128))=true) (hp:posN 3 a):GenE zaQ [AS t,AS w] L a (fun v a2=>a≤a2∧a2≤a+3∧∃ t':List UInt8,t'.length≤t.length+w.length∧v=AS t'):=by
 refine GenE.of fun h id hid=>?_
 rw[c_q02n rfl]
 by_cases h0:t=[]
 ·subst h0
  simp only[zhy,go_sem,hid,hw0]
  exact⟨a,⟨by omega,by omega,w,by omega,rfl⟩,rfl⟩
 ·have hl:0<t.length:=List.length_pos_iff.2 h0
  have hlw:0<w.length:=List.length_pos_iff.2 hw0
  have p0:=z0X (n:=0) hp (Int.le_refl a) (by omega)
  have p1:posN 0 (a+1):=z0X hp (by omega) (by omega)
  have p2:posN 0 (a+1+1):=z0X hp (by omega) (by omega)
  obtain⟨n1,n2⟩:=z2S L a t.length (by omega) (by omega)
  obtain⟨i,hi⟩:=Int.eq_ofNat_of_zero_le n1
  rw[hi] at n2
  obtain⟨m1,m2⟩:=z2S L (a+1) w.length (by omega) (by omega)
  obtain⟨j,hj⟩:=Int.eq_ofNat_of_zero_le m1
  rw[hj] at m2
  have hjl:j<w.length:=by omega
  have hgj:w[j]?=some w[j]:=List.getElem?_eq_getElem hjl
  have hc:(w[j]).toNat<128:=by
   have:=List.all_eq_true.1 ha _ (List.getElem_mem hjl)
   simpa using this
  have wc:IntKind.i32.wrap ((w[j]).toNat:Int)=((w[j]).toNat:Int):=by simp [IntKind.wrap,IntKind.bits,IntKind.signed];omega
  have wi:IntKind.i64.wrap ((i:Int)+1)=((i+1:Nat):Int):=z0j _ (by omega) (by omega)
  have hil:i≤t.length:=by omega
  have hil2:i+1≤t.length:=by omega
  have c0:(0:Int)≤((w[j]).toNat:Int):=by omega
  have c1:((w[j]).toNat:Int)<128:=by omega
  have l1:=zsJ t 0 i
  have l2:=zsJ t (i+1) (t.length-(i+1))
  have l3:=zsJ t i (t.length-i)
  have mx:3000000≤z0o:=by unfold z0o;omega
  simp only[zhy,go_sem,hid,h0,hw0,p0,p1,p2,hi,hj,hgj]
  by_cases z0:z1D L (a+1+1) 3=0
  ·simp only[go_sem,z0,hil,hil2,wc,wi,c0,c1]
   rw[if_pos (by omega),if_pos (by first | omega | (simp only[List.length_append,List.length_cons,List.length_nil];omega))]
   exact⟨a+1+1+1,⟨by omega,by omega,_,by simp only[List.length_append,List.length_cons,List.length_nil];omega,rfl⟩,rfl⟩
  ·by_cases z1:z1D L (a+1+1) 3=1
   ·have z0':¬ (1:Int)=0:=by omega
    simp only[go_sem,z1,z0',hil,hil2,wc,wi,c0,c1]
    rw[if_pos (by omega),if_pos (by first | omega | (simp only[List.length_append,List.length_cons,List.length_nil];omega))]
    exact⟨a+1+1+1,⟨by omega,by omega,_,by simp only[List.length_append,List.length_cons,List.length_nil];omega,rfl⟩,rfl⟩
   ·simp only[go_sem,z0,z1,hil,hil2,wc,wi,c0,c1]
    rw[if_pos (by omega)]
    exact⟨a+1+1+1,⟨by omega,by omega,_,by simp only[List.length_append];omega,rfl⟩,rfl⟩
end Go.Am
end
section
/- What is drawn: faults. -/
open Go
set_option linter.all false
namespace Go.Am
variable {L:List Int} {a:Int} {h l:Heap} {id:Nat} {K:Post}
end Go.Am
end
section
/- Deleting faults: printed by program. -/
open Go
set_option linter.unusedSimpArgs false
namespace Go.Am
attribute [-go_sem] PV.cells splice
variable {h:Heap} {K:Post}
attribute [-go_sem] AV.cells cut
attribute [go_sem] AV.cells cut
end Go.Am
end
section
/- What is drawn: lists of faults. -/
open Go
set_option linter.all false
namespace Go.Am
variable {L:List Int} {a:Int} {h l:Heap} {id:Nat} {K:Post}
end Go.Am
end
section
/- Stable sorts of numbers: printed by program. -/
open Go
set_option linter.unusedSimpArgs false
namespace Go.Am
attribute [-go_sem] PV.cells splice
variable {h:Heap} {K:Post}
end Go.Am
end
section
/- Faults compared;texts of faults drawn. -/
open Go
set_option linter.all false
namespace Go.Am
variable {L:List Int} {a:Int} {h:Heap} {K:Post}
theorem zux {f:Nat} {F:AFun} {id fz:Nat} {sh:Sh} {xs:List PV} (hf:X.fn f=some F) (hr:F.byref=false) (hl:F.nparams=1) (hh:h[id]?=some (.row sh xs fz)):z0c X f [.own id xs.length 0 xs.length] h K=z0c X f [.p (.sl sh xs)] (frz h id xs.length) K:=
 zxh (X:=X) (a:=[.own id xs.length 0 xs.length]) (vs:=[.sl sh xs]) hf hr (by
  have:win xs 0 xs.length=xs:=zda rfl
  simp [z0p,pur,rd,hh,this]) rfl (by simp [hl]) zxR
end Go.Am
end
section
/- What is drawn: bits,commands. -/
open Go
set_option linter.all false
namespace Go.Am
variable {L:List Int} {a:Int} {h l:Heap} {id:Nat} {K:Post}
attribute [-go_sem] oEqa z10
theorem ztl (a:Int):z5z [[48],[49]] L a=[48]∨z5z [[48],[49]] L a=[49]:=by
 have:=z6X (l:=[[48],[49]]) (L:=L) (a:=a) (by simp) (by simp)
 simpa using this
theorem zig (n:Nat) (hn:n≤1000) (hp:posN 1200 a):GenE z4i [AI n] L a (fun v a2=>a2=a+n∧∃ s:List UInt8,z0V s=true∧s.length=n∧v=AS s):=by
 refine GenE.of fun h id hid=>?_
 rw[c_q02x rfl]
 simp only[zh4,go_sem]
 refine z0T (fun t:Nat × List UInt8=>⟨[(0,.ref id 0),(5,AS t.2),(6,AI n),(7,AI t.1)],h.set id (strm L (a+t.1)),[]⟩) (fun t=>t.1≤n∧t.2.length=t.1∧z0V t.2=true) (fun t=>n-t.1) (0,[]) (by simp) ⟨Nat.zero_le _,rfl,rfl⟩ ?_
 rintro⟨k,s⟩ ⟨hk,hs,hb⟩
 dsimp only at hk hs hb ⊢
 rcases Nat.lt_or_ge k n with hlt | hge
 ·have w2:IntKind.i64.wrap ((k:Int)+1)=((k+1:Nat):Int):=z0j _ (by omega) (by omega)
  have P:=z0X (n:=0) hp (show a≤a+(k:Int) by omega) (by omega)
  have hlt':(k:Int)<(n:Int):=by omega
  have e:a+((k+1:Nat):Int)=a+(k:Int)+1:=by omega
  rcases ztl (L:=L) (a+(k:Int)) with e1 | e1
  ·have hl:s.length+1≤z0o:=by unfold z0o;omega
   simp only[go_sem,hlt,hlt',hid,P,w2,e1,hl]
   exact⟨(k+1,s++[48]),by dsimp only;rw[e],⟨by dsimp only;omega,by simp [hs],by unfold z0V at *;rw[List.all_append,hb];rfl⟩,by dsimp only;omega⟩
  ·have hl:s.length+1≤z0o:=by unfold z0o;omega
   simp only[go_sem,hlt,hlt',hid,P,w2,e1,hl]
   exact⟨(k+1,s++[49]),by dsimp only;rw[e],⟨by dsimp only;omega,by simp [hs],by unfold z0V at *;rw[List.all_append,hb];rfl⟩,by dsimp only;omega⟩
 ·obtain rfl:k=n:=by omega
  simp only[go_sem,Nat.lt_irrefl,Int.lt_irrefl]
  exact⟨a+(k:Int),⟨rfl,s,hb,hs,rfl⟩,rfl⟩
structure CmdB (m:Nat) (c:Cmd):Prop where
 k : -1152921504606846976≤c.k∧c.k≤1152921504606846976
 s : -1152921504606846976≤c.s∧c.s≤1152921504606846976
 cl : -1152921504606846976≤c.cl∧c.cl≤1152921504606846976
 b:c.b.length≤m
 w:c.w.length≤m
 m:c.m.length≤m
theorem CmdB.ok {m:Nat} {c:Cmd} (hm:m≤100000) (H:CmdB m c):CmdOk c:=⟨by have:=H.b;omega,by have:=H.w;omega,by have:=H.m;omega⟩
abbrev cmdV (c:Cmd):List AV:=[AI c.k,AI c.s,AI c.cl,AS c.b,AS c.w,AS c.m]
set_option maxHeartbeats 4000000 in
theorem ac_k4 (hid:id<h.length) {b:Int} (hp:posN 60 b) (c:Cmd) (hc:CmdB 8 c) {z1 z2 z3:Int} {z4 z5 z6:List UInt8} {Kx:Ex→St→Prop}
 (hK:∀ (c2:Cmd) (b2:Int),b≤b2→b2≤b+8→CmdB 2100 c2→Kx .ret ⟨[(2,.ref h.length 0)],h.set id (strm L b2)++[.box (cmdV c2),.box (cmdV c2)],[]⟩) :
 z10 (z0c X) X.gl z4D (.ref id 0) (.ref h.length 0) (.ref (h.length+1) 0) (h.set id (strm L b)++[.box [AI z1,AI z2,AI z3,AS z4,AS z5,AS z6],.box (cmdV c)]) [] Kx:=by
 have hid':id≤h.length:=by omega
 have P:=zi5 (z0X hp (Int.le_refl b) (by omega))
 obtain⟨k,s,cl,bb,w,m⟩:=c
 obtain⟨q1,q2,q3,q4,q5,q6⟩:=hc
 dsimp only at q1 q2 q3 q4 q5 q6
 by_cases hf:z1D L b 60=0
 ·obtain⟨m1,m2⟩:=z2S L (b+1) 4 (by omega) (by omega)
  generalize hn:z1D L (b+1) 4=nx at m1 m2
  have:nx=0∨nx=1∨nx=2∨nx=3:=by omega
  rcases this with rfl | rfl | rfl | rfl
  ·obtain⟨kv,a3,c1,c2,c3,c4,O⟩:=g_Odd (L:=L) (a:=b+1+1) (z0X hp (by omega) (by omega)) 1 10 (by omega) (by omega) (by omega)
   have O':=fun l K=>O.app (h:=h) (id:=id) (l:=l) (K:=K) hid
   simp only[z10,go_sem,hid,hid',P,hf,hn,O']
   exact hK ⟨kv,s,cl,bb,w,m⟩ a3 (by omega) (by omega) ⟨by dsimp only;omega,q2,q3,by dsimp only;omega,by dsimp only;omega,by dsimp only;omega⟩
  ·obtain⟨kv,a3,c1,c2,c3,c4,O⟩:=g_Odd (L:=L) (a:=b+1+1) (z0X hp (by omega) (by omega)) 0 15 (by omega) (by omega) (by omega)
   have O':=fun l K=>O.app (h:=h) (id:=id) (l:=l) (K:=K) hid
   have P3:posN 0 a3:=z0X hp (by omega) (by omega)
   have pm:=z6Y (l:=[0,1,-1,20000,20001]) (L:=L) (a:=a3) (by simp) (by simp)
   simp only[List.mem_cons,List.not_mem_nil,or_false] at pm
   simp only[z10,go_sem,hid,hid',P,P3,hf,hn,O']
   exact hK ⟨k,kv,z2Z [0,1,-1,20000,20001] L a3,bb,w,m⟩ (a3+1) (by omega) (by omega) ⟨q1,by dsimp only;omega,by dsimp only;omega,by dsimp only;omega,by dsimp only;omega,by dsimp only;omega⟩
  ·have w1:IntKind.i64.wrap (2000-(bb.length:Int))=((2000-bb.length:Nat):Int):=by
    rw[show (2000:Int)-(bb.length:Int)=((2000-bb.length:Nat):Int) by omega];exact z0j _ (by omega) (by omega)
   have r1:=fun (h':Heap) (K':Post)=>zbO (h:=h') (K:=K') ((2000-bb.length:Nat):Int) (by omega) (by omega)
   have r2:=fun (h':Heap) (K':Post)=>zbO (h:=h') (K:=K') 2001 (by omega) (by omega)
   simp only[Int.toNat_natCast] at r1
   have pm:=z6X (l:=[[120],[],zs (2000-bb.length),zs (Int.toNat 2001)]) (L:=L) (a:=b+1+1) (by simp) (by simp)
   have pl:(z5z [[120],[],zs (2000-bb.length),zs (Int.toNat 2001)] L (b+1+1)).length≤2001:=by
    simp only[List.mem_cons,List.not_mem_nil,or_false] at pm
    rcases pm with e | e | e | e
    ·rw[e];decide
    ·rw[e];decide
    ·rw[e];simp only[zs,List.length_replicate];omega
    ·rw[e];simp only[zs,List.length_replicate];omega
   generalize hps:z5z [[120],[],zs (2000-bb.length),zs (Int.toNat 2001)] L (b+1+1)=ps at pl
   have hl:bb.length+ps.length≤z0o:=by unfold z0o;omega
   simp only[z10,go_sem,hid,hid',P,hf,hn,w1,r1,r2,hps,hl]
   exact hK ⟨k,s,cl,bb++ps,w,m⟩ (b+1+1+1) (by omega) (by omega) ⟨q1,q2,q3,by simp;omega,by dsimp only;omega,by dsimp only;omega⟩
  ·have pm:=z6X (l:=[[],[48],w++[49]]) (L:=L) (a:=b+1+1) (by simp) (by simp)
   have pl:(z5z [[],[48],w++[49]] L (b+1+1)).length≤9:=by
    simp only[List.mem_cons,List.not_mem_nil,or_false] at pm
    rcases pm with e | e | e
    ·rw[e];decide
    ·rw[e];decide
    ·rw[e,List.length_append,List.length_singleton];omega
   have pm2:=z6X (l:=[[],[49],[120],m]) (L:=L) (a:=b+1+1+1) (by simp) (by simp)
   have pl2:(z5z [[],[49],[120],m] L (b+1+1+1)).length≤9:=by
    simp only[List.mem_cons,List.not_mem_nil,or_false] at pm2
    rcases pm2 with e | e | e | e
    ·rw[e];decide
    ·rw[e];decide
    ·rw[e];decide
    ·rw[e];omega
   have hl:w.length+1≤z0o:=by unfold z0o;omega
   generalize hps:z5z [[],[48],w++[49]] L (b+1+1)=ps at pl
   generalize hps2:z5z [[],[49],[120],m] L (b+1+1+1)=ps2 at pl2
   simp only[z10,go_sem,hid,hid',P,hf,hn,hps,hps2,hl]
   exact hK ⟨k,s,cl,bb,ps,ps2⟩ (b+1+1+1+1) (by omega) (by omega) ⟨q1,q2,q3,by dsimp only;omega,by dsimp only;omega,by dsimp only;omega⟩
 ·simp only[z10,go_sem,hid,hid',P,hf]
  exact hK ⟨k,s,cl,bb,w,m⟩ (b+1) (by omega) (by omega) ⟨q1,q2,q3,by dsimp only;omega,by dsimp only;omega,by dsimp only;omega⟩
theorem z5r {l:List Int} {lo hi:Int} (hl:0<l.length) (hl2:l.length<4611686018427387904) (h:∀ x∈l,lo≤x∧x≤hi) (a:Int):lo≤z2Z l L a∧z2Z l L a≤hi:=h _ (z6Y hl hl2)
set_option maxHeartbeats 4000000 in
theorem zjS (hp:posN 2000 a):GenE zaP [] L a (fun v a2=>a≤a2∧a2≤a+60∧∃ c:Cmd,CmdB 2100 c∧v=ACm c):=by
 refine GenE.of fun h id hid=>?_
 rw[c_q02m rfl]
 have hid':id≤h.length:=by omega
 have P:=zi5 (z0X hp (Int.le_refl a) (by omega))
 obtain⟨k1,k2⟩:=z5r (L:=L) (l:=[7,7,8,8,8,1,2,3,4,5,6,9,10]) (lo:=1) (hi:=10) (by simp) (by simp) (by simp) a
 generalize hkd:z2Z [7,7,8,8,8,1,2,3,4,5,6,9,10] L a=kd at k1 k2
 have hb2:∀ o1 o2:Obj,(h.set id (strm L a)++[o1,o2]).length=h.length+2:=fun o1 o2=>by simp
 have fin:∀ (c:Cmd) (b:Int),a≤b→b≤a+50→CmdB 8 c→z10 (z0c X) X.gl z4D (.ref id 0) (.ref h.length 0) (.ref (h.length+1) 0) (h.set id (strm L b)++[.box [AI 0,AI 0,AI 0,AS [],AS [],AS []],.box (cmdV c)]) []
  (finR [.cell 2 (some 6)] false h.length fun v1 h1 x1=>∃ a2,(a≤a2∧a2≤a+60∧∃ c:Cmd,CmdB 2100 c∧v1=ACm c)∧h1=h.set id (strm L a2)∧x1=[]):=by
  intro c b hb1 hb2 hc
  refine ac_k4 hid (z0X hp hb1 (by omega)) c hc fun c2 b2 q1 q2 q3=>?_
  simp only[go_sem]
  exact⟨b2,⟨by omega,by omega,c2,q3,rfl⟩,rfl⟩
 have z:(-1152921504606846976:Int)≤0∧(0:Int)≤1152921504606846976:=by omega
 have ck:∀ k:Int,1≤k→k≤10 → -1152921504606846976≤k∧k≤1152921504606846976:=fun k _ _=>by omega
 by_cases hs:kd=1∨kd=2∨kd=10
 ·obtain⟨s1,s2⟩:=z5r (L:=L) (l:=[0,1,1,6,13]) (lo:=0) (hi:=13) (by simp) (by simp) (by simp) (a+1)
  generalize hsv:z2Z [0,1,1,6,13] L (a+1)=sv at s1 s2
  have hf:=fin ⟨kd,sv,0,[],[],[]⟩ (a+1+1) (by omega) (by omega) ⟨ck _ k1 k2,by dsimp only;omega,z,Nat.zero_le _,Nat.zero_le _,Nat.zero_le _⟩
  rcases hs with rfl | rfl | rfl
  ·simp only[z4f,go_sem,hid,hid',P,hkd,hsv]
   exact hf
  ·simp only[z4f,go_sem,hid,hid',P,hkd,hsv]
   exact hf
  ·simp only[z4f,go_sem,hid,hid',P,hkd,hsv]
   exact hf
 have n1:¬ kd=1:=fun e=>hs (.inl e)
 have n2:¬ kd=2:=fun e=>hs (.inr (.inl e))
 have n10:¬ kd=10:=fun e=>hs (.inr (.inr e))
 by_cases h9:kd=9
 ·obtain⟨s1,s2⟩:=z5r (L:=L) (l:=[0,0,1,3]) (lo:=0) (hi:=3) (by simp) (by simp) (by simp) (a+1)
  generalize hsv:z2Z [0,0,1,3] L (a+1)=sv at s1 s2
  have hf:=fin ⟨9,0,sv,[],[],[]⟩ (a+1+1) (by omega) (by omega) ⟨ck 9 (by omega) (by omega),z,by dsimp only;omega,Nat.zero_le _,Nat.zero_le _,Nat.zero_le _⟩
  subst h9
  simp only[z4f,go_sem,hid,hid',P,hkd,hsv]
  exact hf
 by_cases h78:kd=7∨kd=8
 ·obtain⟨s1,s2⟩:=z5r (L:=L) (l:=[1,2,3,5,8]) (lo:=1) (hi:=8) (by simp) (by simp) (by simp) (a+1)
  generalize hsv:z2Z [1,2,3,5,8] L (a+1)=sv at s1 s2
  obtain⟨n,rfl⟩:∃ n:Nat,sv=n:=⟨sv.toNat,by omega⟩
  obtain⟨_,a3,⟨e3,s,sb,sl,rfl⟩,V⟩:=(zig (L:=L) (a:=a+1+1) n (by omega) (z0X hp (by omega) (by omega))).app (h:=h) (l:=[.box [AI 0,AI 0,AI 0,AS [],AS [],AS []],.box [AI kd,AI 0,AI 0,AS [],AS [],AS []]]) hid
  have P3:posN 0 a3:=z0X hp (by omega) (by omega)
  have hid2:id<(h.set id (strm L (a3+1))++[Obj.box [AI 0,AI 0,AI 0,AS [],AS [],AS []],.box [AI kd,AI 0,AI 0,AS s,AS [],AS []]]).length:=by simp;omega
  obtain⟨_,a4,⟨e4,t,tb,tl,rfl⟩,V2⟩:=(zig (L:=L) (a:=a3+1) s.length (by omega) (z0X hp (by omega) (by omega))).app (h:=h) (l:=[.box [AI 0,AI 0,AI 0,AS [],AS [],AS []],.box [AI kd,AI 0,AI 0,AS s,AS [],AS []]]) hid
  obtain⟨_,a5,⟨e5,u,ub,ul,rfl⟩,V3⟩:=(zig (L:=L) (a:=a4) s.length (by omega) (z0X hp (by omega) (by omega))).app (h:=h) (l:=[.box [AI 0,AI 0,AI 0,AS [],AS [],AS []],.box [AI kd,AI 0,AI 0,AS s,AS [],AS []]]) hid
  have hf:=fin ⟨kd,0,0,s,[],[]⟩ (a3+1) (by omega) (by omega) ⟨ck _ k1 k2,z,z,by dsimp only;omega,Nat.zero_le _,Nat.zero_le _⟩
  have hf2:=fin ⟨kd,0,0,s,t,u⟩ a5 (by omega) (by omega) ⟨ck _ k1 k2,z,z,by dsimp only;omega,by dsimp only;omega,by dsimp only;omega⟩
  by_cases hfl:z1D L a3 2=0
  ·rcases h78 with rfl | rfl
   ·simp only[z4f,go_sem,hid,hid',P,P3,hkd,hsv,V,V2,V3,hfl]
    exact hf2
   ·simp only[z4f,go_sem,hid,hid',P,P3,hkd,hsv,V,V2,V3,hfl]
    exact hf2
  ·rcases h78 with rfl | rfl
   ·simp only[z4f,go_sem,hid,hid',P,P3,hkd,hsv,V,hfl]
    exact hf
   ·simp only[z4f,go_sem,hid,hid',P,P3,hkd,hsv,V,hfl]
    exact hf
 ·have n7:¬ kd=7:=fun e=>h78 (.inl e)
  have n8:¬ kd=8:=fun e=>h78 (.inr e)
  obtain⟨s1,s2⟩:=z5r (L:=L) (l:=[0,0,1,2,3]) (lo:=0) (hi:=3) (by simp) (by simp) (by simp) (a+1)
  generalize hsv:z2Z [0,0,1,2,3] L (a+1)=sv at s1 s2
  obtain⟨n,rfl⟩:∃ n:Nat,sv=n:=⟨sv.toNat,by omega⟩
  obtain⟨_,a3,⟨e3,s,sb,sl,rfl⟩,V⟩:=(zig (L:=L) (a:=a+1+1) n (by omega) (z0X hp (by omega) (by omega))).app (h:=h) (l:=[.box [AI 0,AI 0,AI 0,AS [],AS [],AS []],.box [AI kd,AI 0,AI 0,AS [],AS [],AS []]]) hid
  have hf:=fin ⟨kd,0,0,s,[],[]⟩ a3 (by omega) (by omega) ⟨ck _ k1 k2,z,z,by dsimp only;omega,Nat.zero_le _,Nat.zero_le _⟩
  simp only[z4f,go_sem,hid,hid',P,hkd,hsv,n1,n2,n10,h9,n7,n8,V]
  exact hf
end Go.Am
end
section
/- What is drawn: programs. -/
open Go
set_option linter.all false
namespace Go.Am
variable {L:List Int} {a:Int} {h l:Heap} {id:Nat} {K:Post}
attribute [-go_sem] oEqa
theorem repO_x (n:Int) (h0:0≤n) (h1:n≤1000000) (h:Heap) (K:Post):z0c X z1q [AS [49],AI n] h K=K (AS (List.replicate n.toNat 49)) h []:=by
 rw[zcM [49] n h0 (by simp;omega) h1,ziJ]
set_option maxHeartbeats 4000000 in
theorem zb3 (n:Nat) (hn:n≤20) (hp:posN 4000 a):GenE z7R [AI n] L a (fun v a2=>a≤a2∧a2≤a+1300∧∃ l:List Cmd,l.length≤n+11∧(∀ c∈l,CmdB 2100 c)∧v=ACs l):=by
 refine GenE.of fun h id hid=>?_
 rw[c_q02p rfl]
 have hid':id≤h.length:=by omega
 have hz:PV.shp (some 6) (.agg [.int .i64 0,.int .i64 0,.int .i64 0,.str [],.str [],.str []])=true:=rfl
 simp only[zh0,go_sem]
 refine z0T (fun t:List Cmd × Int=>⟨[(0,.ref id 0),(5,.own h.length t.1.length 0 t.1.length),(6,AI n),(7,AI t.1.length)],h.set id (strm L t.2)++[.row (some 6) (t.1.map cmdP) 0],[]⟩)
  (fun t=>t.1.length≤n∧(∀ c∈t.1,CmdB 2100 c)∧a≤t.2∧t.2≤a+60*t.1.length) (fun t=>n-t.1.length) ([],a) rfl ⟨by simp,by simp,by simp,by simp⟩ ?_
 rintro⟨cs,b⟩ ⟨q1,q2,q3,q4⟩
 dsimp only at q1 q2 q3 q4 ⊢
 have hcz:∀ c:Cmd,PV.shp (some 6) (cmdP c)=true:=fun c=>rfl
 rcases Nat.lt_or_ge cs.length n with hlt | hge
 ·have w2:IntKind.i64.wrap ((cs.length:Int)+1)=((cs.length+1:Nat):Int):=z0j _ (by omega) (by omega)
  obtain⟨_,a3,⟨d1,d2,c,hc,rfl⟩,V⟩:=(zjS (L:=L) (a:=b) (z0X hp (by omega) (by omega))).app (h:=h) (l:=[.row (some 6) (cs.map cmdP) 0]) hid
  have hmx:cs.length+1≤z0J:=by unfold z0J;omega
  have hc':=hcz c
  have hlt':(cs.length:Int)<(n:Int):=by omega
  simp only[go_sem,hid,hid',hlt,hlt',V,hmx,hz,hc',w2]
  refine⟨(cs++[c],a3),by simp,⟨by simp;omega,fun g hg=>?_,by dsimp only;omega,by simp;omega⟩,by simp;omega⟩
  rcases List.mem_append.1 hg with hg | hg
  ·exact q2 g hg
  ·rw[List.mem_singleton.1 hg];exact hc
 ·have hge':¬ cs.length<n:=by omega
  have P:=z0X (n:=0) hp q3 (by omega)
  by_cases hf:z1D L b 80=0
  ·simp only[go_sem,hid,hid',hge',P,hf]
   refine z0T (fun t:List Cmd × Int × Nat=>⟨[(0,.ref id 0),(5,.own h.length t.1.length 0 t.1.length),(17,AI t.2.2)],h.set id (strm L t.2.1)++[.row (some 6) (t.1.map cmdP) 0],[]⟩)
    (fun t=>t.2.2≤11∧t.1.length=cs.length+t.2.2∧(∀ c∈t.1,CmdB 2100 c)∧t.2.1=b+1+t.2.2) (fun t=>11-t.2.2) (cs,b+1,0) rfl ⟨by simp,by simp,q2,by simp⟩ ?_
   rintro⟨ds,b2,k⟩ ⟨r1,r2,r3,r4⟩
   dsimp only at r1 r2 r3 r4 ⊢
   subst r4
   have P2:=z0X (n:=0) (b:=b+1+(k:Int)) hp (by omega) (by omega)
   rcases Nat.lt_or_ge k 11 with hk | hk
   ·have w2:IntKind.i64.wrap ((k:Int)+1)=((k+1:Nat):Int):=z0j _ (by omega) (by omega)
    obtain⟨s1,s2⟩:=z5r (L:=L) (l:=[1800,1830,2000]) (lo:=1800) (hi:=2000) (by simp) (by simp) (by simp) (b+1+(k:Int))
    generalize hsv:z2Z [1800,1830,2000] L (b+1+(k:Int))=sv at s1 s2
    have r0:=fun (h':Heap) (K':Post)=>repO_x sv (by omega) (by omega) h' K'
    have hmx:ds.length+1≤z0J:=by unfold z0J;omega
    have hk':(k:Int)<11:=by omega
    have hc':=hcz ⟨8,0,0,List.replicate sv.toNat 49,[],[]⟩
    simp only[go_sem,hid,hid',hk',P2,hsv,r0,hmx,hz,hc',w2]
    refine⟨(ds++[⟨8,0,0,List.replicate sv.toNat 49,[],[]⟩],b+1+(k:Int)+1,k+1),by simp,⟨by dsimp only;omega,by simp;omega,fun g hg=>?_,by dsimp only;omega⟩,by dsimp only;omega⟩
    rcases List.mem_append.1 hg with hg | hg
    ·exact r3 g hg
    ·rw[List.mem_singleton.1 hg]
     exact⟨by dsimp only;omega,by dsimp only;omega,by dsimp only;omega,by simp;omega,Nat.zero_le _,Nat.zero_le _⟩
   ·obtain rfl:k=11:=by omega
    have hk':¬ ((11:Nat):Int)<11:=by omega
    simp only[go_sem,hid,hid',hk']
    refine⟨b+1+((11:Nat):Int),⟨by omega,by omega,ds,by omega,r3,?_⟩,rfl⟩
    exact congrArg (fun x=>AV.p (PV.sl (some 6) x)) (List.take_of_length_le (by simp))
  ·simp only[go_sem,hid,hid',hge',P,hf]
   refine⟨b+1,⟨by omega,by omega,cs,by omega,q2,?_⟩,rfl⟩
   exact congrArg (fun x=>AV.p (PV.sl (some 6) x)) (List.take_of_length_le (by simp))
end Go.Am
end
section
/- What is drawn and right: programs. -/
open Go
set_option linter.all false
namespace Go.Am
variable {L:List Int} {a:Int} {h l:Heap} {id:Nat} {K:Post}
theorem z9w (n:Nat) (hn:n≤20) (hp:posN 20000 a):GenE zaS [AI n] L a (fun v a2=>a≤a2∧a2≤a+7800∧∃ l:List Cmd,l.length≤n∧(∀ c∈l,CmdB 2100 c)∧z1i z0f l=0∧v=ACs l):=by
 refine GenE.of fun h id hid=>?_
 rw[c_q02v rfl]
 simp only[zh3,go_sem,hid]
 refine z0T (fun t:Nat × Int=>⟨[(0,.ref id 0),(1,AI n),(6,AI t.1)],h.set id (strm L t.2),[]⟩) (fun t=>t.1≤6∧a≤t.2∧t.2≤a+1300*t.1) (fun t=>6-t.1) (0,a) rfl ⟨by simp,by simp,by simp⟩ ?_
 rintro⟨k,b⟩ ⟨h1,h2,h3⟩
 dsimp only at h1 h2 h3 ⊢
 rcases Nat.lt_or_ge k 6 with hlt | hge
 ·have hk:(k:Int)<6:=by omega
  have w1:IntKind.i64.wrap ((k:Int)+1)=((k+1:Nat):Int):=z0j _ (by omega) (by omega)
  obtain⟨_,a2,⟨c1,c2,l,l1,lb,rfl⟩,V⟩:=(zb3 (L:=L) (a:=b) n hn (z0X hp h2 (by omega))).set (h:=h) hid
  have F:=fun h K=>z4U (h:=h) (K:=K) l (fun c hc=>(lb c hc).ok (by omega)) (by omega)
  by_cases hf:z1i z0f l=0
  ·have hf':((z1i z0f l:Nat):Int)=0:=by omega
   by_cases hl:l.length≤n
   ·have hl':(l.length:Int)≤(n:Int):=by omega
    simp only[go_sem,hid,hk,↓V,V,↓F,F,hf,hf',hl,hl']
    exact⟨a2,⟨by omega,by omega,l,hl,lb,hf,rfl⟩,rfl⟩
   ·have hl':¬ (l.length:Int)≤(n:Int):=by omega
    simp only[go_sem,hid,hk,↓V,V,↓F,F,hf,hf',hl,hl',w1]
    exact⟨(k+1,a2),rfl,⟨by dsimp only;omega,by dsimp only;omega,by dsimp only;omega⟩,by dsimp only;omega⟩
  ·have hf':¬ ((z1i z0f l:Nat):Int)=0:=by omega
   simp only[go_sem,hid,hk,↓V,V,↓F,F,hf,hf',w1]
   exact⟨(k+1,a2),rfl,⟨by dsimp only;omega,by dsimp only;omega,by dsimp only;omega⟩,by dsimp only;omega⟩
 ·have hk:¬ (k:Int)<6:=by omega
  simp only[go_sem,hid,hk]
  exact⟨b,⟨by omega,by omega,[],by simp,by simp,rfl,rfl⟩,rfl⟩
end Go.Am
end
section
/- Programs read: all lines. -/
open Go
set_option linter.all false
set_option maxRecDepth 100000
namespace Go.Am
variable {h:Heap} {K:Post}
def HC (h:Heap) (cs:List Cmd):Heap:=h++[.row (some 6) (cs.map cmdP) 0,.box [.own h.length cs.length 0 cs.length]]
theorem zv6 (h:Heap) (cs:List Cmd):(HC h cs).length=h.length+2:=by simp [HC]
theorem s_VR1 (cs:List Cmd) (s:List UInt8) (hs:s.length≤900000) (hf:cs.length≤1000000):z0c X z9t [AS s,.ref (h.length+1) 0] (HC h cs) K=K (AB (tkP cs s).1) (HC h (tkP cs s).2) []:=by
 refine rule ?_
 rw[c_q065 rfl]
 have q:=fun h K=>zgO (h:=h) (K:=K) s hs
 have hm:cs.length+1≤z0J:=by unfold z0J;omega
 have hl:(cs.map cmdP).length=cs.length:=List.length_map ..
 have hz:∀ c:Cmd,PV.shp (some 6) (cmdP c)=true:=fun _=>rfl
 unfold HC tkP
 have hz':=hz (rdPC (z0m 32 s)).1
 generalize (rdPC (z0m 32 s)).1=c at *
 generalize (rdPC (z0m 32 s)).2=ok at *
 obtain⟨k,st,cl,b,w,m⟩:=c
 simp only[znZ,go_sem,↓q,q,hm,hl,hz',z2J,AV.top,Nat.lt_irrefl,Nat.not_lt_zero,List.map_append,splice]
theorem s_VQ1 (cs:List Cmd) (s:List UInt8) (hs:s.length≤900000) (hf:cs.length≤1000000):z0c X z9n [AS s,.ref (h.length+1) 0] (HC h cs) K=K (AB (tkQ cs s).1) (HC h (tkQ cs s).2) []:=by
 refine rule ?_
 rw[c_q035 rfl]
 have q:=fun h K=>zgP (h:=h) (K:=K) s hs
 have hm:cs.length+1≤z0J:=by unfold z0J;omega
 have hl:(cs.map cmdP).length=cs.length:=List.length_map ..
 have hz:∀ c:Cmd,PV.shp (some 6) (cmdP c)=true:=fun _=>rfl
 unfold HC tkQ
 have hz':=hz (rdQC (z0m 32 s)).1
 generalize (rdQC (z0m 32 s)).1=c at *
 generalize (rdQC (z0m 32 s)).2=ok at *
 obtain⟨k,st,cl,b,w,m⟩:=c
 simp only[znG,go_sem,↓q,q,hm,hl,hz',z2J,AV.top,Nat.lt_irrefl,Nat.not_lt_zero,List.map_append,splice]
def tkG (g:List UInt8→Cmd × Bool) (cs:List Cmd) (s:List UInt8):Bool × List Cmd:=((g s).2,cs++[(g s).1])
theorem zcW (g:List UInt8→Cmd × Bool) (P:Cmd→Prop) (tail:Bool):∀ (ls:List (List UInt8)) (i:Nat) (cs:List Cmd),(∀ l∈ls,P (g l).1)→(∀ c∈cs,P c) →
 (∀ c∈(lnsF (tkG g) tail i ls cs).2,P c)∧(lnsF (tkG g) tail i ls cs).2.length≤cs.length+ls.length
 | [],i,cs,_,h=>by
  rw[z6s]
  cases tail <;> exact⟨h,by simp⟩
 | l::r,i,cs,hl,h=>by
  rw[z48]
  have h1:∀ c∈(tkG g cs l).2,P c:=fun c hc=>by
   rcases List.mem_append.1 hc with hc | hc
   ·exact h c hc
   ·rw[List.mem_singleton.1 hc];exact hl l (by simp)
  have h2:(tkG g cs l).2.length=cs.length+1:=by simp [tkG]
  cases (tkG g cs l).1 with
  | true=>
   obtain⟨q1,q2⟩:=zcW g P tail r (i+1) (tkG g cs l).2 (fun x hx=>hl x (by simp [hx])) h1
   refine⟨q1,?_⟩
   simp only[cond_true,List.length_cons]
   omega
  | false=>
   refine⟨h1,?_⟩
   simp only[cond_false,List.length_cons]
   omega
theorem zbY (s:List UInt8) (i:Nat):(wd (z0m 32 s) i).length≤s.length:=by
 unfold wd
 cases hx:(z0m 32 s)[i]? with
 | none=>simp
 | some x=>exact z1X (List.mem_of_getElem? hx)
theorem zyE {s:List UInt8} (hs:s.length≤100000):CmdOk (rdPC (z0m 32 s)).1:=by
 have a1:=zbY s 1
 have a2:=zbY s 2
 have a3:=zbY s 3
 unfold rdPC
 have z:CmdOk cmd0:=⟨Nat.zero_le _,Nat.zero_le _,Nat.zero_le _⟩
 have z1:∀ a b c,CmdOk ⟨a,b,c,[],[],[]⟩:=fun a b c=>⟨Nat.zero_le _,Nat.zero_le _,Nat.zero_le _⟩
 split
 ·exact z
 split
 ·exact⟨by dsimp only;omega,by dsimp only;omega,by dsimp only;omega⟩
 split
 ·exact z
 split
 ·split
  ·exact z1 _ _ _
  ·exact z
 split
 ·exact z1 _ _ _
 split
 ·exact⟨by dsimp only;omega,Nat.zero_le _,Nat.zero_le _⟩
 ·exact z1 _ _ _
theorem zrK {s:List UInt8} (hs:s.length≤100000):CmdOk (rdQC (z0m 32 s)).1:=by
 have a1:=zbY s 1
 have a2:=zbY s 2
 have a3:=zbY s 3
 unfold rdQC
 have z1:∀ a b c,CmdOk ⟨a,b,c,[],[],[]⟩:=fun a b c=>⟨Nat.zero_le _,Nat.zero_le _,Nat.zero_le _⟩
 split
 ·exact z1 _ _ _
 split
 ·exact⟨by dsimp only;omega,by dsimp only;omega,by dsimp only;omega⟩
 split
 ·exact z1 _ _ _
 split
 ·exact⟨by dsimp only;omega,Nat.zero_le _,Nat.zero_le _⟩
 split
 ·exact z1 _ _ _
 split
 ·refine⟨?_,Nat.zero_le _,Nat.zero_le _⟩
  dsimp only
  split
  ·exact Nat.zero_le _
  ·omega
 split
 ·exact z1 _ _ _
 ·exact z1 _ _ _
abbrev rdTC (tk:List Cmd→List UInt8→Bool × List Cmd) (s:List UInt8):(Nat × Bool) × List Cmd:=lnsF tk (lnsT s) 0 (lnsD s) []
def rdVC (tk:List Cmd→List UInt8→Bool × List Cmd) (s:List UInt8):List Cmd × Int × Int:=
 if (rdTC tk s).1.2=false then ([],((rdTC tk s).1.1:Nat),9) else if z1i z0f (rdTC tk s).2≠0 then ([],0,(z1i z0f (rdTC tk s).2:Nat)) else ((rdTC tk s).2,0,0)
theorem zyF (s:List UInt8):rdVC tkP s=rdVC tkQ s:=by
 obtain⟨h1,h2⟩:=tkPQ (lnsT s) (lnsD s) 0 []
 have e1:(rdTC tkP s).1=(rdTC tkQ s).1:=h1
 have e2:(rdTC tkP s).1.2=true→(rdTC tkP s).2=(rdTC tkQ s).2:=h2
 unfold rdVC
 rw[e1]
 rw[e1] at e2
 by_cases q:(rdTC tkQ s).1.2=false
 ·simp only[q,if_true]
 ·rw[Bool.not_eq_false] at q
  rw[e2 q]
theorem zi0 {f:Nat} {F:AFun} {h:Heap} {o:Obj} {xs:List PV} {K:Post} (hf:X.fn f=some F) (hr:F.byref=false) (hl:F.nparams=1):z0c X f [.own h.length xs.length 0 xs.length] (h++[.row (some 6) xs 0,o]) K=z0c X f [.p (.sl (some 6) xs)] (h++[.row (some 6) xs xs.length,o]) K:=by
 have:=zux (K:=K) (f:=f) (F:=F) (id:=h.length) (fz:=0) (sh:=some 6) (xs:=xs) (h:=h++[.row (some 6) xs 0,o]) hf hr hl (by simp)
 rw[this,frzA]
set_option maxHeartbeats 4000000 in
theorem zyQ (s:List UInt8) (hs:s.length≤100000):z0c X zbp [AS s] h K=K (.tup [ACs (rdVC tkP s).1,AI (rdVC tkP s).2.1,AI (rdVC tkP s).2.2]) h []:=by
 refine rule ?_
 rw[c_q064 rfl]
 have h2':¬ (200000:Int)<(s.length:Int):=by omega
 have hL:=fun K=>s_Each (K:=K) z9t [.ref (h.length+1) 0] tkP (HC h) (fun k cs=>cs.length=k) s (by omega) (h.length+2) (zv6 h)
  (fun k t l K hi hk hll=>s_VR1 t l (by omega) (by omega)) (fun k t l hi hll _=>by simp [tkP,hi]) [] rfl
 obtain⟨i1,i2⟩:=zcW (fun s=>rdPC (z0m 32 s)) CmdOk (lnsT s) (lnsD s) 0 [] (fun l hl=>zyE (Nat.le_trans (z6r hl) hs)) (by simp)
 have hD:=z6q s
 have ee:tkG (fun s=>rdPC (z0m 32 s))=tkP:=rfl
 rw[ee] at i1 i2
 unfold rdVC rdTC
 generalize lnsF tkP (lnsT s) 0 (lnsD s) []=R at *
 obtain⟨⟨i,ok⟩,cs⟩:=R
 dsimp only at i1 i2 hL ⊢
 rw[List.length_nil,Nat.zero_add] at i2
 have q3:=fun o K=>(zi0 (f:=z4n) (F:=zhf) (h:=h) (o:=o) (xs:=cs.map cmdP) (K:=K) zwU rfl rfl).trans (z4q cs i1 (by omega))
 simp only[List.length_map] at q3
 simp only[HC,List.map_nil,List.length_nil] at hL
 have hw:win (cs.map cmdP) 0 cs.length=cs.map cmdP:=zda (by simp)
 have hll:(cs.map cmdP).length=cs.length:=List.length_map ..
 cases ok with
 | false=>
  simp only[zeL,go_sem,↓hL,hL,h2']
  first | done | rfl
 | true=>
  by_cases h4:z1i z0f cs=0
  ·have h4':((z1i z0f cs:Nat):Int)=0:=by omega
   simp only[zeL,go_sem,↓hL,hL,h2',↓q3,q3,h4,h4',hw,hll]
   first | done | rfl
  ·have h4':¬ ((z1i z0f cs:Nat):Int)=0:=by omega
   simp only[zeL,go_sem,↓hL,hL,h2',↓q3,q3,h4,h4']
   first | done | rfl
set_option maxHeartbeats 4000000 in
theorem zay (s:List UInt8) (hs:s.length≤100000):z0c X zaV [AS s] h K=K (.tup [ACs (rdVC tkQ s).1,AI (rdVC tkQ s).2.1,AI (rdVC tkQ s).2.2]) h []:=by
 refine rule ?_
 rw[c_q034 rfl]
 have h2':¬ (200000:Int)<(s.length:Int):=by omega
 have hL:=fun K=>zuO (K:=K) z9n [.ref (h.length+1) 0] tkQ (HC h) (fun k cs=>cs.length=k) s (by omega) (h.length+2) (zv6 h)
  (fun k t l K hi hk hll=>s_VQ1 t l (by omega) (by omega)) (fun k t l hi hll _=>by simp [tkQ,hi]) [] rfl
 obtain⟨i1,i2⟩:=zcW (fun s=>rdQC (z0m 32 s)) CmdOk (lnsT s) (lnsD s) 0 [] (fun l hl=>zrK (Nat.le_trans (z6r hl) hs)) (by simp)
 have hD:=z6q s
 have ee:tkG (fun s=>rdQC (z0m 32 s))=tkQ:=rfl
 rw[ee] at i1 i2
 unfold rdVC rdTC
 generalize lnsF tkQ (lnsT s) 0 (lnsD s) []=R at *
 obtain⟨⟨i,ok⟩,cs⟩:=R
 dsimp only at i1 i2 hL ⊢
 rw[List.length_nil,Nat.zero_add] at i2
 have q3:=fun o K=>(zi0 (f:=z4k) (F:=zhd) (h:=h) (o:=o) (xs:=cs.map cmdP) (K:=K) zwR rfl rfl).trans (z4r cs i1 (by omega))
 simp only[List.length_map] at q3
 simp only[HC,List.map_nil,List.length_nil] at hL
 have hw:win (cs.map cmdP) 0 cs.length=cs.map cmdP:=zda (by simp)
 have hll:(cs.map cmdP).length=cs.length:=List.length_map ..
 cases ok with
 | false=>
  simp only[zet,go_sem,↓hL,hL,h2']
  first | done | rfl
 | true=>
  by_cases h4:z1i z0f cs=0
  ·have h4':((z1i z0f cs:Nat):Int)=0:=by omega
   simp only[zet,go_sem,↓hL,hL,h2',↓q3,q3,h4,h4',hw,hll]
   first | done | rfl
  ·have h4':¬ ((z1i z0f cs:Nat):Int)=0:=by omega
   simp only[zet,go_sem,↓hL,hL,h2',↓q3,q3,h4,h4']
   first | done | rfl
end Go.Am
end
section
/- A program's text,with the builder;texts drawn. -/
open Go
set_option linter.all false
set_option maxRecDepth 100000
namespace Go.Am
variable {L:List Int} {a:Int} {h l:Heap} {id:Nat} {K:Post}
theorem vloop {K':Ex→St→Prop} {x:Esc} (cs:List Cmd) (hc:∀ c∈cs,cmdF c=0) (hl:cs.length≤1000)
 (hK:∀ u,K' (.exit 0) ⟨[(5,.ref h.length 0),(13,ACs cs),(14,AI cs.length),(15,AI cs.length),(16,AB false)],bh h u (z1C cs) [],x⟩) :
 z0Z (z0c X) X.gl (.scope z26) K' [(5,.ref h.length 0),(13,ACs cs),(14,AI cs.length),(15,AI 0)] (bh h false [] []) x:=by
 refine z0T (fun k:Nat=>⟨[(5,.ref h.length 0),(13,ACs cs),(14,AI cs.length),(15,AI k)],bh h (decide (0<k)) (z1C (cs.take k)) [],x⟩) (fun k=>k≤cs.length) (fun k=>cs.length-k) 0 (by simp [z1C]) (by omega) ?_
 intro k hk
 rcases Nat.lt_or_ge k cs.length with hlt | hge
 ·have hg:=z1B cmdP hlt
  have wk:IntKind.i64.wrap ((k:Int)+1)=((k+1:Nat):Int):=z0j _ (by omega) (by omega)
  have h0:=hc _ (List.getElem_mem hlt)
  have fl:=fun (h':Heap) (K':Post)=>s_line (h:=h') (K:=K') cs[k] h0
  have b1:=z9z h0
  have b2:=z5o (l:=cs.take k) (fun c hc'=>hc c (List.mem_of_mem_take hc'))
  rw[List.length_take] at b2
  have b3:min k cs.length*6101≤1000*6101:=Nat.mul_le_mul_right _ (by omega)
  have es:=z90 hlt
  have mx:100000000≤z0o:=by unfold z0o;omega
  have m1:(z6p cs[k]).length+1≤z0o:=by omega
  have q1:=fun l K=>s_WS (h:=h) (K:=K) (u:=decide (0<k)) (s:=z1C (cs.take k)) (t:=z6p cs[k]++[10]) (l:=l) (by rw[List.length_append,List.length_singleton];omega)
  generalize z6p cs[k]=ln at *
  generalize z1C (cs.take k)=acc at *
  simp only[go_sem,hlt,hg,zwp,bh_app,bh_get,bh_set,zng,↓fl,fl,↓q1,q1,wk,m1,splice]
  refine⟨k+1,?_,by omega,by omega⟩
  rw[es,show decide (0<k+1)=true by simp]
 ·have hk':k=cs.length:=by omega
  subst hk'
  rw[List.take_length]
  have:=hK (decide (0<cs.length))
  simp only[go_sem,Nat.lt_irrefl,decide_false,zwp,zng,this]
set_option maxHeartbeats 4000000 in
theorem zyR (cs:List Cmd) (hok:∀ c∈cs,CmdOk c) (hl:cs.length≤30):z0c X zbq [ACs cs] h K=K (.tup [AS (if z1i z0f cs=0 then z1C cs else []),AI (z1i z0f cs:Nat)]) h []:=by
 refine rule ?_
 rw[c_q069 rfl]
 have hk:=fun (h':Heap) (K':Post)=>z4T (h:=h') (K:=K') cs hok (by omega)
 by_cases h0:z1i z0f cs=0
 ·rw[h0] at hk
  rw[h0,if_pos rfl]
  obtain⟨hc,_,_⟩:=zcD h0
  have lb:=z5o hc
  have lb2:cs.length*6101≤30*6101:=Nat.mul_le_mul_right _ hl
  simp only[zeM,go_sem,hk,show ((0:Nat):Int)=0 from rfl]
  refine vloop cs hc (by omega) (fun u=>?_)
  have q1:=fun K=>s_BL (h:=h) (K:=K) (u:=u) (s:=z1C cs) (l:=[])
  have q2:=fun K=>z7i (K:=K) (zce (h:=h) (u:=u) (s:=z1C cs) (l:=[])) (by omega)
  have h3':¬ (200000:Int)<((z1C cs).length:Int):=by omega
  simp only[go_sem,↓q1,q1,↓q2,q2,h3']
  refine zyL ?_
  refine⟨rfl,?_,rfl⟩
  unfold z2D bh
  split
  ·simp
  ·rw[List.set_append_right _ _ (by omega)];simp
 ·have h0':¬ ((z1i z0f cs:Nat):Int)=0:=by omega
  rw[if_neg h0]
  simp only[zeM,go_sem,hk,h0']
set_option maxHeartbeats 4000000 in
theorem zcz (hp:posN 40000 a):GenE zaR [] L a (fun v a2=>a≤a2∧a2≤a+8000∧∃ t:List UInt8,t.length≤50000∧v=AS t):=by
 refine GenE.of fun h id hid=>?_
 rw[c_q02o rfl]
 have hid':id≤h.length:=by omega
 have p0:=z0X (n:=0) hp (Int.le_refl a) (by omega)
 have rb:0≤z1S 0 5 L a∧z1S 0 5 L a≤5:=z7c L a (by omega) (by omega)
 obtain⟨n,hn⟩:∃ n:Nat,z1S 0 5 L a=n:=⟨(z1S 0 5 L a).toNat,by omega⟩
 obtain⟨_,a2,⟨d1,d2,l,hl,hb,h0,rfl⟩,V⟩:=(z9w (L:=L) (a:=a+1) n (by omega) (z0X hp (by omega) (by omega))).set (h:=h) hid
 obtain⟨hc,_,_⟩:=zcD h0
 have fl:=fun (h':Heap) (K':Post)=>z5A (h:=h') (K:=K') l hc (by omega)
 have lb:=z5o hc
 have lb2:l.length*6101≤5*6101:=Nat.mul_le_mul_right _ (by omega)
 have p2:posN 0 a2:=z0X hp (by omega) (by omega)
 have hm:=z6Y (L:=L) (a:=a2) (l:=[0,0,1,2]) (by simp) (by simp)
 have hbd:0≤z2Z [0,0,1,2] L a2∧z2Z [0,0,1,2] L a2≤2:=by
  simp only[List.mem_cons,List.not_mem_nil,or_false] at hm
  omega
 have hx:([.int .i64 0,.int .i64 0,.int .i64 1,.int .i64 2]:List PV).all isI=true:=rfl
 have hu:([.int .i64 0,.int .i64 0,.int .i64 1,.int .i64 2]:List PV).map unI=[0,0,1,2]:=rfl
 generalize hpk:z2Z [0,0,1,2] L a2=pk at *
 generalize z1C l=t0 at *
 simp only[zhz,go_sem,hid,hid',p0,hn,↓V,V,↓fl,fl,p2,hx,hu,hpk]
 refine z0T (fun t:Nat × List UInt8 × Int=>⟨[(0,.ref id 0),(3,AS t.2.1),(11,AI pk),(12,AI t.1)],h.set id (strm L t.2.2),[]⟩) (fun t=>(t.1:Int)≤pk∧t.2.1.length≤t0.length+10*t.1∧a2+1≤t.2.2∧t.2.2≤a2+1+3*t.1) (fun t=>2-t.1) (0,t0,a2+1) rfl ⟨by simpa using hbd.1,by simp,by simp,by simp⟩ ?_
 rintro⟨k,t,b⟩ ⟨h1,h2,h3,h4⟩
 dsimp only at h1 h2 h3 h4 ⊢
 by_cases hlt:(k:Int)<pk
 ·have w1:IntKind.i64.wrap ((k:Int)+1)=((k+1:Nat):Int):=z0j _ (by omega) (by omega)
  obtain⟨_,b2,⟨e1,e2,t',ht',rfl⟩,V2⟩:=(zqn (L:=L) (a:=b) t [32,10,48,49,45,120,57,101,100,114] (by omega) (by simp) (by simp) (by decide) (z0X hp (by omega) (by omega))).set (h:=h) hid
  simp only[go_sem,hid,hlt,↓V2,V2,w1]
  have h10:([32,10,48,49,45,120,57,101,100,114]:List UInt8).length=10:=rfl
  exact⟨(k+1,t',b2),rfl,⟨by dsimp only;omega,by dsimp only;omega,by dsimp only;omega,by dsimp only;omega⟩,by dsimp only;omega⟩
 ·simp only[go_sem,hid,hlt]
  exact⟨b,⟨by omega,by omega,t,by omega,rfl⟩,rfl⟩
end Go.Am
end
section
/- The reference: bits that are shifted. -/
open Go
set_option linter.all false
namespace Go.Am
variable {h:Heap} {K:Post}
attribute [-go_sem] oEqa splice
end Go.Am
end
section
/- SignalsMade returns true. -/
open Go
set_option linter.all false
set_option maxRecDepth 100000
namespace Go.Am
variable {h:Heap} {K:Post}
def zfR:Cmd:=⟨7,0,0,[49,48],[],[]⟩
theorem zvc:z1i z0f [zfR]=0:=by kernel_rfl
theorem zvd:(sigT (z0u z0f [] 0 [zfR])).length=9:=by kernel_rfl
theorem clk10:clkV [zfR] = .tup [AI 9,AI 0]:=by unfold clkV;rw[zvc,zvd];rfl
theorem zfN:z0c X zaO [] h K=K (AB true) h []:=by
 refine rule ?_
 have ck:=fun (h:Heap) (K:Post)=>(zuL (h:=h) (K:=K) [zfR] (fun c hc=>by rw[List.mem_singleton.1 hc];exact⟨by decide,by decide,by decide⟩) (by decide)).trans (by rw[clk10])
 simp only[ACs,List.map_cons,List.map_nil,cmdP,zfR] at ck
 rw[c_q02k rfl]
 simp only[zn9,go_sem,ck]
end Go.Am
end
section
/- Lists of commands that are equal. -/
open Go
set_option linter.all false
namespace Go.Am
variable {h:Heap} {K:Post}
attribute [-go_sem] oEqa
theorem eqa6n (c d:Cmd):oEqa [0,0,0,2,2,2] true (ACm c) (ACm d)=some (AB (!decide (c=d))):=by
 obtain⟨k,s,cl,b,w,m⟩:=c
 obtain⟨k',s',cl',b',w',m'⟩:=d
 exact eqa6
theorem zuM (l m:List Cmd) (hl:l.length≤1000000000):z0c X zbh [ACs l,ACs m] h K=K (AB (decide (l=m))) h []:=by
 refine rule ?_
 rw[c_q03z rfl]
 by_cases he:l.length=m.length
 ·have he':(l.length:Int)=(m.length:Int):=by omega
  simp only[ze4,go_sem,he']
  refine z0T (fun k:Nat=>⟨[(0,ACs l),(1,ACs m),(12,AI m.length),(13,AI k)],h,[]⟩) (fun k=>k≤l.length∧l.take k=m.take k) (fun k=>l.length-k) 0 rfl (by simp) ?_
  rintro k ⟨hk,hp⟩
  rcases Nat.lt_or_ge k l.length with hlt | hge
  ·have hlt2:k<m.length:=by omega
   have hlt3:(k:Int)<(m.length:Int):=by omega
   have g1:=z1B cmdP hlt
   have g2:=z1B cmdP hlt2
   have w2:IntKind.i64.wrap ((k:Int)+1)=((k+1:Nat):Int):=z0j _ (by omega) (by omega)
   have hq:=eqa6n l[k] m[k]
   by_cases h1:l[k]=m[k]
   ·rw[decide_eq_true h1] at hq
    simp only[go_sem,hlt,hlt2,hlt3,g1,g2,↓hq,hq,w2]
    refine⟨k+1,rfl,⟨by omega,?_⟩,by omega⟩
    rw[List.take_succ_eq_append_getElem hlt,List.take_succ_eq_append_getElem hlt2,hp,h1]
   ·rw[decide_eq_false h1] at hq
    have hne:¬ l=m:=fun e=>h1 (by subst e;rfl)
    simp only[go_sem,hlt,hlt2,hlt3,g1,g2,↓hq,hq,hne]
  ·obtain rfl:k=l.length:=by omega
   rw[List.take_length,he,List.take_length] at hp
   subst hp
   simp only[go_sem,Nat.lt_irrefl,Int.lt_irrefl,decide_true]
 ·have he':¬ (l.length:Int)=(m.length:Int):=by omega
  have hne:¬ l=m:=fun e=>he (by rw[e])
  simp only[ze4,go_sem,he',hne]
end Go.Am
end
section
/- ProgramTexts returns true. -/
open Go
set_option linter.all false
set_option maxRecDepth 100000
namespace Go.Am
variable {h:Heap} {K:Post}
theorem zu9 (s:List UInt8) (hs:s.length≤100000):(rdVC tkQ s).1.length≤1000000:=by
 obtain⟨i1,i2⟩:=zcW (fun s=>rdQC (z0m 32 s)) CmdOk (lnsT s) (lnsD s) 0 [] (fun l hl=>zrK (Nat.le_trans (z6r hl) hs)) (by simp)
 have hD:=z6q s
 have ee:tkG (fun s=>rdQC (z0m 32 s))=tkQ:=rfl
 rw[ee,List.length_nil,Nat.zero_add] at i2
 unfold rdVC
 split
 ·simp
 split
 ·simp
 ·show (rdTC tkQ s).2.length≤_
  exact Nat.le_trans i2 (by omega)
attribute [-go_sem] z6g z4x
set_option maxHeartbeats 4000000 in
theorem law_PT (L:List Int) {K:Post}:z0c X zhT [AL L] [] K=K (AB true) [] []:=by
 refine rule ?_
 rw[c_q02i rfl]
 have p0:posN 100000 0:=by unfold posN;omega
 have p00:posN 0 0:=by unfold posN;omega
 have rb:0≤z1S 0 6 L 0∧z1S 0 6 L 0≤6:=z7c L 0 (by omega) (by omega)
 obtain⟨n,hn⟩:∃ n:Nat,z1S 0 6 L 0=n:=⟨(z1S 0 6 L 0).toNat,by omega⟩
 obtain⟨_,a2,⟨d1,d2,l,hl,hb,rfl⟩,V⟩:=(zb3 (L:=L) (a:=1) n (by omega) (z0X p0 (by omega) (by omega))).hd (l:=[])
 obtain⟨_,a3,⟨e1,e2,t,ht,rfl⟩,V2⟩:=(zcz (L:=L) (a:=a2) (z0X p0 (by omega) (by omega))).hd (l:=[])
 have hok:∀ c∈l,CmdOk c:=fun c hc=>(hb c hc).ok (by omega)
 have C1:=fun h K=>zyR (h:=h) (K:=K) l hok (by omega)
 have C2:=fun h K=>z4U (h:=h) (K:=K) l hok (by omega)
 have C4:=fun h K=>zyQ (h:=h) (K:=K) t (by omega)
 have C5:=fun h K=>zay (h:=h) (K:=K) t (by omega)
 rw[zyF] at C4
 have E1:=fun h K=>zuM (h:=h) (K:=K) (rdVC tkQ t).1 (rdVC tkQ t).1 (by have:=zu9 t (by omega);omega)
 generalize rdVC tkQ t=R at *
 obtain⟨cs,i,e⟩:=R
 dsimp only at C4 C5 E1
 simp only[decide_true] at E1
 by_cases h0:z1i z0f l=0
 ·obtain⟨hc,_,_⟩:=zcD h0
  have C3:=fun h K=>z5A (h:=h) (K:=K) l hc (by omega)
  simp only[h0,if_true] at C1 C2
  simp only[zdV,go_sem,p00,hn,V,V2,C1,C2,C3]
  rw[z6g]
  simp only[z4x,go_sem,C4,C5,E1,zfN]
 ·simp only[h0,if_false] at C1
  have h0':¬ ((z1i z0f l:Nat):Int)=0:=by omega
  simp only[zdV,go_sem,p00,hn,V,V2,C1,C2,h0']
  rw[z6g]
  simp only[z4x,go_sem,C4,C5,E1,zfN]
end Go.Am
end
section
/- From a law that is true here tov the model's calls at what came in. -/
open Go
namespace Go.Am
variable {P:Program}
theorem law_nil {X:Ctx} (HX:Fits P X) {f:Nat} {F:AFun} (hF:X.fn f=some F) (H:∀ L:List Int,z0c X f [zu0 L] [] fun v _ _=>v = .p (.bool true)) (W:World) (hG:GInv X.gl (imm [] [] W)) :
 Calls P f #[.slice none 0 0] W fun e W'=>e = .returned (.bool true)∧RowKit.Below W.heap.size W W':=by
 refine (zhj HX hF (H []) (W:=W) (vs:=[.slice none 0 0]) hG rfl (fun j y v hy hv=>?_)).mono fun e W' he=>?_
 ·cases j with
  | zero=>cases hy;cases hv;exact ztn W
  | succ j=>cases hy
 ·cases e with
  | returned r=>
   obtain⟨⟨v,h,x,μ,hk,hr⟩,hb⟩:=he
   subst hk
   exact⟨by rw[hr.p_bool],hb⟩
  | panicked _=>exact he.elim
  | outgrown=>exact he.elim
theorem law_ints {X:Ctx} (HX:Fits P X) {f:Nat} {F:AFun} (hF:X.fn f=some F) (H:∀ L:List Int,z0c X f [zu0 L] [] fun v _ _=>v = .p (.bool true)) {W:World} (hG:GInv X.gl (imm [] [] W)) {a:Addr} {len cap:Nat} {zs:List Int}
 (hl:len≤cap) (hz:len≤zs.length) (hc:∀ i,i<zs.length→W.cell? (a.add i)=some (.int .i64 (zs.getD i 0))) :
 Calls P f #[.slice (some a) len cap] W fun e W'=>e = .returned (.bool true)∧RowKit.Below W.heap.size W W':=by
 refine (zhj HX hF (H (zs.take len)) (W:=W) (vs:=[.slice (some a) len cap]) hG rfl (fun j y v hy hv=>?_)).mono fun e W' he=>?_
 ·cases j with
  | zero=>
   cases hy;cases hv
   rcases Nat.eq_zero_or_pos len with h0 | h0
   ·subst h0
    exact .p _ _ (.nils _ _ _)
   ·exact znm (by simpa [Addr.add] using World.cell?_spot (hc 0 (by omega))) hl hz hc
  | succ j=>cases hy
 ·cases e with
  | returned r=>
   obtain⟨⟨v,h,x,μ,hk,hr⟩,hb⟩:=he
   subst hk
   exact⟨by rw[hr.p_bool],hb⟩
  | panicked _=>exact he.elim
  | outgrown=>exact he.elim
end Go.Am
namespace Go.ChangeShapes
open Go.RowKit Go.WideShapes
section
variable {H:Type} {enc:TypeId × Value→H} {P:Program}
end
end Go.ChangeShapes
end
section
/- The abstract machine,part L2: the kit's contracts asv rows. -/
set_option linter.unusedSimpArgs false
set_option linter.unusedVariables false
namespace Go.Am
variable {P:Program} {gl:Nat→Option PV}
open Go.Shelf
theorem zrj:∀ n:Nat,Go.Lib.decDigits n=decN n:=by
 intro n
 induction n using Nat.strongRecOn with
 | _ n ih=>
  rw[Go.Lib.decDigits,decN]
  split
  ·rfl
  ·rw[ih _ (by omega)];rfl
theorem zuk (n:Int):Go.Lib.itoa n=itoa n:=by
 unfold Go.Lib.itoa itoa
 split
 ·rw[zrj]
 ·rw[zrj];congr 1;omega
theorem tab_of {M:Mem} {w:World} {g:Nat} {name:String} {k:IntKind} {zs:List Int} (hn:P.globalNamed name=some g) (hg:gl g=some (.agg (zs.map (PV.int k)))) (hc:∀ b o v,M.c b o=some v→w.cell? ⟨b,o,none⟩=some v) (hb:∀ b o,M.b b=some o→w.heap[b]?=some o) (hG:GInv gl M) :
 Go.Lib.TabIs P w name k zs:=by
 obtain⟨hv,cs,t,x,h2,h3⟩:=hG g _ hg
 have h4:=hb _ _ h2
 unfold Go.Lib.TabIs World.var?
 rw[hn]
 simp only[Option.bind_some,h4,Option.some.injEq]
 simp only[PV.cells,List.length_map] at h3
 apply Array.ext
 ·simpa using h3
 ·intro i hi1 hi2
  have hi:i<zs.length:=by omega
  cases hv with
  | vp _ _ _ f hm hr=>
   have hy:(PV.agg (zs.map (PV.int k))).cells[i]?=some (.int k zs[i]):=by simp [PV.cells,hi]
   have q1:=hc _ _ _ (hm i _ hy)
   have q2:=hr i _ hy
   have q3:f i = .int k zs[i]:=by
    generalize f i=u at q2
    cases q2;rfl
   rw[q3] at q1
   have q4:cs[i]?=some (.int k zs[i]):=by simpa [World.cell?,h4] using q1
   rw[Array.getElem?_eq_getElem hi1] at q4
   simpa using q4
theorem ginv_tab {W:World} {g:Nat} {name:String} {k:IntKind} {zs:List Int} {v:PV} (hn:P.globalNamed name=some g) (ht:Go.Lib.TabIs P W name k zs) (hv:v = .agg (zs.map (PV.int k))):GInv (glOf [(g,v)]) (imm [] [] W):=by
 intro n v' hv'
 unfold glOf at hv'
 cases hq:Nat.beq n g with
 | false=>rw[hq] at hv';cases hv'
 | true=>
  rw[hq] at hv'
  have e:=Nat.eq_of_beq_eq_true hq
  subst e
  simp only[cond_true,Option.some.injEq] at hv'
  subst hv'
  subst hv
  unfold Go.Lib.TabIs World.var? at ht
  rw[hn] at ht
  simp only[Option.bind_some] at ht
  cases hb:W.heap[n]? with
  | none=>rw[hb] at ht;cases ht
  | some o=>
   rw[hb] at ht
   cases o with
   | cells cs t x=>
    simp only[Option.some.injEq] at ht
    refine⟨.vp _ n 0 (fun j=>(zs.map fun z=>Value.int k z).getD j undef) (fun j y hy=>?_) (fun j y hy=>?_),cs,t,x,zik hb,by rw[ht];simp [PV.cells]⟩
    ·have hj:j<zs.length:=by have:=z0h hy;simpa [PV.cells] using this
     refine zfz ?_
     simp [World.cell?,hb,ht,hj,List.getD_eq_getElem?_getD]
    ·have hj:j<zs.length:=by have:=z0h hy;simpa [PV.cells] using this
     have e1:y = .int k zs[j]:=by simpa [PV.cells,hj] using hy.symm
     have e2:(zs.map fun z=>Value.int k z).getD j undef = .int k zs[j]:=by simp [List.getD_eq_getElem?_getD,hj]
     rw[e1,e2]
     exact .int k _
   | _=>cases ht
theorem ztV (w:World) (k:Nat) (os:Array Go.Obj):WExt w (Go.Sort.grow (w.drewN k) os):=by
 refine⟨?_,fun b hb=>?_,rfl⟩
 ·show w.heap.size≤(w.heap++os).size
  simp
 ·show (w.heap++os)[b]?=_
  rw[Array.getElem?_append_left hb]
theorem itoaRow {ρ:Ren} (L:Go.Proofs.LaysM.n171 P ρ) (g:Nat) (hn:P.globalNamed "internal/strconv.uint64pow10" = some g) (hg:gl g=some zcC) (he:∀ us w,(callFunc (ρ.f 171) us).run P w = .ok (.enter (ρ.f 171) us) w):PureRow P gl (ρ.f 171) zq2 where
 enter:=he
 run M w vs r us hc hb hG hl hr hs:=by
  unfold zq2 at hs
  split at hs
  ·rename_i n
   match us,hl with
   | [u],_=>
    have q:=hr 0 _ u rfl rfl
    cases q
    cases hbd:(decide (-9223372036854775808≤n)&&decide (n≤9223372036854775807)) with
    | false=>rw[hbd] at hs;cases hs
    | true=>
     rw[hbd] at hs
     simp only[cond_true,Option.some.injEq] at hs
     subst hs
     simp only[Bool.and_eq_true,decide_eq_true_eq] at hbd
     have hpw:zcC = .agg (Go.Lib.pow10Tab.map (PV.int .u64)):=by unfold zcC Go.Lib.pow10Tab;rw[List.map_map];rfl
     rw[hpw] at hg
     refine (Go.Proofs.Any.strconv_Itoa L n hbd.1 hbd.2 w (tab_of hn hg hc hb hG)).mono fun e w' h=>?_
     obtain⟨rfl,k,os,rfl⟩:=h
     exact⟨_,rfl,ztV w k os,by rw[zuk];exact .p _ _ (.str _)⟩
  ·cases hs
end Go.Am
end
section
/- The abstract machine,part L6: scanref2.setting (a range over slices.Backward with a return inside) asv a row,out of what the walk says of it. -/
set_option linter.all false
namespace Go.Am
variable {P:Program} {gl:Nat→Option PV}
theorem zim {y:PV} (h:zgB y=true):∃ a b c s t u,y = .agg [.int .i64 a,.int .i64 b,.int .i64 c,.str s,.str t,.str u]:=by
 unfold zgB at h
 split at h
 ·exact⟨_,_,_,_,_,_,rfl⟩
 ·cases h
def cmdW (a b c:Int) (s t u:List UInt8):Value:=.agg #[.int .i64 a,.int .i64 b,.int .i64 c,.string ⟨s.toArray⟩,.string ⟨t.toArray⟩,.string ⟨u.toArray⟩]
theorem zhl (M:Mem) (a b c:Int) (s t u:List UInt8):RPV M (.agg [.int .i64 a,.int .i64 b,.int .i64 c,.str s,.str t,.str u]) (cmdW a b c s t u):=by
 refine .agg _ [_,_,_,_,_,_] rfl fun j y v h1 h2=>?_
 match j with
 | 0=>cases h1;cases h2;exact .int _ _
 | 1=>cases h1;cases h2;exact .int _ _
 | 2=>cases h1;cases h2;exact .int _ _
 | 3=>cases h1;cases h2;exact .str _
 | 4=>cases h1;cases h2;exact .str _
 | 5=>cases h1;cases h2;exact .str _
 | j+6=>simp at h1
def z5G (xs:List PV) (j q:Nat):Value:=match xs[j]? with
 | some (.agg [.int .i64 a,.int .i64 b,.int .i64 c,.str s,.str t,.str u])=>match q with
  | 0=>.int .i64 a | 1=>.int .i64 b | 2=>.int .i64 c | 3=>.string ⟨s.toArray⟩ | 4=>.string ⟨t.toArray⟩ | _=>.string ⟨u.toArray⟩
 | _=>match q with
  | 0=>.int .i64 0 | 1=>.int .i64 1 | 2=>.int .i64 0 | _=>.string ⟨#[]⟩
theorem z4v {xs:List PV} {j:Nat} {a b c:Int} {s t u:List UInt8} (h:xs[j]?=some (.agg [.int .i64 a,.int .i64 b,.int .i64 c,.str s,.str t,.str u])) (q:Nat) :
 z5G xs j q=match q with
 | 0=>.int .i64 a | 1=>.int .i64 b | 2=>.int .i64 c | 3=>.string ⟨s.toArray⟩ | 4=>.string ⟨t.toArray⟩ | _=>.string ⟨u.toArray⟩:=by
 unfold z5G;rw[h]
theorem zdH {xs:List PV} {j:Nat} (h:xs[j]?=none) (q:Nat) :
 z5G xs j q=match q with
 | 0=>.int .i64 0 | 1=>.int .i64 1 | 2=>.int .i64 0 | _=>.string ⟨#[]⟩:=by
 unfold z5G;rw[h]
def Cmds (f:Nat→Nat→Value) (kd:Nat→Int):Prop:=∀ j,∃ b c s t u,f j 0 = .int .i64 (kd j)∧f j 1 = .int .i64 b∧f j 2 = .int .i64 c∧f j 3 = .string s∧f j 4 = .string t∧f j 5 = .string u
def zxd (P:Program) (fn:Nat):Prop:=
 (∀ (b off len cap i:Nat) (k:Int) (f:Nat→Nat→Value) (kd:Nat→Int) (w:World),i≤len→len≤cap→Cmds f kd→len*200≤140737488351232 →
  (b<w.heap.size∧∀ j q,j<len→q<6→w.cell? ⟨b,off+(6*j+q),none⟩=some (f j q)) →
  Calls P fn #[.slice (some ⟨b,off,none⟩) len cap,.int .i64 i,.int .i64 k] w fun e W'=>
   ((∃ j,j<i∧e = .returned (.agg #[f j 0,f j 1,f j 2,f j 3,f j 4,f j 5])∧kd j=k∧∀ j',j<j'→j'<i→kd j'≠k) ∨
    (e = .returned (.agg #[.int .i64 0,.int .i64 1,.int .i64 0,.string ⟨#[]⟩,.string ⟨#[]⟩,.string ⟨#[]⟩])∧∀ j,j<i→kd j≠k))∧Go.RowKit.Below w.heap.size w W') ∧
 (∀ (a:Option Addr) (cap:Nat) (k:Int) (w:World),Calls P fn #[.slice a 0 cap,.int .i64 0,.int .i64 k] w fun e W'=>
  e = .returned (.agg #[.int .i64 0,.int .i64 1,.int .i64 0,.string ⟨#[]⟩,.string ⟨#[]⟩,.string ⟨#[]⟩])∧Go.RowKit.Below w.heap.size w W')
theorem z8J {xs:List PV} (h:xs.all zgB=true) (j:Nat) :
 (xs.length≤j∧xs[j]?=none)∨(j<xs.length∧∃ a b c s t u,xs[j]?=some (.agg [.int .i64 a,.int .i64 b,.int .i64 c,.str s,.str t,.str u])):=by
 rcases Nat.lt_or_ge j xs.length with h1 | h1
 ·obtain⟨a,b,c,s,t,u,e⟩:=zim (List.all_eq_true.1 h _ (List.getElem_mem h1))
  exact .inr ⟨h1,a,b,c,s,t,u,by rw[List.getElem?_eq_getElem h1,e]⟩
 ·exact .inl ⟨h1,List.getElem?_eq_none h1⟩
theorem znw {xs:List PV} (h:xs.all zgB=true):Cmds (z5G xs) fun j=>zcl ((xs[j]?).getD zqx):=fun j=>by
 rcases z8J h j with ⟨_,e⟩ | ⟨_,a,b,c,s,t,u,e⟩
 ·simp only[zdH e,e]
  exact⟨_,_,_,_,_,rfl,rfl,rfl,rfl,rfl,rfl⟩
 ·simp only[z4v e,e]
  exact⟨_,_,_,_,_,rfl,rfl,rfl,rfl,rfl,rfl⟩
theorem zcx {p:PV→Bool}:∀ {l:List PV} {j:Nat} {y:PV},l[j]?=some y→p y=true→(∀ j' z,j<j'→l[j']?=some z→p z=false)→l.reverse.find? p=some y:=by
 intro l
 induction l with
 | nil=>intro j y h;simp at h
 | cons a r ih=>
  intro j y h hp hn
  rw[List.reverse_cons,List.find?_append]
  cases j with
  | succ j=>
   rw[ih (j:=j) (by simpa using h) hp (fun j' z h1 h2=>hn (j'+1) z (by omega) (by simpa using h2))]
   rfl
  | zero=>
   simp only[List.getElem?_cons_zero,Option.some.injEq] at h
   subst h
   have:r.reverse.find? p=none:=by
    rw[List.find?_eq_none]
    intro z hz
    obtain⟨j',h1⟩:=List.mem_iff_getElem?.1 (List.mem_reverse.1 hz)
    simp [hn (j'+1) z (by omega) (by simpa using h1)]
   rw[this]
   simp [hp]
theorem zz5 {fn:Nat} (H:zxd P fn) (he:∀ us w,(callFunc fn us).run P w = .ok (.enter fn us) w):PureRow P gl fn z7k where
 enter:=he
 run M w vs r us hc hb hG hl hr hs:=by
  unfold z7k at hs
  split at hs
  ·rename_i xs i k
   split at hs
   ·rename_i hcd
    obtain⟨h0,hi,hlen,hall⟩:=hcd
    simp only[Option.some.injEq] at hs
    subst hs
    match us,hl with
    | [u0,u1,u2],_=>
     have q0:=hr 0 _ u0 rfl rfl
     have q1:=hr 1 _ u1 rfl rfl
     cases q1
     have q2:=hr 2 _ u2 rfl rfl
     cases q2
     obtain⟨n,rfl⟩:∃ n:Nat,i=n:=⟨i.toNat,by omega⟩
     simp only[Int.toNat_natCast]
     have hidle:∀ M',RAV M' [] [] (.p zqx) (.agg #[.int .i64 0,.int .i64 1,.int .i64 0,.string ⟨#[]⟩,.string ⟨#[]⟩,.string ⟨#[]⟩]):=fun M'=>.p _ _ (zhl M' 0 1 0 [] [] [])
     generalize hsh:(some 6:Sh)=sh at q0
     cases q0 with
     | nils _ a cap=>
      obtain rfl:n=0:=by simpa using hi
      refine (H.2 a cap k w).mono fun e w' h=>?_
      obtain⟨rfl,h⟩:=h
      exact⟨_,rfl,z3d h,hidle _⟩
     | sl _ _ b o cap f hne hcap hshp hm hrr=>
      have hn6:∀ x∈xs,x.cells.length=6:=fun x hx=>by
       obtain⟨a,b,c,s,t,u,e⟩:=zim (List.all_eq_true.1 hall x hx)
       rw[e];rfl
      have hcell:∀ j q,j<xs.length→q<6→w.cell? ⟨b,o+(6*j+q),none⟩=some (z5G xs j q):=by
       intro j q hj hq
       rcases z8J hall j with ⟨h1,_⟩ | ⟨_,a,b',c,s,t,u,e⟩
       ·omega
       ·have hf:=z2Q hn6 j q hq
        rw[e] at hf
        rw[Nat.mul_comm 6 j]
        rw[z4v e]
        have hq':q=0∨q=1∨q=2∨q=3∨q=4∨q=5:=by omega
        rcases hq' with rfl | rfl | rfl | rfl | rfl | rfl <;>
        ·have h1:=hc _ _ _ (hm _ _ hf)
         have h2:=hrr _ _ hf
         revert h1 h2
         generalize f _=fj
         intro h1 h2
         cases h2
         exact h1
      have hb0:b<w.heap.size:=cell_lt (hcell 0 0 (List.length_pos_iff.2 hne) (by omega))
      refine (H.1 b o xs.length cap n k (z5G xs) (fun j=>zcl ((xs[j]?).getD zqx)) w (by omega) hcap (znw hall) (by omega) ⟨hb0,hcell⟩).mono fun e w' h=>?_
      obtain⟨h,hB⟩:=h
      rcases h with ⟨j,hj,rfl,hk,hlast⟩ | ⟨rfl,hnone⟩
      ·rcases z8J hall j with ⟨h1,_⟩ | ⟨_,a,b',c,s,t,u,e⟩
       ·omega
       ·have hfd:z2R (xs.take n) k = .agg [.int .i64 a,.int .i64 b',.int .i64 c,.str s,.str t,.str u]:=by
         unfold z2R
         rw[zcx (j:=j) (y:=.agg [.int .i64 a,.int .i64 b',.int .i64 c,.str s,.str t,.str u]) (by rw[List.getElem?_take,if_pos hj];exact e) (by rw[e] at hk;simpa using hk) (fun j' z h1 h2=>by
          rw[List.getElem?_take] at h2
          split at h2
          ·rename_i h3
           have:=hlast j' h1 h3
           rw[h2] at this
           simpa using this
          ·cases h2)]
         rfl
        refine⟨_,rfl,z3d hB,?_⟩
        rw[hfd]
        simp only[z4v e]
        exact .p _ _ (zhl _ a b' c s t u)
      ·have hfd:z2R (xs.take n) k=zqx:=by
        unfold z2R
        rw[List.find?_eq_none.2]
        ·rfl
        ·intro z hz
         obtain⟨j',h1⟩:=List.mem_iff_getElem?.1 (List.mem_reverse.1 hz)
         rw[List.getElem?_take] at h1
         split at h1
         ·rename_i h3
          have:=hnone j' h3
          rw[h1] at this
          simpa using this
         ·cases h1
       refine⟨_,rfl,z3d hB,?_⟩
       rw[hfd]
       exact hidle _
   ·cases hs
  ·cases hs
end Go.Am
end
section
/- The abstract machine,part L3: strconv.Atoi asv a row. -/
set_option linter.all false
namespace Go.Am
variable {P:Program} {gl:Nat→Option PV}
open Go.Shelf
theorem zc1:∀ (l:List UInt8) (acc n k:Nat),digN acc l=some n→acc<10^k→l.length+k≤18→Go.Lib.parseUint10 acc l = .ok n∧n<10^(k+l.length)
 | [],acc,n,k,h,ha,hl=>by
  simp only[digN,Option.some.injEq] at h
  subst h
  exact⟨rfl,by simpa using ha⟩
 | c::r,acc,n,k,h,ha,hl=>by
  simp only[digN] at h
  split at h
  ·rename_i hc
   simp only[List.length_cons] at hl ⊢
   have h18:10^(k+1)≤10^18:=Nat.pow_le_pow_right (by omega) (by omega)
   have e18:(10:Nat)^18=1000000000000000000:=rfl
   have hp:acc*10+(c.toNat-48)<10^(k+1):=by rw[Nat.pow_succ];omega
   obtain⟨q1,q2⟩:=zc1 r _ n (k+1) h hp (by omega)
   refine⟨?_,by rw[show k+(r.length+1)=k+1+r.length by omega];exact q2⟩
   unfold Go.Lib.parseUint10
   rw[if_pos hc,if_neg (by omega),if_neg (by omega)]
   exact q1
  ·cases h
theorem zuj {s:List UInt8} {n:Nat} (h1:1≤s.length) (h2:s.length≤18) (h:digN 0 s=some n):Go.Lib.atoiAll s = .ok (n:Int):=by
 obtain⟨q1,q2⟩:=zc1 s 0 n 0 h (by simp) (by omega)
 have h18:10^(0+s.length)≤10^18:=Nat.pow_le_pow_right (by omega) (by omega)
 have e18:(10:Nat)^18=1000000000000000000:=rfl
 cases s with
 | nil=>simp at h1
 | cons c r=>
  have hc:48≤c.toNat∧c.toNat≤57:=by
   simp only[digN] at h
   split at h
   ·assumption
   ·cases h
  unfold Go.Lib.atoiAll
  dsimp only
  rw[if_neg (by omega)]
  have hm:Go.Lib.parseMag (c::r) = .ok n:=by unfold Go.Lib.parseMag;rw[if_neg (by simp)];exact q1
  rw[hm]
  dsimp only
  rw[if_neg (by omega),if_neg (by omega),if_neg (by omega)]
theorem zri {s:List UInt8} {n:Nat} (h1:2≤s.length) (h2:s.length≤18) (h0:s.head?=some 45) (h:digN 0 s.tail=some n):Go.Lib.atoiAll s = .ok (-(n:Int)):=by
 cases s with
 | nil=>simp at h1
 | cons c r=>
  simp only[List.head?_cons,Option.some.injEq] at h0
  subst h0
  simp only[List.tail_cons,List.length_cons] at h h1 h2
  obtain⟨q1,q2⟩:=zc1 r 0 n 0 h (by simp) (by omega)
  have h18:10^(0+r.length)≤10^18:=Nat.pow_le_pow_right (by omega) (by omega)
  have e18:(10:Nat)^18=1000000000000000000:=rfl
  have hm:Go.Lib.parseMag r = .ok n:=by
   unfold Go.Lib.parseMag
   rw[if_neg (by intro e;subst e;simp at h1)]
   exact q1
  have e45:(45:UInt8).toNat=45:=rfl
  unfold Go.Lib.atoiAll
  dsimp only
  rw[if_pos (Or.inr e45),hm]
  dsimp only
  rw[if_neg (by simp [e45]),if_neg (by omega),if_pos e45]
theorem znj (w:World) (e:TypeId) (t:ByteArray):WExt w (Go.Lib.bytesWorld w e t):=
 ⟨by rw[Go.Lib.bytesWorld_size];omega,fun b hb=>Go.Lib.bytesWorld_at_old w e t b hb,by unfold zed Go.Lib.bytesWorld World.freeze;split <;> rfl⟩
theorem atoiRow {ρ:Ren} (L:Go.Proofs.LaysC.n172 P ρ) (he:∀ us w,(callFunc (ρ.f 172) us).run P w = .ok (.enter (ρ.f 172) us) w):PureRow P gl (ρ.f 172) zj4 where
 enter:=he
 run M w vs r us hc hb hG hl hr hs:=by
  unfold zj4 at hs
  split at hs
  ·rename_i s
   match us,hl with
   | [u],_=>
    have q:=hr 0 _ u rfl rfl
    cases q
    split at hs
    ·rename_i hbd
     have hv:∃ v:Int,Go.Lib.atoiAll s = .ok v∧r = .tup [.p (.int .i64 v),.nili]:=by
      split at hs
      ·rename_i n hn
       simp only[Option.some.injEq] at hs
       exact⟨_,zuj hbd.1 hbd.2 hn,hs.symm⟩
      ·split at hs
       ·rename_i h45
        obtain⟨n,hn,rfl⟩:=Option.map_eq_some_iff.1 hs
        exact⟨_,zri h45.2 hbd.2 h45.1 hn,rfl⟩
       ·cases hs
     obtain⟨n,hn,rfl⟩:=hv
     have hsz:(⟨s.toArray⟩:ByteArray).size=s.length:=by simp [ByteArray.size]
     refine (Go.Proofs.Any.strconv_Atoi_ok L ⟨s.toArray⟩ (by rw[hsz];omega) n hn w).mono fun e w' h=>?_
     obtain⟨rfl,h⟩:=h
     refine⟨_,rfl,?_,?_⟩
     ·rcases h with h | ⟨t,h⟩
      ·rw[h];exact WExt.refl _
      ·rw[h];exact znj _ _ t
     ·refine .tup _ [.int .i64 n,.nilIface] rfl (fun j y v h1 h2=>?_)
      match j with
      | 0=>simp at h1 h2;subst h1;subst h2;exact .p _ _ (.int _ _)
      | 1=>simp at h1 h2;subst h1;subst h2;exact .nili
      | j+2=>simp at h1
    ·cases hs
  ·cases hs
end Go.Am
end
