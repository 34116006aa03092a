import Derived.Laws.IdiomStrings
import Derived.Laws.Runes
import Derived.ChangeKeysEq
import Derived.MapKept
import Derived.Test.YthlhdniejglcnaaGreatDoorlawPY1
set_option linter.all false
set_option maxRecDepth 100000
set_option maxHeartbeats 0
namespace Go.Am
section
variable {h h':aA} {μ μ':Mu} {w w':World} {P:Program} {M M':Mem}
theorem zqu {α:Type}(cs vs:List α)(off j:Nat)(hl:off<=cs.length):(splice cs off vs)[j]?=if off<=j/\j<off+vs.length then vs[j-off]? else cs[j]?:=by
 unfold splice;by_cases h1:j<off
 ·rw[List.getElem?_append_left (by simp;omega),List.getElem?_append_left (by simp;omega),List.getElem?_take,if_pos h1,if_neg (by omega)]
 ·by_cases h2:j<off+vs.length
  ·rw[List.getElem?_append_left (by simp;omega),List.getElem?_append_right (by simp;omega),if_pos (by omega)]
   simp [Nat.min_eq_left hl]
  ·rw[List.getElem?_append_right (by simp;omega),if_neg (by omega),List.getElem?_drop]
   congr 1
   simp;omega
theorem MW {α:Type}(cs vs:List α)(off:Nat)(hl:off<=cs.length):(splice cs off vs).length=max cs.length (off+vs.length):=by
 unfold splice;simp;omega
theorem z3T {α:Type}(cs vs:List α):splice cs cs.length vs=cs++vs:=by
 unfold splice;simp
theorem FH.one {sh:Sh}{ys:List PV}{c:List Value}(H:FH M sh ys c):∀v∈c,v.oneCell'=true:=by
 intro v hv;obtain⟨j,hj,e⟩:=List.getElem_of_mem hv;have he:∀x∈ys,x.cells.length=gA sh:=λx hx=>uC (H.2.1 x hx)
 have hlt:j<(ys.flatMap PV.cells).length:=by rw[z1f he,<-H.1];exact hj
 have hy:=List.getElem?_eq_getElem hlt
 obtain⟨x,h1,h2,_,_⟩:=mH he hy;have hs:=JW (H.2.1 x (List.mem_of_getElem? h1)) _ (List.mem_of_getElem? h2)
 obtain⟨v',h3,h4⟩:=H.2.2 j _ hy;rw[List.getElem?_eq_getElem hj,e]at h3;injection h3 with h3
 subst h3;exact xQ (h:=[]) (μ:=[]) (.p _ _ h4) hs
theorem fN {id at_:Nat}{sh:Sh}{xs ys:List PV}{fz b n:Nat}{c:Array Value}{vs:List Value}(H:HeapRel h μ w)(ho:h[id]?=some (.row sh xs fz))(hm:μ[id]?=some (some (b,n)))
 (hB0:gB w b n c (xs.length<fz)) (hR:FH (imm h μ w) sh ys vs) (hfz:fz<=at_) (hat:at_<=xs.length) (hn:(at_+ys.length)*gA sh<=n) :
 ∃w',(storeCells ⟨b,at_*gA sh,none⟩ vs).run P w = .ok () w'/\HeapRel (h.set id (.row sh (splice xs at_ ys) fz)) μ w' /\
  Evo (imm h μ w) h μ (imm (h.set id (.row sh (splice xs at_ ys) fz)) μ w') (h.set id (.row sh (splice xs at_ ys) fz)) μ/\rA h (h.set id (.row sh (splice xs at_ ys) fz)) []:=by
 have hB:=hB0.unsl (by omega)
 obtain⟨k1,k2,c',hB',hn',hcell⟩:=H.obj id _ _ ho hm;have hcc:c'=c:=by
  obtain⟨_,E,lo,hi,e1,_⟩:=hB;obtain⟨_,E',lo',hi',e2,_⟩:=hB';rw[e1]at e2;injection e2 with e2;injection e2 with e2;exact e2.symm
 subst hcc;have hmul:(at_+ys.length)*gA sh=at_*gA sh+ys.length*gA sh:=Nat.add_mul _ _ _
 obtain⟨E,lo,hi,g1,g2⟩:=z3D (P:=P) (o:=at_*gA sh) vs w c' 0 hB (by rw[hR.1];omega) hR.one
 simp only[Nat.add_zero]at g2;have hlo:¬False->lo<hi->n<=lo:=by
  obtain⟨_,E',lo',hi'',q1,q2⟩:=hB;rw[g1]at q1;injection q1 with q1;injection q1 with _ _ q3;injection q3 with q3 q4;subst q3;subst q4;exact q2
 have hsz:at_*gA sh+vs.length<=c'.size:=by rw[hB.1,hR.1];omega
 have hμ:μ.set id (some (b,n))=μ:=tE hm
 have he:∀x∈ys,x.cells.length=gA sh:=λx hx=>uC (hR.2.1 x hx)
 have key:=H.set (w':=uB w b (.cells (yB c' (at_*gA sh) vs) E (lo,hi))) (o':=.row sh (splice xs at_ ys) fz) (m':=some (b,n)) ho hm ⟨_,fz,rfl,by rw[MW _ _ _ hat];omega,λ_=>rfl⟩
  rfl (Nat.le_of_eq (QI _ _).symm) (λb' _ hb'=>PI (λe=>hb' n (by rw[e])))
  (λb' n e=>.inl ⟨n,e⟩) (λb' n' sh2 xs2 fz2 e1 e2=>by
   injection e2 with e2 e3 e4
   subst e2;subst e3;subst e4
   injection e1 with e1;injection e1 with e1 _;subst e1
   refine⟨_,fz,rfl,λj hj=>⟨?_,λ_ _=>hj⟩⟩
   have hB':gB (uB w b (.cells (yB c' (at_*gA sh) vs) E (lo,hi))) b n (yB c' (at_*gA sh) vs):=⟨by rw[oG,hB.1],E,lo,hi,OE g1,hlo⟩
   rw[SD hB',SD hB,zH _ _ _ _ hsz,if_neg];have:fz*gA sh<=at_*gA sh:=Nat.mul_le_mul_right _ hfz
   omega)
  (λM' Ev=>by
   refine⟨by rw[MW _ _ _ hat];omega,λz hz=>?_,yB c' (at_*gA sh) vs,gB.sealed _ ⟨by rw[oG,hB.1],E,lo,hi,OE g1,hlo⟩,?_,λi2 j z u hz hu=>?_⟩
   ·simp only[splice,List.mem_append]at hz
    rcases hz with(hz|hz)|hz
    ·exact k2 z (List.mem_of_mem_take hz)
    ·exact hR.2.1 z hz
    ·exact k2 z (List.mem_of_mem_drop hz)
   ·rw[MW _ _ _ hat]
    rcases Nat.le_total xs.length (at_+ys.length) with q|q
    ·rw[Nat.max_eq_right q];exact hn
    ·rw[Nat.max_eq_left q];exact hn'
   ·rw[zqu _ _ _ _ hat]at hz
    rw[zH _ _ _ _ hsz];split at hz
    ·rename_i hi2
     have hj:j<gA sh:=by
      have:=he z (List.mem_of_getElem? hz);have:=IA hu;omega
     have hfl:=uI he (i2-at_) j hj
     rw[hz]at hfl;simp only[Option.bind_some,hu]at hfl;obtain⟨v,q1,q2⟩:=hR.2.2 _ u hfl;have hidx:i2*gA sh+j-at_*gA sh=(i2-at_)*gA sh+j:=by
      have:i2*gA sh=at_*gA sh+(i2-at_)*gA sh:=by rw[<-Nat.add_mul];congr 1;omega
      omega
     have hlt:=IA q1
     have hge:at_*gA sh<=i2*gA sh:=Nat.mul_le_mul_right _ hi2.1
     rw[if_pos ⟨by omega,by omega⟩,hidx]
     exact⟨v,q1,q2.mono Ev.le⟩
    ·rename_i hi2
     have hj:j<gA sh:=by
      have:=uC (k2 z (List.mem_of_getElem? hz));have:=IA hu;omega
     rw[if_neg]
     ·obtain⟨v,q1,q2⟩:=hcell i2 j z u hz hu
      exact⟨v,q1,q2.mono Ev.le⟩
     ·rintro⟨q1,q2⟩
      apply hi2
      rw[hR.1]at q2;constructor
      ·rcases Nat.lt_or_ge i2 at_ with q|q
       ·have:(i2+1)*gA sh<=at_*gA sh:=Nat.mul_le_mul_right _ q
        rw[Nat.add_mul,Nat.one_mul]at this;omega
       ·exact q
      ·rcases Nat.lt_or_ge i2 (at_+ys.length) with q|q
       ·exact q
       ·have:(at_+ys.length)*gA sh<=i2*gA sh:=Nat.mul_le_mul_right _ q
        omega) (iL g1)
 rw[hμ]at key;exact⟨_,g2,key.1,key.2,rA.set ho (by simp [Obj.top])⟩
theorem fE.join {sh:Sh}{xs ys:List PV}{old c rest:Array Value}(H1:FH M sh xs old.toList)(H2:FH M sh ys c.toList):fE M sh (xs++ys) (old++c++rest):=by
 have h1:old.size=xs.length*gA sh:=by simpa using H1.1
 have h2:c.size=ys.length*gA sh:=by simpa using H2.1
 have e1:∀x∈xs,x.cells.length=gA sh:=λx hx=>uC (H1.2.1 x hx)
 have e2:∀x∈ys,x.cells.length=gA sh:=λx hx=>uC (H2.2.1 x hx)
 refine⟨by simp [h1,h2,Nat.add_mul],λx hx=>?_,λi j x y hx hy=>?_⟩
 ·rcases List.mem_append.1 hx with hx|hx
  ·exact H1.2.1 x hx
  ·exact H2.2.1 x hx
 ·rcases Nat.lt_or_ge i xs.length with hi|hi
  ·rw[List.getElem?_append_left hi]at hx
   have hj:j<gA sh:=by have:=e1 x (List.mem_of_getElem? hx);have:=IA hy;omega
   have hf:=uI e1 i j hj
   rw[hx]at hf;simp only[Option.bind_some,hy]at hf;obtain⟨v,q1,q2⟩:=H1.2.2 _ y hf;have:=IA q1;refine⟨v,?_,q2⟩;rw[Array.getElem?_append_left (by simp at this ⊢;omega),Array.getElem?_append_left (by simpa using this)]
   simpa using q1
  ·rw[List.getElem?_append_right hi]at hx
   have hj:j<gA sh:=by have:=e2 x (List.mem_of_getElem? hx);have:=IA hy;omega
   have hf:=uI e2 (i-xs.length) j hj
   rw[hx]at hf;simp only[Option.bind_some,hy]at hf;obtain⟨v,q1,q2⟩:=H2.2.2 _ y hf;have hlt:=IA q1
   have hidx:i*gA sh+j=xs.length*gA sh+((i-xs.length)*gA sh+j):=by
    have:i*gA sh=xs.length*gA sh+(i-xs.length)*gA sh:=by rw[<-Nat.add_mul];congr 1;omega
    omega
   refine⟨v,?_,q2⟩;simp only[Array.length_toList]at hlt;rw[hidx,Array.getElem?_append_left (by simp;omega),Array.getElem?_append_right (by omega),h1,Nat.add_sub_cancel_left]
   simpa using q1
theorem GJ {sh:Sh}{t u ty:TypeId}(hc:VE P sh t u=true){base:Option Addr}{sCap:Nat}{x:Value}{v:AV}{xs ys:List PV}(H:HeapRel h μ w)(R:RAV (imm h μ w) h μ v x)(hr:rds h v=some (sh,ys))
 (hroom:sCap<xs.length+ys.length) (hn:xs.length+ys.length<=LA) {v0:AV} (R0:RAV (imm h μ w) h μ v0 (.slice base xs.length sCap)) (hr0:rds h v0=some (sh,xs)) :
 ∃newCap n w' c,xs.length+ys.length<=newCap/\newCap*gA sh=n/\(Builtin.append_ #[t,u] ty #[.slice base xs.length sCap,x]).run P w = .ok (.slice (some ⟨w.heap.size,0,none⟩) (xs.length+ys.length) newCap) w' /\
  WExt w w'/\w.heap.size<w'.heap.size/\gB w' w.heap.size n c/\fE (imm h μ w) sh (xs++ys) c/\∀e,P.underlying t=some (.slice e)->ety w' w.heap.size=some e:=by
 have S:=CQ (P:=P) H R hr
 obtain⟨c,hck,hc2⟩:=S.2 ys.length (Nat.le_refl _);rw[List.take_length]at hc2;obtain⟨old,hok,ho2⟩:=(CQ (P:=P) H R0 hr0).2 xs.length (Nat.le_refl _);rw[List.take_length]at ho2;obtain⟨e,newCap,rest,h0,h1,h2,h3⟩:=z9X (ty:=ty) hc S.1 hck hroom hn hok;have hxs:xs.length*gA sh=old.size:=by rw[<-ho2.1];simp
 have hys:ys.length*gA sh=c.size:=by rw[<-hc2.1];simp
 have hsz:newCap*gA sh=(old++c++rest).size:=by
  simp only[Array.size_append,<-hxs,<-hys,h2,Nat.sub_mul,Nat.add_mul];have:=Nat.mul_le_mul_right (gA sh) h1;rw[Nat.add_mul]at this;omega
 exact⟨newCap,_,_,old++c++rest,h1,hsz,h3,⟨by simp,λb hb=>by simp [Array.getElem?_push,Nat.ne_of_lt hb],rfl⟩,by simp,⟨rfl,e,0,0,by simp,λ_ h=>by omega⟩,fE.join ho2 hc2,λe' he=>by
  rw[h0]at he;injection he with he
  injection he with he
  subst he;simp [ety]⟩
theorem z9S {id fz:Nat}{sh:Sh}{xs xs':List PV}(H:HeapRel h μ w)(ho:h[id]?=some (.row sh xs fz))(hl:xs'.length=xs.length)
 (hx:∀(i:Nat) (y:PV),xs'[i]?=some y->xs[i]?=some y∨(y = .unk/\∃z,xs[i]?=some z/\z.intP=true)) (hs:sh=none) :
 HeapRel (h.set id (.row sh xs' fz)) μ w/\Evo (imm h μ w) h μ (imm (h.set id (.row sh xs' fz)) μ w) (h.set id (.row sh xs' fz)) μ:=by
 subst hs;obtain⟨m,hm,hO⟩:=iG H ho;have hμ:μ.set id m=μ:=tE hm
 have key:=H.set (w':=w) (o':=.row none xs' fz) (m':=m) ho hm ⟨xs',fz,rfl,by omega,λ_=>rfl⟩ rfl (Nat.le_refl _) (λ_ _ _=>rfl) (λb n e=>.inl ⟨n,e⟩)
  (λb n sh2 xs2 fz2 e1 e2=>by
   injection e2 with e2 e3 e4
   subst e2;subst e3;subst e4
   exact⟨_,_,rfl,λj hj=>⟨rfl,λ_ _=>hj⟩⟩)
  (λM' E=>by
   obtain⟨k1,k2,k3⟩:=hO;refine⟨by omega,λy hy=>?_,?_⟩
   ·obtain⟨i,hi⟩:=List.getElem?_of_mem hy
    rcases hx i y hi with q|⟨rfl,z,q,_⟩
    ·exact k2 y (List.mem_of_getElem? q)
    ·rfl
   ·cases m with
    | none=>
     have:xs=[]:=k3
     subst this;exact List.length_eq_zero_iff.1 hl
    | some m=>
     obtain⟨b,n⟩:=m;obtain⟨c,c1,c2,c3⟩:=k3;refine⟨c,c1.imp (λq=>by omega),by rw[hl];exact c2,λi j x y hx1 hy1=>?_⟩
     rcases hx i x hx1 with q|⟨rfl,z,q,hz⟩
     ·obtain⟨v,v1,v2⟩:=c3 i j x y q hy1
      exact⟨v,v1,v2.mono E.le⟩
     ·have hj:j=0:=by
       cases j with
       | zero=>rfl
       | succ j=>simp [PV.cells]at hy1
      subst hj;have hy:y = .unk:=by simpa [PV.cells] using hy1.symm
      subst hy;cases z with
      | int k a=>
       obtain⟨v,v1,v2⟩:=c3 i 0 _ (.int k a) q rfl;cases v2;exact⟨_,v1,.unk _ _⟩
      | unk=>
       obtain⟨v,v1,v2⟩:=c3 i 0 _ .unk q rfl;cases v2;exact⟨_,v1,.unk _ _⟩
      | _=>cases hz) (λ_ _ _ _ h=>h)
 rw[hμ]at key;exact⟨key.1,key.2⟩
theorem BQ {α:Type}(xs ys:List α)(o i:Nat)(ho:o<=xs.length):(splice xs o ys)[i]?=if i<o then xs[i]? else if i<o+ys.length then ys[i-o]? else xs[i]?:=by
 unfold splice;by_cases h1:i<o
 ·rw[if_pos h1,List.getElem?_append_left (by simp;omega),List.getElem?_append_left (by simp;omega),List.getElem?_take,if_pos h1]
 ·rw[if_neg h1]
  by_cases h2:i<o+ys.length
  ·rw[if_pos h2,List.getElem?_append_left (by simp;omega),List.getElem?_append_right (by simp;omega)]
   congr 1;simp;omega
  ·rw[if_neg h2,List.getElem?_append_right (by simp;omega),List.getElem?_drop]
   congr 1;simp;omega
theorem zr7 {α:Type}(xs ys:List α)(off len:Nat)(hl:off+len<=xs.length):win (splice xs (off+len) ys) off (len+ys.length)=win xs off len++ys:=by
 apply List.ext_getElem?
 intro i;unfold win;rw[List.getElem?_take];by_cases h1:i<len
 ·rw[if_pos (by omega),List.getElem?_drop,BQ _ _ _ _ hl,if_pos (by omega),List.getElem?_append_left (by simp;omega),List.getElem?_take,if_pos h1,List.getElem?_drop]
 ·by_cases h2:i<len+ys.length
  ·rw[if_pos h2,List.getElem?_drop,BQ _ _ _ _ hl,if_neg (by omega),if_pos (by omega),List.getElem?_append_right (by simp;omega)]
   congr 1;simp;omega
  ·rw[if_neg h2,List.getElem?_append_right (by simp;omega)]
   rw[List.getElem?_eq_none (by simp;omega)]
theorem z4S {xs:List PV}{i:Nat}{y:PV}(h:xs.all PV.intP=true)(hy:xs[i]?=some y):y.intP=true:=List.all_eq_true.1 h _ (List.mem_of_getElem? hy)
theorem zd2 {sh:Sh}{t u ty:TypeId}(hc:VE P sh t u=true){ev:Opd->AV}{p q:Opd}{s x:Value}{v:AV}{h1:aA}{e:Esc}(H:HeapRel h μ w)(Rs:RAV (imm h μ w) h μ (ev p) s)(Rx:RAV (imm h μ w) h μ (ev q) x)
 (he:aop (.app sh p q) ev h=some (v,h1,e)):lA P (do pure (.value (<-Builtin.append_ #[t,u] ty #[s,x]))) h μ w v h1 e:=by
 simp only[aop]at he;split at he
 ·rename_i sh' ys hr
  split at he
  ·rename_i hsh
   subst hsh;have S:=CQ (P:=P) H Rx hr
   obtain⟨c,hck,hc2⟩:=S.2 ys.length (Nat.le_refl _);rw[List.take_length]at hc2;have hck0:(Builtin.firstCells (gA sh') ys.length x).run P w = .ok c w:=hck w.drawn
   split at he
   ·rename_i sh0 hs0
    split at he
    ·rename_i hmax
     simp at he;obtain⟨rfl,rfl,rfl⟩:=he;rw[hs0]at Rs;obtain⟨a,rfl⟩:=nN Rs;by_cases hz:ys.length=0
     ·have hy0:ys=[]:=List.length_eq_zero_iff.1 hz
      subst hy0;have hrun:=oF (ty:=ty) (base:=a) (sLen:=0) (sCap:=0) hc S.1 hck0 (by simp) (w':=w) (by
       have:c.toList=[]:=by apply List.length_eq_zero_iff.1;rw[hc2.1];simp
       cases a with
       | none=>rfl
       | some a=>rw[this];rfl)
      obtain⟨n1,n2⟩:=UP H sh';refine⟨_,_,_,yA hrun,.inl ⟨_,rfl,?_⟩,n1,n2,rA.push (by simp [Obj.top])⟩
      exact .own h.length 0 0 0 _ 0 sh' [] 0 none (Nat.le_refl _) (by simp) (by rw[<-H.len];simp) (by simp) (by simp) (λ_=>rfl)
     ·obtain⟨newCap,n,w',c',g1,g2,g3,g4,g5,g6,g7,_⟩:=GJ (ty:=ty) (base:=a) (sCap:=0) (xs:=[]) (v0:=.sl0 sh') hc H Rx hr (by simp;omega) (by simpa using hmax) (.sl0 sh' a) rfl
      simp only[List.nil_append,List.length_nil,Nat.zero_add]at g1 g3 g7;obtain⟨n1,n2⟩:=LJ H g4 (Nat.le_refl _) g5 g6 (by rw[<-g2];exact Nat.mul_le_mul_right _ g1) g7.2.1 g7.2.2
      refine⟨_,_,_,yA g3,.inl ⟨_,rfl,?_⟩,n1,n2,rA.push (by simp [Obj.top])⟩
      refine .own h.length ys.length 0 ys.length _ newCap sh' ys 0 (some (w.heap.size,n)) g1 (by simp) (by rw[<-H.len];simp) (by simp) (by simp) (λ_=>?_)
      right;exact⟨by simp,by rw[<-g2];simp⟩
    ·cases he
   ·rename_i id g off len hs0
    split at he
    ·rename_i rsh xs fz ho
     split at he
     ·rename_i hcond
      obtain⟨rfl,hg,rfl,hlen,hmax,hfz⟩:=hcond;simp at he;obtain⟨rfl,rfl,rfl⟩:=he;rw[hs0]at Rs;have RR:=tH H Rs ho hg
      obtain⟨_,k2,a,cap,rfl,hlc,hcap⟩:=RR;obtain⟨m,hm,hO⟩:=iG H ho;obtain⟨kf,_,kO⟩:=hO;subst hlen;subst hg;by_cases hroom:xs.length+ys.length<=cap
      ·by_cases hc0:0<cap
       ·obtain⟨b,n,c',hm',rfl,hB,hn1,hn2,hcell⟩:=hcap hc0
        simp only[Nat.zero_mul,Nat.zero_add]at hn1;obtain⟨w',r1,r2,r3,r4⟩:=fN (P:=P) (at_:=xs.length) H ho hm' hB hc2 hfz (Nat.le_refl _) (Nat.le_trans (Nat.mul_le_mul_right _ hroom) hn1);rw[z3T]at r2 r3 r4;have hrun:=oF (ty:=ty) (base:=some ⟨b,0*gA rsh,none⟩) (sLen:=xs.length) (sCap:=cap) hc S.1 hck0 hroom (w':=w') (by simpa [wC] using r1)
        refine⟨_,_,_,yA hrun,.inl ⟨_,rfl,?_⟩,r2,r3,r4⟩;refine .own id (xs.length+ys.length) 0 (xs.length+ys.length) _ cap rsh (xs++ys) fz (some (b,n)) hroom (YB ho) hm' (by simp) (by simp) (λ_=>?_)
        right;exact⟨rfl,by simpa using hn1⟩
       ·have hx0:xs=[]:=by apply List.length_eq_zero_iff.1;omega
        have hy0:ys=[]:=by apply List.length_eq_zero_iff.1;omega
        subst hx0;subst hy0
        have hcap0:cap=0:=by omega
        subst hcap0;have hrun:=oF (ty:=ty) (base:=a) (sLen:=0) (sCap:=0) hc S.1 hck0 (by simp) (w':=w) (by
         have:c.toList=[]:=by apply List.length_eq_zero_iff.1;rw[hc2.1];simp
         cases a with
         | none=>rfl
         | some a=>rw[this];rfl)
        have hs:h.set id (.row rsh ([]++[]) fz)=h:=tE ho
        rw[hs];refine⟨_,_,_,yA hrun,.inl ⟨_,rfl,?_⟩,H,Evo.refl _ _ _,rA.refl _ _⟩;exact .own id 0 0 0 _ 0 rsh [] fz m (Nat.le_refl _) ho hm (by simp) (by simp) (λ_=>by cases m with|none=>rfl|some m=>exact .inl rfl)
      ·have hr0:rds h (.own id xs.length 0 xs.length)=some (rsh,xs):=by simp [rds,rd,ho,win]
       obtain⟨newCap,n,w',c',g1,g2,g3,g4,g5,g6,g7,_⟩:=GJ (ty:=ty) (base:=a) (sCap:=cap) (xs:=xs) (v0:=.own id xs.length 0 xs.length) hc H Rx hr (by omega) hmax Rs hr0
       have hpos:0<ys.length:=by omega
       have key:=H.set (w':=w') (o':=.row rsh (xs++ys) fz) (m':=some (w.heap.size,n)) ho hm ⟨xs++ys,fz,rfl,by simp,λhl=>by rw[List.length_append]at hl;omega⟩
        g4.zz g4.1 (λb hb _=>g4.2 b hb) (λb n' e=>by injection e with e;injection e with e1 e2;subst e1;exact .inr ⟨Nat.le_refl _,g5⟩)
        (λb n' sh2 xs2 fz2 e1 e2=>by
         injection e2 with e2 e3 e4
         subst e2;subst e3;subst e4
         refine⟨_,fz,rfl,λj hj=>⟨JN (g4.2 b (H.inside id b n' (e1 ▸ hm))),λn'' e3=>hj⟩⟩)
        (λM' Ev=>by
         refine⟨by simp;omega,g7.2.1,c',g6.sealed _,?_,λi j x y hx hy=>?_⟩
         ·rw[<-g2];exact Nat.mul_le_mul_right _ (by simpa using g1)
         ·obtain⟨v,q1,q2⟩:=g7.2.2 i j x y hx hy
          exact⟨v,q1,q2.mono Ev.le⟩) (λb n t e ht=>by rw[gL (g4.2 b (H.inside id b n (e ▸ hm)))];exact ht)
       refine⟨_,_,_,yA g3,.inl ⟨_,rfl,?_⟩,key.1,key.2,rA.set ho (by simp [Obj.top])⟩
       refine .own id (xs.length+ys.length) 0 (xs.length+ys.length) _ newCap rsh (xs++ys) fz (some (w.heap.size,n)) g1 (YB ho) (YB hm) (by simp) (by simp) (λ_=>?_)
       right;exact⟨by simp,by rw[<-g2];simp⟩
     ·split at he
      case isFalse=>cases he
      rename_i hcond;obtain⟨rfl,hg,hend,hfz,hy1,hmax,hsn,hxi,hyi⟩:=hcond;simp only[Option.some.injEq,Prod.mk.injEq]at he;obtain⟨rfl,rfl,rfl⟩:=he;rw[hs0]at Rs;have RR:=tH H Rs ho hg
      obtain⟨_,k2,a,cap,rfl,hlc,hcap⟩:=RR;obtain⟨m,hm,hO⟩:=iG H ho;subst hg;have hle:off+len<=xs.length:=by omega
      have hsl:∀zs:List PV,zs.length=ys.length->(splice xs (off+len) zs).length=xs.length:=λzs hz=>by rw[MW _ _ _ hle];omega
      have hrl:(List.replicate ys.length PV.unk).length=ys.length:=by simp
      by_cases hroom:len+ys.length<=cap
      ·obtain⟨b,n,c',hm',rfl,hB,hn1,hn2,hcell⟩:=hcap (by omega)
       obtain⟨w',r1,r2,r3,r4⟩:=fN (P:=P) (at_:=off+len) H ho hm' hB hc2 hfz hle (Nat.le_trans (Nat.mul_le_mul_right _ (by omega)) hn1)
       have hrun:=oF (ty:=ty) (base:=some ⟨b,off*gA rsh,none⟩) (sLen:=len) (sCap:=cap) hc S.1 hck0 hroom (w':=w') (by
        have e:off*gA rsh+len*gA rsh=(off+len)*gA rsh:=by rw[<-Nat.add_mul]
        simpa [wC,e] using r1)
       have hl1:=hsl ys rfl
       have hwz:=zr7 xs ys off len hle
       generalize hzs:splice xs (off+len) ys=zs at *;have ho2:(h.set id (.row rsh zs fz))[id]?=some (.row rsh zs fz):=YB ho
       have R2:RAV (imm (h.set id (.row rsh zs fz)) μ w') (h.set id (.row rsh zs fz)) μ (.own id zs.length off (len+ys.length)) (.slice (some ⟨b,off*gA rsh,none⟩) (len+ys.length) cap):=
        .own id zs.length off (len+ys.length) _ cap rsh zs fz (some (b,n)) hroom ho2 hm' (Nat.le_refl _) (by omega) (λ_=>.inr ⟨rfl,hn1⟩)
       have hr2:rd (h.set id (.row rsh zs fz)) (.own id zs.length off (len+ys.length))=some (rsh,win xs off len++ys):=by
        simp only[rd,ho2];rw[if_pos ⟨trivial,by omega⟩,hwz]
       obtain⟨p1,p2,p3,p4⟩:=bQ r2 R2 hr2;have hfr:frz (h.set id (.row rsh zs fz)) id (off+(len+ys.length))=h.set id (.row rsh zs (off+len+ys.length)):=by
        unfold frz;rw[ho2];dsimp only;rw[List.set_set,Nat.max_eq_right (by omega),Nat.add_assoc]
       rw[hfr]at p1 p2 p4;obtain⟨q1,q2⟩:=z9S (xs':=splice xs (off+len) (List.replicate ys.length .unk)) p1 (YB ho) (by rw[hsl _ hrl,hl1]) (λi y hy=>by
        rw[BQ _ _ _ _ hle,hrl]at hy;rw[<-hzs,BQ _ _ _ _ hle];by_cases i1:i<off+len
        ·rw[if_pos i1]at hy ⊢;exact .inl hy
        ·rw[if_neg i1]at hy ⊢
         by_cases i2:i<off+len+ys.length
         ·rw[if_pos i2]at hy ⊢
          right;have hlt:i-(off+len)<ys.length:=by omega
          rw[List.getElem?_replicate,if_pos hlt]at hy;injection hy with hy
          exact⟨hy.symm,_,List.getElem?_eq_getElem hlt,z4S hyi (List.getElem?_eq_getElem hlt)⟩
         ·rw[if_neg i2]at hy ⊢;exact .inl hy) hsn
       rw[List.set_set]at q1 q2;exact⟨_,_,_,yA hrun,.inl ⟨_,rfl,.p _ _ (by
        have hwl:(win xs off len++ys).length=len+ys.length:=by simp [win];omega
        exact p4.mono q2.le)⟩,q1,(r3.trans p2).trans q2,rA.set ho (by simp [Obj.top])⟩
      ·have hr0:rds h (.own id xs.length off len)=some (rsh,win xs off len):=by simp [rds,rd,ho];omega
       have hwl:(win xs off len).length=len:=by simp [win];omega
       obtain⟨newCap,n,w',c',g1,g2,g3,g4,g5,g6,g7,_⟩:=GJ (ty:=ty) (base:=a) (sCap:=cap) (xs:=win xs off len) (v0:=.own id xs.length off len) hc H Rx hr (by omega) (by omega) (by rw[hwl];exact Rs) hr0
       rw[hwl]at g1 g3;obtain⟨H1,E1⟩:=H.ext g4;obtain⟨f1,f2,f3,f4⟩:=z8e H1 ho (k:=off+len+ys.length) hend;have hfr:frz h id (off+len+ys.length)=h.set id (.row rsh xs (off+len+ys.length)):=by
        unfold frz;rw[ho];dsimp only;rw[Nat.max_eq_right (by omega)]
       rw[hfr]at f1 f2;obtain⟨q1,q2⟩:=z9S (xs':=splice xs (off+len) (List.replicate ys.length .unk)) f1 (YB ho) (by rw[hsl _ hrl]) (λi y hy=>by
        rw[BQ _ _ _ _ hle,hrl]at hy;by_cases i1:i<off+len
        ·rw[if_pos i1]at hy;exact .inl hy
        ·rw[if_neg i1]at hy
         by_cases i2:i<off+len+ys.length
         ·rw[if_pos i2]at hy
          right;have hlt:i-(off+len)<ys.length:=by omega
          rw[List.getElem?_replicate,if_pos hlt]at hy;injection hy with hy
          have hlx:i<xs.length:=by omega
          exact⟨hy.symm,_,List.getElem?_eq_getElem hlx,z4S hxi (List.getElem?_eq_getElem hlx)⟩
         ·rw[if_neg i2]at hy;exact .inl hy) hsn
       rw[List.set_set]at q1 q2;have hne:win xs off len++ys≠[]:=λh0=>by rw[List.append_eq_nil_iff]at h0;rw[h0.2]at hy1;simp at hy1
       have he:∀x∈win xs off len++ys,x.cells.length=gA rsh:=λx hx=>uC (g7.2.1 x hx)
       have hlen2:(win xs off len++ys).length=len+ys.length:=by rw[List.length_append,hwl]
       have hcell:∀(j:Nat) (y:PV),((win xs off len++ys).flatMap PV.cells)[j]?=some y->∃v,c'[j]?=some v/\RPV (imm h μ w) y v:=by
        intro j y hy;obtain⟨x,h5,h6,h8,h7⟩:=mH he hy;have:=g7.2.2 _ _ x y h5 h6;rwa [show j / gA rsh*gA rsh+j%gA rsh=j by omega]at this
       have E2:=(E1.trans f2).trans q2
       have key:RPV (imm (h.set id (.row rsh (splice xs (off+len) (List.replicate ys.length .unk)) (off+len+ys.length))) μ w') (.sl rsh (win xs off len++ys)) (.slice (some ⟨w.heap.size,0,none⟩) (win xs off len++ys).length newCap):=by
        refine .sl rsh (win xs off len++ys) w.heap.size 0 newCap (λj=>(c'[j]?).getD undef) hne (by omega) g7.2.1 (λj y hy=>?_) (λj y hy=>?_)
        ·obtain⟨v,h5,h6⟩:=hcell j y hy
         refine nE.2 ⟨?_,by rw[Nat.zero_add,SD g6,h5];simp [h5]⟩
         rintro⟨i,n',h8,_⟩
         exact absurd (H.inside i _ _ h8) (Nat.lt_irrefl _)
        ·obtain⟨v,h5,h6⟩:=hcell j y hy
         have:(c'[j]?).getD undef=v:=by simp [h5]
         simp only[this];exact h6.mono E2.le
       rw[hlen2]at key;exact⟨_,_,_,yA g3,.inl ⟨_,rfl,.p _ _ key⟩,q1,E2,rA.set ho (by simp [Obj.top])⟩
    ·cases he
   ·cases he
  ·cases he
 ·cases he
def UY (P:Program)(sh:Sh)(z:PV)(t:TypeId):Bool:=match P.underlying t with
 | some (.slice e)=>kB P e==some sh&&MN P e sh z
 | _=>false
theorem zgc {sh:Sh}{z:PV}{t ty:TypeId}{ts:List TypeId}(hc:UY P sh z t=true){ev:Opd->AV}{p:Opd}{s:Value}{v:AV}{h1:aA}{e:Esc}(H:HeapRel h μ w)(Rd:RAV (imm h μ w) h μ (ev p) s)
 (he:aop (.clr sh z p) ev h=some (v,h1,e)):lA P (do pure (.value (<-Builtin.clear_ (t::ts).toArray ty #[s]))) h μ w v h1 e:=by
 have ht:∀{M h μ},RAV M h μ (.tup []) (.tuple #[]):=.tup [] [] rfl (λj y v hy=>by simp at hy)
 unfold UY at hc;split at hc
 ·rename_i el hu
  simp only[Bool.and_eq_true,beq_iff_eq]at hc;obtain⟨c1,c2⟩:=hc;obtain⟨i,zv,z1,z2,z3,z4,z5,z6⟩:=z4k c2;simp only[aop]at he;split at he
  ·rename_i q hd
   simp at he;obtain⟨rfl,rfl,rfl⟩:=he;rw[hd]at Rd;have hs:∃a,s = .slice a 0 0:=by cases Rd;exact⟨_,rfl⟩
   obtain⟨a,rfl⟩:=hs;exact lA.pure H (yA (by cases a <;> simp only[Builtin.clear_,List.getElem?_toArray,List.getElem?_cons_zero,List.getElem?_cons_succ,Sem.run_bind,TA hu,Result.andThen_ok,Sem.run_pure])) ht
  ·rename_i id g off len hd
   split at he
   ·rename_i rsh xs fz ho
    split at he
    ·rename_i hcond
     obtain⟨rfl,hg,hol,hfz⟩:=hcond;simp at he;obtain⟨rfl,rfl,rfl⟩:=he;rw[hd]at Rd;obtain⟨_,k2,a,cap,rfl,hlc,hcap⟩:=tH H Rd ho hg;by_cases hl0:len=0
     ·subst hl0
      have hs:h.set id (.row rsh (splice xs off (List.replicate 0 z)) fz)=h:=by
       have:splice xs off (List.replicate 0 z)=xs:=by simp [splice]
       rw[this];exact tE ho
      rw[hs];refine lA.pure H (yA ?_) ht;cases a <;> simp only[Builtin.clear_,List.getElem?_toArray,List.getElem?_cons_zero,List.getElem?_cons_succ,Sem.run_bind,TA hu,Result.andThen_ok,Sem.run_pure]
     ·obtain⟨b,n,c',hm',rfl,hB,hn1,hn2,hcell⟩:=hcap (by omega)
      have hz:FH (imm h μ w) rsh (List.replicate len z) (Builtin.zeroCells zv.cells len).toList:=by
       have e:Builtin.zeroCells zv.cells len=(Array.range (len*gA rsh)).map (λk=>zv.cells[k%zv.cells.size]!):=by unfold Builtin.zeroCells;rw[z5]
       obtain⟨_,q2,q3⟩:=z4j (M:=imm h μ w) z4 z5 (z6 _) (Nat.le_refl (len*gA rsh));rw[e];refine⟨by simp,q2,λj y hy=>?_⟩
       obtain⟨x,g1,g2,g3,g4⟩:=mH (λx hx=>uC (q2 x hx)) hy
       obtain⟨v,f1,f2⟩:=q3 _ _ x y g1 g2;refine⟨v,?_,f2⟩;rw[g4]at f1;rw[<-f1,Array.getElem?_toList]
      obtain⟨w',r1,r2,r3,r4⟩:=fN (P:=P) (at_:=off) H ho hm' hB hz hfz (by omega) (Nat.le_trans (Nat.mul_le_mul_right _ (by simp;omega)) hn1)
      refine⟨_,_,_,yA (w':=w') ?_,.inl ⟨_,rfl,ht⟩,r2,r3,r4⟩;obtain⟨len,rfl⟩:∃k,len=k+1:=⟨len-1,by omega⟩
      simp only[Builtin.clear_,List.getElem?_toArray,List.getElem?_cons_zero,List.getElem?_cons_succ,Sem.run_bind,TA hu,Result.andThen_ok,vQ z1 z2,r1,Sem.run_pure]
    ·cases he
   ·cases he
  ·cases he
 ·cases hc
end
section
variable {h h':aA} {μ μ':Mu} {w w':World} {P:Program} {M M':Mem}
theorem zdY {op:BinOp}{t:TypeId}{a b:Operand}{ev:Opd->AV}{p q:Opd}{x y:Value}{v:AV}{h1:aA}{e:Esc}(H:HeapRel h μ w)(Rp:RAV (imm h μ w) h μ (ev p) x)(Rq:RAV (imm h μ w) h μ (ev q) y)
 (he:aop (.bin op p q) ev h=some (v,h1,e)):lA P (do pure (.value (<-(do eqGuard op t a b x y;binOp op t x y)))) h μ w v h1 e:=by
 simp only[aop]at he;split at he
 ·rename_i c d hp hq
  simp only[Option.map_eq_some_iff,Prod.mk.injEq]at he;obtain⟨r,hr,rfl,rfl,rfl⟩:=he;rw[hp]at Rp;rw[hq]at Rq
  obtain⟨u,hu,hR⟩:=zdf (w:=w) (P:=P) (t:=t) Rp.p_inv Rq.p_inv hr;obtain⟨n1,n2⟩:=zde Rp.p_inv hr;refine lA.pure H (yA ?_) (.p _ _ hR);rw[Sem.run_bind,z67 n1 (.inl n2)];exact hu
 ·cases he
theorem un_ok {op:UnOp}{ev:Opd->AV}{p:Opd}{x:Value}{v:AV}{h1:aA}{e:Esc}(H:HeapRel h μ w)(Rp:RAV (imm h μ w) h μ (ev p) x)
 (he:aop (.un op p) ev h=some (v,h1,e)):lA P (do pure (.value (<-Op.unary op x))) h μ w v h1 e:=by
 simp only[aop]at he;split at he
 ·rename_i c hp
  simp only[Option.map_eq_some_iff,Prod.mk.injEq]at he;obtain⟨r,hr,rfl,rfl,rfl⟩:=he;rw[hp]at Rp;obtain⟨u,hu,hR⟩:=zd9 (w:=w) (P:=P) Rp.p_inv hr;exact lA.pure H (yA hu) (.p _ _ hR)
 ·cases he
theorem z9g {ev:Opd->AV}{p:Opd}{x:Value}{v:AV}{h1:aA}{e:Esc}(H:HeapRel h μ w)(Rp:RAV (imm h μ w) h μ (ev p) x)
 (he:aop (.mv p) ev h=some (v,h1,e)):lA P (pure (.value x)) h μ w v h1 e:=by
 simp only[aop,Option.some.injEq,Prod.mk.injEq]at he;obtain⟨rfl,rfl,rfl⟩:=he;exact lA.pure H rfl Rp
theorem znX {ev:Opd->AV}{c p q:Opd}{z x y:Value}{v:AV}{h1:aA}{e:Esc}(H:HeapRel h μ w)(Rc:RAV (imm h μ w) h μ (ev c) z)(Rp:RAV (imm h μ w) h μ (ev p) x)(Rq:RAV (imm h μ w) h μ (ev q) y)
 (he:aop (.pick c p q) ev h=some (v,h1,e)):lA P (do pure (.value (if <-asBool z then x else y))) h μ w v h1 e:=by
 simp only[aop]at he;split at he
 ·rename_i t hc
  rw[hc]at Rc;rw[Rc.p_bool];simp only[Option.some.injEq,Prod.mk.injEq]at he;obtain⟨rfl,rfl,rfl⟩:=he;cases t
  ·exact lA.pure H (u:=y) (by simp [asBool]) Rq
  ·exact lA.pure H (u:=x) (by simp [asBool]) Rp
 ·cases he
theorem z9j {sh:Sh}{ev:Opd->AV}{a:Option Addr}{v:AV}{h1:aA}{e:Esc}(H:HeapRel h μ w)(he:aop (.new0 sh) ev h=some (v,h1,e)):lA P (pure (.value (.slice a 0 0))) h μ w v h1 e:=by
 simp only[aop,Option.some.injEq,Prod.mk.injEq]at he;obtain⟨rfl,rfl,rfl⟩:=he;obtain⟨n1,n2⟩:=UP H sh;refine⟨_,_,_,rfl,.inl ⟨_,rfl,?_⟩,n1,n2,rA.push (by simp [Obj.top])⟩
 exact .own h.length 0 0 0 _ 0 sh [] 0 none (Nat.le_refl _) (by simp) (by rw[<-H.len];simp) (by simp) (by simp) (λ_=>rfl)
theorem zmr {ev:Opd->AV}{p:Opd}{x:Value}{v:AV}{h1:aA}{e:Esc}(H:HeapRel h μ w)(Rp:RAV (imm h μ w) h μ (ev p) x)
 (he:aop (.nilchk p) ev h=some (v,h1,e)) {a:Operand} {ρ:Operand->Value} {o:Oper} (hx:ρ a=x) (ho:o.op = .nilCheck a):lA P (execOp ρ o) h μ w v h1 e:=by
 simp only[aop]at he;have key:∀y:Value,y=x->(execOp ρ o).run P w = .ok (.value y) w->ev p=v->lA P (execOp ρ o) h μ w v h []:=by
  intro y hy hr hv;subst hy;exact lA.pure H hr (hv ▸ Rp)
 have hpt:∀b,x = .pointer (some b)->(execOp ρ o).run P w = .ok (.value x) w:=by
  intro b hb;unfold execOp;rw[ho];simp only[hx,hb];rfl
 split at he
 ·rename_i id off hp
  simp only[Option.some.injEq,Prod.mk.injEq]at he;obtain⟨hv,rfl,rfl⟩:=he;refine key x rfl ?_ hv;rw[hp]at Rp;cases Rp;exact hpt _ rfl
 ·rename_i id g i off hp
  simp only[Option.some.injEq,Prod.mk.injEq]at he;obtain⟨hv,rfl,rfl⟩:=he;refine key x rfl ?_ hv;rw[hp]at Rp;cases Rp;exact hpt _ rfl
 ·rename_i u hp
  simp only[Option.some.injEq,Prod.mk.injEq]at he;obtain⟨hv,rfl,rfl⟩:=he;refine key x rfl ?_ hv;rw[hp]at Rp;cases Rp;exact hpt _ rfl
 ·rename_i f cs hp
  simp only[Option.some.injEq,Prod.mk.injEq]at he;obtain⟨hv,rfl,rfl⟩:=he;refine key x rfl ?_ hv;rw[hp]at Rp;cases Rp;unfold execOp;rw[ho];simp only[hx];rfl
 ·rename_i k tt id g hp
  simp only[Option.map_eq_some_iff,Prod.mk.injEq]at he;obtain⟨u,hu,rfl,rfl,rfl⟩:=he;unfold nlA at hu;cases hk:Nat.beq k 4 with
  | false=>rw[hk]at hu;cases hu
  | true=>
   rw[hk]at hu;have hk:=Nat.eq_of_beq_eq_true hk
   subst hk;simp only[cond_true,Option.some.injEq]at hu;refine key x rfl ?_ hu;rw[hp]at Rp;cases Rp;exact hpt _ rfl
 ·cases he
def kD (P:Program)(t:TypeId):Nat:=match P.underlying t with
 | some (.int _)=>0
 | some .bool=>1
 | some .string=>2
 | _=>3
def sG (P:Program)(f:TypeId->List Nat->Option (List Nat)):Nat->List Field->List Nat->Option (List Nat)
 | _,[],ks=>some ks
 | i,fl::r,ks=>if fl.name ≠ "_" ∧ fl.offset=i then match kB P fl.type with
  | some sh=>match f fl.type ks with
   | some ks'=>if ks'.length+gA sh=ks.length then sG P f (i+gA sh) r ks' else none
   | none=>none
  | none=>none
  else none
def jE (P:Program):Nat->TypeId->List Nat->Option (List Nat)
 | 0,_,_=>none
 | d+1,t,ks=>match P.underlying t with
  | some (.struct fs)=>if P.stoodInHeld t=true then none else sG P (jE P d) 0 fs.toList ks
  | _=>match ks with
   | k::r=>if kD P t=k/\k<3 then some r else none
   | []=>none
def kR (P:Program)(t:TypeId)(ks:List Nat):Bool:=match ks with
 | []=>match P.underlying t with|some .bool=>true|_=>false
 | _=>match P.underlying t with
  | some (.struct _)=>!P.eqGuardType P.depth t&&jE P 20 t ks==some []
  | some (.array n e)=>!P.eqGuardType P.depth t&&(match kB P e with|some none=>true|_=>false)&&Nat.blt (kD P e) 3&&ks==List.replicate n (kD P e)
  | _=>false
theorem z0R {d:Nat}{t:TypeId}{a b:PV}{x y:Value}{r:Bool}(h1:kD P t=a.kind)(h2:a.kind<3)(Ra:RPV M a x)(Rb:RPV M b y)(he:PV.eq1 a b=some r):(Op.equalIn (d+1) t x y).run P w = .ok r w:=by
 unfold PV.eq1 at he;unfold kD at h1;split at he
 ·split at he
  ·rename_i k m k' n hkk
   subst hkk;simp at he;subst he;cases Ra;cases Rb
   split at h1
   ·rename_i kk hu
    simp [Op.equalIn,TA hu,wF]
   all_goals simp [PV.kind]at h1
  ·cases he
 ·rename_i s s'
  simp at he;subst he;cases Ra;cases Rb
  split at h1
  ·simp [PV.kind]at h1
  ·rename_i hu
   simp [Op.equalIn,TA hu,wF]
  ·simp [PV.kind]at h1
  ·simp [PV.kind]at h1
 ·rename_i s s'
  simp at he;subst he;cases Ra;cases Rb
  split at h1
  ·simp [PV.kind]at h1
  ·simp [PV.kind]at h1
  ·rename_i hu
   simp [Op.equalIn,TA hu,Go.beq_toListBytes,Go.ByteArray.toList_mk,wF]
  ·simp [PV.kind]at h1
 ·cases he
theorem z69:∀ {a1 b1 a2 b2:List PV} {r:Bool},a1.length=b1.length->eqs (a1++a2) (b1++b2)=some r->∃ r1 r2,eqs a1 b1=some r1/\eqs a2 b2=some r2/\r=(r1&&r2)
 | [],[],a2,b2,r,_,h=>⟨true,r,rfl,h,by simp⟩
 | [],_::_,_,_,_,h,_=>by simp at h
 | _::_,[],_,_,_,h,_=>by simp at h
 | a::a1,b::b1,a2,b2,r,hl,h=>by
  simp only[List.cons_append,eqs]at h;split at h
  ·rename_i q hq
   simp only[Option.map_eq_some_iff]at h;obtain⟨r',h1,rfl⟩:=h;obtain⟨r1,r2,h2,h3,rfl⟩:=z69 (by simpa using hl) h1
   exact⟨q&&r1,r2,by simp [eqs,hq,h2],h3,by cases q <;> simp⟩
  ·cases h
theorem LT {f:TypeId->List Nat->Option (List Nat)}(hf:∀ t ks rest,f t ks=some rest->∃ pre,ks=pre++rest):∀{fs:List Field} {i:Nat} {ks rest:List Nat},sG P f i fs ks=some rest->∃pre,ks=pre++rest
 | [],i,ks,rest,h=>by simp [sG]at h;exact⟨[],by simp [h]⟩
 | fl::r,i,ks,rest,h=>by
  simp only[sG]at h;split at h
  ·split at h
   ·split at h
    ·rename_i ks' hk
     split at h
     ·obtain⟨p1,h1⟩:=hf _ _ _ hk
      obtain⟨p2,h2⟩:=LT hf h;exact⟨p1++p2,by rw[h1,h2,List.append_assoc]⟩
     ·cases h
    ·cases h
   ·cases h
  ·cases h
theorem GQ:∀ (d:Nat) (t:TypeId) (ks rest:List Nat),jE P d t ks=some rest->∃ pre,ks=pre++rest
 | 0,t,ks,rest,h=>by simp [jE]at h
 | d+1,t,ks,rest,h=>by
  simp only[jE]at h;split at h
  ·split at h
   ·cases h
   ·exact LT (GQ d) h
  ·split at h
   ·rename_i k r
    split at h
    ·injection h with h;subst h;exact⟨[k],rfl⟩
    ·cases h
   ·cases h
def Cs (M:Mem)(asv:List PV)(xs:List Value)(off:Nat):Prop:=off+asv.length<=xs.length/\∀(j:Nat) (a:PV) (v:Value),asv[j]?=some a->xs[off+j]?=some v->RPV M a v
def EqAt (P:Program)(w:World)(M:Mem)(d:Nat)(t:TypeId):Prop:=∀(m:Nat) (ks rest:List Nat) (sh:Sh) (xs ys:List Value) (off:Nat) (asv bs:List PV) (r:Bool),jE P d t ks=some rest->kB P t=some sh->ks=asv.map PV.kind++rest->asv.map PV.kind=bs.map PV.kind->asv.length=gA sh ->
 Cs M asv xs off->Cs M bs ys off->eqs asv bs=some r->(Op.equalIn (m+d) t (yD sh λj=>(xs[off+j]?).getD undef) (yD sh λj=>(ys[off+j]?).getD undef)).run P w = .ok r w
theorem z1k {d:Nat}(IH:∀ t,EqAt P w M d t){m:Nat}{xs ys:List Value}:∀{fs:List Field} {i:Nat} {ks rest:List Nat} {asv bs:List PV} {r:Bool},sG P (jE P d) i fs ks=some rest->ks=asv.map PV.kind++rest->asv.map PV.kind=bs.map PV.kind ->
 Cs M asv xs i->Cs M bs ys i->eqs asv bs=some r->(Op.eqFields (m+d) xs.toArray ys.toArray fs).run P w = .ok r w
 | [],i,ks,rest,asv,bs,r,h,hk,hab,hA,hB,he=>by
  simp only[sG,Option.some.injEq]at h;subst h;have h0:asv=[]:=by
   have:=congrArg List.length hk;simp at this;exact this
  subst h0;have h1:bs=[]:=by simpa using hab.symm
  subst h1;simp [eqs]at he;subst he;simp [Op.eqFields]
 | fl::fs,i,ks,rest,asv,bs,r,h,hk,hab,hA,hB,he=>by
  simp only[sG]at h;split at h
  ·rename_i hfl
   split at h
   ·rename_i sh hsh
    split at h
    ·rename_i ks' hk'
     split at h
     ·rename_i hlen
      obtain⟨pre,h1⟩:=GQ _ _ _ _ hk';obtain⟨pre2,h2⟩:=LT (GQ d) h;have hpre:pre.length=gA sh:=by rw[h1]at hlen;simp at hlen;omega
      have hkk:asv.map PV.kind=pre++pre2:=by
       rw[h1,h2,<-List.append_assoc]at hk;exact(List.append_cancel_right hk).symm
      have hla:asv.length=pre.length+pre2.length:=by have:=congrArg List.length hkk;simpa using this
      have hlb:asv.length=bs.length:=by have:=congrArg List.length hab;simpa using this
      obtain⟨a1,a2,rfl,ha1⟩:∃a1 a2,asv=a1++a2/\a1.length=pre.length:=⟨asv.take pre.length,asv.drop pre.length,by simp,by simp;omega⟩
      obtain⟨b1,b2,rfl,hb1⟩:∃b1 b2,bs=b1++b2/\b1.length=pre.length:=⟨bs.take pre.length,bs.drop pre.length,by simp,by simp;omega⟩
      rw[List.map_append]at hkk;obtain⟨m1,m2⟩:=List.append_inj hkk (by simpa using ha1)
      rw[List.map_append,List.map_append]at hab;obtain⟨n1,n2⟩:=List.append_inj hab (by simp;omega)
      obtain⟨r1,r2,q1,q2,rfl⟩:=z69 (by omega) he
      have cA1:Cs M a1 xs i:=⟨by have:=hA.1;simp at this;omega,λj a v hj hv=>hA.2 j a v (nH hj) hv⟩
      have cB1:Cs M b1 ys i:=⟨by have:=hB.1;simp at this;omega,λj a v hj hv=>hB.2 j a v (nH hj) hv⟩
      have cA2:Cs M a2 xs (i+gA sh):=⟨by have:=hA.1;simp at this;omega,λj a v hj hv=>hA.2 (a1.length+j) a v (by rw[List.getElem?_append_right (by omega)];simpa using hj) (by rw[<-hv];congr 1;omega)⟩
      have cB2:Cs M b2 ys (i+gA sh):=⟨by have:=hB.1;simp at this;omega,λj a v hj hv=>hB.2 (b1.length+j) a v (by rw[List.getElem?_append_right (by omega)];simpa using hj) (by rw[<-hv];congr 1;omega)⟩
      have p1:=OI (P:=P) (w:=w) (t:=fl.type) hsh (vs:=xs) (off:=i) (by have:=cA1.1;omega)
      have p2:=OI (P:=P) (w:=w) (t:=fl.type) hsh (vs:=ys) (off:=i) (by have:=cB1.1;omega)
      have hh:=IH fl.type m ks ks' sh xs ys i a1 b1 r1 hk' hsh (by rw[h1,m1]) n1 (by omega) cA1 cB1 q1
      have ih:=z1k IH (m:=m) h (by rw[h2,m2]) n2 cA2 cB2 q2
      simp only[Op.eqFields,hfl.1,ne_eq,not_false_eq_true,if_true,Sem.run_bind,hfl.2,p1,p2,Result.andThen_ok,hh];cases r1
      ·simp
      ·simp [ih]
     ·cases h
    ·cases h
   ·cases h
  ·cases h
theorem z4c:∀ (d:Nat) (t:TypeId),EqAt P w M d t
 | 0,t=>λm ks rest sh xs ys off asv bs r h=>by simp [jE]at h
 | d+1,t=>λm ks rest sh xs ys off asv bs r h hsh hk hab hla hA hB he=>by
  have hlb:asv.length=bs.length:=by have:=congrArg List.length hab;simpa using this
  simp only[jE]at h;split at h
  ·rename_i fs hu
   split at h
   ·cases h
   ·rename_i hst
    have hst:P.stoodInHeld t=false:=by simpa using hst
    have hsn:∃n,sh=some n:=by
     unfold kB at hsh;rw[hu]at hsh;cases hi:P.info? t with
     | none=>rw[hi]at hsh;simp at hsh
     | some i=>rw[hi]at hsh;simp at hsh;exact⟨_,hsh.symm⟩
    obtain⟨n,rfl⟩:=hsn;have hfo:P.fieldsOf t=fs:=by simp [Program.fieldsOf,hu]
    show(Op.equalIn (m+d+1) t (.agg _) (.agg _)).run P w=_
    rw[run_equalIn_struct w (m+d) t _ _ (by rw[hfo];exact hu) hst,hfo]
    simp only[gA]at hla;exact z1k (z4c d) h hk hab ⟨by simp;omega,λj a v hj hv=>by
     have hjn:j<n:=by rw[<-hla];exact IA hj
     have hlt:off+j<xs.length:=by have:=hA.1;omega
     simp [hjn,hlt]at hv;exact hA.2 j a v hj (by rw[<-hv];simp [hlt])⟩ ⟨by simp;omega,λj a v hj hv=>by
     have hjn:j<n:=by rw[<-hla,hlb];exact IA hj
     have hlt:off+j<ys.length:=by have:=hB.1;omega
     simp [hjn,hlt]at hv;exact hB.2 j a v hj (by rw[<-hv];simp [hlt])⟩ he
  ·split at h
   ·rename_i k r'
    split at h
    ·rename_i hkk
     injection h with h
     subst h;have hsn:sh=none:=by
      obtain⟨h1,h2⟩:=hkk;unfold kB at hsh;unfold kD at h1;split at h1
      ·rename_i hu;rw[hu]at hsh;split at hsh <;> simp_all
      ·rename_i hu;rw[hu]at hsh;split at hsh <;> simp_all
      ·rename_i hu;rw[hu]at hsh;split at hsh <;> simp_all
      ·omega
     subst hsn;simp only[gA]at hla;obtain⟨a,rfl⟩:=List.length_eq_one_iff.1 hla;obtain⟨b,rfl⟩:=List.length_eq_one_iff.1 (hlb.symm.trans hla);simp only[List.map_cons,List.map_nil,List.cons_append,List.nil_append,List.cons.injEq,and_true]at hk hab;have hxl:off<xs.length:=by have:=hA.1;simp at this;omega
     have hyl:off<ys.length:=by have:=hB.1;simp at this;omega
     have heq:PV.eq1 a b=some r:=by
      simp only[eqs]at he;split at he
      ·rename_i q hq;simp at he;rw[hq,he]
      ·cases he
     simp only[yD,Nat.add_zero,List.getElem?_eq_getElem hxl,List.getElem?_eq_getElem hyl,Option.getD_some];exact z0R (d:=m+d) (by rw[hkk.1];exact hk) (by rw[<-hk];exact hkk.2) (hA.2 0 a _ rfl (by simp [hxl])) (hB.2 0 b _ rfl (by simp [hyl])) heq
    ·cases h
   ·cases h
theorem z1o {d:Nat}{e:TypeId}(hk:kD P e<3)(hs:kB P e=some none){xs ys:List Value}:∀(asv bs:List PV) (i:Nat) (r:Bool),asv.map PV.kind=List.replicate asv.length (kD P e)->asv.map PV.kind=bs.map PV.kind ->
 Cs M asv xs i->Cs M bs ys i->eqs asv bs=some r->(Op.eqItems (d+1) e 1 xs.toArray ys.toArray (List.range' i asv.length)).run P w = .ok r w
 | [],bs,i,r,_,hab,_,_,he=>by
  have:bs=[]:=by simpa using hab.symm
  subst this;simp [eqs]at he;subst he;simp [Op.eqItems]
 | a::asv,[],i,r,_,hab,_,_,_=>by simp at hab
 | a::asv,b::bs,i,r,h1,hab,hA,hB,he=>by
  simp only[List.map_cons,List.cons.injEq]at hab;simp only[List.map_cons,List.length_cons,List.replicate_succ,List.cons.injEq]at h1;simp only[eqs]at he;split at he
  ·rename_i q hq
   simp only[Option.map_eq_some_iff]at he;obtain⟨r',h2,rfl⟩:=he;have cA:Cs M asv xs (i+1):=⟨by have:=hA.1;simp at this;omega,λj a v h1 h2=>hA.2 (j+1) a v (by simpa using h1) (by rw[<-h2];congr 1;omega)⟩
   have cB:Cs M bs ys (i+1):=⟨by have:=hB.1;simp at this;omega,λj a v h1 h2=>hB.2 (j+1) a v (by simpa using h1) (by rw[<-h2];congr 1;omega)⟩
   have p1:=OI (P:=P) (w:=w) (t:=e) hs (vs:=xs) (off:=i) (by have:=hA.1;simp at this;simp [gA];omega)
   have p2:=OI (P:=P) (w:=w) (t:=e) hs (vs:=ys) (off:=i) (by have:=hB.1;simp at this;simp [gA];omega)
   have xl:i<xs.length:=by have:=hA.1;simp at this;omega
   have yl:i<ys.length:=by have:=hB.1;simp at this;omega
   simp only[yD,Nat.add_zero,List.getElem?_eq_getElem xl,List.getElem?_eq_getElem yl,Option.getD_some]at p1 p2;have hh:=z0R (P:=P) (w:=w) (d:=d) (t:=e) (x:=xs[i]) (y:=ys[i]) h1.1.symm (by rw[h1.1];exact hk) (hA.2 0 a _ rfl (by simp [xl])) (hB.2 0 b _ rfl (by simp [yl])) hq
   have ih:=z1o (d:=d) hk hs asv bs (i+1) r' h1.2 hab.2 cA cB h2
   simp only[List.length_cons,List.range'_succ,Op.eqItems,Nat.mul_one,Sem.run_bind,p1,p2,Result.andThen_ok,hh];cases q
   ·simp
   ·simp [ih]
  ·cases he
theorem zj0 {ks:List Nat}{neg:Bool}{op:BinOp}(hop:op=if neg then .neq else .eql){t:TypeId}(hc:kR P t ks=true){a b:Operand}{ev:Opd->AV}{p q:Opd}{x y:Value}{v:AV}{h1:aA}{e:Esc}(H:HeapRel h μ w)(Rp:RAV (imm h μ w) h μ (ev p) x)(Rq:RAV (imm h μ w) h μ (ev q) y)
 (he:aop (.eqa ks neg p q) ev h=some (v,h1,e)):lA P (do pure (.value (<-(do eqGuard op t a b x y;binOp op t x y)))) h μ w v h1 e:=by
 simp only[aop]at he;split at he
 ·rename_i asv bs hp hq
  split at he
  ·rename_i hk
   simp only[Option.map_eq_some_iff,Prod.mk.injEq]at he;obtain⟨r,hr,rfl,rfl,rfl⟩:=he;rw[hp]at Rp;rw[hq]at Rq
   cases Rp.p_inv with|agg _ xs hxl hxr=>
   cases Rq.p_inv with|agg _ ys hyl hyr=>
   unfold kR at hc;split at hc
   ·exact absurd rfl hk.2.2
   ·split at hc
    ·rename_i fs hu
     simp only[Bool.and_eq_true,Bool.not_eq_true',beq_iff_eq]at hc;obtain⟨c2,c3⟩:=hc;have hE:(Op.equalIn 10000 t (.agg xs.toArray) (.agg ys.toArray)).run P w = .ok r w:=by
      rw[show(20:Nat)=19+1 from rfl]at c3
      unfold jE at c3;rw[hu]at c3;dsimp only at c3;split at c3
      ·cases c3
      ·rename_i hst
       have hst:P.stoodInHeld t=false:=by simpa using hst
       have hfo:P.fieldsOf t=fs:=by simp [Program.fieldsOf,hu]
       rw[show(10000:Nat)=(9980+19)+1 from rfl,run_equalIn_struct w (9980+19) t _ _ (by rw[hfo];exact hu) hst,hfo]
       exact z1k (z4c 19) c3 (by simpa using hk.1.symm) (by rw[hk.1,hk.2.1]) ⟨by omega,λj a v h1 h2=>hxr j a v h1 (by simpa using h2)⟩ ⟨by omega,λj a v h1 h2=>hyr j a v h1 (by simpa using h2)⟩ hr
     refine lA.pure H (u:=.bool (bif neg then !r else r)) (yA ?_) (RAV.pbool _);rw[Sem.run_bind,run_eqGuard_agg _ _ _ _ _ _ _ c2];cases neg
     ·simp only[Bool.false_eq_true,if_false]at hop
      subst hop;simp [run_eql_struct,hE]
     ·simp only[if_true]at hop
      subst hop;simp [run_neq_struct,hE]
    ·rename_i n e hu
     simp only[Bool.and_eq_true,Bool.not_eq_true',beq_iff_eq]at hc;obtain⟨⟨⟨c2,c3⟩,c4⟩,c5⟩:=hc;have hs:kB P e=some none:=by
      split at c3
      ·assumption
      ·cases c3
     have hk3:kD P e<3:=by simp [Nat.blt]at c4;omega
     have hi:∃i,P.info? e=some i/\i.size=1:=by
      unfold kB at hs;split at hs
      ·cases hs
      ·cases hs
      ·split at hs
       ·exact⟨_,by assumption,by assumption⟩
       ·cases hs
      ·cases hs
     obtain⟨i,hi,hi1⟩:=hi;have hce:P.cellsOf e=1:=by simp [Program.cellsOf,hi,hi1]
     have hal:asv.length=n:=by have:=congrArg List.length (hk.1.trans c5);simpa using this
     have hE:(Op.equalIn 10000 t (.agg xs.toArray) (.agg ys.toArray)).run P w = .ok r w:=by
      rw[show(10000:Nat)=(9998+1)+1 from rfl,run_equalIn_array w (9998+1) _ _ hu hi,hce,List.range_eq_range',<-hal]
      exact z1o hk3 hs asv bs 0 r (by rw[hk.1,c5,hal]) (by rw[hk.1,hk.2.1]) ⟨by omega,λj a v h1 h2=>hxr j a v h1 (by simpa using h2)⟩ ⟨by omega,λj a v h1 h2=>hyr j a v h1 (by simpa using h2)⟩ hr
     refine lA.pure H (u:=.bool (bif neg then !r else r)) (yA ?_) (RAV.pbool _);rw[Sem.run_bind,run_eqGuard_agg _ _ _ _ _ _ _ c2];cases neg
     ·simp only[Bool.false_eq_true,if_false]at hop
      subst hop;simp [run_eql_struct,hE]
     ·simp only[if_true]at hop
      subst hop;simp [run_neq_struct,hE]
    ·cases hc
  ·cases he
 ·rename_i c d hp hq
  split at he
  ·rename_i hk
   subst hk;simp only[Option.some.injEq,Prod.mk.injEq]at he;obtain⟨rfl,rfl,rfl⟩:=he;rw[hp]at Rp;rw[hq]at Rq
   rw[Rp.p_bool,Rq.p_bool];have hu:P.underlying t=some .bool:=by
    simp only[kR]at hc;split at hc
    ·assumption
    ·cases hc
   have hE:(Op.equalIn 10000 t (.bool c) (.bool d)).run P w = .ok (decide (c=d)) w:=
    z0R (M:=imm h μ w) (a:=.bool c) (b:=.bool d) (d:=9999) (by simp [kD,hu,PV.kind]) (by simp [PV.kind]) (.bool c) (.bool d) (by simp [PV.eq1])
   refine lA.pure H (u:=.bool (bif neg then !decide (c=d) else decide (c=d))) (yA ?_) (RAV.pbool _);rw[Sem.run_bind,z67 (by simp) (by simp)]
   cases neg
   ·simp only[Bool.false_eq_true,if_false]at hop
    subst hop;simp only[Result.andThen_ok,binOp,Op.equal,Op.maxDepth,Sem.run_bind,hE,Sem.run_pure,cond_false]
   ·simp only[if_true]at hop
    subst hop;simp only[Result.andThen_ok,binOp,Op.equal,Op.maxDepth,Sem.run_bind,hE,Sem.run_pure,cond_true]
  ·cases he
 ·cases he
end
section
variable {h h':aA} {μ μ':Mu} {w w':World} {P:Program} {M M':Mem}
def TF (P:Program)(k:Nat)(t:TypeId)(y:Operand):Bool:=match k,P.underlying t,y with
 | 0,some (.pointer _),.const (.pointer none)=>true
 | 1,some (.map _ _),.const (.map none)=>true
 | 2,some (.func _ _ _),.const .nilFunc=>true
 | 3,some (.interface _),.const .nilIface=>true
 | 4,some (.slice _),.const (.slice none _ _)=>true
 | _,_,_=>false
theorem z9Z {neg:Bool}{op:BinOp}(hop:op=if neg then .neq else .eql){t:TypeId}{a b:Operand}{x y:Value}{r:Bool}(hg:(eqGuard op t a b x y).run P w = .ok () w)
 (hk:∀k n,x ≠ .int k n) (hs:∀s,x ≠ .string s) (hf:∀k s,x ≠ .float k s) (hcx:∀k s u,x ≠ .complex k s u) (hE:(Op.equalIn 10000 t x y).run P w = .ok r w) :
 ((do eqGuard op t a b x y;binOp op t x y):Sem Value).run P w = .ok (.bool (if neg then !r else r)) w:=by
 rw[Sem.run_bind,hg];simp only[Result.andThen_ok];cases neg
 ·simp only[Bool.false_eq_true,if_false]at hop
  subst hop;cases x <;> first|exact absurd rfl (hk _ _)|exact absurd rfl (hs _)|exact absurd rfl (hf _ _)|exact absurd rfl (hcx _ _ _)|(simp only[binOp,Op.equal,Op.maxDepth,Sem.run_bind,hE,Result.andThen_ok,Sem.run_pure];rfl)
 ·simp only[if_true]at hop
  subst hop;cases x <;> first|exact absurd rfl (hk _ _)|exact absurd rfl (hs _)|exact absurd rfl (hf _ _)|exact absurd rfl (hcx _ _ _)|(simp only[binOp,Op.equal,Op.maxDepth,Sem.run_bind,hE,Result.andThen_ok,Sem.run_pure];rfl)
theorem zmq {k:Nat}{t:TypeId}{y x:Value}{v:AV}{r:Bool}{op:BinOp}{a:Operand}(hc:TF P k t (.const y)=true)(hv:NJ k v=some r)(R:RAV M h μ v x) :
 (eqGuard op t a (.const y) x y).run P w = .ok () w/\(Op.equalIn 10000 t x y).run P w = .ok r w/\(∀k n,x ≠ .int k n)/\(∀s,x ≠ .string s)/\(∀k s,x ≠ .float k s)/\(∀k s u,x ≠ .complex k s u):=by
 rw[show(10000:Nat)=9999+1 from rfl]
 generalize 9999=d;unfold NJ at hv;split at hv
 ·have hty:∃el,P.underlying t=some (.pointer el)/\y = .pointer none:=by
   unfold TF at hc;split at hc <;> simp_all
  obtain⟨el,hu,rfl⟩:=hty;split at hv <;> first|cases hv|skip
  all_goals (try (simp only[Option.some.injEq]at hv;subst hv))
  ·cases R;exact⟨by cases op <;> rfl,by simp [Op.equalIn,TA hu],by simp,by simp,by simp,by simp⟩
  ·cases R.p_inv;exact⟨by cases op <;> rfl,by simp [Op.equalIn,TA hu],by simp,by simp,by simp,by simp⟩
  ·cases R;exact⟨by cases op <;> rfl,by simp [Op.equalIn,TA hu],by simp,by simp,by simp,by simp⟩
  ·cases R;exact⟨by cases op <;> rfl,by simp [Op.equalIn,TA hu],by simp,by simp,by simp,by simp⟩
  ·cases R;exact⟨by cases op <;> rfl,by simp [Op.equalIn,TA hu],by simp,by simp,by simp,by simp⟩
  ·cases R;exact⟨by cases op <;> rfl,by simp [Op.equalIn,TA hu],by simp,by simp,by simp,by simp⟩
 ·have hty:∃e1 e2,P.underlying t=some (.map e1 e2)/\y = .map none:=by
   unfold TF at hc;split at hc <;> simp_all
  obtain⟨e1,e2,hu,rfl⟩:=hty;split at hv <;> first|cases hv|skip
  all_goals (try (simp only[Option.some.injEq]at hv;subst hv))
  ·cases R;exact⟨by cases op <;> rfl,by simp [Op.equalIn,TA hu],by simp,by simp,by simp,by simp⟩
  ·cases R;exact⟨by cases op <;> rfl,by simp [Op.equalIn,TA hu],by simp,by simp,by simp,by simp⟩
 ·have hty:∃e1 e2 e3,P.underlying t=some (.func e1 e2 e3)/\y = .nilFunc:=by
   unfold TF at hc;split at hc <;> simp_all
  obtain⟨e1,e2,e3,hu,rfl⟩:=hty;split at hv <;> first|cases hv|skip
  all_goals (try (simp only[Option.some.injEq]at hv;subst hv))
  ·cases R;exact⟨by cases op <;> rfl,by simp [Op.equalIn,TA hu],by simp,by simp,by simp,by simp⟩
  ·cases R;exact⟨by cases op <;> rfl,by simp [Op.equalIn,TA hu],by simp,by simp,by simp,by simp⟩
 ·have hty:∃e1,P.underlying t=some (.interface e1)/\y = .nilIface:=by
   unfold TF at hc;split at hc <;> simp_all
  obtain⟨e1,hu,rfl⟩:=hty;split at hv <;> first|cases hv|skip
  all_goals (try (simp only[Option.some.injEq]at hv;subst hv))
  ·cases R;exact⟨by cases op <;> cases a <;> rfl,by simp [Op.equalIn,TA hu],by simp,by simp,by simp,by simp⟩
  ·cases R;exact⟨by cases op <;> rfl,by simp [Op.equalIn,TA hu],by simp,by simp,by simp,by simp⟩
 ·have hty:∃e1 i j,P.underlying t=some (.slice e1)/\y = .slice none i j:=by
   unfold TF at hc;split at hc <;> simp_all
  obtain⟨e1,i,j,hu,rfl⟩:=hty;split at hv
  ·simp only[Option.some.injEq]at hv;subst hv
   cases R.p_inv
   exact⟨by cases op <;> rfl,by simp [Op.equalIn,TA hu],by simp,by simp,by simp,by simp⟩
  ·cases hv
theorem zmo {k:Nat}{t:TypeId}{y x:Value}{v:AV}{op:BinOp}{a:Operand}(hc:TF P k t (.const y)=true)(hv:gG k v=true)(R:RAV M h μ v x) :
 ∃r,(eqGuard op t a (.const y) x y).run P w = .ok () w/\(Op.equalIn 10000 t x y).run P w = .ok r w/\(∀k n,x ≠ .int k n)/\(∀s,x ≠ .string s)/\(∀k s,x ≠ .float k s)/\(∀k s u,x ≠ .complex k s u):=by
 rw[show(10000:Nat)=9999+1 from rfl]
 generalize 9999=d;unfold gG at hv;split at hv
 ·simp only[decide_eq_true_eq]at hv
  have hty:∃e1 i j,P.underlying t=some (.slice e1)/\y = .slice none i j:=by
   unfold TF at hc;split at hc <;> first|omega|skip
   ·rename_i e1 i j hu hy;injection hy with hy;exact⟨_,_,_,hu,hy⟩
   ·cases hc
  obtain⟨e1,i,j,hu,rfl⟩:=hty;cases R.p_inv with
  | nils _ b cap=>
   cases b with
   | none=>exact⟨true,by cases op <;> rfl,by simp [Op.equalIn,TA hu],by simp,by simp,by simp,by simp⟩
   | some b=>exact⟨false,by cases op <;> rfl,by simp [Op.equalIn,TA hu],by simp,by simp,by simp,by simp⟩
  | sl _ _ _ _ _ _ hne=>exact absurd rfl hne
 ·cases hv
theorem zkE {k:Nat}{neg:Bool}{op:BinOp}(hop:op=if neg then .neq else .eql){t:TypeId}{a:Operand}{y:Value}(hc:TF P k t (.const y)=true){ev:Opd->AV}{p:Opd}{x:Value}{v:AV}{h1:aA}{e:Esc}
 (H:HeapRel h μ w) (Rp:RAV (imm h μ w) h μ (ev p) x) (he:aop (.isnil k neg p) ev h=some (v,h1,e)):lA P (do pure (.value (<-(do eqGuard op t a (.const y) x y;binOp op t x y)))) h μ w v h1 e:=by
 simp only[aop]at he;cases hb:gG k (ev p) with
 | true=>
  rw[hb]at he;simp only[cond_true,Option.some.injEq,Prod.mk.injEq]at he;obtain⟨rfl,rfl,rfl⟩:=he;obtain⟨r,q1,q2,q3,q4,q5,q6⟩:=zmo (w:=w) (op:=op) (a:=a) hc hb Rp;exact lA.pure H (yA (z9Z hop q1 q3 q4 q5 q6 q2)) (.anyb _)
 | false=>
  rw[hb]at he;simp only[cond_false,Option.map_eq_some_iff,Prod.mk.injEq]at he;obtain⟨r,hr,rfl,rfl,rfl⟩:=he;obtain⟨q1,q2,q3,q4,q5,q6⟩:=zmq (w:=w) (op:=op) (a:=a) hc hr Rp;refine lA.pure H (yA (z9Z hop q1 q3 q4 q5 q6 q2)) ?_;cases neg <;> exact RAV.pbool _
theorem zjF {i:Nat}{ev:Opd->AV}{p:Opd}{x:Value}{v:AV}{h1:aA}{e:Esc}(H:HeapRel h μ w)(Rp:RAV (imm h μ w) h μ (ev p) x)(he:aop (.ext p i) ev h=some (v,h1,e)) :
 lA P (do pure (.value (<-Instr.extract x i))) h μ w v h1 e:=by
 simp only[aop]at he;split at he
 ·rename_i vs hp
  simp only[Option.map_eq_some_iff,Prod.mk.injEq]at he;obtain⟨u,hu,rfl,rfl,rfl⟩:=he;rw[hp]at Rp;cases Rp with|tup _ xs hl hr=>
  have hi:i<xs.length:=by rw[<-hl];exact IA hu
  refine lA.pure H (yA (u:=xs[i]) ?_) (hr i u _ hu (List.getElem?_eq_getElem hi));simp [Instr.extract,hi]
 ·cases he
def TG (P:Program)(t:TypeId):Nat:=match P.underlying t with
 | some (.slice _)=>1
 | some .string=>2
 | some (.map _ _)=>3
 | _=>0
theorem zlC {t ty:TypeId}{ts:List TypeId}(hc:TG P t=1){ev:Opd->AV}{p:Opd}{x:Value}{v:AV}{h1:aA}{e:Esc}(H:HeapRel h μ w)(Rp:RAV (imm h μ w) h μ (ev p) x)(he:aop (.len p) ev h=some (v,h1,e)) :
 lA P (do pure (.value (<-Builtin.len_ (t::ts).toArray ty #[x]))) h μ w v h1 e:=by
 have hu:∃el,P.underlying t=some (.slice el):=by
  unfold TG at hc;split at hc <;> simp_all
 obtain⟨el,hu⟩:=hu;have key:∀a n cap,x = .slice a n cap->v=pint n->h1=h->e=[]->lA P (do pure (.value (<-Builtin.len_ (t::ts).toArray ty #[x]))) h μ w v h1 e:=by
  intro a n cap hx hv h2 h3;subst hx;subst hv;subst h2;subst h3
  refine lA.pure H (yA ?_) (RAV.pint n);simp [Builtin.len_,TA hu]
 simp only[aop]at he;split at he
 ·rename_i sh xs hp
  simp only[Option.some.injEq,Prod.mk.injEq]at he;obtain⟨rfl,rfl,rfl⟩:=he;rw[hp]at Rp;obtain⟨a,cap,rfl,_⟩:=zaT Rp.p_inv;exact key _ _ _ rfl rfl rfl rfl
 ·rename_i sh hp
  simp only[Option.some.injEq,Prod.mk.injEq]at he;obtain⟨rfl,rfl,rfl⟩:=he;rw[hp]at Rp;obtain⟨a,rfl⟩:=nN Rp;exact key _ _ _ rfl rfl rfl rfl
 ·rename_i id g off len hp
  simp only[Option.some.injEq,Prod.mk.injEq]at he;obtain⟨rfl,rfl,rfl⟩:=he;rw[hp]at Rp;obtain⟨a,cap,_,_,_,_,rfl,_⟩:=z9u Rp;exact key _ _ _ rfl rfl rfl rfl
 ·rename_i k tt id g hp
  simp only[Option.map_eq_some_iff,Prod.mk.injEq]at he;obtain⟨u,hu,rfl,rfl,rfl⟩:=he;unfold lnA at hu;cases hk:Nat.beq k 3 with
  | false=>rw[hk]at hu;cases hu
  | true=>
   rw[hk]at hu;have hk:=Nat.eq_of_beq_eq_true hk
   subst hk;simp only[cond_true,Option.some.injEq]at hu;subst hu;rw[hp]at Rp;cases Rp;exact key _ _ _ rfl rfl rfl rfl
 ·cases he
theorem zlF {t ty:TypeId}{ts:List TypeId}(hc:TG P t=2){ev:Opd->AV}{p:Opd}{x:Value}{v:AV}{h1:aA}{e:Esc}(H:HeapRel h μ w)(Rp:RAV (imm h μ w) h μ (ev p) x)(he:aop (.lens p) ev h=some (v,h1,e)) :
 lA P (do pure (.value (<-Builtin.len_ (t::ts).toArray ty #[x]))) h μ w v h1 e:=by
 have hu:P.underlying t=some .string:=by
  unfold TG at hc;split at hc <;> simp_all
 simp only[aop]at he;split at he
 ·rename_i s hp
  simp only[Option.some.injEq,Prod.mk.injEq]at he;obtain⟨rfl,rfl,rfl⟩:=he;rw[hp]at Rp;rw[Rp.p_str];refine lA.pure H (yA ?_) (RAV.pint s.length);simp only[Builtin.len_,List.getElem?_toArray,List.getElem?_cons_zero,Sem.run_bind,TA hu,Result.andThen_ok];rfl
 ·cases he
end
section
variable {h h':aA} {μ μ':Mu} {w w':World} {P:Program} {M M':Mem}
def mJ (P:Program)(c:Cv)(src dst:TypeId):Bool:=match c with
 | .i k=>(P.underlying src).isSome&&(match P.underlying dst with|some (.int k')=>k==k'|_=>false)
 | .s2b=>(match P.underlying src with|some .string=>true|_=>false)&&(match P.underlying dst with|some (.slice e)=>(match P.underlying e with|some (.int .u8)=>kB P e==some none|_=>false)|_=>false)
 | .b2s=>(match P.underlying src with|some (.slice e)=>(match P.underlying e with|some (.int .u8)=>kB P e==some none|_=>false)|_=>false)&&(match P.underlying dst with|some .string=>true|_=>false)
 | .r2s=>(P.underlying src).isSome&&(match P.underlying dst with|some .string=>true|_=>false)
 | .same=>(P.underlying src).isSome&&(match P.underlying dst with|some .string=>true|_=>false)
theorem z3Y:∀ {xs:List PV} {b:List UInt8},PE xs=some b->xs=tA b
 | [],b,h=>by simp [PE]at h;subst h;rfl
 | x::r,b,h=>by
  unfold PE at h;split at h
  ·cases ‹_::_=[]›
  ·rename_i n r' he
   injection he with e1 e2
   subst e1;subst e2
   split at h
   ·rename_i hn
    simp only[Option.map_eq_some_iff]at h;obtain⟨l,h1,rfl⟩:=h;rw[z3Y h1];simp [tA];omega
   ·cases h
  ·cases h
theorem NY (s:List UInt8)(j:Nat):(tA s)[j]?=(s[j]?).map λb=>.int .u8 b.toNat:=by simp [tA]
theorem zgm {c:Cv}{src dst:TypeId}(hc:mJ P c src dst=true){ev:Opd->AV}{p:Opd}{x:Value}{v:AV}{h1:aA}{e:Esc}(H:HeapRel h μ w)(Rp:RAV (imm h μ w) h μ (ev p) x)
 (he:aop (.conv c p) ev h=some (v,h1,e)):lA P (do pure (.value (<-convert src dst x))) h μ w v h1 e:=by
 simp only[aop,Option.map_eq_some_iff,Prod.mk.injEq]at he;obtain⟨⟨u,hh⟩,hconv,rfl,rfl,rfl⟩:=he;cases c with
 | i k=>
  simp only[mJ,Bool.and_eq_true]at hc;obtain⟨c1,c2⟩:=hc;obtain⟨d,hd⟩:=Option.isSome_iff_exists.1 c1;have hu:P.underlying dst=some (.int k):=by
   split at c2
   ·rename_i k' hk;rw[hk];simp at c2;rw[c2]
   ·cases c2
  simp only[BD]at hconv;split at hconv
  ·rename_i hp
   simp only[Option.some.injEq,Prod.mk.injEq]at hconv;obtain⟨rfl,rfl⟩:=hconv;rw[hp]at Rp;rw[Rp.p_int];refine lA.pure H (yA (u:=.int k (k.wrap _)) ?_) (.p _ _ (.int _ _));simp [convert,TA hd,TA hu,Conv.intToInt]
  ·cases hconv
 | s2b=>
  simp only[mJ,Bool.and_eq_true]at hc;obtain⟨c1,c2⟩:=hc;have hs:P.underlying src=some .string:=by split at c1 <;> simp_all
  have hd:∃el,P.underlying dst=some (.slice el)/\P.underlying el=some (.int .u8)/\kB P el=some none:=by
   split at c2
   ·rename_i el hel
    split at c2
    ·rename_i hu8;exact⟨el,hel,hu8,by simpa using c2⟩
    ·cases c2
   ·cases c2
  obtain⟨el,hd,hu8,hsh⟩:=hd;simp only[BD]at hconv;split at hconv
  ·rename_i s hp
   split at hconv
   ·simp only[Option.some.injEq,Prod.mk.injEq]at hconv
    obtain⟨rfl,rfl⟩:=hconv;rw[hp]at Rp;rw[Rp.p_str];have hrun:=run_bytes_of_string w src dst el ⟨s.toArray⟩ hs hd hu8
    have hsz:(⟨s.toArray⟩:ByteArray).size=s.length:=rfl
    rw[hsz]at hrun;generalize hcap:grownCap w s.length 0 el=cap at hrun;have hle:s.length<=cap:=by rw[<-hcap];exact z4Z _ _ _ _
    generalize hrow:bytesRow ⟨s.toArray⟩ cap=row at hrun;have hrs:row.size=cap:=by rw[<-hrow];simp [bytesRow,hsz];omega
    have hB:gB (w.drew.alloc (.cells row el (row.size,row.size+1))) w.heap.size cap row:=⟨hrs,el,row.size,row.size+1,by
     show(w.heap.push _)[w.heap.size]?=_
     simp,λ_=>by omega⟩
    have hW:WExt w (w.drew.alloc (.cells row el (row.size,row.size+1))):=by
     refine⟨?_,λb hb=>?_,rfl⟩
     ·show w.heap.size<=(w.heap.push _).size
      simp
     ·show(w.heap.push _)[b]?=_
      simp [Array.getElem?_push,Nat.ne_of_lt hb]
    have hlt:w.heap.size<(w.drew.alloc (.cells row el (row.size,row.size+1))).heap.size:=by
     show w.heap.size<(w.heap.push _).size
     simp
    obtain⟨n1,n2⟩:=LJ (sh:=none) (xs:=tA s) H hW (Nat.le_refl _) hlt hB (by simp [tA,gA];omega) (λx hx=>by
     simp only[tA,List.mem_map]at hx;obtain⟨b,_,rfl⟩:=hx;rfl) (λi j x y hx hy=>by
     rw[NY]at hx;simp only[Option.map_eq_some_iff]at hx;obtain⟨b,hb,rfl⟩:=hx;have hj:j=0/\y = .int .u8 b.toNat:=by
      cases j with
      | zero=>simp [PV.cells]at hy;exact⟨rfl,hy.symm⟩
      | succ j=>simp [PV.cells]at hy
     obtain⟨rfl,rfl⟩:=hj;have hi:=IA hb
     refine⟨.int .u8 b.toNat,?_,.int _ _⟩;rw[<-hrow];have:=bytesRow_at ⟨s.toArray⟩ cap i (by simpa using hi)
     simp only[gA,Nat.mul_one,Nat.add_zero];rw[this];have hb':s[i]=b:=by rw[List.getElem?_eq_getElem hi]at hb;simpa using hb
     simp [hb'])
    refine⟨_,_,_,yA hrun,.inl ⟨_,rfl,?_⟩,n1,n2,rA.push (by simp [Obj.top])⟩
    refine .own h.length s.length 0 s.length _ cap none (tA s) 0 (some (w.heap.size,cap)) hle (by simp) (by rw[<-H.len];simp) (by simp [tA]) (by omega) (λ_=>?_)
    right;exact⟨by simp,by simp [gA]⟩
   ·cases hconv
  ·cases hconv
 | b2s=>
  simp only[mJ,Bool.and_eq_true]at hc;obtain⟨c1,c2⟩:=hc;have hd:P.underlying dst=some .string:=by split at c2 <;> simp_all
  have hs:∃el,P.underlying src=some (.slice el)/\P.underlying el=some (.int .u8)/\kB P el=some none:=by
   split at c1
   ·rename_i el hel
    split at c1
    ·rename_i hu8;exact⟨el,hel,hu8,by simpa using c1⟩
    ·cases c1
   ·cases c1
  obtain⟨el,hs,hu8,hsh⟩:=hs;have hconv':=hconv
  simp only[BD]at hconv';split at hconv'
  ·rename_i y hy
   obtain⟨sh,ys⟩:=y;simp only[Option.map_eq_some_iff,Prod.mk.injEq]at hconv';obtain⟨b,hb,rfl,rfl⟩:=hconv';have hys:=z3Y hb
   subst hys;obtain⟨a,cap,rfl,hcap,hrd⟩:=z9H H Rp hy;have hlen:(tA b).length=b.length:=by simp [tA]
   rw[hlen]at *;refine lA.pure H (yA (u:=.string ⟨b.toArray⟩) ?_) (.p _ _ (.str b));cases a with
   | none=>
    have hb0:b=[]:=by
     rcases Classical.em (b=[]) with h0|h0
     ·exact h0
     ·obtain⟨_,_,_,ha,_⟩:=hrd (by simp [tA];exact h0)
      cases ha
    subst hb0;rw[run_convert_bytes_string w src dst el none _ _ hs hu8 hd];rfl
   | some a=>
    refine run_convert_bytes_back w src dst el a cap b hs hu8 hd (λj hj=>?_)
    obtain⟨bb,o,f,ha,hshp,hcell⟩:=hrd (by intro h0;have:=congrArg List.length h0;simp [tA]at this;rw[this]at hj;simp at hj)
    injection ha with ha
    subst ha;have hfl:((tA b).flatMap PV.cells)[j]?=some (.int .u8 b[j].toNat):=by
     rw[z5t,NY,List.getElem?_eq_getElem hj];rfl
    obtain⟨q1,q2⟩:=hcell j _ hfl;rw[wC,q1];generalize f j=z at q2 ⊢;cases q2;rfl
  ·cases hconv'
 | r2s=>
  simp only[mJ,Bool.and_eq_true]at hc;obtain⟨c1,c2⟩:=hc;have hd:P.underlying dst=some .string:=by split at c2 <;> simp_all
  simp only[BD]at hconv;split at hconv
  ·rename_i k n hp
   split at hconv
   ·rename_i hn
    simp only[Option.some.injEq,Prod.mk.injEq]at hconv;obtain⟨rfl,rfl⟩:=hconv;rw[hp]at Rp;rw[Rp.p_int];refine lA.pure H (yA (u:=.string ⟨#[UInt8.ofNat n.toNat]⟩) ?_) ?_
    ·rw[run_convert_int_string w src dst k n c1 hd]
     have hv:Utf8.valid n=true:=by simp [Utf8.valid];omega
     have h2:n.toNat<128:=by omega
     simp [Utf8.encode,hv,h2]
    ·have:=RPV.str (M:=imm h μ w) [UInt8.ofNat n.toNat]
     exact .p _ _ this
   ·cases hconv
  ·cases hconv
 | same=>
  simp only[mJ,Bool.and_eq_true]at hc;obtain⟨c1,c2⟩:=hc;have hd:P.underlying dst=some .string:=by split at c2 <;> simp_all
  obtain⟨d,hd1⟩:=Option.isSome_iff_exists.1 c1;simp only[BD]at hconv;split at hconv
  ·rename_i s hp
   simp only[Option.some.injEq,Prod.mk.injEq]at hconv;obtain⟨rfl,rfl⟩:=hconv;rw[hp]at Rp;rw[Rp.p_str];refine lA.pure H (yA (u:=.string ⟨s.toArray⟩) ?_) (.p _ _ (.str s));simp [convert,TA hd1,TA hd]
  ·cases hconv
def XB:List Opd->List Operand->Bool
 | [],[]=>true
 | a::r,b::s=>JA a b&&XB r s
 | _,_=>false
theorem RJ:∀ {xs:List Opd} {ys:List Operand},XB xs ys=true->xs.length=ys.length
 | [],[],_=>rfl
 | [],_::_,h=>by simp [XB]at h
 | _::_,[],h=>by simp [XB]at h
 | a::r,b::s,h=>by simp only[XB,Bool.and_eq_true]at h;simp [RJ h.2]
theorem zm1 {xs:List Opd}{y:Operand}(h:XB xs [y]=true):∃q,xs=[q]/\JA q y=true:=by
 match xs,h with
 | [],h=>simp [XB]at h
 | [q],h=>exact⟨q,rfl,by simpa [XB] using h⟩
 | _::_::_,h=>simp [XB]at h
theorem zm2 {xs:List Opd}{y z:Operand}(h:XB xs [y,z]=true):∃q r,xs=[q,r]/\JA q y=true/\JA r z=true:=by
 match xs,h with
 | [],h=>simp [XB]at h
 | [q],h=>simp [XB]at h
 | [q,r],h=>exact⟨q,r,rfl,by simpa [XB] using h⟩
 | _::_::_::_,h=>simp [XB]at h
theorem SJ {ev:Opd->AV}{ρ:Operand->Value}(R:wE M h μ ev ρ):∀{xs:List Opd} {ys:List Operand},XB xs ys=true ->
 ∀(j:Nat) (y:AV) (v:Value),(xs.map ev)[j]?=some y->(ys.map ρ)[j]?=some v->RAV M h μ y v
 | [],[],_,j,y,v,h1,h2=>by simp at h1
 | [],_::_,h,_,_,_,_,_=>by simp [XB]at h
 | _::_,[],h,_,_,_,_,_=>by simp [XB]at h
 | a::r,b::s,h,j,y,v,h1,h2=>by
  simp only[XB,Bool.and_eq_true]at h;cases j with
  | zero=>simp at h1 h2;subst h1;subst h2;exact R a b h.1
  | succ j=>exact SJ R h.2 j y v (by simpa using h1) (by simpa using h2)
theorem zlS {f:Nat}{caps:List Opd}{first cs:Array Operand}{ev:Opd->AV}{ρ:Operand->Value}(hc:XB caps cs.toList=true)(hf:first = #[]){v:AV}{h1:aA}{e:Esc}(H:HeapRel h μ w)(R:wE (imm h μ w) h μ ev ρ)
 (he:aop (.mkfn f caps) ev h=some (v,h1,e)):lA P (do pure (.value (<-Instr.makeFunc (.func f) (first.map ρ) (cs.map ρ)))) h μ w v h1 e:=by
 simp only[aop,Option.some.injEq,Prod.mk.injEq]at he;obtain⟨rfl,rfl,rfl⟩:=he;subst hf;refine lA.pure H (yA rfl) ?_;have:=RAV.fn (M:=imm h μ w) (h:=h) (μ:=μ) f (caps.map ev) (cs.toList.map ρ) (by simp [RJ hc]) (λj y v h1 h2=>SJ R hc j y v h1 h2)
 have h2:(List.map ρ cs.toList).toArray=cs.map ρ:=by rw[<-Array.toList_map]
 rw[h2]at this;have h3:Array.map ρ #[] = #[]:=by simp
 rw[h3];exact this
theorem zlT {t:TypeId}{r:Option Value}(hr:r=none){ev:Opd->AV}{v:AV}{h1:aA}{e:Esc}(H:HeapRel h μ w)(he:aop .mkmap ev h=some (v,h1,e)):lA P (do pure (.value (<-Instr.makeMap t r))) h μ w v h1 e:=by
 simp only[aop,Option.some.injEq,Prod.mk.injEq]at he;obtain⟨rfl,rfl,rfl⟩:=he;subst hr;have hrun:(Instr.makeMap t none).run P w = .ok (.map (some w.heap.size)) { w with heap:=w.heap.push (.map #[] 0) }:=by
  simp only[Instr.makeMap];rfl
 obtain⟨n1,n2⟩:=H.push (WExt.push w (.map #[] 0)) (.amap [] 0) (some (w.heap.size,0)) (λb n e=>by injection e with e;injection e with e1 e2;subst e1;exact⟨Nat.le_refl _,by simp⟩)
  (λM' E=>⟨w.heap.size,0,#[],rfl,by simp,rfl,λe he=>(by cases he),λi e ce he=>(by cases he)⟩)
 exact⟨_,_,_,yA hrun,.inl ⟨_,rfl,.mp h.length w.heap.size 0 [] 0 (by simp) (by rw[<-H.len];simp)⟩,n1,n2,rA.push (by simp [Obj.top,AV.tops])⟩
theorem zru {ev:Opd->AV}{xs:List Opd}{l:List PV}(hu:unp (xs.map ev)=some l):xs.length=l.length/\∀(j:Nat) (y:PV),l[j]?=some y->(xs.map ev)[j]?=some (.p y):=by
 have:=vN hu;refine⟨by have:=congrArg List.length this;simpa using this,λj y hy=>by rw[this];simp [hy]⟩
theorem mx_ok {xs:List Opd}{cs:Array Operand}{ts:Array TypeId}{ty:TypeId}(hc:XB xs cs.toList=true){ev:Opd->AV}{ρ:Operand->Value}{v:AV}{h1:aA}{e:Esc}(H:HeapRel h μ w)(R:wE (imm h μ w) h μ ev ρ)
 (he:aop (.mx xs) ev h=some (v,h1,e)):lA P (do pure (.value (<-Builtin.max_ ts ty (cs.map ρ)))) h μ w v h1 e:=by
 simp only[aop]at he;split at he
 ·rename_i a r hm
  simp only[Option.map_eq_some_iff,Option.bind_eq_some_iff,Prod.mk.injEq]at he;obtain⟨q,⟨l,hl,hq⟩,rfl,rfl,rfl⟩:=he;cases xs with
  | nil=>simp at hm
  | cons o os=>
   cases hcs:cs.toList with
   | nil=>rw[hcs]at hc;simp [XB]at hc
   | cons c cs'=>
    rw[hcs]at hc;simp only[List.map_cons,List.cons.injEq]at hm;obtain⟨hm1,hm2⟩:=hm;simp only[XB,Bool.and_eq_true]at hc;subst hm2;obtain⟨u1,u2⟩:=zru hl;have h0:=R o c hc.1
    rw[hm1]at h0;obtain⟨u,hu,hR⟩:=z4T (w:=w) (P:=P) h0.p_inv (vs:=cs'.map ρ) (by rw[<-u1,RJ hc.2];simp) (λj y v h1 h2=>(SJ R hc.2 j (.p y) v (u2 j y h1) h2).p_inv) hq
    refine lA.pure H (yA (u:=u) ?_) (.p _ _ hR);simp only[Builtin.max_,Array.toList_map,hcs,List.map_cons];exact hu
 ·cases he
end
section
variable {h h':aA} {μ μ':Mu} {w w':World} {P:Program} {M M':Mem}
theorem z66 {a b:PV}{r:Bool}(he:PV.eq1 a b=some r):a.kind=b.kind/\(r=true↔a=b):=by
 unfold PV.eq1 at he;split at he
 ·split at he
  ·rename_i hk;subst hk;simp at he;subst he;exact⟨rfl,by simp⟩
  ·cases he
 ·simp at he;subst he;exact⟨rfl,by simp⟩
 ·simp at he;subst he;exact⟨rfl,by simp⟩
 ·cases he
theorem z0Q:∀ {asv bs:List PV} {r:Bool},eqs asv bs=some r->asv.map PV.kind=bs.map PV.kind/\(r=true↔asv=bs)
 | [],[],r,h=>by simp [eqs]at h;subst h;simp
 | [],_::_,r,h=>by simp [eqs]at h
 | _::_,[],r,h=>by simp [eqs]at h
 | a::asv,b::bs,r,h=>by
  simp only[eqs]at h;split at h
  ·rename_i q hq
   simp only[Option.map_eq_some_iff]at h;obtain⟨r',h1,rfl⟩:=h;obtain⟨k1,k2⟩:=z66 hq;obtain⟨k3,k4⟩:=z0Q h1;refine⟨by simp [k1,k3],?_⟩
   simp only[Bool.and_eq_true,List.cons.injEq,k2,k4]
  ·cases h
theorem z6A {a b:PV}{r:Bool}(he:PV.eqv a b=some r):eqs a.cells b.cells=some r/\(r=true↔a=b):=by
 have sc:∀{a b:PV},PV.eq1 a b=some r->eqs [a] [b]=some r/\(r=true↔a=b):=λ{a b} h=>by
  refine⟨?_,(z66 h).2⟩;simp only[eqs,h];simp
 cases a <;> cases b <;> first|exact⟨he,by rw[(z0Q he).2];simp⟩|exact sc he|cases he
theorem zoP {a:PV}{x y:Value}(hk:a.key=true)(Hx:RPV M a x)(Hy:RPV M' a y):x=y:=by
 cases a with
 | int k n=>cases Hx;cases Hy;rfl
 | bool b=>cases Hx;cases Hy;rfl
 | str s=>cases Hx;cases Hy;rfl
 | sl sh xs=>simp [PV.key]at hk
 | nilp=>simp [PV.key]at hk
 | unk=>simp [PV.key]at hk
 | agg cs=>
  cases Hx with|agg _ vs hl hr=>
  cases Hy with|agg _ us hl' hr'=>
  congr 2
  apply List.ext_getElem (by omega)
  intro i h1 h2;have hi:i<cs.length:=by omega
  have q1:=hr i cs[i] vs[i] (List.getElem?_eq_getElem hi) (List.getElem?_eq_getElem h1)
  have q2:=hr' i cs[i] us[i] (List.getElem?_eq_getElem hi) (List.getElem?_eq_getElem h2)
  simp only[PV.key]at hk;have:=List.all_eq_true.1 hk _ (List.getElem_mem hi);generalize cs[i]=c at *;generalize vs[i]=v1 at *;generalize us[i]=v2 at *;cases c <;> simp at this
  ·cases q1;cases q2;rfl
  ·cases q1;cases q2;rfl
  ·cases q1;cases q2;rfl
def XY (P:Program)(kt:TypeId)(ks:List Nat):Bool:=match P.underlying kt with
 | some (.array n e)=>(match kB P e with|some none=>true|_=>false)&&Nat.blt (kD P e) 3&&ks==List.replicate n (kD P e)
 | _=>false
def SG (P:Program)(kt:TypeId)(kk:Sh × List Nat):Bool:=kB P kt==some kk.1&&(jE P 20 kt kk.2==some []||XY P kt kk.2)&&kk.2.length==gA kk.1
theorem z56 {kt:TypeId}{ks:List Nat}(h:XY P kt ks=true):∃n e i,P.underlying kt=some (.array n e)/\kB P e=some none/\kD P e<3/\ks=List.replicate n (kD P e)/\P.info? e=some i/\i.size=1:=by
 unfold XY at h;split at h
 ·rename_i n e hu
  simp only[Bool.and_eq_true,beq_iff_eq]at h;obtain⟨⟨c3,c4⟩,c5⟩:=h;have hs:kB P e=some none:=by
   split at c3
   ·assumption
   ·cases c3
  have hk3:kD P e<3:=by simp [Nat.blt]at c4;omega
  have hi:∃i,P.info? e=some i/\i.size=1:=by
   unfold kB at hs;split at hs
   ·cases hs
   ·cases hs
   ·split at hs
    ·exact⟨_,by assumption,by assumption⟩
    ·cases hs
   ·cases hs
  obtain⟨i,hi,hi1⟩:=hi;exact⟨n,e,i,hu,hs,hk3,c5,hi,hi1⟩
 ·cases h
theorem zaK {kt e:TypeId}{n:Nat}{sh:Sh}(hu:P.underlying kt=some (.array n e))(hs:kB P kt=some sh):∃m,sh=some m:=by
 unfold kB at hs;rw[hu]at hs;cases hi:P.info? kt with
 | none=>rw[hi]at hs;simp at hs
 | some i=>rw[hi]at hs;simp at hs;exact⟨_,hs.symm⟩
theorem zfX {em:Bool}{d:Nat}{e:TypeId}(hk:kD P e<3)(v:Value):(Instr.checkKey em (d+1) e v).run P w = .ok () w:=by
 unfold kD at hk;split at hk
 ·rename_i hu;simp [Instr.checkKey,TA hu]
 ·rename_i hu;simp [Instr.checkKey,TA hu]
 ·rename_i hu;simp [Instr.checkKey,TA hu]
 ·omega
theorem z3S {sh:Sh}{a:PV}{x:Value}(hs:a.shp sh=true)(R:RPV M a x):∃xs:List Value,(yD sh λj=>(xs[0+j]?).getD undef)=x/\Cs M a.cells xs 0/\a.cells.length=gA sh:=by
 cases sh with
 | none=>
  have hc:a.cells=[a]:=by cases a <;> first|rfl|(simp [PV.shp,PV.sc]at hs)
  refine⟨[x],by simp [yD],⟨by rw[hc];simp,λj b v h1 h2=>?_⟩,by rw[hc];rfl⟩
  rw[hc]at h1;cases j with
  | zero=>simp at h1 h2;subst h1;subst h2;exact R
  | succ j=>simp at h1
 | some n=>
  cases a with
  | agg cs=>
   cases R with|agg _ vs hl hr=>
   simp only[PV.shp,Bool.and_eq_true,beq_iff_eq]at hs;refine⟨vs,?_,⟨by simp [PV.cells];omega,λj b v h1 h2=>hr j b v h1 (by simpa using h2)⟩,hs.1⟩
   simp only[yD];congr 2
   apply List.ext_getElem (by simp;omega)
   intro i h1 h2;simp [h2]
  | _=>simp [PV.shp]at hs
theorem zkG {kk:Sh × List Nat}{v:AV}{key:PV}(hk:bD kk v=some key):v = .p key/\key.key=true/\key.shp kk.1=true/\key.cells.map PV.kind=kk.2:=by
 unfold bD at hk;split at hk
 ·split at hk
  ·rename_i h1
   injection hk with hk
   subst hk;simp only[Bool.and_eq_true,beq_iff_eq]at h1;exact⟨rfl,h1.1.1,h1.1.2,h1.2⟩
  ·cases hk
 ·cases hk
structure KeyAt (P:Program) (M:Mem) (kt:TypeId) (kk:Sh × List Nat) (key:PV) (kv:Value):Prop where
 ct:SG P kt kk=true
 ok:key.key=true
 shp:key.shp kk.1=true
 kinds:key.cells.map PV.kind=kk.2
 rel:RPV M key kv
theorem KeyAt.equal {kt:TypeId}{kk:Sh × List Nat}{key:PV}{kv:Value}(K:KeyAt P M kt kk key kv){k2:PV}{kv2:Value}(R2:RPV M k2 kv2)(h2:k2.key=true){r:Bool}(he:PV.eqv key k2=some r) :
 (Op.equal kt kv kv2).run P w = .ok r w:=by
 obtain⟨ct,hkey,hshp,hkinds,R⟩:=K;unfold SG at ct;simp only[Bool.and_eq_true,Bool.or_eq_true,beq_iff_eq]at ct;obtain⟨⟨c1,c2⟩,c3⟩:=ct;have hq:=(z6A he).1
 have hk2:=(z0Q hq).1
 have hs2:k2.shp kk.1=true:=by
  cases hsh:kk.1 with
  | none=>
   rw[hsh]at hshp;cases key <;> simp [PV.shp,PV.sc]at hshp <;> cases k2 <;> simp [PV.shp,PV.sc,PV.eqv,PV.eq1]at he ⊢
  | some n=>
   rw[hsh]at hshp;cases key with
   | agg cs=>
    cases k2 with
    | agg ds=>
     simp only[PV.shp,Bool.and_eq_true,beq_iff_eq]at hshp ⊢;have hl:=congrArg List.length hk2
     simp [PV.cells]at hl;refine⟨by omega,?_⟩
     simp only[PV.key]at h2;rw[List.all_eq_true]at h2 ⊢;intro x hx;have:=h2 x hx;cases x <;> first|rfl|simp at this
    | _=>simp [PV.eqv,PV.eq1]at he
   | _=>simp [PV.shp]at hshp
 rcases c2 with c2|c2
 rotate_left
 ·obtain⟨n,e,i,hu,hs,hk3,hks,hi,hi1⟩:=z56 c2
  obtain⟨m,hm⟩:=zaK hu c1;rw[hm]at hshp hs2;cases key with
  | agg cs=>
   cases k2 with
   | agg ds=>
    cases R with|agg _ xs hxl hxr=>
    cases R2 with|agg _ ys hyl hyr=>
    have hce:P.cellsOf e=1:=by simp [Program.cellsOf,hi,hi1]
    have hkd:cs.map PV.kind=kk.2:=hkinds
    have hkb:cs.map PV.kind=ds.map PV.kind:=hk2
    have hdl:cs.length=ds.length:=by have:=congrArg List.length hkb;simpa using this
    have hal:cs.length=n:=by have:=congrArg List.length (hkd.trans hks);simpa using this
    show(Op.equalIn 10000 kt (.agg xs.toArray) (.agg ys.toArray)).run P w=_
    rw[show(10000:Nat)=(9998+1)+1 from rfl,run_equalIn_array w (9998+1) _ _ hu hi,hce,List.range_eq_range',<-hal]
    exact z1o hk3 hs cs ds 0 r (by rw[hkd,hks,hal]) hkb ⟨by omega,λj a v h1 h2=>hxr j a v h1 (by simpa using h2)⟩ ⟨by omega,λj a v h1 h2=>hyr j a v h1 (by simpa using h2)⟩ hq
   | _=>simp [PV.shp]at hs2
  | _=>simp [PV.shp]at hshp
 obtain⟨xs,e1,C1,L1⟩:=z3S hshp R;obtain⟨ys,e2,C2,L2⟩:=z3S hs2 R2;have:=z4c (P:=P) (w:=w) (M:=M) 20 kt 9980 kk.2 [] kk.1 xs ys 0 key.cells k2.cells r c2 c1 (by rw[hkinds];simp) hk2 L1 C1 C2 hq
 rw[e1,e2]at this;exact this
theorem za8 {d:TypeDesc}{a b:PV}{x y:Value}{r r':Bool}(Rx:RPV M a x)(Ry:RPV M b y)(he:PV.eqv a b=some r)(hs:Instr.sameNow d x y=some r'):r'=r:=by
 unfold PV.eqv at he;split at he
 ·cases Rx;cases Ry
  unfold Instr.sameNow at hs;split at hs
  ·rename_i h1 h2;cases h1
  ·rename_i h1 h2;cases h1
  ·rename_i h1 h2;cases h1
  ·cases hs
 ·unfold PV.eq1 at he
  split at he
  ·split at he
   ·rename_i k m k' n hkk
    subst hkk;cases Rx;cases Ry
    simp only[Option.some.injEq]at he;unfold Instr.sameNow at hs;split at hs <;> simp_all
    rw[<-hs,<-he,wF]
   ·cases he
  ·cases Rx;cases Ry
   simp only[Option.some.injEq]at he;unfold Instr.sameNow at hs;split at hs <;> simp_all
   rw[<-hs,<-he,wF]
  ·rename_i s s'
   cases Rx;cases Ry
   simp only[Option.some.injEq]at he;unfold Instr.sameNow at hs;split at hs
   ·rename_i h1 _;cases h1
   ·rename_i a b h1 h2
    cases h1;cases h2
    injection hs with hs
    rw[<-hs,<-he];simp [Go.beq_toListBytes,Go.ByteArray.toList_mk,wF]
   ·rename_i h1 _;cases h1
   ·cases hs
  ·cases he
def MF (M:Mem)(es:List ME)(ces:List MapEntry):Prop:=es.length=ces.length/\∀(i:Nat) (e:ME) (ce:MapEntry),es[i]?=some e->ces[i]?=some ce->RPV M e.key ce.key/\e.key.key=true
def EF (ces:List MapEntry)(off:Nat)(r:Option Nat):Option (Nat×Value):=r.bind λi=>(ces[i]?).map λc=>(off+i,c.val)
theorem z7Z {ce:MapEntry}{ces:List MapEntry}{off:Nat}{r:Option Nat}:EF (ce::ces) off (r.map (· + 1))=EF ces (off+1) r:=by
 cases r with
 | none=>rfl
 | some i=>simp [EF,show off+(i+1)=off+1+i by omega]
theorem KeyAt.asking {kt:TypeId}{kk:Sh × List Nat}{key:PV}{kv:Value}(K:KeyAt P M kt kk key kv):∀{es:List ME} {ces:List MapEntry} {off:Nat} {r:Option Nat},MF M es ces->PB key es=some r ->
 (Instr.findAsking kt kv ces off).run P w = .ok (EF ces off r) w
 | [],[],off,r,_,h=>by
  simp [PB]at h;subst h;rfl
 | [],_::_,off,r,hr,_=>by simp [MF]at hr
 | _::_,[],off,r,hr,_=>by simp [MF]at hr
 | e::es,ce::ces,off,r,hr,h=>by
  obtain⟨k1,k2⟩:=hr.2 0 e ce rfl rfl;have hr':MF M es ces:=⟨by have:=hr.1;simpa using this,λi e' ce' h1 h2=>hr.2 (i+1) e' ce' (by simpa using h1) (by simpa using h2)⟩
  simp only[PB]at h;simp only[Instr.findAsking,Sem.run_bind];split at h
  ·rename_i hq
   injection h with h
   subst h;rw[K.equal k1 k2 hq];simp [EF]
  ·rename_i hq
   simp only[Option.map_eq_some_iff]at h;obtain⟨r',h1,rfl⟩:=h;rw[K.equal k1 k2 hq];simp only[Result.andThen_ok,Bool.false_eq_true,if_false];rw[K.asking (off:=off+1) hr' h1,z7Z]
  ·cases h
theorem KeyAt.now {kt:TypeId}{kk:Sh × List Nat}{key:PV}{kv:Value}(K:KeyAt P M kt kk key kv){d:TypeDesc}:∀{es:List ME} {ces:List MapEntry} {off:Nat} {r:Option Nat} {q:Option (Nat×Value)},MF M es ces->PB key es=some r ->
 Instr.findNow d kv ces off=some q->q=EF ces off r
 | [],[],off,r,q,_,h,hq=>by
  simp [PB]at h;subst h;simp [Instr.findNow]at hq;subst hq;rfl
 | [],_::_,off,r,q,hr,_,_=>by simp [MF]at hr
 | _::_,[],off,r,q,hr,_,_=>by simp [MF]at hr
 | e::es,ce::ces,off,r,q,hr,h,hq=>by
  obtain⟨k1,k2⟩:=hr.2 0 e ce rfl rfl;have hr':MF M es ces:=⟨by have:=hr.1;simpa using this,λi e' ce' h1 h2=>hr.2 (i+1) e' ce' (by simpa using h1) (by simpa using h2)⟩
  simp only[PB]at h;simp only[Instr.findNow]at hq;split at hq
  ·rename_i hs
   injection hq with hq
   subst hq;split at h
   ·injection h with h
    subst h;simp [EF]
   ·rename_i he
    have:=za8 K.rel k1 he hs;cases this
   ·cases h
  ·rename_i hs
   split at h
   ·rename_i he
    have:=za8 K.rel k1 he hs;cases this
   ·simp only[Option.map_eq_some_iff]at h
    obtain⟨r',h1,rfl⟩:=h;rw[K.now (off:=off+1) hr' h1 hq,z7Z]
   ·cases h
  ·cases hq
theorem KeyAt.ud {kt:TypeId}{kk:Sh × List Nat}{key:PV}{kv:Value}(K:KeyAt P M kt kk key kv):∃d,P.underlying kt=some d:=by
 have ct:=K.ct
 unfold SG at ct;simp only[Bool.and_eq_true,beq_iff_eq]at ct;cases hu:P.underlying kt with
 | some d=>exact⟨d,rfl⟩
 | none=>have:=ct.1.1;simp [kB,hu]at this
theorem KeyAt.find {kt:TypeId}{kk:Sh × List Nat}{key:PV}{kv:Value}(K:KeyAt P M kt kk key kv){es:List ME}{ces:List MapEntry}{r:Option Nat}(hr:MF M es ces)(h:PB key es=some r) :
 (Instr.findKey kt kv ces).run P w = .ok (EF ces 0 r) w:=by
 obtain⟨d,hd⟩:=K.ud;unfold Instr.findKey;rw[Sem.run_bind,TA hd];simp only[Result.andThen_ok];split
 ·rename_i q hq
  rw[K.now hr h hq];rfl
 ·exact K.asking hr h
def CkAt (P:Program)(w:World)(M:Mem)(em:Bool)(d:Nat)(t:TypeId):Prop:=∀(m:Nat) (ks rest:List Nat) (sh:Sh) (xs:List Value) (off:Nat) (asv:List PV),jE P d t ks=some rest->kB P t=some sh->ks=asv.map PV.kind++rest->asv.length=gA sh ->
 Cs M asv xs off->(Instr.checkKey em (m+d) t (yD sh λj=>(xs[off+j]?).getD undef)).run P w = .ok () w
theorem z5D {em:Bool}{d:Nat}(IH:∀ t,CkAt P w M em d t){m:Nat}{xs:List Value}:∀{fs:List Field} {i:Nat} {ks rest:List Nat} {asv:List PV},sG P (jE P d) i fs ks=some rest->ks=asv.map PV.kind++rest ->
 Cs M asv xs i->(forIn (m:=Sem) fs PUnit.unit (λf _=>
  if f.name ≠ "_" then(do
   let v <-part f.type xs.toArray f.offset
   Instr.checkKey em (m+d) f.type v
   pure (.yield PUnit.unit)) else pure (.yield PUnit.unit))).run P w = .ok PUnit.unit w
 | [],i,ks,rest,asv,h,hk,hA=>rfl
 | fl::fs,i,ks,rest,asv,h,hk,hA=>by
  simp only[sG]at h;split at h
  ·rename_i hfl
   split at h
   ·rename_i sh hsh
    split at h
    ·rename_i ks' hk'
     split at h
     ·rename_i hlen
      obtain⟨pre,h1⟩:=GQ _ _ _ _ hk';obtain⟨pre2,h2⟩:=LT (GQ d) h;have hpre:pre.length=gA sh:=by rw[h1]at hlen;simp at hlen;omega
      have hkk:asv.map PV.kind=pre++pre2:=by
       rw[h1,h2,<-List.append_assoc]at hk;exact(List.append_cancel_right hk).symm
      have hla:asv.length=pre.length+pre2.length:=by have:=congrArg List.length hkk;simpa using this
      obtain⟨a1,a2,rfl,ha1⟩:∃a1 a2,asv=a1++a2/\a1.length=pre.length:=⟨asv.take pre.length,asv.drop pre.length,by simp,by simp;omega⟩
      rw[List.map_append]at hkk;obtain⟨m1,m2⟩:=List.append_inj hkk (by simpa using ha1)
      have cA1:Cs M a1 xs i:=⟨by have:=hA.1;simp at this;omega,λj a v hj hv=>hA.2 j a v (nH hj) hv⟩
      have cA2:Cs M a2 xs (i+gA sh):=⟨by have:=hA.1;simp at this;omega,λj a v hj hv=>hA.2 (a1.length+j) a v (by rw[List.getElem?_append_right (by omega)];simpa using hj) (by rw[<-hv];congr 1;omega)⟩
      have p1:=OI (P:=P) (w:=w) (t:=fl.type) hsh (vs:=xs) (off:=i) (by have:=cA1.1;omega)
      have hh:=IH fl.type m ks ks' sh xs i a1 hk' hsh (by rw[h1,m1]) (by omega) cA1
      have ih:=z5D IH (m:=m) h (by rw[h2,m2]) cA2
      simp only[List.forIn_cons,Sem.run_bind,hfl.1,ne_eq,not_false_eq_true,if_true,hfl.2,Result.andThen_ok,p1,hh,Sem.run_pure];exact ih
     ·cases h
    ·cases h
   ·cases h
  ·cases h
theorem z5C {em:Bool}:∀(d:Nat) (t:TypeId),CkAt P w M em d t
 | 0,t=>λm ks rest sh xs off asv h=>by simp [jE]at h
 | d+1,t=>λm ks rest sh xs off asv h hsh hk hla hA=>by
  simp only[jE]at h;split at h
  ·rename_i fs hu
   split at h
   ·cases h
   ·have hsn:∃n,sh=some n:=by
     unfold kB at hsh;rw[hu]at hsh;cases hi:P.info? t with
     | none=>rw[hi]at hsh;simp at hsh
     | some i=>rw[hi]at hsh;simp at hsh;exact⟨_,hsh.symm⟩
    obtain⟨n,rfl⟩:=hsn;show(Instr.checkKey em (m+d+1) t (.agg _)).run P w=_
    simp only[Instr.checkKey,Sem.run_bind,TA hu,Result.andThen_ok];rw[<-Array.forIn_toList];simp only[gA]at hla;have:=z5D (em:=em) (m:=m) (xs:=(List.range n).map λj=>(xs[off+j]?).getD undef) (z5C d) h hk ⟨by simp;omega,λj a v hj hv=>by
     have hjn:j<n:=by rw[<-hla];exact IA hj
     have hlt:off+j<xs.length:=by have:=hA.1;omega
     simp [hjn,hlt]at hv;exact hA.2 j a v hj (by rw[<-hv];simp [hlt])⟩
    rw[this];rfl
  ·split at h
   ·rename_i k r' hnot
    split at h
    ·rename_i hkk
     have hsn:sh=none:=by
      obtain⟨h1,h2⟩:=hkk;unfold kB at hsh;unfold kD at h1;split at h1
      ·rename_i hu;rw[hu]at hsh;split at hsh <;> simp_all
      ·rename_i hu;rw[hu]at hsh;split at hsh <;> simp_all
      ·rename_i hu;rw[hu]at hsh;split at hsh <;> simp_all
      ·omega
     subst hsn;obtain⟨h1,h2⟩:=hkk;show(Instr.checkKey em (m+d+1) t _).run P w=_
     unfold kD at h1;split at h1
     ·rename_i hu;simp [Instr.checkKey,TA hu]
     ·rename_i hu;simp [Instr.checkKey,TA hu]
     ·rename_i hu;simp [Instr.checkKey,TA hu]
     ·omega
    ·cases h
   ·cases h
theorem KeyAt.check {kt:TypeId}{kk:Sh × List Nat}{key:PV}{kv:Value}(K:KeyAt P M kt kk key kv)(em:Bool):(Instr.checkKey em 10000 kt kv).run P w = .ok () w:=by
 obtain⟨ct,hkey,hshp,hkinds,R⟩:=K;unfold SG at ct;simp only[Bool.and_eq_true,Bool.or_eq_true,beq_iff_eq]at ct;obtain⟨⟨c1,c2⟩,c3⟩:=ct;rcases c2 with c2|c2
 rotate_left
 ·obtain⟨n,e,i,hu,hs,hk3,hks,hi,hi1⟩:=z56 c2
  obtain⟨m,hm⟩:=zaK hu c1;rw[hm]at hshp;cases key with
  | agg cs=>
   cases R with|agg _ xs hxl hxr=>
   have hkd:cs.map PV.kind=kk.2:=hkinds
   have hal:cs.length=n:=by have:=congrArg List.length (hkd.trans hks);simpa using this
   obtain⟨dd,hd⟩:∃dd,(10000:Nat)=dd+1+1:=⟨9998,rfl⟩;rw[hd];unfold Instr.checkKey;simp only[Sem.run_bind,TA hu,Result.andThen_ok];simp only[Std.Legacy.Range.forIn_eq_forIn_range',Std.Legacy.Range.size,Nat.sub_zero,Nat.add_one_sub_one,Nat.div_one];have hl:∀j∈List.range' 0 n,j<xs.length:=λj hj=>by
    rw[List.mem_range']at hj;obtain⟨q,hq,rfl⟩:=hj;omega
   revert hl
   generalize List.range' 0 n=l;intro hl;induction l with
   | nil=>rfl
   | cons j l ih=>
    have hj:=hl j List.mem_cons_self
    have p1:=OI (P:=P) (w:=w) (t:=e) hs (vs:=xs) (off:=j) (by simp [gA];omega)
    have sc:=λv=>zfX (P:=P) (w:=w) (em:=em) (d:=dd) hk3 v
    simp only[List.forIn_cons,Sem.run_bind,sE hs,gA,Nat.mul_one,Result.andThen_ok,p1,sc,Sem.run_pure];exact ih λk hk=>hl k (List.mem_cons_of_mem _ hk)
  | _=>simp [PV.shp]at hshp
 obtain⟨xs,e1,C1,L1⟩:=z3S hshp R;have:=z5C (P:=P) (w:=w) (M:=M) (em:=em) 20 kt 9980 kk.2 [] kk.1 xs 0 key.cells c2 c1 (by rw[hkinds];simp) L1 C1
 rw[e1]at this;exact this
theorem zpP {a:PV}{x:Value}(hk:a.key=true)(R:RPV M a x):∀n,2<=n->Instr.sameBits n x x=true:=by
 intro n hn;obtain⟨m,rfl⟩:∃m,n=m+2:=⟨n-2,by omega⟩
 cases a with
 | int k n=>cases R;simp [Instr.sameBits]
 | bool b=>cases R;simp [Instr.sameBits]
 | str s=>cases R;simp [Instr.sameBits,MapKept.bytes_beq]
 | sl sh xs=>simp [PV.key]at hk
 | nilp=>simp [PV.key]at hk
 | unk=>simp [PV.key]at hk
 | agg cs=>
  cases R with|agg _ vs hl hr=>
  simp only[Instr.sameBits,beq_self_eq_true,Bool.true_and,List.all_eq_true];intro p hp;obtain⟨i,hi,e⟩:=List.getElem_of_mem hp;simp only[List.length_zip,Nat.min_self]at hi;have hi':i<vs.length:=by simpa using hi
  rw[List.getElem_zip]at e;rw[<-e];have q1:=hr i cs[i] vs[i] (List.getElem?_eq_getElem (by omega)) (List.getElem?_eq_getElem hi')
  simp only[PV.key]at hk;have:=List.all_eq_true.1 hk _ (List.getElem_mem (show i<cs.length by omega))
  generalize cs[i]=c at *;dsimp only;generalize vs[i]=v at *;cases c <;> simp at this
  ·cases q1;simp [Instr.sameBits]
  ·cases q1;simp [Instr.sameBits]
  ·cases q1;simp [Instr.sameBits,MapKept.bytes_beq]
theorem KeyAt.stays {kt:TypeId}{kk:Sh × List Nat}{key:PV}{kv:Value}(K:KeyAt P M kt kk key kv):(Instr.keyThatStays kv kv).run P w = .ok kv w:=by
 simp [Instr.keyThatStays,zpP K.ok K.rel 10000 (by omega)]
theorem z1v {key:PV}:∀{es:List ME} {i:Nat},PB key es=some (some i)->∃e,es[i]?=some e/\e.key=key
 | [],i,h=>by simp [PB]at h
 | e::es,i,h=>by
  simp only[PB]at h;split at h
  ·rename_i hq
   injection h with h
   injection h with h
   subst h;exact⟨e,rfl,((z6A hq).2.1 rfl).symm⟩
  ·simp only[Option.map_eq_some_iff]at h
   obtain⟨r,h1,h2⟩:=h;cases r with
   | none=>simp at h2
   | some j=>
    simp at h2;subst h2;obtain⟨e',h3,h4⟩:=z1v h1;exact⟨e',by simpa using h3,h4⟩
  ·cases h
theorem LL {v:AV}{id c:Nat}{es:List ME}(hm:WB h v=some (id,es,c)):v = .mp id/\h[id]?=some (.amap es c):=by
 unfold WB at hm;split at hm
 ·split at hm
  ·rename_i ho
   simp only[Option.some.injEq,Prod.mk.injEq]at hm;obtain⟨rfl,rfl,rfl⟩:=hm;exact⟨rfl,ho⟩
  ·cases hm
 ·cases hm
structure MapAt (h:aA) (μ:Mu) (w:World) (id:Nat) (es:List ME) (c:Nat) (b:Nat) (n:Nat) (ces:Array MapEntry):Prop where
 ho:h[id]?=some (.amap es c)
 hm:μ[id]?=some (some (b,n))
 hb:w.heap[b]?=some (.map ces c)
 sz:ces.size=es.length
 bd:∀e∈es,e.born<c
 rel:∀(i:Nat) (e:ME) (ce:MapEntry),es[i]?=some e->ces[i]?=some ce->RPV (imm h μ w) e.key ce.key/\e.key.key=true/\RAV (imm h μ w) h μ e.val ce.val/\ce.born=e.born
theorem z1s {v:AV}{id c:Nat}{es:List ME}{x:Value}(H:HeapRel h μ w)(R:RAV (imm h μ w) h μ v x)(hm:WB h v=some (id,es,c)):∃b n ces,x = .map (some b)/\MapAt h μ w id es c b n ces:=by
 obtain⟨rfl,ho⟩:=LL hm;cases R with|mp _ b n es' c' ho' hmu=>
 obtain⟨b',n',ces,hb',k1,k2,k4,k3⟩:=H.obj _ _ _ ho hmu;injection hb' with hb';injection hb' with hb1 hb2
 subst hb1;exact⟨_,_,ces,rfl,ho,hmu,k1,k2,k4,k3⟩
theorem MapAt.esrel {id c b n:Nat}{es:List ME}{ces:Array MapEntry}(A:MapAt h μ w id es c b n ces):MF (imm h μ w) es ces.toList:=
 ⟨by simp [A.sz],λi e ce h1 h2=>by obtain⟨q1,q2,_⟩:=A.rel i e ce h1 (by simpa using h2);exact⟨q1,q2⟩⟩
theorem MapAt.put {id c b n:Nat}{es:List ME}{ces:Array MapEntry}(A:MapAt h μ w id es c b n ces)(H:HeapRel h μ w){es':List ME}{c':Nat}{ces':Array MapEntry}(hsz:ces'.size=es'.length)(hbd:∀ e∈es',e.born<c')
 (hrel:∀(i:Nat) (e:ME) (ce:MapEntry),es'[i]?=some e->ces'[i]?=some ce->RPV (imm h μ w) e.key ce.key/\e.key.key=true/\RAV (imm h μ w) h μ e.val ce.val/\ce.born=e.born) :
 HeapRel (h.set id (.amap es' c')) μ (uB w b (.map ces' c'))/\Evo (imm h μ w) h μ (imm (h.set id (.amap es' c')) μ (uB w b (.map ces' c'))) (h.set id (.amap es' c')) μ:=by
 have hμ:μ.set id (some (b,n))=μ:=by
  apply List.ext_getElem?
  intro j;rw[List.getElem?_set];split
  ·rename_i hj;subst hj;rw[if_pos (IA A.hm),A.hm]
  ·rfl
 have:=H.set (w':=uB w b (.map ces' c')) (id:=id) (o:=.amap es c) (o':=.amap es' c') (m:=some (b,n)) (m':=some (b,n)) A.ho A.hm ⟨⟨_,_,rfl⟩,rfl⟩ rfl (by rw[QI];exact Nat.le_refl _)
  (λb' _ hne=>PI (λe=>hne n (by rw[e]))) (λb' n' e=>.inl ⟨n',e⟩) (λb' n' sh xs fz _ e=>by cases e)
  (λM' E=>⟨b,n,ces',rfl,OE A.hb,hsz,hbd,λi e ce h1 h2=>by
   obtain⟨q1,q2,q3,q4⟩:=hrel i e ce h1 h2;exact⟨q1.mono E.le,q2,q3.evo E,q4⟩⟩)
  (λb' n' t e ht=>by
   injection e with e
   injection e with e1 _
   subst e1;unfold ety at ht;rw[A.hb]at ht;cases ht)
 rw[hμ]at this;exact this
theorem jN {b c:Nat}{ces:Array MapEntry}(hb:w.heap[b]?=some (.map ces c)):(getObj b).run P w = .ok (.map ces c) w:=MapKept.run_getObj_map hb
theorem zaf {b c:Nat}{ces:Array MapEntry}(o:Go.Obj)(hb:w.heap[b]?=some (.map ces c)):(setObj b o).run P w = .ok () (uB w b o):=MapKept.run_setObj_map o hb
def LN (P:Program)(kk:Sh × List Nat)(t:TypeId):Bool:=match P.underlying t with
 | some (.map k _)=>SG P k kk
 | _=>false
def lR (P:Program)(kk:Sh × List Nat)(z:AV)(t:TypeId):Bool:=match P.underlying t with
 | some (.map k e)=>SG P k kk&&(match P.info? e with|some i=>(match i.zero with|some v=>qJ z v|none=>false)|none=>false)
 | _=>false
theorem zfU {kk:Sh × List Nat}{t:TypeId}(hc:LN P kk t=true):∃k e,P.underlying t=some (.map k e)/\SG P k kk=true:=by
 unfold LN at hc;split at hc
 ·rename_i k e hu;exact⟨k,e,hu,hc⟩
 ·cases hc
theorem zfV {kk:Sh × List Nat}{z:AV}{t:TypeId}(hc:lR P kk z t=true):∃k e v,P.underlying t=some (.map k e)/\SG P k kk=true/\qJ z v=true/\∀w,(zeroValue e).run P w = .ok v w:=by
 unfold lR at hc;split at hc
 ·rename_i k e hu
  simp only[Bool.and_eq_true]at hc;obtain⟨c1,c2⟩:=hc;split at c2
  ·rename_i i hi
   split at c2
   ·rename_i v hv
    refine⟨k,e,v,hu,c1,c2,λw=>?_⟩
    unfold zeroValue;rw[Sem.run_bind,xH hi];simp [hv]
   ·cases c2
  ·cases c2
 ·cases hc
theorem z8O {kk:Sh × List Nat}{kt:TypeId}(hc:SG P kt kk=true){v:AV}{key:PV}{x:Value}(hk:bD kk v=some key)(R:RAV (imm h μ w) h μ v x):KeyAt P (imm h μ w) kt kk key x:=by
 obtain⟨rfl,k1,k2,k3⟩:=zkG hk;exact⟨hc,k1,k2,k3,R.p_inv⟩
theorem z7Y {ces:List MapEntry}{i:Nat}{ce:MapEntry}(hc:ces[i]?=some ce):EF ces 0 (some i)=some (i,ce.val):=by simp [EF,hc]
theorem zrh {es:List ME}{i:Nat}{v:AV}:AV.tops ((es.modify i λe=>{ e with val:=v }).map ME.val)<=max (AV.tops (es.map ME.val)) v.top:=by
 refine sK (λj y hy=>?_)
 rw[List.getElem?_map,List.getElem?_modify]at hy;simp only[Option.map_eq_map,Option.map_eq_some_iff]at hy;obtain⟨e,he,rfl⟩:=hy;obtain⟨e0,he0,rfl⟩:=he;have h0:(es.map ME.val)[j]?=some e0.val:=by simp [he0]
 have:=fF h0;split
 ·show v.top<=_;omega
 ·show e0.val.top<=_;omega
theorem zrj {es:List ME}{e:ME}:AV.tops ((es++[e]).map ME.val)<=max (AV.tops (es.map ME.val)) e.val.top:=by
 rw[List.map_append,DQ];simp [AV.tops]
theorem zlM {kk:Sh × List Nat}{ok:Bool}{z:AV}{t:TypeId}(hc:lR P kk z t=true){ev:Opd->AV}{p q:Opd}{x y:Value}{v:AV}{h1:aA}{e:Esc}(H:HeapRel h μ w)(Rp:RAV (imm h μ w) h μ (ev p) x)(Rq:RAV (imm h μ w) h μ (ev q) y)
 (he:aop (.look kk ok z p q) ev h=some (v,h1,e)):lA P (do pure (.value (<-Instr.lookup t x y ok))) h μ w v h1 e:=by
 obtain⟨kt,et,zv,hu,hkt,hz,hzr⟩:=zfV hc;have Rz:RAV (imm h μ w) h μ z zv:=wR hz
 simp only[aop]at he;split at he
 ·rename_i key hk
  have K:=z8O hkt hk Rq
  have fin:∀{es:List ME} {ces:Array MapEntry} {r:Option Nat},MF (imm h μ w) es ces.toList->(∀(i:Nat) (e:ME) (ce:MapEntry),es[i]?=some e->ces[i]?=some ce->RAV (imm h μ w) h μ e.val ce.val) ->
   PB key es=some r->(Instr.lookup t x y ok).run P w=(do
    Instr.checkKey ces.isEmpty 10000 kt y
    let q <-Instr.findKey kt y ces.toList
    match q with
    | some (_,v)=>do
     let z <-pure (v,true)
     pure (if ok=true then .tuple #[z.1,.bool z.2] else z.1)
    | none=>do
     let u <-zeroValue et
     let z <-pure (u,false)
     pure (if ok=true then .tuple #[z.1,.bool z.2] else z.1):Sem Value).run P w ->
   some ((bif ok then AV.tup [((r.bind (es[·]?)).map ME.val).getD z,pbool ((r.bind (es[·]?)).map ME.val).isSome] else((r.bind (es[·]?)).map ME.val).getD z),h,([]:Esc))=some (v,h1,e) ->
   lA P (do pure (.value (<-Instr.lookup t x y ok))) h μ w v h1 e:=by
   intro es ces r hr hv hf hg hres;simp only[Option.some.injEq,Prod.mk.injEq]at hres;obtain⟨rfl,rfl,rfl⟩:=hres;have hfind:=K.find (w:=w) hr hf
   have hck:=K.check (w:=w) ces.isEmpty
   rw[Sem.run_bind,hck]at hg;simp only[Result.andThen_ok]at hg;rw[Sem.run_bind,hfind]at hg;simp only[Result.andThen_ok]at hg;have done:∀(u:Value) (b:Bool),RAV (imm h μ w) h μ (((r.bind (es[·]?)).map ME.val).getD z) u->b=((r.bind (es[·]?)).map ME.val).isSome ->
    (Instr.lookup t x y ok).run P w = .ok (if ok=true then .tuple #[u,.bool b] else u) w->lA P (do pure (.value (<-Instr.lookup t x y ok))) h μ w (bif ok then AV.tup [((r.bind (es[·]?)).map ME.val).getD z,pbool ((r.bind (es[·]?)).map ME.val).isSome] else((r.bind (es[·]?)).map ME.val).getD z) h []:=by
    intro u b Ru hb hrun;refine lA.pure H (yA hrun) ?_;cases ok with
    | false=>simpa using Ru
    | true=>
     simp only[cond_true,if_true];refine .tup _ [u,.bool b] rfl (λj a c h1 h2=>?_)
     match j with
     | 0=>cases h1;cases h2;exact Ru
     | 1=>cases h1;cases h2;rw[hb];exact RAV.pbool _
     | j+2=>simp at h1
   cases r with
   | none=>exact done zv false Rz rfl (by rw[hg];simp [EF,hzr])
   | some i=>
    obtain⟨e0,he0,_⟩:=z1v hf;have hi:i<ces.size:=by have:=IA he0;have:=hr.1;simp at this;omega
    have hce:ces[i]?=some ces[i]:=Array.getElem?_eq_getElem hi
    refine done ces[i].val true ?_ (by simp [he0]) (by rw[hg,z7Y (ce:=ces[i]) (by simpa using hce)];simp)
    simp only[Option.bind_some,he0,Option.map_some,Option.getD_some];exact hv i e0 _ he0 hce
  split at he
  ·rename_i es hes
   split at he
   ·rename_i r hf
    split at hes
    ·rename_i hp
     injection hes with hes
     subst hes;rw[hp]at Rp;cases Rp;exact fin (ces:=#[]) ⟨rfl,λi e ce h1=>by simp at h1⟩ (λi e ce h1=>by simp at h1) hf (by
      unfold Instr.lookup;rw[Sem.run_bind,TA hu];rfl) he
    ·simp only[Option.map_eq_some_iff]at hes
     obtain⟨⟨id,es',c⟩,hm,rfl⟩:=hes;obtain⟨b,n,ces,rfl,A⟩:=z1s H Rp hm;refine fin (ces:=ces) A.esrel (λi e ce h1 h2=>(A.rel i e ce h1 h2).2.2.1) hf ?_ he
     unfold Instr.lookup;rw[Sem.run_bind,TA hu];simp only[Result.andThen_ok];rw[Sem.run_bind,jN A.hb];rfl
   ·cases he
  ·cases he
 ·cases he
theorem zko {ces:Array MapEntry}{i:Nat}{ce:MapEntry}(hc:ces[i]?=some ce)(d:Value):((ces[i]?).map (·.key)).getD d=ce.key:=by simp [hc]
theorem zox {M:Mem}{es:List ME}{ces:Array MapEntry}{i:Nat}{kv:Value}{key:PV}{v:AV}{x:Value}(hk:∀ e,es[i]?=some e->e.key=key)(Rk:RPV M key kv)(Rv:RAV M h μ v x)
 (hrel:∀(i:Nat) (e:ME) (ce:MapEntry),es[i]?=some e->ces[i]?=some ce->RPV M e.key ce.key/\e.key.key=true/\RAV M h μ e.val ce.val/\ce.born=e.born) :
 ∀(j:Nat) (e:ME) (ce:MapEntry),(es.modify i λe=>{ e with val:=v })[j]?=some e->(ces.modify i λe=>{ e with key:=kv,val:=x })[j]?=some ce->RPV M e.key ce.key/\e.key.key=true/\RAV M h μ e.val ce.val/\ce.born=e.born:=by
 intro j e ce h1 h2;rw[List.getElem?_modify]at h1;simp only[Option.map_eq_map,Option.map_eq_some_iff]at h1;simp only[Array.getElem?_modify]at h2;obtain⟨e0,he0,rfl⟩:=h1;by_cases hij:i=j
 ·subst hij
  simp only[if_true,Option.map_eq_some_iff]at h2 ⊢;obtain⟨c0,hc0,rfl⟩:=h2;obtain⟨q1,q2,q3,q4⟩:=hrel i e0 c0 he0 hc0;exact⟨by rw[hk e0 he0];exact Rk,q2,Rv,q4⟩
 ·rw[if_neg hij]at h2
  rw[if_neg hij];exact hrel j e0 ce he0 h2
theorem zoy {M:Mem}{es:List ME}{ces:Array MapEntry}{e1:ME}{c1:MapEntry}(hsz:ces.size=es.length)(h1:RPV M e1.key c1.key/\e1.key.key=true/\RAV M h μ e1.val c1.val/\c1.born=e1.born)
 (hrel:∀(i:Nat) (e:ME) (ce:MapEntry),es[i]?=some e->ces[i]?=some ce->RPV M e.key ce.key/\e.key.key=true/\RAV M h μ e.val ce.val/\ce.born=e.born) :
 ∀(j:Nat) (e:ME) (ce:MapEntry),(es++[e1])[j]?=some e->(ces.push c1)[j]?=some ce->RPV M e.key ce.key/\e.key.key=true/\RAV M h μ e.val ce.val/\ce.born=e.born:=by
 intro j e ce ha hb;rcases EG ha with ha|⟨rfl,rfl⟩
 ·have hj:=IA ha
  rw[Array.getElem?_push,if_neg (by omega)]at hb
  exact hrel j e ce ha hb
 ·rw[Array.getElem?_push,if_pos (by omega)]at hb
  injection hb with hb
  subst hb;exact h1
theorem z9f {kk:Sh × List Nat}{t:TypeId}(hc:LN P kk t=true){ev:Opd->AV}{m k u:Opd}{x y z:Value}{v:AV}{h1:aA}{e:Esc}(H:HeapRel h μ w)(Rm:RAV (imm h μ w) h μ (ev m) x)(Rk:RAV (imm h μ w) h μ (ev k) y)(Ru:RAV (imm h μ w) h μ (ev u) z)
 (he:aop (.mupd kk m k u) ev h=some (v,h1,e)):lA P (do Instr.mapUpdate t x y z;pure .skip) h μ w v h1 e:=by
 obtain⟨kt,et,hu,hkt⟩:=zfU hc;simp only[aop]at he;split at he
 ·rename_i key id es c hk hm hok
  have K:=z8O hkt hk Rk
  obtain⟨b,n,ces,rfl,A⟩:=z1s H Rm hm;have hck:=K.check (w:=w) false
  split at he
  ·rename_i i hf
   simp only[Option.some.injEq,Prod.mk.injEq]at he;obtain⟨rfl,rfl,rfl⟩:=he;obtain⟨e0,he0,hek⟩:=z1v hf;have hi:i<ces.size:=by have:=IA he0;have:=A.sz;omega
   have hce:ces[i]?=some ces[i]:=Array.getElem?_eq_getElem hi
   obtain⟨q1,q2,q3,q4⟩:=A.rel i e0 _ he0 hce;have hkv:ces[i].key=y:=zoP (by rw[hek];exact K.ok) q1 (by rw[hek];exact K.rel)
   have hfind:=K.find (w:=w) A.esrel hf
   rw[z7Y (ce:=ces[i]) (by simpa using hce)]at hfind
   have hrun:(Instr.mapUpdate t (.map (some b)) y z).run P w = .ok () (uB w b (.map (ces.modify i λe=>{ e with key:=y,val:=z }) c)):=by
    unfold Instr.mapUpdate;rw[Sem.run_bind,TA hu];simp only[Result.andThen_ok];rw[Sem.run_bind,jN A.hb];simp only[Result.andThen_ok];rw[Sem.run_bind,hck];simp only[Result.andThen_ok];rw[Sem.run_bind,hfind];simp only[Result.andThen_ok];rw[Sem.run_bind,zko hce,hkv,K.stays];simp only[Result.andThen_ok];exact zaf _ A.hb
   obtain⟨n1,n2⟩:=A.put H (es':=es.modify i λe=>{ e with val:=ev u }) (c':=c) (ces':=ces.modify i λe=>{ e with key:=y,val:=z }) (by simp [A.sz])
    (λe he=>by
     obtain⟨j,hj,ej⟩:=List.getElem_of_mem he;have:(es.modify i λe=>{ e with val:=ev u })[j]?=some e:=by rw[List.getElem?_eq_getElem hj,ej]
     rw[List.getElem?_modify]at this;simp only[Option.map_eq_map,Option.map_eq_some_iff]at this;obtain⟨e',he',rfl⟩:=this;have:=A.bd e' (by obtain⟨q,e⟩:=List.getElem?_eq_some_iff.1 he';rw[<-e];exact List.getElem_mem _)
     split <;> exact this)
    (zox (λe he=>by rw[he0]at he;injection he with he;rw[<-he];exact hek) K.rel Ru A.rel)
   exact⟨_,_,_,z3E hrun,.inr ⟨rfl,rfl⟩,n1,n2,rA.set A.ho (by
    have:=zrh (es:=es) (i:=i) (v:=ev u);have:=AT id (ev u);simp only[Obj.top];omega)⟩
  ·rename_i hf
   simp only[Option.some.injEq,Prod.mk.injEq]at he;obtain⟨rfl,rfl,rfl⟩:=he;have hfind:=K.find (w:=w) A.esrel hf
   have hrun:(Instr.mapUpdate t (.map (some b)) y z).run P w = .ok () (uB w b (.map (ces.push { key:=y,val:=z,born:=c }) (c+1))):=by
    unfold Instr.mapUpdate;rw[Sem.run_bind,TA hu];simp only[Result.andThen_ok];rw[Sem.run_bind,jN A.hb];simp only[Result.andThen_ok];rw[Sem.run_bind,hck];simp only[Result.andThen_ok];rw[Sem.run_bind,hfind];simp only[EF,Option.bind_none,Result.andThen_ok];exact zaf _ A.hb
   obtain⟨n1,n2⟩:=A.put H (es':=es++[⟨key,ev u,c⟩]) (c':=c+1) (ces':=ces.push { key:=y,val:=z,born:=c }) (by simp [A.sz])
    (λe he=>by
     rw[List.mem_append,List.mem_singleton]at he;rcases he with he|rfl
     ·have:=A.bd e he;omega
     ·exact Nat.lt_succ_self _)
    (zoy A.sz ⟨K.rel,K.ok,Ru,rfl⟩ A.rel)
   exact⟨_,_,_,z3E hrun,.inr ⟨rfl,rfl⟩,n1,n2,rA.set A.ho (by
    have:=zrj (es:=es) (e:=⟨key,ev u,c⟩);have:=AT id (ev u);simp only[Obj.top];dsimp only at *;omega)⟩
  ·cases he
 ·cases he
end
section
variable {h h':aA} {μ μ':Mu} {w w':World} {P:Program} {M M':Mem}
def bZ (P:Program)(t:TypeId):Bool:=match P.underlying t with
 | some (.map _ _)=>true
 | _=>false
theorem z38 {b s l:Nat}{m:Option Nat}{seen:Array Nat}(hb:w.heap[b]?=some (.mapIter m s seen l)):(getObj b).run P w = .ok (.mapIter m s seen l) w:=by
 simp [getObj,Sem.run,hb]
theorem zoR {b s l:Nat}{m:Option Nat}{seen:Array Nat}(o':Go.Obj)(hb:w.heap[b]?=some (.mapIter m s seen l)):(setObj b o').run P w = .ok () (uB w b o'):=by
 simp [setObj,Sem.run,hb,uB]
theorem zlX {t:TypeId}(hc:bZ P t=true){ev:Opd->AV}{p:Opd}{x:Value}{v:AV}{h1:aA}{e:Esc}(H:HeapRel h μ w)(Rp:RAV (imm h μ w) h μ (ev p) x)
 (he:aop (.mrange p) ev h=some (v,h1,e)):lA P (do pure (.value (<-Instr.range t x))) h μ w v h1 e:=by
 have hu:∃a b,P.underlying t=some (.map a b):=by
  unfold bZ at hc;split at hc
  ·rename_i a b hu;exact⟨a,b,hu⟩
  ·cases hc
 obtain⟨ka,kb,hu⟩:=hu;simp only[aop]at he;split at he
 ·rename_i id es c hm
  simp only[Option.some.injEq,Prod.mk.injEq]at he;obtain⟨rfl,rfl,rfl⟩:=he;obtain⟨b,n,ces,rfl,A⟩:=z1s H Rp hm;have hrun:(Instr.range t (.map (some b))).run P w = .ok (.pointer (some ⟨w.heap.size,0,none⟩)) { w with heap:=w.heap.push (.mapIter (some b) c #[] c) }:=by
   unfold Instr.range;rw[Sem.run_bind,TA hu];simp only[Result.andThen_ok];rw[Sem.run_bind,jN A.hb];simp only[Result.andThen_ok];rfl
  obtain⟨n1,n2⟩:=H.push (WExt.push w (.mapIter (some b) c #[] c)) (.iter (some id) c [] c) (some (w.heap.size,0)) (λb n e=>by injection e with e;injection e with e1 e2;subst e1;exact⟨Nat.le_refl _,by simp⟩)
   (λM' E=>⟨w.heap.size,0,rfl,⟨b,n,es,c,nH A.hm,nH A.ho,by simp⟩⟩)
  exact⟨_,_,_,yA hrun,.inl ⟨_,rfl,.it h.length w.heap.size 0 (some id) c [] c (by simp) (by rw[<-H.len];simp)⟩,n1,n2,rA.push (by
   have:=IA A.ho;simp only[Obj.top];omega)⟩
 ·split at he
  ·rename_i hp
   simp only[Option.some.injEq,Prod.mk.injEq]at he;obtain⟨rfl,rfl,rfl⟩:=he;rw[hp]at Rp;cases Rp;have hrun:(Instr.range t (.map none)).run P w = .ok (.pointer (some ⟨w.heap.size,0,none⟩)) { w with heap:=w.heap.push (.mapIter none 0 #[] 0) }:=by
    unfold Instr.range;rw[Sem.run_bind,TA hu];simp only[Result.andThen_ok];rfl
   obtain⟨n1,n2⟩:=H.push (WExt.push w (.mapIter none 0 #[] 0)) (.iter none 0 [] 0) (some (w.heap.size,0)) (λb n e=>by injection e with e;injection e with e1 e2;subst e1;exact⟨Nat.le_refl _,by simp⟩)
    (λM' E=>⟨w.heap.size,0,rfl,λ_=>by simp⟩)
   exact⟨_,_,_,yA hrun,.inl ⟨_,rfl,.it h.length w.heap.size 0 none 0 [] 0 (by simp) (by rw[<-H.len];simp)⟩,n1,n2,rA.push (by simp [Obj.top])⟩
  ·cases he
theorem z1p {id:Nat}{mm:Option Nat}{since:Nat}{seen:List Nat}{last:Nat}{x:Value}(H:HeapRel h μ w)(R:RAV (imm h μ w) h μ (.it id) x)(hi:h[id]?=some (.iter mm since seen last)) :
 ∃b n,x = .pointer (some ⟨b,0,none⟩)/\μ[id]?=some (some (b,n))/\(match (generalizing:=false) mm with
  | none=>since=0->w.heap[b]?=some (.mapIter none 0 #[] 0)
  | some i=>∃bm nm es c,μ[i]?=some (some (bm,nm))/\h[i]?=some (.amap es c)/\w.heap[b]?=some (.mapIter (some bm) since seen.toArray last)):=by
 cases R with|it _ b n m s sn l ho hm=>
 obtain⟨b',n',hb',k1⟩:=H.obj _ _ _ hi hm;injection hb' with hb';injection hb' with hb1 hb2
 subst hb1;exact⟨_,_,rfl,hm,k1⟩
theorem zlQ {ev:Opd->AV}{p:Opd}{x:Value}{v:AV}{h1:aA}{e:Esc}(H:HeapRel h μ w)(Rp:RAV (imm h μ w) h μ (ev p) x)
 (he:aop (.mentry p) ev h=some (v,h1,e)):lA P (do pure (.value (<-Instr.entry x))) h μ w v h1 e:=by
 simp only[aop]at he;split at he
 ·rename_i id hp
  split at he
  ·rename_i mi since seen last hi
   split at he
   ·rename_i mid es c bo hm hl
    rw[hp]at Rp;obtain⟨b,n,rfl,hmu,bm,nm,es',c',k1,k2,k3⟩:=z1p H Rp hi;split at he
    ·rename_i hcl
     simp only[Option.map_eq_some_iff,Prod.mk.injEq]at he;obtain⟨e0,hf,rfl,rfl,rfl⟩:=he;have hm2:h[mi]?=some (.amap es c):=by
      have:=(LL hm).2;have:=(LL hm).1;injection this with this
      subst this;assumption
     have hmi:mid=mi:=by have:=(LL hm).1;injection this with this;exact this.symm
     rw[k2]at hm2;injection hm2 with hm2
     injection hm2 with q1 q2
     subst q1;subst q2
     obtain⟨b3,n3,ces,hb3,w1,w2,w4,w3⟩:=H.obj _ _ _ k2 k1;injection hb3 with hb3;injection hb3 with hb31 hb32
     subst hb31;rw[List.find?_eq_some_iff_getElem]at hf;obtain⟨hb0,i,hi1,hei,hlt⟩:=hf;have hi2:i<ces.size:=by omega
     obtain⟨q1,q2,q3,q4⟩:=w3 i _ _ (List.getElem?_eq_getElem hi1) (Array.getElem?_eq_getElem hi2);have hfind:ces.find? (·.born==bo)=some ces[i]:=by
      rw[Array.find?_eq_some_iff_getElem];refine⟨by rw[q4,hei];exact hb0,i,hi2,rfl,λj hj=>?_⟩
      obtain⟨_,_,_,q5⟩:=w3 j _ _ (List.getElem?_eq_getElem (show j<es'.length by omega)) (Array.getElem?_eq_getElem (show j<ces.size by omega))
      have:=hlt j hj;rw[q5];simpa using this
     have hback:seen.toArray.back?=some bo:=by rw[List.back?_toArray];exact hl
     have hrun:(Instr.entry (.pointer (some ⟨b,0,none⟩))).run P w = .ok (.tuple #[ces[i].key,ces[i].val]) w:=by
      unfold Instr.entry;simp only[Sem.run_bind,Sem.run_pure,Result.andThen_ok,z38 k3,hback,jN w1,hcl,hfind];simp
     refine lA.pure H (yA hrun) (.tup _ [ces[i].key,ces[i].val] rfl (λj a c h1 h2=>?_))
     rw[hei]at q1 q3;match j with
     | 0=>simp at h1 h2;subst h1;subst h2;exact .p _ _ q1
     | 1=>simp at h1 h2;subst h1;subst h2;exact q3
     | j+2=>simp at h1
    ·cases he
   ·cases he
  ·cases he
 ·cases he
theorem zl8 {es:List ME}{ces:Array MapEntry}{seen:List Nat}(hsz:ces.size=es.length)(hb:∀ (i:Nat) (e:ME) (ce:MapEntry),es[i]?=some e->ces[i]?=some ce->ce.born=e.born) :
 ∀ce∈(ces.filter λe=>!seen.toArray.contains e.born).toList,∃(i:Nat) (e:ME),es[i]?=some e/\ces[i]?=some ce/\e∈es.filter λe=>!seen.contains e.born:=by
 intro ce hce;rw[Array.toList_filter,List.mem_filter]at hce;obtain⟨h1,h2⟩:=hce;obtain⟨i,hi,rfl⟩:=List.getElem_of_mem h1;have hi1:i<ces.size:=by simpa using hi
 have hi2:i<es.length:=by omega
 have hc:ces[i]?=some ces[i]:=Array.getElem?_eq_getElem hi1
 have:=hb i _ _ (List.getElem?_eq_getElem hi2) hc;refine⟨i,es[i],List.getElem?_eq_getElem hi2,by simpa using hc,?_⟩
 rw[List.mem_filter];refine⟨List.getElem_mem _,?_⟩;rw[<-this];simpa using h2
theorem z8S {es:List ME}{ces:Array MapEntry}{seen:List Nat}(hsz:ces.size=es.length)(hb:∀ (i:Nat) (e:ME) (ce:MapEntry),es[i]?=some e->ces[i]?=some ce->ce.born=e.born)
 (h0:(ces.filter λe=>!seen.toArray.contains e.born) = #[]):es.filter (λe=>!seen.contains e.born)=[]:=by
 rw[List.filter_eq_nil_iff];intro e he;obtain⟨i,hi,rfl⟩:=List.getElem_of_mem he;have hi2:i<ces.size:=by omega
 have:=hb i _ _ (List.getElem?_eq_getElem hi) (Array.getElem?_eq_getElem hi2);rw[Array.filter_eq_empty_iff]at h0;have:=h0 ces[i] (Array.getElem_mem hi2);simp_all
theorem zlV {ty:TypeId}{ev:Opd->AV}{p:Opd}{x:Value}{l:List (AV × aA)}(H:HeapRel h μ w)(Rp:RAV (imm h μ w) h μ (ev p) x)
 (he:CI h (ev p)=some l):∃y∈l,lA P (do pure (.value (<-Instr.next x false ty))) h μ w y.1 y.2 []:=by
 unfold CI at he;split at he
 ·rename_i id hp
  rw[hp]at Rp;split at he
  ·rename_i s sn ls hi
   obtain⟨b,n,rfl,hmu,k1⟩:=z1p H Rp hi;split at he;case isFalse=>cases he
   rename_i hs0;injection he with he
   subst he;have k1:=k1 hs0
   refine⟨_,List.mem_singleton.2 rfl,?_⟩;have hrun:(Instr.next (.pointer (some ⟨b,0,none⟩)) false ty).run P w = .ok (.tuple #[.bool false]) w:=by
    unfold Instr.next;simp [z38 k1]
   refine lA.pure H (yA hrun) (.tup _ [.bool false] rfl (λj a c h1 h2=>?_))
   match j with
   | 0=>simp at h1 h2;subst h1;subst h2;exact RAV.pbool _
   | j+1=>simp at h1
  ·rename_i mi since seen last hi
   obtain⟨b,n,rfl,hmu,bm,nm,es',c',k1,k2,k3⟩:=z1p H Rp hi;split at he
   ·rename_i mid es c hm
    have hm2:=(LL hm).2
    have hmi:mi=mid:=by have:=(LL hm).1;injection this
    subst hmi;rw[k2]at hm2;injection hm2 with hm2
    injection hm2 with q1 q2
    subst q1;subst q2
    obtain⟨b3,n3,ces,hb3,w1,w2,w4,w3⟩:=H.obj _ _ _ k2 k1;injection hb3 with hb3;injection hb3 with hb31 hb32
    subst hb31;split at he
    ·rename_i hcs
     obtain⟨rfl,rfl⟩:=hcs;have hbo:∀(i:Nat) (e:ME) (ce:MapEntry),es'[i]?=some e->ces[i]?=some ce->ce.born=e.born:=λi e ce a1 a2=>(w3 i e ce a1 a2).2.2.2
     have hblt:∀ce∈ces,ce.born<last:=by
      intro ce hce;obtain⟨i,hi1,rfl⟩:=Array.getElem_of_mem hce;have hi2:i<es'.length:=by omega
      rw[hbo i _ _ (List.getElem?_eq_getElem hi2) (Array.getElem?_eq_getElem hi1)];exact w4 _ (List.getElem_mem hi2)
     have huns:(!seen.toArray.isEmpty && !ces.isEmpty&&ces.all (λe=>decide (e.born≥last)))=false:=by
      cases hz:ces.isEmpty with
      | true=>simp
      | false=>
       have h0:0<ces.size:=by
        rcases Nat.eq_zero_or_pos ces.size with q|q
        ·rw[Array.isEmpty_iff_size_eq_zero.2 q]at hz;cases hz
        ·exact q
       have:ces.all (λe=>decide (e.born≥last))=false:=by
        rw[Bool.eq_false_iff];intro hall;rw[Array.all_eq_true_iff_forall_mem]at hall;have q1:=hall ces[0] (Array.getElem_mem h0)
        have q2:=hblt ces[0] (Array.getElem_mem h0)
        simp at q1;omega
       simp [this]
     have hold:(ces.filter λe=>!seen.toArray.contains e.born).filter (λe=>decide (e.born<last))=ces.filter λe=>!seen.toArray.contains e.born:=by
      rw[Array.filter_eq_self];intro ce hce;rw[Array.mem_filter]at hce;simpa using hblt ce hce.1
     have hnew:(ces.filter λe=>!seen.toArray.contains e.born).filter (λe=>decide (e.born≥last)) = #[]:=by
      rw[Array.filter_eq_empty_iff];intro ce hce;rw[Array.mem_filter]at hce;have:=hblt ce hce.1;simp;omega
     generalize hL:(ces.filter λe=>!seen.toArray.contains e.born)=L at *
     have hbody:∀(q:Nat) (w1':World),(choose (.mapNext ((if L.isEmpty then #[none] else #[])++(L ++ #[]).map some).size)).run P w = .ok q w1'->WExt w w1' ->
      (Instr.next (.pointer (some ⟨b,0,none⟩)) false ty).run P w=(match ((if L.isEmpty then #[none] else #[])++(L ++ #[]).map some)[q]? with
       | some (some e)=>(do setObj b (.mapIter (some bm) last (seen.toArray.push e.born) last);pure (.tuple #[.bool true,e.key,e.val]):Sem Value)
       | some none=>pure (.tuple #[.bool false])
       | none=>stuck "Next: no such candidate").run P w1':=by
      intro q w1' hch _;unfold Instr.next;simp only[Sem.run_bind,Sem.run_pure,Result.andThen_ok,z38 k3,jN w1,huns,Bool.false_eq_true,if_false,hL,hold,hnew,hch];rfl
     have hlen:es'.filter (λe=>!seen.contains e.born)=[]∨L ≠ #[]:=by
      by_cases h0:L = #[]
      ·left;exact z8S w2 hbo (by rw[hL];exact h0)
      ·right;exact h0
     by_cases h0:L = #[]
     ·subst h0
      have hnil:=z8S w2 hbo hL
      rw[hnil]at he;injection he with he
      subst he;refine⟨_,List.mem_singleton.2 rfl,?_⟩;have hch:(choose (.mapNext ((if(#[]:Array MapEntry).isEmpty then #[none] else #[])++((#[]:Array MapEntry) ++ #[]).map some).size)).run P w = .ok 0 w:=by
       simp [Question.forced]
      have:=hbody 0 w hch (WExt.refl w);have hrun:(Instr.next (.pointer (some ⟨b,0,none⟩)) false ty).run P w = .ok (.tuple #[.bool false]) w:=by
       rw[this];simp
      have hμ:μ.set id (some (b,n))=μ:=by
       apply List.ext_getElem?
       intro j;rw[List.getElem?_set];split
       ·rename_i hj;subst hj;rw[if_pos (IA hmu),hmu]
       ·rfl
      have:=H.set (w':=w) (id:=id) (o:=.iter (some mi) last seen last) (o':=.iter none 1 [] 0) (m:=some (b,n)) (m':=some (b,n)) hi hmu ⟨⟨_,_,_,_,rfl⟩,rfl⟩ rfl (Nat.le_refl _)
       (λb' _ hne=>rfl) (λb' n' e=>.inl ⟨n',e⟩) (λb' n' sh xs fz _ e=>by cases e)
       (λM' E=>⟨b,n,rfl,λe=>by cases e⟩) (λ_ _ _ _ h=>h)
      rw[hμ]at this;obtain⟨n1,n2⟩:=this;refine⟨_,_,_,yA hrun,.inl ⟨_,rfl,.tup _ [.bool false] rfl (λj a c h1 h2=>?_)⟩,n1,n2,rA.set hi (by simp only[Obj.top,yC];omega)⟩
      match j with
      | 0=>simp at h1 h2;subst h1;subst h2;exact RAV.pbool _
      | j+1=>simp at h1
     ·have hne:L.isEmpty=false:=by
       cases hz:L.isEmpty with
       | false=>rfl
       | true=>exact absurd (Array.isEmpty_iff.1 hz) h0
      have hpos:0<L.size:=by
       rcases Nat.eq_zero_or_pos L.size with q|q
       ·exact absurd (Array.eq_empty_of_size_eq_zero q) h0
       ·exact q
      have hcand:((if L.isEmpty then #[none] else #[])++(L ++ #[]).map some)=L.map some:=by rw[hne];simp
      obtain⟨q,w1',hch,hq,hext⟩:∃q w1',(choose (.mapNext ((if L.isEmpty then #[none] else #[])++(L ++ #[]).map some).size)).run P w = .ok q w1'/\q<L.size/\WExt w w1':=by
       rw[hcand];simp only[Array.size_map,run_choose,Question.forced,Question.cut];by_cases h1:L.size<=1
       ·exact⟨0,w,by simp [h1],by omega,WExt.refl w⟩
       ·exact⟨w.tape w.drawn (Question.mapNext L.size)%L.size,{ w with drawn:=w.drawn+1 },by simp [h1],Nat.mod_lt _ hpos,WExt.drew w _⟩
      have hb:=hbody q w1' hch hext
      rw[hcand]at hb;have hLq:(L.map some)[q]?=some (some L[q]):=by simp [hq]
      rw[hLq]at hb;dsimp only at hb;obtain⟨i,e,he1,he2,he3⟩:=zl8 (seen:=seen) w2 hbo L[q] (by rw[hL];simp)
      have hes:es'.filter (λe=>!seen.contains e.born)≠[]:=λhn=>by rw[hn]at he3;cases he3
      have hl:l=(es'.filter (λe=>!seen.contains e.born)).map λe=>(.tup [pbool true,.p e.key,e.val],h.set id (.iter (some mi) last (seen++[e.born]) last)):=by
       split at he
       ·rename_i hn;exact absurd hn hes
       ·injection he with he;exact he.symm
      obtain⟨q1,q2,q3,q4⟩:=w3 i e _ he1 he2;have k3':w1'.heap[b]?=some (.mapIter (some bm) last seen.toArray last):=by rw[hext.right b (iJ k3)];exact k3
      have hrun:(Instr.next (.pointer (some ⟨b,0,none⟩)) false ty).run P w = .ok (.tuple #[.bool true,L[q].key,L[q].val]) (uB w1' b (.mapIter (some bm) last (seen.toArray.push L[q].born) last)):=by
       rw[hb,Sem.run_bind,zoR _ k3'];rfl
      obtain⟨H1,E1⟩:=H.ext hext;have hμ:μ.set id (some (b,n))=μ:=by
       apply List.ext_getElem?
       intro j;rw[List.getElem?_set];split
       ·rename_i hj;subst hj;rw[if_pos (IA hmu),hmu]
       ·rfl
      have hidm:id≠mi:=λe=>by subst e;rw[k2]at hi;cases hi
      have:=H1.set (w':=uB w1' b (.mapIter (some bm) last (seen.toArray.push L[q].born) last)) (id:=id) (o:=.iter (some mi) last seen last) (o':=.iter (some mi) last (seen++[e.born]) last) (m:=some (b,n)) (m':=some (b,n)) hi hmu ⟨⟨_,_,_,_,rfl⟩,rfl⟩ rfl (by rw[QI];exact Nat.le_refl _)
       (λb' _ hne=>PI (λe=>hne n (by rw[e]))) (λb' n' e=>.inl ⟨n',e⟩) (λb' n' sh xs fz _ e=>by cases e)
       (λM' E=>⟨b,n,rfl,bm,nm,es',last,by rw[List.getElem?_set_ne hidm];exact k1,by rw[List.getElem?_set_ne hidm];exact k2,by
        rw[OE k3',<-q4];simp⟩)
       (λb' n' t e ht=>by
        injection e with e
        injection e with e1 _
        subst e1;unfold ety at ht;rw[k3']at ht;cases ht)
      rw[hμ]at this;obtain⟨n1,n2⟩:=this;refine⟨(.tup [pbool true,.p e.key,e.val],h.set id (.iter (some mi) last (seen++[e.born]) last)),?_,_,_,_,yA hrun,.inl ⟨_,rfl,.tup _ [.bool true,L[q].key,L[q].val] rfl (λj a c h1 h2=>?_)⟩,n1,E1.trans n2,rA.set hi (by simp only[Obj.top,yC];omega)⟩
      ·rw[hl];exact List.mem_map.2 ⟨e,he3,rfl⟩
      ·match j with
       | 0=>simp at h1 h2;subst h1;subst h2;exact RAV.pbool _
       | 1=>simp at h1 h2;subst h1;subst h2;exact .p _ _ (q1.mono (E1.trans n2).le)
       | 2=>simp at h1 h2;subst h1;subst h2;exact q3.evo (E1.trans n2)
       | j+3=>simp at h1
    ·cases he
   ·cases he
  ·cases he
 ·cases he
theorem zd4 {sh:Sh}{t u ty:TypeId}(hc:VE P sh t u=true){ev:Opd->AV}{p q:Opd}{s x:Value}{l:List (AV × aA)}(H:HeapRel h μ w)(Rs:RAV (imm h μ w) h μ (ev p) s)(Rx:RAV (imm h μ w) h μ (ev q) x)
 (he:tG h (some sh) ([p,q].map ev)=some l):∃y∈l,lA P (do pure (.value (<-Builtin.append_ #[t,u] ty #[s,x]))) h μ w y.1 y.2 []:=by
 simp only[List.map_cons,List.map_nil,tG]at he;unfold eJ at he;split at he;case h_2=>cases he
 rename_i sh' ys hr;split at he;case isFalse=>cases he
 rename_i hsh;subst hsh;have S:=CQ (P:=P) H Rx hr
 obtain⟨c,hck,hc2⟩:=S.2 ys.length (Nat.le_refl _);rw[List.take_length]at hc2;have hck0:(Builtin.firstCells (gA sh') ys.length x).run P w = .ok c w:=hck w.drawn
 split at he;case h_2=>cases he
 rename_i id g off len hs0;split at he;case h_2=>cases he
 rename_i rsh xs fz ho;split at he;case isTrue hcond=>
  obtain⟨rfl,hg,hlen,hmax,hfz⟩:=hcond;injection he with he
  subst he;rw[hs0]at Rs;have RR:=tH H Rs ho hg
  obtain⟨_,k2,a,cap,rfl,hlc,hcap⟩:=RR;obtain⟨m,hm,hO⟩:=iG H ho;obtain⟨kf,_,kO⟩:=hO;subst hg;by_cases hroom:len+ys.length<=cap
  ·by_cases hc0:0<cap
   ·obtain⟨b,n,c',hm',rfl,hB,hn1,hn2,hcell⟩:=hcap hc0
    refine⟨_,List.mem_cons_self,?_⟩;obtain⟨w',r1,r2,r3,r4⟩:=fN (P:=P) (at_:=xs.length) H ho hm' hB hc2 hfz (Nat.le_refl _) (Nat.le_trans (Nat.mul_le_mul_right _ (by omega)) hn1)
    rw[z3T]at r2 r3 r4;have hrun:=oF (ty:=ty) (base:=some ⟨b,off*gA rsh,none⟩) (sLen:=len) (sCap:=cap) hc S.1 hck0 hroom (w':=w') (by
     have e:off*gA rsh+len*gA rsh=xs.length*gA rsh:=by rw[<-Nat.add_mul,hlen]
     simpa [wC,e] using r1)
    refine⟨_,_,_,yA hrun,.inl ⟨_,rfl,?_⟩,r2,r3,r4⟩;refine .own id (xs.length+ys.length) off (len+ys.length) _ cap rsh (xs++ys) fz (some (b,n)) hroom (YB ho) hm' (by simp) (by omega) (λ_=>?_)
    right;exact⟨rfl,hn1⟩
   ·have hl0:len=0:=by omega
    have hy0:ys=[]:=by apply List.length_eq_zero_iff.1;omega
    subst hy0;subst hl0
    have hcap0:cap=0:=by omega
    subst hcap0;refine⟨_,List.mem_cons_self,?_⟩;have hrun:=oF (ty:=ty) (base:=a) (sLen:=0) (sCap:=0) hc S.1 hck0 (by simp) (w':=w) (by
     have:c.toList=[]:=by apply List.length_eq_zero_iff.1;rw[hc2.1];simp
     cases a with
     | none=>rfl
     | some a=>rw[this];rfl)
    have hs:h.set id (.row rsh (xs++[]) fz)=h:=by rw[List.append_nil];exact tE ho
    rw[hs];refine⟨_,_,_,yA hrun,.inl ⟨_,rfl,?_⟩,H,Evo.refl _ _ _,rA.refl _ _⟩;exact Rs
  ·have hr0:rds h (.own id xs.length off len)=some (rsh,win xs off len):=by simp [rds,rd,ho];omega
   have hwl:(win xs off len).length=len:=by simp [win];omega
   obtain⟨newCap,n,w',c',g1,g2,g3,g4,g5,g6,g7,_⟩:=GJ (ty:=ty) (base:=a) (sCap:=cap) (xs:=win xs off len) (v0:=.own id xs.length off len) hc H Rx hr (by omega) (by omega) (by rw[hwl];exact Rs) hr0
   rw[hwl]at g1 g3;obtain⟨n1,n2⟩:=LJ H g4 (Nat.le_refl _) g5 g6 (by rw[<-g2];exact Nat.mul_le_mul_right _ (by rw[List.length_append,hwl];exact g1)) g7.2.1 g7.2.2
   refine⟨_,List.mem_cons_of_mem _ List.mem_cons_self,?_⟩;refine⟨_,_,_,yA g3,.inl ⟨_,rfl,?_⟩,n1,n2,rA.push (by simp [Obj.top])⟩
   refine .own h.length (len+ys.length) 0 (len+ys.length) _ newCap rsh (win xs off len++ys) 0 (some (w.heap.size,n)) g1 (by simp) (by rw[<-H.len];simp) (by simp [hwl]) (by simp) (λ_=>?_)
   right;exact⟨by simp,by rw[<-g2];simp⟩
 split at he;case isFalse=>cases he
 rename_i hcond;obtain⟨rfl,hg,hlen,hfz,hmax⟩:=hcond;injection he with he
 subst he;rw[hs0]at Rs;have RR:=tH H Rs ho hg
 obtain⟨_,k2,a,cap,rfl,hlc,hcap⟩:=RR;obtain⟨m,hm,hO⟩:=iG H ho;obtain⟨kf,_,kO⟩:=hO;subst hg;have hsl:∀zs:List PV,xs.length<=(splice xs (off+len) zs).length:=by intro zs;simp [splice];omega
 have hsl2:∀zs:List PV,off+len+zs.length<=(splice xs (off+len) zs).length:=by intro zs;simp [splice];omega
 by_cases hroom:len+ys.length<=cap
 ·by_cases hc0:0<cap
  ·obtain⟨b,n,c',hm',rfl,hB,hn1,hn2,hcell⟩:=hcap hc0
   refine⟨_,List.mem_cons_self,?_⟩;obtain⟨w',r1,r2,r3,r4⟩:=fN (P:=P) (at_:=off+len) H ho hm' hB hc2 hfz (by omega) (Nat.le_trans (Nat.mul_le_mul_right _ (by omega)) hn1)
   have hrun:=oF (ty:=ty) (base:=some ⟨b,off*gA rsh,none⟩) (sLen:=len) (sCap:=cap) hc S.1 hck0 hroom (w':=w') (by
    have e:off*gA rsh+len*gA rsh=(off+len)*gA rsh:=by rw[<-Nat.add_mul]
    simpa [wC,e] using r1)
   refine⟨_,_,_,yA hrun,.inl ⟨_,rfl,?_⟩,r2,r3,r4⟩;refine .own id (splice xs (off+len) ys).length off (len+ys.length) _ cap rsh (splice xs (off+len) ys) fz (some (b,n)) hroom (YB ho) hm' (Nat.le_refl _) (by have:=hsl2 ys;omega) (λ_=>?_)
   right;exact⟨rfl,hn1⟩
  ·have hl0:len=0:=by omega
   have hy0:ys=[]:=by apply List.length_eq_zero_iff.1;omega
   subst hy0;subst hl0
   have hcap0:cap=0:=by omega
   subst hcap0;refine⟨_,List.mem_cons_self,?_⟩;have hrun:=oF (ty:=ty) (base:=a) (sLen:=0) (sCap:=0) hc S.1 hck0 (by simp) (w':=w) (by
    have:c.toList=[]:=by apply List.length_eq_zero_iff.1;rw[hc2.1];simp
    cases a with
    | none=>rfl
    | some a=>rw[this];rfl)
   have hsp:splice xs (off+0) []=xs:=by simp [splice]
   have hs:h.set id (.row rsh (splice xs (off+0) []) fz)=h:=by rw[hsp];exact tE ho
   rw[hs];refine⟨_,_,_,yA hrun,.inl ⟨_,rfl,?_⟩,H,Evo.refl _ _ _,rA.refl _ _⟩;rw[hsp];exact Rs
 ·have hr0:rds h (.own id xs.length off len)=some (rsh,win xs off len):=by simp [rds,rd,ho];omega
  have hwl:(win xs off len).length=len:=by simp [win];omega
  obtain⟨newCap,n,w',c',g1,g2,g3,g4,g5,g6,g7,_⟩:=GJ (ty:=ty) (base:=a) (sCap:=cap) (xs:=win xs off len) (v0:=.own id xs.length off len) hc H Rx hr (by omega) (by omega) (by rw[hwl];exact Rs) hr0
  rw[hwl]at g1 g3;obtain⟨n1,n2⟩:=LJ H g4 (Nat.le_refl _) g5 g6 (by rw[<-g2];exact Nat.mul_le_mul_right _ (by rw[List.length_append,hwl];exact g1)) g7.2.1 g7.2.2
  refine⟨_,List.mem_cons_of_mem _ List.mem_cons_self,?_⟩;refine⟨_,_,_,yA g3,.inl ⟨_,rfl,?_⟩,n1,n2,rA.push (by simp [Obj.top])⟩
  refine .own h.length (len+ys.length) 0 (len+ys.length) _ newCap rsh (win xs off len++ys) 0 (some (w.heap.size,n)) g1 (by simp) (by rw[<-H.len];simp) (by simp [hwl]) (by simp) (λ_=>?_)
  right;exact⟨by simp,by rw[<-g2];simp⟩
end
section
variable {h h':aA} {μ μ':Mu} {w w':World} {P:Program} {M M':Mem}
theorem zmi (H:HeapRel h μ w)(sh:Sh) :
 HeapRel (h++[.arow sh []]) (μ++[none]) w/\Evo (imm h μ w) h μ (imm (h++[.arow sh []]) (μ++[none]) w) (h++[.arow sh []]) (μ++[none]):=
 H.push (WExt.refl w) _ _ (λb' n e=>by cases e) (λM' E=>⟨by simp,rfl⟩)
def chk9 (P:Program)(sh:Sh)(t:TypeId):Bool:=match P.underlying t with
 | some (.slice e)=>kB P e==some sh&&decide (gA sh<=2^24)&&decide (gA sh≠0)&&(match P.info? e with
  | some i=>(match i.zero with|some v=>v.cells.size==gA sh|none=>false)
  | none=>false)
 | _=>false
theorem zen {t:TypeId}{sh:Sh}{e9:Nat}(hsh:aC e9=sh)(hc:chk9 P sh t=true){a:AV}{x:Value}{cs:List AV}(H:HeapRel h μ w)(R:RAV (imm h μ w) h μ a x)(hv:a.cells=some cs)(hl:cs.length=gA sh) :
 lA P (do pure (.value (<-Instr.buildSlice t 1 #[(0,x)]))) h μ w (.bt 3 e9 h.length 1) (h++[.arow sh cs]) []:=by
 unfold chk9 at hc;split at hc;case h_2=>cases hc
 rename_i el hu;simp only[Bool.and_eq_true,beq_iff_eq,decide_eq_true_eq]at hc;obtain⟨⟨⟨c1,c4⟩,c5⟩,c6⟩:=hc;split at c6;case h_2=>cases c6
 rename_i i hi;split at c6;case h_2=>cases c6
 rename_i zv hz;simp only[beq_iff_eq]at c6;obtain⟨s1,s2⟩:=kJ R hv;obtain⟨c0,hc0⟩:∃c0:Array Value,c0=(Array.range (1*gA sh)).map (λk=>zv.cells[k%zv.cells.size]!):=⟨_,rfl⟩
 have h0:c0.size=gA sh:=by rw[hc0];simp
 have hsz:0+x.cells.toList.length<=c0.size:=by rw[h0];simp [s1,hl]
 have hrun:(Instr.buildSlice t 1 #[(0,x)]).run P w = .ok (.slice (some ⟨w.heap.size,0,none⟩) 1 1) { w with heap:=w.heap.push (.cells (yB c0 0 x.cells.toList) el (0,0)) }:=by
  unfold Instr.buildSlice;rw[Sem.run_bind,TA hu];simp only[Result.andThen_ok,Sem.run_bind,sE c1];rw[if_neg (by omega),if_neg (by omega)]
  have hf:Instr.fill (λi=>some (i*gA sh,gA sh)) c0 [(0,x)]=some (yB c0 0 x.cells.toList):=by
   simp only[Instr.fill];have hneg:¬((decide (x.cells.size≠gA sh)||decide (0*gA sh+x.cells.size>c0.size))=true):=by
    simp [s1,hl,h0]
   rw[if_neg hneg,z1i,Nat.zero_mul]
  simp only[Sem.run_bind,vQ hi hz,Result.andThen_ok,Sem.run_pure,<-hc0,hf,nG]
 have hB:gB { w with heap:=w.heap.push (.cells (yB c0 0 x.cells.toList) el (0,0)) } w.heap.size (yB c0 0 x.cells.toList).size (yB c0 0 x.cells.toList):=gB.push _ el
 have hsz2:(yB c0 0 x.cells.toList).size=gA sh:=by rw[oG,h0]
 obtain⟨n1,n2⟩:=H.push (WExt.push w (.cells (yB c0 0 x.cells.toList) el (0,0))) (.arow sh cs) (some (w.heap.size,gA sh)) (λb' n e=>by injection e with e;injection e with e1 e2;subst e1;exact⟨Nat.le_refl _,by simp⟩)
  (λM' E=>⟨λy hy=>by obtain⟨j,hj⟩:=List.getElem?_of_mem hy;exact(s2 j y hj).1,_,hsz2 ▸ hB,by omega,λj y hy=>by
   obtain⟨_,u,q1,q2⟩:=s2 j y hy;refine⟨u,?_,q2.evo E⟩;have hj:=IA hy
   rw[zH _ _ _ _ hsz,if_pos (by simp [s1];omega)]
   simpa using q1⟩)
 refine⟨_,_,_,yA hrun,.inl ⟨_,rfl,?_⟩,n1,n2,rA.push ?_⟩
 ·exact .bt3 e9 h.length 1 _ 1 (.arow sh cs) (some (w.heap.size,gA sh)) (Nat.le_refl _) (by simp) (by rw[<-H.len];simp) (λsh2 cs2 e=>by
   injection e with e1 e2
   subst e1;subst e2
   refine⟨by omega,λ_=>.inr ⟨by simp,by omega⟩⟩)
 ·have:=QY hv
  have:=R.top_le;simp only[Obj.top];omega
theorem asrc (H:HeapRel h μ w){t id g:Nat}{x:Value}(R:RAV (imm h μ w) h μ (.bt 3 t id g) x){sh:Sh}{ds:List AV}(ho:h[id]?=some (.arow sh ds))(hg:g*gA sh=ds.length)(h0:gA sh≠0) :
 ∃a cap m,x = .slice a g cap/\g<=cap/\μ[id]?=some m/\vF m (gA sh) 0 a cap/\(Builtin.lenOf x).run P w = .ok g w /\
  ∃c:Array Value,(∀k,(Builtin.firstCells (gA sh) g x).run P { w with drawn:=k } = .ok c { w with drawn:=k })/\c.size=ds.length/\∀(j:Nat) (y:AV),ds[j]?=some y->y.sc=true/\∃v,c[j]?=some v/\RAV (imm h μ w) h μ y v:=by
 cases R with|bt3 _ _ _ a cap ob m hl ho' hm hv=>
 rw[ho]at ho';injection ho' with ho'
 obtain⟨q1,q2⟩:=hv sh ds ho'.symm;have q3:=q2 hg
 refine⟨a,cap,m,rfl,hl,hm,q3,by simp [Builtin.lenOf],?_⟩
 obtain⟨k1,k2⟩:=H.obj id _ m ho hm;by_cases hz:g=0
 ·subst hz
  have hd:ds=[]:=by
   rw[Nat.zero_mul]at hg;exact List.length_eq_zero_iff.1 hg.symm
  subst hd;refine⟨#[],λk=>?_,rfl,λj y hy=>by simp at hy⟩
  cases a with
  | none=>simp [Builtin.firstCells]
  | some a=>simp [Builtin.firstCells,loadCells,loadCellsFrom]
 ·cases m with
  | none=>simp [vF]at q3;omega
  | some m=>
   obtain⟨b,n⟩:=m;obtain⟨c,c1,c2,c3⟩:=k2;have ha:a=some ⟨b,0,none⟩:=by
    rcases q3 with q3|q3
    ·omega
    ·rw[q3.1,Nat.zero_mul]
   subst ha;refine⟨((List.range (g*gA sh)).map λj=>(c[j]?).getD undef).toArray,λk=>?_,by simp [hg],λj y hy=>?_⟩
   ·simp only[Builtin.firstCells]
    refine z3B (λj hj=>?_)
    have hlt:j<c.size:=by rw[c1.1];omega
    have hB:gB { w with drawn:=k } b n c:=c1
    rw[SD hB,Nat.zero_add];simp [hlt]
   ·obtain⟨v,v1,v2⟩:=c3 j y hy
    have hj:=IA hy
    exact⟨k1 y (List.mem_of_getElem? hy),v,by simp [hg,hj,v1],v2⟩
theorem zba:∀ (a b:List AV),AV.tops (a++b)=max (AV.tops a) (AV.tops b)
 | [],b=>by simp [AV.tops]
 | x::a,b=>by simp only[List.cons_append,AV.tops,zba a b];omega
theorem zdy {t u ty:TypeId}{e9:Nat}{sh:Sh}(hsh:aC e9=sh)(hc:VE P sh t u=true)(h0:gA sh≠0){s x:Value}{vs vx v:AV}{h1:aA}{e:Esc}(H:HeapRel h μ w)(Rs:RAV (imm h μ w) h μ vs s)(Rx:RAV (imm h μ w) h μ vx x)
 (he:apA sh h vs vx=some (v,h1,e)):lA P (do pure (.value (<-Builtin.append_ #[t,u] ty #[s,x]))) h μ w v h1 e:=by
 unfold apA at he;split at he;case h_2=>cases he
 rename_i k tt id g k' tt' id' g';cases hk:(Nat.beq k 3&&Nat.beq k' 3) with
 | false=>rw[hk]at he;cases he
 | true=>
  rw[hk]at he;simp only[Bool.and_eq_true]at hk;have hk1:=Nat.eq_of_beq_eq_true hk.1
  have hk2:=Nat.eq_of_beq_eq_true hk.2
  subst hk1;subst hk2
  simp only[cond_true]at he;split at he;case h_2=>cases he
  rename_i rsh cs rsh' ds ho ho';split at he;case isFalse=>cases he
  rename_i hcond;obtain⟨rfl,rfl,hg,hg',hmax⟩:=hcond;simp only[Option.some.injEq,Prod.mk.injEq]at he;obtain⟨rfl,rfl,rfl⟩:=he;obtain⟨a,cap,m,rfl,hl,hm,hO,_,old,hok,holdn,hold⟩:=asrc (P:=P) H Rs ho hg h0;obtain⟨a',cap',m',rfl,hl',hm',hO',hlen',c,hck,hcn,hcc⟩:=asrc (P:=P) H Rx ho' hg' h0;have hmul:(g+g')*gA rsh'=cs.length+ds.length:=by rw[Nat.add_mul,hg,hg']
  have hesc:∀o:Obj,rA h (h.set id (.arow rsh' (cs++ds))) (bif decide (id<AV.tops ds) then [(id,AV.tops ds)] else []):=λ_=>by
   refine rA.set ho ?_;simp only[Obj.top,zba];cases hd:decide (id<AV.tops ds) with
   | false=>simp at hd;simp only[cond_false,yC];omega
   | true=>simp only[cond_true,yC];simp;omega
  by_cases hroom:g+g'<=cap
  ·cases m with
   | none=>
    have hc0:cap=0:=hO
    have hg0:g=0:=by omega
    have hg0':g'=0:=by omega
    subst hg0;subst hg0'
    have hd0:ds=[]:=by rw[Nat.zero_mul]at hg';exact List.length_eq_zero_iff.1 hg'.symm
    have hcs0:cs=[]:=by rw[Nat.zero_mul]at hg;exact List.length_eq_zero_iff.1 hg.symm
    subst hd0;subst hcs0
    have hc00:c = #[]:=by apply Array.eq_empty_of_size_eq_zero;simpa using hcn
    subst hc00;have hrun:=oF (P:=P) (w:=w) (ty:=ty) (base:=a) (sLen:=0) (sCap:=cap) hc hlen' (hck w.drawn) hroom (w':=w) (by cases a <;> simp [storeCells])
    have hs:h.set id (.arow rsh' ([]++[]))=h:=tE ho
    rw[hs];exact⟨_,_,_,yA hrun,.inl ⟨_,rfl,by simpa using Rs⟩,H,Evo.refl _ _ _,rA.refl _ _⟩
   | some m=>
    obtain⟨b,n⟩:=m;obtain⟨k1,c1,hB,hn,hcell⟩:=H.obj id _ _ ho hm;by_cases hz:g'=0
    ·subst hz
     have hd0:ds=[]:=by rw[Nat.zero_mul]at hg';exact List.length_eq_zero_iff.1 hg'.symm
     subst hd0;have hc00:c = #[]:=by apply Array.eq_empty_of_size_eq_zero;simpa using hcn
     subst hc00;have hrun:=oF (P:=P) (w:=w) (ty:=ty) (base:=a) (sLen:=g) (sCap:=cap) hc hlen' (hck w.drawn) hroom (w':=w) (by cases a <;> simp [storeCells])
     have hs:h.set id (.arow rsh' (cs++[]))=h:=by rw[List.append_nil];exact tE ho
     rw[hs];exact⟨_,_,_,yA hrun,.inl ⟨_,rfl,by simpa using Rs⟩,H,Evo.refl _ _ _,rA.refl _ _⟩
    ·have hOa:a=some ⟨b,0,none⟩/\cap*gA rsh'<=n:=by
      rcases hO with q|q
      ·omega
      ·exact⟨by rw[q.1,Nat.zero_mul],by rw[<-Nat.zero_add cap];exact q.2⟩
     obtain⟨rfl,hcapn⟩:=hOa;have hfit:(g+g')*gA rsh'<=n:=Nat.le_trans (Nat.mul_le_mul_right _ hroom) hcapn
     have hone:∀u∈c.toList,u.oneCell'=true:=λu hu=>by
      obtain⟨j,hj⟩:=List.getElem?_of_mem hu;have hjl:j<ds.length:=by have:=IA hj;simp at this;omega
      obtain⟨q1,u',q2,q3⟩:=hcc j ds[j] (List.getElem?_eq_getElem hjl);rw[Array.getElem?_toList,q2]at hj;injection hj with hj
      subst hj;exact xQ q3 q1
     obtain⟨E,lo,hi,g1,g2⟩:=z3D (P:=P) (o:=g*gA rsh') c.toList w c1 0 hB (by simp;omega) hone
     simp only[Nat.add_zero]at g2;have hlo:¬False->lo<hi->n<=lo:=by
      obtain⟨_,E',lo',hi'',q1,q2⟩:=hB;rw[g1]at q1;injection q1 with q1;injection q1 with _ _ q3;injection q3 with q3 q4;subst q3;subst q4;exact q2
     have hsz:g*gA rsh'+c.toList.length<=c1.size:=by rw[hB.1];simp;omega
     have hμ:μ.set id (some (b,n))=μ:=tE hm
     have key:=H.set (w':=uB w b (.cells (yB c1 (g*gA rsh') c.toList) E (lo,hi))) (o':=.arow rsh' (cs++ds)) (m':=some (b,n)) ho hm (.inl ⟨_,rfl,by simp,λ_=>rfl⟩)
      rfl (Nat.le_of_eq (QI _ _).symm) (λb' _ hb'=>PI (λe=>hb' n (by rw[e])))
      (λb' n e=>.inl ⟨n,e⟩) (λb' n' sh2 xs2 fz2 e1 e2=>by cases e2)
      (λM' Ev=>by
       refine⟨λy hy=>?_,yB c1 (g*gA rsh') c.toList,⟨by rw[oG,hB.1],E,lo,hi,OE g1,hlo⟩,by rw[List.length_append];omega,λj y hy=>?_⟩
       ·rcases List.mem_append.1 hy with hy|hy
        ·exact k1 y hy
        ·obtain⟨j,hj⟩:=List.getElem?_of_mem hy
         exact(hcc j y hj).1
       ·rw[zH _ _ _ _ hsz]
        rcases Nat.lt_or_ge j cs.length with hj|hj
        ·rw[List.getElem?_append_left hj]at hy
         rw[if_neg (by omega)]
         obtain⟨u,p,q⟩:=hcell j y hy;exact⟨u,p,q.evo Ev⟩
        ·rw[List.getElem?_append_right hj]at hy
         have:=IA hy;rw[if_pos (by simp;omega)]
         obtain⟨_,u,p,q⟩:=hcc _ y hy;exact⟨u,by rw[Array.getElem?_toList,hg];exact p,q.evo Ev⟩) (iL g1)
     rw[hμ]at key;have hrun:=oF (P:=P) (ty:=ty) (base:=some ⟨b,0,none⟩) (sLen:=g) (sCap:=cap) hc hlen' (hck w.drawn) hroom (by simpa [wC] using g2)
     refine⟨_,_,_,yA hrun,.inl ⟨_,rfl,?_⟩,key.1,key.2,hesc (.box [])⟩;exact .bt3 tt id (g+g') _ cap _ _ hroom (YB ho) hm (λsh2 cs2 e=>by
      injection e with e1 e2
      subst e1;subst e2
      exact⟨by rw[hmul,List.length_append];exact Nat.le_refl _,λ_=>.inr ⟨by simp,by simpa using hcapn⟩⟩)
  ·obtain⟨el,newCap,rest,r0,r1,r2,r3⟩:=z9X (P:=P) (w:=w) (ty:=ty) (base:=a) (sLen:=g) (sCap:=cap) hc hlen' hck (by omega) hmax hok
   have hbsz:(old++c++rest).size=newCap*gA rsh':=by
    simp only[Array.size_append,holdn,hcn,r2,Nat.sub_mul];have:=Nat.mul_le_mul_right (gA rsh') r1;omega
   have hB:gB { w with drawn:=w.drawn+1,heap:=w.heap.push (.cells (old++c++rest) el (0,0)) } w.heap.size (old++c++rest).size (old++c++rest):=⟨rfl,el,0,0,by simp,λ_ h=>by omega⟩
   have hfit:(g+g')*gA rsh'<=newCap*gA rsh':=Nat.mul_le_mul_right _ r1
   have key:=H.set (w':={ w with drawn:=w.drawn+1,heap:=w.heap.push (.cells (old++c++rest) el (0,0)) }) (o':=.arow rsh' (cs++ds)) (m':=some (w.heap.size,(old++c++rest).size)) ho hm
    (.inl ⟨_,rfl,by simp,λhe=>by
     exfalso;rw[List.length_append]at he;have:g'*gA rsh'=0:=by omega
     rcases Nat.mul_eq_zero.1 this with q|q
     ·subst q
      omega
     ·exact h0 q⟩)
    rfl (by simp) (λb' hb' _=>by simp [Array.getElem?_push,Nat.ne_of_lt hb'])
    (λb' n e=>by injection e with e;injection e with e1 e2;subst e1;exact .inr ⟨Nat.le_refl _,by simp⟩) (λb' n' sh2 xs2 fz2 e1 e2=>by cases e2)
    (λM' Ev=>by
     refine⟨λy hy=>?_,_,hB,by rw[List.length_append,hbsz];omega,λj y hy=>?_⟩
     ·rcases List.mem_append.1 hy with hy|hy
      ·obtain⟨j,hj⟩:=List.getElem?_of_mem hy
       exact(hold j y hj).1
      ·obtain⟨j,hj⟩:=List.getElem?_of_mem hy
       exact(hcc j y hj).1
     ·rcases Nat.lt_or_ge j cs.length with hj|hj
      ·rw[List.getElem?_append_left hj]at hy
       obtain⟨_,u,p,q⟩:=hold j y hy;refine⟨u,?_,q.evo Ev⟩;rw[Array.append_assoc,Array.getElem?_append_left (by omega)]
       exact p
      ·rw[List.getElem?_append_right hj]at hy
       have:=IA hy;obtain⟨_,u,p,q⟩:=hcc _ y hy;refine⟨u,?_,q.evo Ev⟩;rw[Array.append_assoc,Array.getElem?_append_right (by omega),Array.getElem?_append_left (by omega),holdn]
       exact p) (λb' n' t' e ht=>by
        rw[gL (w:=w)]
        ·exact ht
        ·have:=BT ht
         simp [Array.getElem?_push,Nat.ne_of_lt this])
   refine⟨_,_,_,yA r3,.inl ⟨_,rfl,?_⟩,key.1,key.2,hesc (.box [])⟩;exact .bt3 tt id (g+g') _ newCap _ _ r1 (YB ho) (YB hm) (λsh2 cs2 e=>by
    injection e with e1 e2
    subst e1;subst e2
    exact⟨by rw[hmul,List.length_append];exact Nat.le_refl _,λ_=>.inr ⟨by simp,by rw[hbsz];simp⟩⟩)
end
end Go.Am
