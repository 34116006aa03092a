import Derived.ProofKit
import Derived.Shelf.Strconv.Itoa3
import Derived.Lib.LaidTab
import Derived.Test.YthlhdniejglcnaaGreatDoorlawPY10
set_option linter.all false
set_option maxRecDepth 100000
set_option maxHeartbeats 0
namespace Go.Am
section
variable {L:List Int} {h:aA} {K:jA}
attribute [-go_sem] SA
theorem law_PY (L:List Int){K:jA}:bA X GT [AL L] [] K=K (AB true) [] []:=by
 refine sA ?_;rw[zew rfl];have p0:jB 100000 0:=by unfold jB;omega
 obtain⟨_,a1,⟨b1,b2,ds,n1,n3,hd,rfl⟩,G1⟩:=(zkl (L:=L) (a:=0) (WC p0 (by omega) (by omega))).same rfl (λv a2 q=>by obtain⟨_,_,ds,_,_,_,rfl⟩:=q;rfl)
 obtain⟨_,a2,⟨d1,d2,l,hl,hb,h0,rfl⟩,G2⟩:=(zkn (L:=L) (a:=a1) 6 (by omega) (WC p0 (by omega) (by omega))).same rfl (λv a2 q=>by obtain⟨_,_,l,_,_,_,rfl⟩:=q;rfl)
 have V1:∀K,bA X nI [.ref 0 0] [uA L 0,uA L 0] K=K (nC ds) [uA L a1,uA L 0] []:=λK=>G1 [uA L 0,uA L 0] 0 K rfl
 have V2:∀K,bA X nI [.ref 1 0] [uA L a1,uA L 0] K=K (nC ds) [uA L a1,uA L a1] []:=λK=>G1 [uA L a1,uA L 0] 1 K rfl
 have V3:∀K,bA X pI [.ref 0 0,AI 6] [uA L a1,uA L a1] K=K (ACs l) [uA L a2,uA L a1] []:=λK=>G2 [uA L a1,uA L a1] 0 K rfl
 have V4:∀K,bA X pI [.ref 1 0,AI 6] [uA L a2,uA L a1] K=K (ACs l) [uA L a2,uA L a2] []:=λK=>G2 [uA L a2,uA L a1] 1 K rfl
 have hok:∀c∈l,CmdOk c:=λc hc=>(hb c hc).ok (by omega)
 have hbb:∀c∈l,c.b.length<=5000/\c.w.length<=5000/\c.m.length<=5000:=λc hc=>by have:=hb c hc;exact⟨by have:=this.b;omega,by have:=this.w;omega,by have:=this.m;omega⟩
 have hB:∀d∈ds,DevB d:=λd hd'=>(hd d hd').b
 have C1:=λh K=>zpf (h:=h) (K:=K) ds hB (by omega) [117] l (by omega) hbb
 have C2:=λh K=>zpo (h:=h) (K:=K) l hok (by omega) h0
 have C3:=λh K=>zpe (h:=h) (K:=K) ds hB (by omega) l hok (by omega)
 have wl:(wo rF 0 l).length<=l.length:=(z4g l rF 0).length_le
 have S0:=λh K=>zpH (h:=h) (K:=K)
 have S1:=λ(k:Nat) h K=>z3K (h:=h) (K:=K) (jF ds k l) (by simp [jF,dD,OD];omega)
 have ln:∀k,(jF ds k l).length=4+l.length:=λk=>by simp [jF,dD,OD];omega
 simp only[ln]at S1;have S2:=λh K=>z3K (h:=h) (K:=K) (wo rF 0 l) (by omega)
 have S3:=λh K=>z3K (h:=h) (K:=K) (KL l (KG ds l)) (by unfold KL;rw[RP];omega)
 have ll:(KL l (KG ds l)).length=l.length:=by unfold KL;rw[RP]
 rw[ll]at S3;have E1:=λh K=>zpa (h:=h) (K:=K) ds hB (by omega)
 have E2:=λh K=>zpd (h:=h) (K:=K) l l (by omega)
 simp only[HR,go_sem,↓V1,V1,↓V2,V2,↓V3,V3,↓V4,V4];generalize hH:[uA L a2,uA L a2]=H;rw[C1];unfold PadQ;have ed:decide (l=l)=true:=by simp
 rw[ed]at E2;by_cases q1:nF ds l≠0
 ·rw[if_pos q1]
  have q2:¬nF ds l=0:=q1
  simp only[go_sem,↓S0,S0];rw[C2];simp only[go_sem,↓S2,S2];generalize H++[Obj.row (some 6) (List.replicate (wo rF 0 l).length zeC) 0]=H2;rw[C3,if_neg q2];simp only[go_sem,↓S0,S0,↓E1,E1,↓E2,E2,FW]
 ·have q2:nF ds l=0:=by omega
  rw[if_neg q1];by_cases q3:YF ds [117]<0
  ·rw[if_pos q3]
   simp only[go_sem,↓S0,S0];rw[C2];simp only[go_sem,↓S2,S2];generalize H++[Obj.row (some 6) (List.replicate (wo rF 0 l).length zeC) 0]=H2;rw[C3,if_pos q2];simp only[go_sem,↓S3,S3,↓E1,E1,↓E2,E2,FW]
  ·rw[if_neg q3]
   by_cases q4:qB kA (jF ds (YF ds [117]).toNat l)=0
   ·rw[if_pos q4]
    simp only[go_sem,↓S1,S1];generalize H++[Obj.row (some 6) (List.replicate (4+l.length) zeC) 0]=H1;rw[C2];simp only[go_sem,↓S2,S2];generalize H1++[Obj.row (some 6) (List.replicate (wo rF 0 l).length zeC) 0]=H2;rw[C3,if_pos q2];simp only[go_sem,↓S3,S3,↓E1,E1,↓E2,E2,FW]
   ·rw[if_neg q4]
    simp only[go_sem,↓S0,S0];rw[C2];simp only[go_sem,↓S2,S2];generalize H++[Obj.row (some 6) (List.replicate (wo rF 0 l).length zeC) 0]=H2;rw[C3,if_pos q2];simp only[go_sem,↓S3,S3,↓E1,E1,↓E2,E2,FW]
end
end Go.Am
section
/- From a law that is true here tov the model's calls at what came in. -/
open Go
namespace Go.Am
variable {P:Program}
theorem law_nil {X:Ctx}(HX:Fits P X){f:Nat}{F:AFun}(hF:X.fn f=some F)(H:∀ L:List Int,bA X f [KV L] [] λv _ _=>v = .p (.bool true))(W:World)(hG:vE X.gl (imm [] [] W)) :
 Calls P f #[.slice none 0 0] W λe W'=>e = .returned (.bool true)/\RowKit.Below W.heap.size W W':=by
 refine(z52 HX hF (H []) (W:=W) (vs:=[.slice none 0 0]) hG rfl (λj y v hy hv=>?_)).mono λe W' he=>?_
 ·cases j with
  | zero=>cases hy;cases hv;exact zfQ W
  | succ j=>cases hy
 ·cases e with
  | returned r=>
   obtain⟨⟨v,h,x,μ,hk,hr⟩,hb⟩:=he;subst hk;exact⟨by rw[hr.p_bool],hb⟩
  | panicked _=>exact he.elim
  | outgrown=>exact he.elim
theorem law_ints {X:Ctx}(HX:Fits P X){f:Nat}{F:AFun}(hF:X.fn f=some F)(H:∀ L:List Int,bA X f [KV L] [] λv _ _=>v = .p (.bool true)){W:World}(hG:vE X.gl (imm [] [] W)){a:Addr}{len cap:Nat}{zs:List Int}
 (hl:len<=cap) (hz:len<=zs.length) (hc:∀i,i<zs.length->W.cell? (a.add i)=some (.int .i64 (zs.getD i 0))) :
 Calls P f #[.slice (some a) len cap] W λe W'=>e = .returned (.bool true)/\RowKit.Below W.heap.size W W':=by
 refine(z52 HX hF (H (zs.take len)) (W:=W) (vs:=[.slice (some a) len cap]) hG rfl (λj y v hy hv=>?_)).mono λe W' he=>?_
 ·cases j with
  | zero=>
   cases hy;cases hv
   rcases Nat.eq_zero_or_pos len with h0|h0
   ·subst h0
    exact .p _ _ (.nils _ _ _)
   ·exact zfP (by simpa [Addr.add] using World.cell?_spot (hc 0 (by omega))) hl hz hc
  | succ j=>cases hy
 ·cases e with
  | returned r=>
   obtain⟨⟨v,h,x,μ,hk,hr⟩,hb⟩:=he;subst hk;exact⟨by rw[hr.p_bool],hb⟩
  | panicked _=>exact he.elim
  | outgrown=>exact he.elim
end Go.Am
namespace Go.ChangeShapes
open Go.RowKit Go.WideShapes
end Go.ChangeShapes
end
namespace Go.Am
section
variable {P:Program} {gl:Nat->Option PV}
open Go.Shelf
end
section
variable {P:Program} {gl:Nat->Option PV}
theorem z8I {y:PV}(h:HJ y=true):∃a b c s t u,y = .agg [.int .i64 a,.int .i64 b,.int .i64 c,.str s,.str t,.str u]:=by
 unfold HJ at h;split at h
 ·exact⟨_,_,_,_,_,_,rfl⟩
 ·cases h
def cmdW (a b c:Int)(s t u:List UInt8):Value:=.agg #[.int .i64 a,.int .i64 b,.int .i64 c,.string ⟨s.toArray⟩,.string ⟨t.toArray⟩,.string ⟨u.toArray⟩]
theorem z5J (M:Mem)(a b c:Int)(s t u:List UInt8):RPV M (.agg [.int .i64 a,.int .i64 b,.int .i64 c,.str s,.str t,.str u]) (cmdW a b c s t u):=by
 refine .agg _ [_,_,_,_,_,_] rfl λj y v h1 h2=>?_
 match j with
 | 0=>cases h1;cases h2;exact .int _ _
 | 1=>cases h1;cases h2;exact .int _ _
 | 2=>cases h1;cases h2;exact .int _ _
 | 3=>cases h1;cases h2;exact .str _
 | 4=>cases h1;cases h2;exact .str _
 | 5=>cases h1;cases h2;exact .str _
 | j+6=>simp at h1
def pJ (xs:List PV)(j q:Nat):Value:=match xs[j]? with
 | some (.agg [.int .i64 a,.int .i64 b,.int .i64 c,.str s,.str t,.str u])=>match q with
  | 0=>.int .i64 a|1=>.int .i64 b|2=>.int .i64 c|3=>.string ⟨s.toArray⟩|4=>.string ⟨t.toArray⟩|_=>.string ⟨u.toArray⟩
 | _=>match q with
  | 0=>.int .i64 0|1=>.int .i64 1|2=>.int .i64 0|_=>.string ⟨#[]⟩
theorem iZ {xs:List PV}{j:Nat}{a b c:Int}{s t u:List UInt8}(h:xs[j]?=some (.agg [.int .i64 a,.int .i64 b,.int .i64 c,.str s,.str t,.str u]))(q:Nat) :
 pJ xs j q=match q with
 | 0=>.int .i64 a|1=>.int .i64 b|2=>.int .i64 c|3=>.string ⟨s.toArray⟩|4=>.string ⟨t.toArray⟩|_=>.string ⟨u.toArray⟩:=by
 unfold pJ;rw[h]
theorem zgd {xs:List PV}{j:Nat}(h:xs[j]?=none)(q:Nat) :
 pJ xs j q=match q with
 | 0=>.int .i64 0|1=>.int .i64 1|2=>.int .i64 0|_=>.string ⟨#[]⟩:=by
 unfold pJ;rw[h]
def Cmds (f:Nat->Nat->Value)(kd:Nat->Int):Prop:=∀j,∃b c s t u,f j 0 = .int .i64 (kd j)/\f j 1 = .int .i64 b/\f j 2 = .int .i64 c/\f j 3 = .string s/\f j 4 = .string t/\f j 5 = .string u
def zcd (P:Program)(fn:Nat):Prop:=
 (∀(b off len cap i:Nat) (k:Int) (f:Nat->Nat->Value) (kd:Nat->Int) (w:World),i<=len->len<=cap->Cmds f kd->len*200<=140737488351232 ->
  (b<w.heap.size/\∀j q,j<len->q<6->w.cell? ⟨b,off+(6*j+q),none⟩=some (f j q)) ->
  Calls P fn #[.slice (some ⟨b,off,none⟩) len cap,.int .i64 i,.int .i64 k] w λe W'=>
   ((∃j,j<i/\e = .returned (.agg #[f j 0,f j 1,f j 2,f j 3,f j 4,f j 5])/\kd j=k/\∀j',j<j'->j'<i->kd j'≠k) ∨
    (e = .returned (.agg #[.int .i64 0,.int .i64 1,.int .i64 0,.string ⟨#[]⟩,.string ⟨#[]⟩,.string ⟨#[]⟩])/\∀j,j<i->kd j≠k))/\Go.RowKit.Below w.heap.size w W') /\
 (∀(a:Option Addr) (cap:Nat) (k:Int) (w:World),Calls P fn #[.slice a 0 cap,.int .i64 0,.int .i64 k] w λe W'=>
  e = .returned (.agg #[.int .i64 0,.int .i64 1,.int .i64 0,.string ⟨#[]⟩,.string ⟨#[]⟩,.string ⟨#[]⟩])/\Go.RowKit.Below w.heap.size w W')
theorem jZ {xs:List PV}(h:xs.all HJ=true)(j:Nat) :
 (xs.length<=j/\xs[j]?=none)∨(j<xs.length/\∃a b c s t u,xs[j]?=some (.agg [.int .i64 a,.int .i64 b,.int .i64 c,.str s,.str t,.str u])):=by
 rcases Nat.lt_or_ge j xs.length with h1|h1
 ·obtain⟨a,b,c,s,t,u,e⟩:=z8I (List.all_eq_true.1 h _ (List.getElem_mem h1))
  exact .inr ⟨h1,a,b,c,s,t,u,by rw[List.getElem?_eq_getElem h1,e]⟩
 ·exact .inl ⟨h1,List.getElem?_eq_none h1⟩
theorem zgf {xs:List PV}(h:xs.all HJ=true):Cmds (pJ xs) λj=>uR ((xs[j]?).getD KP):=λj=>by
 rcases jZ h j with⟨_,e⟩|⟨_,a,b,c,s,t,u,e⟩
 ·simp only[zgd e,e]
  exact⟨_,_,_,_,_,rfl,rfl,rfl,rfl,rfl,rfl⟩
 ·simp only[iZ e,e]
  exact⟨_,_,_,_,_,rfl,rfl,rfl,rfl,rfl,rfl⟩
theorem zjW {p:PV->Bool}:∀{l:List PV} {j:Nat} {y:PV},l[j]?=some y->p y=true->(∀j' z,j<j'->l[j']?=some z->p z=false)->l.reverse.find? p=some y:=by
 intro l;induction l with
 | nil=>intro j y h;simp at h
 | cons a r ih=>
  intro j y h hp hn;rw[List.reverse_cons,List.find?_append];cases j with
  | succ j=>
   rw[ih (j:=j) (by simpa using h) hp (λj' z h1 h2=>hn (j'+1) z (by omega) (by simpa using h2))]
   rfl
  | zero=>
   simp only[List.getElem?_cons_zero,Option.some.injEq]at h;subst h;have:r.reverse.find? p=none:=by
    rw[List.find?_eq_none];intro z hz;obtain⟨j',h1⟩:=List.mem_iff_getElem?.1 (List.mem_reverse.1 hz);simp [hn (j'+1) z (by omega) (by simpa using h1)]
   rw[this];simp [hp]
theorem ztr {fn:Nat}(H:zcd P fn)(he:∀ us w,(callFunc fn us).run P w = .ok (.enter fn us) w):PureRow P gl fn RI where
 enter:=he
 run M w vs r us hc hb hG hl hr hs:=by
  unfold RI at hs;split at hs
  ·rename_i xs i k
   split at hs
   ·rename_i hcd
    obtain⟨h0,hi,hlen,hall⟩:=hcd;simp only[Option.some.injEq]at hs;subst hs;match us,hl with
    | [u0,u1,u2],_=>
     have q0:=hr 0 _ u0 rfl rfl
     have q1:=hr 1 _ u1 rfl rfl
     cases q1;have q2:=hr 2 _ u2 rfl rfl
     cases q2;obtain⟨n,rfl⟩:∃n:Nat,i=n:=⟨i.toNat,by omega⟩
     simp only[Int.toNat_natCast];have hidle:∀M',RAV M' [] [] (.p KP) (.agg #[.int .i64 0,.int .i64 1,.int .i64 0,.string ⟨#[]⟩,.string ⟨#[]⟩,.string ⟨#[]⟩]):=λM'=>.p _ _ (z5J M' 0 1 0 [] [] [])
     generalize hsh:(some 6:Sh)=sh at q0;cases q0 with
     | nils _ a cap=>
      obtain rfl:n=0:=by simpa using hi
      refine(H.2 a cap k w).mono λe w' h=>?_
      obtain⟨rfl,h⟩:=h;exact⟨_,rfl,EN h,hidle _⟩
     | sl _ _ b o cap f hne hcap hshp hm hrr=>
      have hn6:∀x∈xs,x.cells.length=6:=λx hx=>by
       obtain⟨a,b,c,s,t,u,e⟩:=z8I (List.all_eq_true.1 hall x hx);rw[e];rfl
      have hcell:∀j q,j<xs.length->q<6->w.cell? ⟨b,o+(6*j+q),none⟩=some (pJ xs j q):=by
       intro j q hj hq;rcases jZ hall j with⟨h1,_⟩|⟨_,a,b',c,s,t,u,e⟩
       ·omega
       ·have hf:=uI hn6 j q hq
        rw[e]at hf;rw[Nat.mul_comm 6 j];rw[iZ e];have hq':q=0∨q=1∨q=2∨q=3∨q=4∨q=5:=by omega
        rcases hq' with rfl|rfl|rfl|rfl|rfl|rfl <;>
        ·have h1:=hc _ _ _ (hm _ _ hf)
         have h2:=hrr _ _ hf
         revert h1 h2
         generalize f _=fj;intro h1 h2;cases h2;exact h1
      have hb0:b<w.heap.size:=IN (hcell 0 0 (List.length_pos_iff.2 hne) (by omega))
      refine(H.1 b o xs.length cap n k (pJ xs) (λj=>uR ((xs[j]?).getD KP)) w (by omega) hcap (zgf hall) (by omega) ⟨hb0,hcell⟩).mono λe w' h=>?_
      obtain⟨h,hB⟩:=h;rcases h with⟨j,hj,rfl,hk,hlast⟩|⟨rfl,hnone⟩
      ·rcases jZ hall j with⟨h1,_⟩|⟨_,a,b',c,s,t,u,e⟩
       ·omega
       ·have hfd:BI (xs.take n) k = .agg [.int .i64 a,.int .i64 b',.int .i64 c,.str s,.str t,.str u]:=by
         unfold BI;rw[zjW (j:=j) (y:=.agg [.int .i64 a,.int .i64 b',.int .i64 c,.str s,.str t,.str u]) (by rw[List.getElem?_take,if_pos hj];exact e) (by rw[e]at hk;simpa using hk) (λj' z h1 h2=>by
          rw[List.getElem?_take]at h2;split at h2
          ·rename_i h3
           have:=hlast j' h1 h3;rw[h2]at this;simpa using this
          ·cases h2)]
         rfl
        refine⟨_,rfl,EN hB,?_⟩;rw[hfd];simp only[iZ e];exact .p _ _ (z5J _ a b' c s t u)
      ·have hfd:BI (xs.take n) k=KP:=by
        unfold BI;rw[List.find?_eq_none.2]
        ·rfl
        ·intro z hz
         obtain⟨j',h1⟩:=List.mem_iff_getElem?.1 (List.mem_reverse.1 hz);rw[List.getElem?_take]at h1;split at h1
         ·rename_i h3
          have:=hnone j' h3;rw[h1]at this;simpa using this
         ·cases h1
       refine⟨_,rfl,EN hB,?_⟩;rw[hfd];exact hidle _
   ·cases hs
  ·cases hs
end
end Go.Am
