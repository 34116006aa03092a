/- Texts of the proof, laid together: SpBrd3, SpMap, SpLim, SpLotA, SpRecD, SpRec, SpLen, SpStrs, SpGenA, SpSome, SpGenL, SpSortRec, SpCompact, SpGenR, PMerge, SpMrgA, SpSort, SpMrgB, SpMrgC, SpMrgD, PFin, SpTxt, SpSrtS, SpBrd4, SpBrd5, PSplit, PTxt, PNum, PFlt, PFltR, SpIdx, AmL4, AmL5, SpSplit, SpLines, SpNum, SpNums, SpQNum, SpFlt1, SpFlt2, SpWords, SpBrd6, PBrd2, PBrd3, PBrd4, PBits, PBrd5, SpBrq1, PBrq, SpBrq2, SpBrq3, SpBrq4, SpSortJ, SpGenD, SpGenC, SpGenC2, SpGenC3, SpGenE1. -/
import Derived.Shelf.Strings.Repeat
import Derived.Shelf.Strings.SlTrimAscii
import Derived.Shelf.Spec.TrailingZeros
import Derived.Shelf.Strings.Count
import Derived.Shelf.Strings.OnBuilder
import Derived.Test.YtbldcfbggmjbpaaGreatDoorlawLC7
set_option linter.all false
section
/- Where a part is: both ways. -/
open Go
set_option linter.all false
namespace Go.Am
variable {h:bA} {K:nA}
abbrev aC (l:List Prt):AV:=.p (.sl (some 2) (l.map Prt.pv))
def zpE:PV→List Cel
 | .sl _ l=>l.map aE
 | _=>[]
def RS:PV→Prt
 | .agg [.str a,b]=>⟨a,zpE b⟩
 | _=>⟨[],[]⟩
theorem zpH (p:Prt):RS p.pv=p:=by
 cases p with
 | mk k c=>
  show(⟨k,(c.map Cel.pv).map aE⟩:Prt)=⟨k,c⟩
  rw[List.map_map];congr 1
  induction c with
  | nil=>rfl
  | cons x r ih=>rw[List.map_cons,ih];rfl
theorem zmT {l:List Prt}:ZB (some 2) (l.map Prt.pv):=fun x hx=>by obtain⟨e,_,rfl⟩:=List.mem_map.1 hx;rfl
def PE (l:List Prt):Prop:=l.Pairwise fun p q=>vA p.key q.key<0
theorem z84 (p:Prt)(key:List UInt8):kA X VF [.p p.pv,AS key] h K=K (AI (vA p.key key)) h []:=by
 refine IA ?_;rw[zdr rfl];have q:=fun h K=>NS (h:=h) (K:=K) p.key key
 simp only[lV,Prt.pv,go_sem,↓q,q]
theorem zoK (n:Nat)(hn:n≤1000000):IntKind.i64.wrap (EK IntKind.u64 (n:Int) 1)=((n / 2:Nat):Int):=by
 have e:EK IntKind.u64 (n:Int) 1=((n / 2:Nat):Int):=by
  show Int.fdiv (n:Int) 2=_
  rw[Int.fdiv_eq_ediv_of_nonneg _ (by omega)];omega
 rw[e,CA _ (by omega) (by omega)]
theorem zn9 (l:List Prt)(key:List UInt8)(hs:PE l)(hl:l.length≤100000)(hk:∀ a b:List UInt8,vA a b<0→∀ c,vA b c<0→vA a c<0) :
 ∃(i:Nat) (is:Bool),(i≤l.length)∧(∀t (ht:t<l.length),t<i→vA l[t].key key<0)∧(∀t (ht:t<l.length),i≤t→¬vA l[t].key key<0)∧(is=true↔∃ht:i<l.length,vA l[i].key key=0) ∧
  ∀(K:nA),kA X zH [aC l,AS key,.fn VF []] h K=K (.tup [AI i,AB is]) h []:=by
 obtain⟨Q,hQ⟩:∃Q:nA,Q=fun v h' x=>∃(i:Nat) (is:Bool),v = .tup [AI i,AB is]∧h'=h∧x=[]∧(i≤l.length)∧(∀t (ht:t<l.length),t<i→vA l[t].key key<0)∧(∀t (ht:t<l.length),i≤t→¬vA l[t].key key<0)∧(is=true↔∃ht:i<l.length,vA l[i].key key=0):=⟨_,rfl⟩
 have H:kA X zH [aC l,AS key,.fn VF []] h Q:=by
  rw[zek rfl];have ln:(l.map Prt.pv).length=l.length:=List.length_map ..
  simp only[uQ,go_sem,ln];refine VA (fun t:Nat×Nat=>⟨[(0,aC l),(1,AS key),(2,.fn VF []),(8,AI l.length),(9,AI t.1),(10,AI t.2)],h,[]⟩) (fun t=>t.1≤t.2∧t.2≤l.length∧(∀k (hk:k<l.length),k<t.1→vA l[k].key key<0)∧∀k (hk:k<l.length),t.2≤k→¬vA l[k].key key<0) (fun t=>t.2-t.1) (0,l.length) rfl ⟨by omega,by omega,fun k _ h=>by omega,fun k h1 h2=>by omega⟩ ?_
  rintro⟨i,j⟩ ⟨h1,h2,h3,h4⟩
  dsimp only at h1 h2 h3 h4 ⊢;rcases Nat.lt_or_ge i j with hij|hge
  ·have w1:IntKind.i64.wrap ((i:Int)+j)=((i+j:Nat):Int):=by rw[CA _ (by omega) (by omega)];omega
   have w2:IntKind.u64.wrap ((i+j:Nat):Int)=((i+j:Nat):Int):=EZ _ (by omega) (by omega)
   have w3:=zoK (i+j) (by omega)
   have hm:(i+j) / 2<l.length:=by omega
   have hm1:i≤(i+j) / 2:=by omega
   have hm2:(i+j) / 2<j:=by omega
   have g:=XA Prt.pv hm
   have h3':=fun q:vA l[(i+j) / 2].key key<0=>q
   generalize hmm:(i+j) / 2=m at *;have c1:LA (some 2) 0 l[m].pv=some l[m].pv:=rfl
   have w4:IntKind.i64.wrap ((m:Int)+1)=((m+1:Nat):Int):=CA _ (by omega) (by omega)
   have F:=fun h K=>z84 (h:=h) (K:=K) l[m] key
   simp only[Prt.pv]at g c1 F;by_cases hc:vA l[m].key key<0
   ·simp only[go_sem,hij,w1,w2,w3,hm,g,c1,↓F,F,hc,w4]
    refine⟨(m+1,j),rfl,⟨by dsimp only;omega,h2,fun k hk1 hk2=>?_,h4⟩,by dsimp only;omega⟩
    dsimp only at hk2;by_cases e:k=m
    ·subst e;exact hc
    ·exact hk _ _ (List.pairwise_iff_getElem.1 hs k m hk1 hm (by omega)) _ hc
   ·simp only[go_sem,hij,w1,w2,w3,hm,g,c1,↓F,F,hc]
    refine⟨(i,m),rfl,⟨by dsimp only;omega,by dsimp only;omega,h3,fun k hk1 hk2=>?_⟩,by dsimp only;omega⟩
    dsimp only at hk2;by_cases e:k=m
    ·subst e;exact hc
    ·intro q
     exact hc (hk _ _ (List.pairwise_iff_getElem.1 hs m k hm hk1 (by omega)) _ q)
  ·have e:i=j:=by omega
   subst e;rcases Nat.lt_or_ge i l.length with hlt|hge2
   ·have g:=XA Prt.pv hlt
    have c1:LA (some 2) 0 l[i].pv=some l[i].pv:=rfl
    have F:=fun h K=>z84 (h:=h) (K:=K) l[i] key
    simp only[Prt.pv]at g c1 F;by_cases hz:vA l[i].key key=0
    ·simp only[go_sem,Nat.lt_irrefl,hlt,g,c1,↓F,F,hz]
     rw[hQ];exact⟨i,true,rfl,rfl,rfl,h2,h3,h4,by simp [hlt,hz]⟩
    ·simp only[go_sem,Nat.lt_irrefl,hlt,g,c1,↓F,F,hz]
     rw[hQ];exact⟨i,false,rfl,rfl,rfl,h2,h3,h4,by simp [hz]⟩
   ·have hn:¬i<l.length:=by omega
    simp only[go_sem,Nat.lt_irrefl,hn];rw[hQ];exact⟨i,false,rfl,rfl,rfl,h2,h3,h4,by simp [hn]⟩
 rw[hQ]at H;obtain⟨v,h',x,⟨i,is,rfl,rfl,rfl,q1,q2,q3,q4⟩,gK⟩:=kA.one uM H;exact⟨i,is,q1,q2,q3,q4,gK⟩
def OH (l:List Prt)(key:List UInt8):Int:=WC (fun y=>decide ((RS y).key=key)) (l.map Prt.pv)
def qA (b:Brd):Obj:=.box [aC b.parts,.p (.sl (some 3) (b.joins.map Jon.pv)),.p (.sl (some 2) (b.pulls.map Pul.pv))]
theorem vJ (a:List UInt8):vA a a=0:=by have:=wE a a;omega
theorem z6f {l:List Prt}{key:List UInt8}(hs:PE l){i:Nat}(hi:i<l.length)(he:l[i].key=key):l.findIdx (fun p=>decide (p.key=key))=i:=by
 rw[List.findIdx_eq hi];refine⟨by simp [he],fun j hj=>?_⟩
 have:=List.pairwise_iff_getElem.1 hs j i (by omega) hi hj
 rw[he]at this;simp only[decide_eq_false_iff_not];intro e;rw[e,vJ]at this;omega
theorem eO (l:List Prt)(key:List UInt8):OH l key=if l.findIdx (fun p=>decide (p.key=key))<l.length then((l.findIdx fun p=>decide (p.key=key):Nat):Int) else -1:=by
 unfold OH WC;have e:(l.map Prt.pv).findIdx (fun y=>decide ((RS y).key=key))=l.findIdx fun p=>decide (p.key=key):=by
  rw[List.findIdx_map];congr 1
 rw[e,List.length_map]
theorem zom (b:Brd)(key:List UInt8)(hs:PE b.parts)(hl:b.parts.length≤100000):kA X qI [.p b.pv,AS key] h K=K (AI (OH b.parts key)) h []:=by
 refine IA ?_;rw[zdq rfl];obtain⟨i,is,q1,q2,q3,q4,B⟩:=zn9 (h:=h++[qA b]) b.parts key hs hl fun a b h1 c h2=>jI h1 h2
 unfold qA at B;cases is with
 | true=>
  obtain⟨ht,hz⟩:=q4.1 rfl;have hf:=z6f hs ht (QF hz)
  have e:OH b.parts key=i:=by rw[eO,hf,if_pos ht]
  rw[e];simp only[NP,Brd.pv,go_sem,↓B,B]
 | false=>
  have e:OH b.parts key = -1:=by
   rw[eO,if_neg];intro hlt;have hp:=List.findIdx_getElem (w:=hlt)
   simp only[decide_eq_true_eq]at hp;generalize b.parts.findIdx (fun p=>decide (p.key=key))=j at *
   by_cases hij:j<i
   ·have:=q2 j hlt hij
    rw[hp,vJ]at this;omega
   ·by_cases e:j=i
    ·subst e
     have:=q4.2 ⟨hlt,by rw[hp,vJ]⟩
     cases this
    ·have h1:=List.pairwise_iff_getElem.1 hs i j (by omega) hlt (by omega)
     rw[hp]at h1;exact q3 i (by omega) (Nat.le_refl _) h1
  rw[e];simp only[NP,Brd.pv,go_sem,↓B,B]
theorem znO (p:Prt)(key:List UInt8)(id:Nat)(hk:h[id]?=some (.box [AS key])):kA X zI [.p p.pv,.ref id 0] h K=K (AB (decide (p.key=key))) h []:=by
 refine IA ?_;rw[zdV rfl];have hl:=JB hk
 have hk2:∀t,(h++t)[id]?=some (.box [AS key]):=fun t=>by rw[List.getElem?_append_left hl];exact hk
 simp only[YV,Prt.pv,go_sem,hk2]
theorem kZ (b:Brd)(key:List UInt8)(hl:b.parts.length≤100000):kA X tF [.p b.pv,AS key] h K=K (AI (OH b.parts key)) h []:=by
 refine IA ?_;rw[zdU rfl];have tells:fE zI [.ref (h.length+1) 0] (fun y=>decide ((RS y).key=key)) (b.parts.map Prt.pv) (h++[qA b,.box [AS key]]):=fun y hy K=>by
  obtain⟨p,_,rfl⟩:=List.mem_map.1 hy;dsimp only;rw[zpH];exact znO p key (h.length+1) (by simp)
 have ix:=fun K=>zbj (h:=h++[qA b,.box [AS key]]) (K:=K) (wZ zmT) tells (by simp;omega)
 unfold qA at ix;unfold OH;simp only[XV,Brd.pv,go_sem,↓ix,ix]
theorem z1Z {α:Type}{p q:α→Bool}:∀{l:List α},(∀x∈l,p x=q x)→l.any p=l.any q
 | [],_=>rfl
 | x::r,h=>by rw[List.any_cons,List.any_cons,h x (by simp),z1Z (l:=r) fun y hy=>h y (by simp [hy])]
theorem zoz (c:Cel)(pin:List UInt8)(id:Nat)(hk:h[id]?=some (.box [AS pin])):kA X uH [.p c.pv,.ref id 0] h K=K (AB (dC c&&decide (c.pin=pin))) h []:=by
 refine IA ?_;rw[zdy rfl];have hl:=JB hk
 have hk2:∀t,(h++t)[id]?=some (.box [AS pin]):=fun t=>by rw[List.getElem?_append_left hl];exact hk
 have HP:=fun h K=>lZ (h:=h) (K:=K) c
 simp only[Cel.pv,eI]at HP;cases hq:dC c with
 | false=>
  rw[hq]at HP;simp only[UP,Cel.pv,eI,go_sem,↓HP,HP]
 | true=>
  rw[hq]at HP;simp only[UP,Cel.pv,eI,go_sem,↓HP,HP,hk2]
theorem zon (c:Cel)(pin:List UInt8)(id:Nat)(hk:h[id]?=some (.box [AS pin])):kA X BI [.p c.pv,.ref id 0] h K=K (AB (decide (c.pin=pin))) h []:=by
 refine IA ?_;rw[zeb rfl];have hl:=JB hk
 have hk2:∀t,(h++t)[id]?=some (.box [AS pin]):=fun t=>by rw[List.getElem?_append_left hl];exact hk
 simp only[cW,Cel.pv,eI,go_sem,hk2]
def sM (b:Brd):Prop:=b.parts.length≤100000∧∀p∈b.parts,p.cells.length≤100000∧∀c∈p.cells,c.pin.length≤1000000
theorem zoy (b:Brd)(part pin:List UInt8)(hs:PE b.parts)(ho:sM b):kA X sI [.p b.pv,AS part,AS pin] h K=K (AB (OG b part pin)) h []:=by
 refine IA ?_;rw[zdx rfl];have FI:=fun h K=>zom (h:=h) (K:=K) b part hs ho.1
 have pe:=eO b.parts part
 unfold OG JY;by_cases hlt:b.parts.findIdx (fun p=>decide (p.key=part))<b.parts.length
 ·rw[if_pos hlt]at pe
  rw[pe]at FI;rw[List.getElem?_eq_getElem hlt];generalize b.parts.findIdx (fun p=>decide (p.key=part))=i at *
  have g:=XA Prt.pv hlt
  have hpo:=ho.2 _ (List.getElem_mem hlt)
  generalize b.parts[i]=p at *;have c1:LA none 1 p.pv=some (.sl (some 4) (p.cells.map Cel.pv)):=rfl
  have tells:fE uH [.ref (h.length+1) 0] (fun y=>dC (aE y)&&decide ((aE y).pin=pin)) (p.cells.map Cel.pv) (h++[qA b,.box [AS pin]]):=fun y hy K=>by
   obtain⟨c,_,rfl⟩:=List.mem_map.1 hy;dsimp only;rw[BO];exact zoz c pin (h.length+1) (by simp)
  have CF:=fun K=>EO (h:=h++[qA b,.box [AS pin]]) (K:=K) tells AM (by simp;omega)
  have ea:(p.cells.map Cel.pv).any (fun y=>dC (aE y)&&decide ((aE y).pin=pin))=p.cells.any fun c=>dC c&&decide (c.pin=pin):=by rw[List.any_map];rfl
  rw[ea]at CF;unfold qA at CF;have n0:¬((i:Int)<0):=by omega
  have n1:(0:Int)≤(i:Int):=by omega
  simp only[Brd.pv]at FI;simp only[TP,Brd.pv,go_sem,↓FI,FI,n1,hlt,g,c1,↓CF,CF]
 ·rw[if_neg hlt]at pe
  rw[pe]at FI;rw[List.getElem?_eq_none (by omega)]
  simp only[Brd.pv]at FI;simp only[TP,Brd.pv,go_sem,↓FI,FI]
theorem zoo (b:Brd)(part pin:List UInt8)(hq:∀ p∈b.parts,∀ c∈p.cells,ED c=dC c)(ho:sM b):kA X nK [.p b.pv,AS part,AS pin] h K=K (AB (OG b part pin)) h []:=by
 refine IA ?_;rw[zea rfl];have FI:=fun h K=>kZ (h:=h) (K:=K) b part ho.1
 have pe:=eO b.parts part
 unfold OG JY;by_cases hlt:b.parts.findIdx (fun p=>decide (p.key=part))<b.parts.length
 ·rw[if_pos hlt]at pe
  rw[pe]at FI;rw[List.getElem?_eq_getElem hlt];have hpq:=hq _ (List.getElem_mem hlt)
  generalize b.parts.findIdx (fun p=>decide (p.key=part))=i at *
  have g:=XA Prt.pv hlt
  have hpo:=ho.2 _ (List.getElem_mem hlt)
  generalize b.parts[i]=p at *;have c1:LA none 1 p.pv=some (.sl (some 4) (p.cells.map Cel.pv)):=rfl
  have tells:fE BI [.ref (h.length+1) 0] (fun y=>decide ((aE y).pin=pin)) (p.cells.map Cel.pv) (h++[qA b,.box [AS pin]]):=fun y hy K=>by
   obtain⟨c,_,rfl⟩:=List.mem_map.1 hy;dsimp only;rw[BO];exact zon c pin (h.length+1) (by simp)
  have CF:=fun K=>EO (h:=h++[qA b,.box [AS pin]]) (K:=K) tells AM (by simp;omega)
  have ea:(p.cells.map Cel.pv).any (fun y=>decide ((aE y).pin=pin))=p.cells.any fun c=>decide (c.pin=pin):=by rw[List.any_map];rfl
  rw[ea]at CF;unfold qA at CF;have n1:(0:Int)≤(i:Int):=by omega
  simp only[Brd.pv]at FI;by_cases hp0:pin=[]
  ·have z:(p.cells.any fun c=>dC c&&decide (c.pin=pin))=false:=by
    rw[List.any_eq_false];intro c hc;have:=hpq c hc;unfold ED at this;cases h1:decide (c.pin=pin) with
    | false=>simp
    | true=>
     have h2:c.pin=pin:=by simpa using h1
     rw[h2,hp0]at this;simp at this;simp [this]
   dsimp only;rw[z];have hp0':=eq_true hp0
   simp only[UM,Brd.pv,go_sem,↓FI,FI,n1,hp0']
  ·have z:(p.cells.any fun c=>dC c&&decide (c.pin=pin))=p.cells.any fun c=>decide (c.pin=pin):=by
    refine z1Z fun c hc=>?_
    have:=hpq c hc;unfold ED at this;cases h1:decide (c.pin=pin) with
    | false=>simp
    | true=>
     have h2:c.pin=pin:=by simpa using h1
     have h3:c.pin≠[]:=by rw[h2];exact hp0
     simp [h3]at this;simp [this]
   dsimp only;rw[z];simp only[UM,Brd.pv,go_sem,↓FI,FI,n1,hp0,hlt,g,c1,↓CF,CF]
 ·rw[if_neg hlt]at pe
  rw[pe]at FI;rw[List.getElem?_eq_none (by omega)]
  simp only[Brd.pv]at FI;simp only[UM,Brd.pv,go_sem,↓FI,FI]
end Go.Am
end
section
/- Maps,asv lists of keys with values. -/
open Go
set_option linter.all false
namespace Go.Am
section
variable {α β:Type} [DecidableEq α]
def JC (key:α→PV)(val:β→AV):Nat→List (α×β)→List ME
 | _,[]=>[]
 | n,e::r=>⟨key e.1,val e.2,n⟩::JC key val (n+1) r
def BA (key:α→PV)(val:β→AV)(l:List (α × β)):Obj:=.amap (JC key val 0 l) l.length
def SB (k:α):List (α×β)→Option Nat
 | []=>none
 | e::r=>if k=e.1 then some 0 else(SB k r).map (· + 1)
def zA (k:α):List (α×β)→Option β
 | []=>none
 | e::r=>if k=e.1 then some e.2 else zA k r
def oB (k:α)(v:β):List (α×β)→List (α×β)
 | []=>[(k,v)]
 | e::r=>if k=e.1 then(k,v)::r else e::oB k v r
def RE (k:α)(v:β)(l:List (α × β)):List (α×β):=if(SB k l).isSome then l else l++[(k,v)]
def QG (k:α)(l:List (α × β)):Nat:=(SB k l).getD l.length
def YH (key:α→PV):Prop:=∀a b,PV.eqv (key a) (key b)=some (decide (a=b))
theorem IG:YH PV.str:=fun a b=>rfl
theorem JG {s:List UInt8}:UC (none,[2]) (.p (.str s))=some (.str s):=by simp [UC,PV.key,PV.shp,PV.sc,PV.cells,PV.kind]
variable {key:α→PV} {val:β→AV}
theorem nR (hk:YH key)(k:α):∀(l:List (α×β)) (n:Nat),KC (key k) (JC key val n l)=some (SB k l)
 | [],n=>rfl
 | e::r,n=>by
  simp only[JC,KC,hk k e.1,SB];by_cases h:k=e.1
  ·simp [h]
  ·simp [h,nR hk k r (n+1)]
theorem z7k:∀ (l:List (α × β))(n:Nat),(JC key val n l).length=l.length
 | [],n=>rfl
 | e::r,n=>by simp [JC,z7k r (n+1)]
theorem LG:∀ (l:List (α × β))(n i:Nat),(JC key val n l)[i]?=(l[i]?).map fun e=>⟨key e.1,val e.2,n+i⟩
 | [],n,i=>rfl
 | e::r,n,0=>rfl
 | e::r,n,i+1=>by simp only[JC,List.getElem?_cons_succ,LG r (n+1) i];rw[show n+1+i=n+(i+1) by omega]
theorem JZ {k:α}:∀{l:List (α×β)} {i:Nat},SB k l=some i→i<l.length
 | [],i,h=>by cases h
 | e::r,i,h=>by
  unfold SB at h;split at h
  ·cases h;simp
  ·obtain⟨j,hj,e2⟩:=Option.map_eq_some_iff.1 h
   have:=JZ hj;simp;omega
theorem VS {k:α}:∀{l:List (α×β)} {i:Nat},SB k l=some i→l[i]?=(zA k l).map fun v=>(k,v)
 | [],i,h=>by cases h
 | e::r,i,h=>by
  unfold SB at h;unfold zA;split at h
  ·rename_i hk;cases h;simp [hk]
  ·rename_i hk
   obtain⟨j,hj,e2⟩:=Option.map_eq_some_iff.1 h;subst e2;rw[if_neg hk,List.getElem?_cons_succ];exact VS hj
theorem XS {k:α}:∀{l:List (α×β)},SB k l=none→zA k l=none
 | [],h=>rfl
 | e::r,h=>by
  unfold SB at h;unfold zA;split at h
  ·cases h
  ·rename_i hk
   rw[if_neg hk];exact XS (by simpa using h)
theorem YS {k:α}:∀{l:List (α×β)} {i:Nat},SB k l=some i→(zA k l).isSome=true
 | [],i,h=>by cases h
 | e::r,i,h=>by
  unfold SB at h;unfold zA;split at h
  ·rename_i hk;simp [hk]
  ·rename_i hk
   obtain⟨j,hj,e2⟩:=Option.map_eq_some_iff.1 h;rw[if_neg hk];exact YS hj
theorem WS {k:α}{l:List (α × β)}:(SB k l).isSome=(zA k l).isSome:=by
 generalize h:SB k l=o;cases o with
 | none=>rw[XS h];rfl
 | some i=>rw[YS h];rfl
theorem zmc {k:α}{l:List (α × β)}{n:Nat}:((SB k l).bind fun i=>(JC key val n l)[i]?).map ME.val=(zA k l).map val:=by
 cases h:SB k l with
 | none=>rw[XS h];rfl
 | some i=>
  simp only[Option.bind_some,LG,VS h];cases zA k l <;> rfl
theorem cJ {k:α}{v:β}:∀{l:List (α×β)},SB k l=none→oB k v l=l++[(k,v)]
 | [],h=>rfl
 | e::r,h=>by
  unfold SB at h;unfold oB;split at h
  ·cases h
  ·rename_i hk
   rw[if_neg hk,cJ (by simpa using h)];rfl
theorem IZ {k:α}{v:β}:∀{l:List (α×β)} {i:Nat},SB k l=some i→oB k v l=l.set i (k,v)
 | [],i,h=>by cases h
 | e::r,i,h=>by
  unfold SB at h;unfold oB;split at h
  ·rename_i hk;cases h;simp [hk]
  ·rename_i hk
   obtain⟨j,hj,e2⟩:=Option.map_eq_some_iff.1 h;subst e2;rw[if_neg hk,IZ hj];rfl
theorem qX (k:α)(v:β):∀(l:List (α×β)) (n:Nat),JC key val n (l++[(k,v)])=JC key val n l++[⟨key k,val v,n+l.length⟩]
 | [],n=>rfl
 | e::r,n=>by simp only[List.cons_append,JC,qX k v r (n+1),List.length_cons];rw[show n+1+r.length=n+(r.length+1) by omega]
theorem z7l {k:α}{v:β}{l:List (α × β)}{i n:Nat}(h:SB k l=some i):(JC key val n l).modify i (fun e=>{ e with val:=val v })=JC key val n (l.set i (k,v)):=by
 apply List.ext_getElem?
 intro j;rw[List.getElem?_modify,LG,LG,List.getElem?_set];have hi:=JZ h
 have hg:=VS h
 by_cases hij:i=j
 ·subst hij
  rw[hg];simp only[if_true,hi];obtain⟨w,hw⟩:=Option.isSome_iff_exists.1 (YS h);rw[hw];rfl
 ·simp [hij]
variable {h:bA} {id:Nat} {l:List (α × β)} {kk:Sh × List Nat} {k:α}
theorem QI (hh:h[id]?=some (BA key val l)):yC h (.mp id)=some (id,JC key val 0 l,l.length):=by
 simp only[yC,hh,BA]
theorem iG (hk:YH key)(hh:h[id]?=some (BA key val l))(hq:UC kk (.p (key k))=some (key k)){ok:Bool}{z:AV} :
 ZA kk ok z (.mp id) (.p (key k)) h=some (bif ok then .tup [((zA k l).map val).getD z,AV.p (.bool (zA k l).isSome)] else((zA k l).map val).getD z):=by
 simp only[ZA,hq,QI hh,Option.map_some,nR hk,zmc,Option.isSome_map];rfl
theorem JK (hk:YH key)(hh:h[id]?=some (BA key val l))(hq:UC kk (.p (key k))=some (key k)){v:β}(hv:NG (val v)=true) :
 kB kk (.mp id) (.p (key k)) (val v) h=some (.und,h.set id (BA key val (oB k v l)),WB id (val v)):=by
 simp only[kB,hq,QI hh,hv,nR hk];cases hw:SB k l with
 | none=>
  simp only[BA,cJ hw,qX,List.length_append,List.length_cons,List.length_nil,Nat.zero_add]
 | some i=>
  simp only[BA,IZ hw,z7l hw,List.length_set]
theorem z9i {k:α}{v:β}:∀{l:List (α×β)},SB k l=none→SB k (l++[(k,v)])=some l.length
 | [],h=>by simp [SB]
 | e::r,h=>by
  unfold SB at h;split at h
  ·cases h
  ·rename_i hk
   have ih:=z9i (v:=v) (by simpa using h:SB k r=none)
   simp only[List.cons_append,SB,if_neg hk,ih];rfl
theorem zpQ {k:α}{v:β}{l:List (α × β)}:SB k (RE k v l)=some (QG k l):=by
 unfold RE QG;cases hw:SB k l with
 | none=>simp [z9i hw]
 | some i=>simp [hw]
theorem z9b {k:α}{v w:β}{l:List (α × β)}:(RE k v l).set (QG k l) (k,w)=oB k w l:=by
 unfold RE QG;cases hw:SB k l with
 | none=>simp [cJ hw]
 | some i=>simp [IZ hw]
theorem zme (hk:YH key)(hh:h[id]?=some (BA key val l))(hq:UC kk (.p (key k))=some (key k)){v0:β} :
 OK kk (val v0) (.mp id) (.p (key k)) h=some (.tup [val ((zA k l).getD v0),AV.p (.int .i64 (QG k l))],h.set id (BA key val (RE k v0 l)),[]):=by
 simp only[OK,hq,QI hh,nR hk];unfold RE QG;cases hw:SB k l with
 | none=>
  simp only[XS hw,Option.isSome_none,Bool.false_eq_true,if_false,BA,qX,Nat.zero_add,List.length_append,List.length_cons,List.length_nil,Option.getD_none];rfl
 | some i=>
  have hg:=VS hw
  obtain⟨w,hw2⟩:=Option.isSome_iff_exists.1 (YS hw);rw[hw2]at hg;have hs:h.set id (BA key val l)=h:=by
   apply List.ext_getElem?
   intro j;rw[List.getElem?_set];split
   ·rename_i e;subst e;rw[hh];simp [(List.getElem?_eq_some_iff.1 hh).1]
   ·rfl
  simp only[LG,hg,hw2,Option.isSome_some,if_true,hs,Option.map_some,Option.getD_some,Nat.zero_add];rfl
theorem z2q {l:List (α × β)}{i:Nat}(hi:i<l.length):(JC key val 0 l).findIdx? (fun e=>e.born==i)=some i:=by
 rw[List.findIdx?_eq_some_iff_getElem];have hl:=z7k (key:=key) (val:=val) l 0
 have hb:∀j (hj:j<(JC key val 0 l).length),(JC key val 0 l)[j].born=j:=fun j hj=>by
  have h1:=List.getElem?_eq_getElem hj
  rw[LG,List.getElem?_eq_getElem (by omega)]at h1
  simp only[Option.map_some,Option.some.injEq]at h1;rw[←h1];simp
 refine⟨by omega,by simp [hb],fun j hj=>?_⟩
 simp [hb];omega
theorem zjt {v0:β}(hh:h[id]?=some (BA key val (RE k v0 l))){v:β}(hv:NG (val v)=true) :
 NK (.mp id) (.p (.int .i64 (QG k l))) (val v) h=some (.und,h.set id (BA key val (oB k v l)),WB id (val v)):=by
 have hw:=zpQ (k:=k) (v:=v0) (l:=l)
 have hn:BB (.p (.int .i64 ((QG k l:Nat):Int)))=some (QG k l):=AN
 simp only[NK,QI hh,hn,hv,z2q (JZ hw),z7l hw,z9b,BA];rw[←z9b (v:=v0),List.length_set]
theorem FH (k k':α)(v:β):∀(l:List (α×β)),zA k' (oB k v l)=if k'=k then some v else zA k' l
 | []=>by simp [oB,zA]
 | e::r=>by
  unfold oB;by_cases h1:k=e.1
  ·rw[if_pos h1];simp only[zA]
   by_cases h2:k'=k
   ·simp [h2]
   ·rw[if_neg h2,if_neg h2,if_neg (by rw[←h1];exact h2)]
  ·rw[if_neg h1];simp only[zA,FH k k' v r]
   by_cases h2:k'=e.1
   ·rw[if_pos h2,if_pos h2,if_neg (by rw[h2];exact fun h=>h1 h.symm)]
   ·rw[if_neg h2,if_neg h2]
def zB (l:List (α × β)):List α:=l.map (·.1)
theorem KG (e:α × β)(r:List (α × β)):zB (e::r)=e.1::zB r:=rfl
theorem wN (k:α)(v:β):∀(l:List (α×β)),zB (oB k v l)=if k∈zB l then zB l else zB l++[k]
 | []=>rfl
 | e::r=>by
  unfold oB;by_cases h1:k=e.1
  ·rw[if_pos h1];simp [KG,h1]
  ·rw[if_neg h1]
   rw[KG,KG,wN k v r];by_cases h2:k∈zB r
   ·rw[if_pos h2,if_pos (by simp [h2])]
   ·rw[if_neg h2,if_neg (by simp [h1,h2])];rfl
theorem lX (k:α)(v:β){l:List (α × β)}(h:(zB l).Nodup):(zB (oB k v l)).Nodup:=by
 rw[wN];split
 ·exact h
 ·rename_i hk
  rw[List.nodup_append];exact⟨h,by simp,fun a ha b hb=>by rw[List.mem_singleton]at hb;subst hb;intro e;subst e;exact hk ha⟩
theorem z65 {k:α}:∀{l:List (α×β)},(zA k l).isSome=true↔k∈zB l
 | []=>by simp [zA,zB]
 | e::r=>by
  unfold zA;by_cases h:k=e.1
  ·simp [h,zB]
  ·have:=z65 (k:=k) (l:=r)
   simp only[zB]at this;simp [h,zB,this]
theorem zm4 {j m:Nat}{seen:List Nat}{K:AV→bA→Esc→Prop}(hj:h[j]?=some (.iter (some m) l.length seen l.length))(hm:h[m]?=some (BA key val l))
 (hend:(∀i,i<l.length→i∈seen)→K (.tup [AV.p (.bool false)]) (h.set j (.iter none 1 [] 0)) [])
 (hstep:∀(i:Nat) (hi:i<l.length),i∉seen→K (.tup [AV.p (.bool true),.p (key l[i].1),val l[i].2]) (h.set j (.iter (some m) l.length (seen++[i]) l.length)) []):nxK (.it j) h K:=by
 unfold nxK zN;simp only[hj,QI hm,and_self,if_true];have hmem:∀e∈(JC key val 0 l).filter (fun e=>!seen.contains e.born),∃(i:Nat) (hi:i<l.length),e=⟨key l[i].1,val l[i].2,i⟩∧i∉seen:=by
  intro e he;obtain⟨h1,h2⟩:=List.mem_filter.1 he;obtain⟨i,hi,e2⟩:=List.mem_iff_getElem?.1 h1 |>.elim fun i hi=>by
   rw[LG]at hi;obtain⟨x,hx,e3⟩:=Option.map_eq_some_iff.1 hi;obtain⟨hl,e4⟩:=List.getElem?_eq_some_iff.1 hx;exact(⟨i,hl,by rw[←e3,←e4];simp⟩:∃(i:Nat) (hi:i<l.length),e=⟨key l[i].1,val l[i].2,i⟩)
  refine⟨i,hi,e2,?_⟩;rw[e2]at h2;simpa using h2
 have hnil:(JC key val 0 l).filter (fun e=>!seen.contains e.born)=[]→∀i,i<l.length→i∈seen:=by
  intro hf i hi;have h1:=List.filter_eq_nil_iff.1 hf ⟨key l[i].1,val l[i].2,i⟩ (by
   apply List.mem_iff_getElem?.2
   exact⟨i,by rw[LG,List.getElem?_eq_getElem hi];simp⟩)
  simpa using h1
 generalize (JC key val 0 l).filter (fun e=>!seen.contains e.born)=F at *
 cases F with
 | nil=>
  refine⟨by simp,fun y hy=>?_⟩
  rw[List.mem_singleton]at hy;subst hy;exact hend (hnil rfl)
 | cons e F=>
  refine⟨by simp,fun y hy=>?_⟩
  obtain⟨e',he',rfl⟩:=List.mem_map.1 hy;obtain⟨i,hi,e2,h2⟩:=hmem e' he';subst e2;exact hstep i hi h2
theorem zmn (hh:h[id]?=some (BA key val l)):wB (.mp id) h=some (.it h.length,h++[.iter (some id) l.length [] l.length],[]):=by
 simp only[wB,QI hh]
theorem zmg {j m:Nat}{seen:List Nat}{i:Nat}(hj:h[j]?=some (.iter (some m) l.length (seen++[i]) l.length))(hm:h[m]?=some (BA key val l))(hi:i<l.length) :
 uB (.it j) h=some (.tup [.p (key l[i].1),val l[i].2],h,[]):=by
 simp only[uB,hj,QI hm,List.getLast?_append,List.getLast?_singleton,Option.some_or,if_true];have hb:=z2q (key:=key) (val:=val) hi
 have hg:=LG (key:=key) (val:=val) l 0 i
 rw[List.getElem?_eq_getElem hi]at hg;have hf:(JC key val 0 l).find? (fun e=>e.born==i)=some ⟨key l[i].1,val l[i].2,i⟩:=by
  rw[List.find?_eq_some_iff_getElem];rw[List.findIdx?_eq_some_iff_getElem]at hb;obtain⟨h1,h2,h3⟩:=hb;refine⟨by simp,i,h1,?_,fun j hj=>by simpa using h3 j hj⟩
  have:=List.getElem?_eq_getElem h1;rw[hg]at this;simpa using (Option.some.inj this).symm
 rw[hf];rfl
end
end Go.Am
end
section
/- What is wrong with limits,both ways: printed by program. -/
open Go
set_option linter.unusedSimpArgs false
namespace Go.Am
variable {h:bA} {K:nA}
end Go.Am
end
section
/- Package lot on measured values,and what the reference says of them. -/
open Go
namespace Go.Am
variable {h:bA} {K:nA}
structure Meas (l:List Int):Prop where
 len:l.length≤5000
 bd:∀n∈l,-100000≤n∧n≤100000
theorem Meas.sum {l:List Int}(hm:Meas l)(k:Nat) : -500000000≤(l.take k).sum∧(l.take k).sum≤500000000:=by
 have:=zpw hm.bd hm.len (by omega) k
 omega
end Go.Am
end
section
/- Records: what they are,what is wrong with them. -/
open Go
set_option linter.unusedSimpArgs false
namespace Go.Am
variable {h:bA} {K:nA}
theorem znm {b:Nat}{P:nA}{vs:List AV}{h:bA}:zD true b P (some vs) h []=P (rB vs) (h.take (max b (rB vs).top)) []:=by
 simp [zD,VB,fC]
attribute [go_sem] znm
structure Rec where
 unit:List UInt8
 time:Int
 site:List UInt8
 res:List Int
def Rec.pv (r:Rec):PV:=.agg [.str r.unit,eI r.time,.str r.site,.sl none (r.res.map eI)]
end Go.Am
end
section
/- Records: what is wrong with them,both ways. -/
open Go
set_option linter.unusedSimpArgs false
namespace Go.Am
variable {h:bA} {K:nA}
def orL:List Int→Int
 | []=>0
 | x::r=>if x≠0 then x else orL r
theorem zok (l:List Int)(hl:l.length≤1000):kA X tI [AL l] h K=K (AI (orL l)) h []:=by
 refine IA ?_;rw[zd2 rfl];simp only[WP,go_sem];refine VA (fun k:Nat=>⟨[(3,AI 0),(6,AL l),(7,AI l.length),(8,AI k)],h,[]⟩) (fun k=>k≤l.length∧orL (l.drop k)=orL l) (fun k=>l.length-k) 0 rfl ⟨by omega,rfl⟩ ?_
 rintro k ⟨hk,hp⟩
 rcases Nat.lt_or_ge k l.length with hlt|hge
 ·have g2:=XA eI hlt
  have w2:IntKind.i64.wrap ((k:Int)+1)=((k+1:Nat):Int):=CA _ (by omega) (by omega)
  rw[List.drop_eq_getElem_cons hlt,orL]at hp;by_cases hz:l[k]=0
  ·rw[if_neg (by simp [hz])]at hp
   simp only[go_sem,hlt,g2,hz,w2];exact⟨k+1,rfl,⟨by omega,hp⟩,by omega⟩
  ·rw[if_pos hz]at hp
   simp only[go_sem,hlt,g2,hz];rw[hp]
 ·have ek:k=l.length:=by omega
  subst ek;rw[List.drop_length]at hp;simp only[go_sem,Nat.lt_irrefl];rw[←hp];rfl
end Go.Am
end
section
/- Lengths of numbers in bits,and comparisons of plain values. -/
open Go
namespace Go.Am
variable {h:bA} {K:nA}
set_option maxRecDepth 20000
theorem zpx (k:Nat)(hk:k<256):∃b,([0,1,2,2,3,3,3,3,4,4,4,4,4,4,4,4,5,5,5,5,5,5,5,5,5,5,5,5,5,5,5,5,6,6,6,6,6,6,6,6,6,6,6,6,6,6,6,6,6,6,6,6,6,6,6,6,6,6,6,6,6,6,6,6,7,7,7,7,7,7,7,7,7,7,7,7,7,7,7,7,7,7,7,7,7,7,7,7,7,7,7,7,7,7,7,7,7,7,7,7,7,7,7,7,7,7,7,7,7,7,7,7,7,7,7,7,7,7,7,7,7,7,7,7,7,7,7,7,8,8,8,8,8,8,8,8,8,8,8,8,8,8,8,8,8,8,8,8,8,8,8,8,8,8,8,8,8,8,8,8,8,8,8,8,8,8,8,8,8,8,8,8,8,8,8,8,8,8,8,8,8,8,8,8,8,8,8,8,8,8,8,8,8,8,8,8,8,8,8,8,8,8,8,8,8,8,8,8,8,8,8,8,8,8,8,8,8,8,8,8,8,8,8,8,8,8,8,8,8,8,8,8,8,8,8,8,8,8,8,8,8,8,8,8,8,8,8,8,8,8,8,8,8,8,8,8]:List UInt8)[k]?=some b:=⟨_,List.getElem?_eq_getElem (Nat.lt_of_lt_of_eq hk (by kernel_rfl))⟩
theorem z6Z (x:Int)(h0:0≤x)(h1:x<256):∃m:Int,∀(h:bA) (K:nA),kA X vH [AU x] h K=K (AI m) h []:=by
 obtain⟨b,hb⟩:=zpx x.toNat (by omega)
 refine⟨IntKind.i64.wrap (0+IntKind.i64.wrap b.toNat),fun h K=>?_⟩
 have w:IntKind.u8.wrap x=x:=by simp [IntKind.wrap,IntKind.bits,IntKind.signed];omega
 have b1:¬(4294967296≤x):=by omega
 have b2:¬(65536≤x):=by omega
 have b3:¬(256≤x):=by omega
 have hn:=yF (k:=.u8) h0
 have key:∀(h:bA) (K:nA),kA X XJ [AU x] h K=K (AI (IntKind.i64.wrap (0+IntKind.i64.wrap b.toNat))) h []:=by
  intro h K;refine IA ?_;rw[zd7 rfl];simp only[XP,go_sem,b1,b2,b3,w,hn,hb]
 refine IA ?_;rw[zd6 rfl];simp only[xV,go_sem,key]
end Go.Am
end
section
/- Lists of strings sorted,left out: printed by program. -/
open Go
set_option linter.unusedSimpArgs false
namespace Go.Am
attribute [-go_sem] PV.cells splice
variable {h:bA} {K:nA}
theorem zkl (id n:Nat)(l tl:List PV)(hn:n=l.length+tl.length)(hs:ZB none l)(hl:l.length≤1000)(hh:h[id]?=some (.row none (l++tl) 0)){lt:PV→PV→Bool}(hc:∀ x∈l,∀ y∈l,∀ (h:bA) (K:nA),kA X rF [.p x,.p y] h K=K (AB (lt x y)) h []) :
 kA X zK [.own id n 0 l.length,AI 0,AI l.length] h K=K (.tup []) (h.set id (.row none (XB lt l++tl) 0)) []:=by
 refine IA ?_;rw[ze2];have hid:=JB hh
 have hst:∀o,(h.set id o)[id]?=some o:=fun o=>VG hid
 simp only[GQ,go_sem,show IntKind.i64.wrap 1=1 from rfl]
 refine VA (fun i:Nat=>⟨[(0,.own id n 0 l.length),(1,AI 0),(2,AI l.length),(6,AI i)],h.set id (.row none ((vD lt (l.take i)).reverse++(l.drop i++tl)) 0),[]⟩) (fun i=>1≤i∧(i≤l.length∨i=1)) (fun i=>l.length-i) 1 ?_ (by simp) ?_
 ·have:(vD lt (l.take 1)).reverse++(l.drop 1++tl)=l++tl:=by cases l <;> rfl
  rw[this,WG hh];rfl
 rintro i ⟨hi1,hi2⟩
 rcases Nat.lt_or_ge i l.length with hlt|hge
 ·simp only[go_sem,hlt]
  have hxl:l[i]∈l:=List.getElem_mem hlt
  generalize hx:l[i]=x at *;generalize hR:vD lt (l.take i)=R;have hRl:R.length=i:=by rw[←hR,z6K];simp;omega
  have hRm:∀z∈R,z∈l:=fun z hz=>List.mem_of_mem_take ((eR lt (l.take i)).mem_iff.1 (by rw[hR];exact hz))
  have hdrop:l.drop i=x::l.drop (i+1):=by rw[←hx];exact List.drop_eq_getElem_cons hlt
  have hnext:vD lt (l.take (i+1))=gC lt x R:=by rw[z6N _ _ _ hlt,hR,hx]
  refine VA (fun t:List PV×List PV=>⟨[(0,.own id n 0 l.length),(1,AI 0),(2,AI l.length),(6,AI i),(7,AI t.1.length)],h.set id (.row none (t.1.reverse++x::t.2) 0),[]⟩)
   (fun t=>∃B,R=B++t.1∧t.2=B.reverse++(l.drop (i+1)++tl)∧∀b∈B,lt x b=true) (fun t=>t.1.length) (R,l.drop (i+1)++tl) (by rw[hdrop,hRl];rfl) ⟨[],rfl,rfl,by simp⟩ ?_
  rintro⟨A,C⟩ ⟨B,q1,q2,q3⟩
  dsimp only at q1 q2 q3;have hlen:(A.reverse++x::C).length=n:=by
   have:R.length=B.length+A.length:=by rw[q1];simp
   rw[q2];simp;omega
  have hBA:B.length+A.length<l.length:=by
   have:R.length=B.length+A.length:=by rw[q1];simp
   omega
  have hln:l.length≤n:=by omega
  have w1:IntKind.i64.wrap ((i:Int)+1)=((i+1:Nat):Int):=CA _ (by omega) (by omega)
  cases A with
  | nil=>
   have hd:gC lt x R=B++[x]:=by rw[q1];exact dR lt x [] B q3 (fun y r h=>by cases h)
   simp only[go_sem,Int.lt_irrefl,w1];refine⟨i+1,?_,by omega,by omega⟩
   simp only[hnext,hd,q2,List.reverse_append,List.reverse_nil,List.nil_append,List.reverse_cons,List.append_assoc,List.cons_append]
  | cons y A=>
   have hyl:y∈l:=hRm y (by rw[q1];simp)
   have g1:=z6G (y::A) C x
   have g2:=z6H A C x y
   have sw:=z6I A C x y
   simp only[List.length_cons]at hBA;generalize hrow:(y::A).reverse++x::C=row at *;simp only[List.length_cons]at g1;have w2:IntKind.i64.wrap (((A.length+1:Nat):Int)-1)=(A.length:Int):=by rw[CA _ (by omega) (by omega)];omega
   have p1:(0:Int)<((A.length+1:Nat):Int):=by omega
   have b1:A.length+1<l.length:=by omega
   have b2:A.length<l.length:=by omega
   have cx:=HF (hs x hxl)
   have cy:=HF (hs y hyl)
   have hcc:=fun h K=>hc x hxl y hyl h K
   cases hxy:lt x y with
   | false=>
    have hd:gC lt x R=B++x::y::A:=by rw[q1];exact dR lt x (y::A) B q3 (fun z r h=>by cases h;exact hxy)
    simp only[go_sem,hst,p1,hlen,g1,g2,w2,b1,b2,hln,cx,cy,hcc,hxy,w1];refine⟨i+1,?_,by omega,by omega⟩
    simp only[hnext,hd,←hrow,q2,List.reverse_append,List.reverse_cons,List.append_assoc,List.cons_append,List.nil_append]
   | true=>
    have g3:(row.set (A.length+1) y)[A.length]?=some y:=by rw[List.getElem?_set_ne (by omega),g2]
    have lx:=kM (hs x hxl)
    have ly:=kM (hs y hyl)
    have sx:=jM (hs x hxl)
    have sy:=jM (hs y hyl)
    simp only[lA]at lx ly;have t1:=fun i xs h1=>mM (hs x hxl) (hs y hyl) id i 0 xs h1
    have t2:=fun i xs h1=>mM (hs y hyl) (hs x hxl) id i 0 xs h1
    simp only[go_sem,hst,p1,hlen,g1,g2,g3,w2,b1,b2,hln,cx,cy,hcc,hxy,lx,ly,sx,sy,t1,t2,sw];refine⟨(A,y::C),rfl,⟨B++[y],by simp [q1],by simp [q2],fun b hb=>?_⟩,by simp⟩
    rw[List.mem_append,List.mem_singleton]at hb;rcases hb with hb|rfl
    ·exact q3 b hb
    ·exact hxy
 ·have hge':¬i<l.length:=by omega
  have e1:l.take i=l:=List.take_of_length_le hge
  have e2:l.drop i=[]:=List.drop_of_length_le hge
  simp only[go_sem,hge',e1,e2];rfl
theorem zch (id n:Nat)(l tl:List PV)(hn:n=l.length+tl.length)(hs:ZB none l)(hl:l.length≤12)(hh:h[id]?=some (.row none (l++tl) 0)){lt:PV→PV→Bool}(hc:∀ x∈l,∀ y∈l,∀ (h:bA) (K:nA),kA X rF [.p x,.p y] h K=K (AB (lt x y)) h []) :
 kA X JI [.own id n 0 l.length] h K=K (.tup []) (h.set id (.row none (XB lt l++tl) 0)) []:=by
 refine IA ?_;rw[ze0];have w0:IntKind.u64.wrap (l.length:Int)=l.length:=EZ _ (by omega) (by omega)
 obtain⟨m,hm⟩:=z6Z (l.length:Int) (by omega) (by omega)
 have is:=fun h' (hq:h'=h) K=>zkl (h:=h) (K:=K) id n l tl hn hs (by omega) hh hc
 have key:∀K:nA,kA X dG [.own id n 0 l.length,AI 0,AI l.length,AI m] h K=K (.tup []) (h.set id (.row none (XB lt l++tl) 0)) []:=by
  intro K;refine IA ?_;rw[ze4];simp only[IQ,go_sem];refine VA (fun _:Unit=>⟨[(0,.own id n 0 l.length),(1,AI 0),(2,AI l.length),(3,AI m),(8,AB true),(9,AB true)],h,[]⟩) (fun _=>True) (fun _=>0) () rfl trivial ?_
  intro _ _;have w1:IntKind.i64.wrap ((l.length:Int)-0)=l.length:=by rw[CA _ (by omega) (by omega)];omega
  have b1:((l.length:Int)≤12):=by omega
  simp only[go_sem,w1,b1,is _ rfl]
 simp only[pW,go_sem,w0,hm,key]
theorem z9y (id:Nat)(l:List PV)(hs:ZB none l)(hl:l.length≤100000)(hh:h[id]?=some (.row none l 0)){q:PV→PV→Bool}(hq1:∀ x∈l,∀ y∈l,jA .eql (.p x) (.p y)=some (AB (q x y)))(hq2:∀ x∈l,∀ y∈l,jA .neq (.p x) (.p y)=some (AB (!q x y))) :
 kA X bG [.own id l.length 0 l.length] h K=K (.own id l.length 0 (bC q l).length) (h.set id (.row none (bC q l++List.replicate (l.length-(bC q l).length) (PV.str [])) 0)) []:=by
 refine IA ?_;rw[zel];have hid:=JB hh
 have hst:∀o,(h.set id o)[id]?=some o:=fun o=>VG hid
 have hb:¬h.length≤id:=by omega
 have hb2:max h.length (id+1)=h.length:=by omega
 have hb3:id+1≤h.length:=hid
 by_cases h2:l.length<2
 ·have h2':(l.length:Int)<2:=by omega
  have e:bC q l=l:=by
   cases l with
   | nil=>rfl
   | cons x r=>
    have:r=[]:=List.length_eq_zero_iff.1 (by simp only[List.length_cons]at h2;omega)
    subst this;rfl
  simp only[YM,go_sem,h2',e,Nat.sub_self,List.replicate_zero,List.append_nil,hb,hb2,hb3];rw[WG hh]
 have h2':¬(l.length:Int)<2:=by omega
 simp only[YM,go_sem,h2'];refine VA (fun k:Nat=>⟨[(0,.own id l.length 0 l.length),(3,AI ((k+1:Nat):Int))],h,[]⟩) (fun k=>k+1≤l.length∧bC q (l.take (k+1))=l.take (k+1)) (fun k=>l.length-(k+1)) 0 rfl ⟨by omega,?_⟩ ?_
 ·cases l with
  | nil=>rfl
  | cons x r=>rfl
 rintro k ⟨hk,hc⟩
 rcases Nat.lt_or_ge (k+1) l.length with hlt|hge
 ·have hk0:k<l.length:=by omega
  have g1:l[k+1]?=some l[k+1]:=List.getElem?_eq_getElem hlt
  have g2:l[k]?=some l[k]:=List.getElem?_eq_getElem hk0
  have c1:=HF (XG hs hlt)
  have c2:=HF (XG hs hk0)
  have w1:IntKind.i64.wrap (((k+1:Nat):Int)-1)=(k:Int):=by rw[CA _ (by omega) (by omega)];omega
  have w2:IntKind.i64.wrap (((k+1:Nat):Int)+1)=((k+1+1:Nat):Int):=CA _ (by omega) (by omega)
  have hqk:=hq1 _ (List.getElem_mem hlt) _ (List.getElem_mem hk0)
  have hcs:=z3b q l k hlt
  cases hqx:q l[k+1] l[k]with
  | false=>
   rw[hqx]at hcs;simp only[go_sem,hh,hlt,hk0,g1,g2,c1,c2,w1,w2,hqk,hqx];exact⟨k+1,rfl,⟨by omega,by rw[hcs,hc,cond_false,List.take_succ_eq_append_getElem hlt]⟩,by omega⟩
  | true=>
   rw[hqx,cond_true,List.append_nil,hc]at hcs;have hle:k+1≤l.length:=by omega
   simp only[go_sem,hh,hlt,hk0,hle,g1,g2,c1,c2,w1,hqk,hqx];have e0:k+1+(l.length-(k+1))=l.length:=by omega
   refine VA (fun t:List PV×Nat×Nat=>⟨[(0,.own id l.length 0 l.length),(3,AI ((t.2.1:Nat):Int)),(4,.own id l.length (k+1) (l.length-(k+1))),(5,AI ((t.2.2+1:Nat):Int))],h.set id (.row none t.1 0),[]⟩)
    (fun t=>t.1.length=l.length∧ZB none t.1∧t.2.1≤k+1+t.2.2∧k+1+t.2.2<l.length∧t.1.take t.2.1=bC q (l.take (k+1+t.2.2+1))∧t.1.drop (k+1+t.2.2)=l.drop (k+1+t.2.2)) (fun t=>l.length-t.2.2)
    (l,k+1,0) (by rw[WG hh];rfl) ⟨rfl,hs,by simp,by simpa using hlt,by simpa using hcs.symm,rfl⟩ ?_
   rintro⟨row,i,j⟩ ⟨r1,r2,r3,r4,r5,r6⟩
   dsimp only at r1 r2 r3 r4 r5 r6;rcases Nat.lt_or_ge (k+1+j+1) l.length with hlt2|hge2
   ·have a1:row[k+1+j+1]?=some l[k+1+j+1]:=by
     have:=congrArg (·[1]?) r6
     simp only[List.getElem?_drop]at this;rw[this,List.getElem?_eq_getElem hlt2]
    have a2:row[k+1+j]?=some l[k+1+j]:=by
     have:=congrArg (·[0]?) r6
     simp only[List.getElem?_drop,Nat.add_zero]at this;rw[this,List.getElem?_eq_getElem r4]
    have s1:=XG hs hlt2
    have d1:=HF s1
    have d2:=HF (XG hs r4)
    have hil:i<l.length:=by omega
    have hir:i<row.length:=by omega
    have g3:row[i]?=some row[i]:=List.getElem?_eq_getElem hir
    have t1:=fun xs h1=>mM s1 (XG r2 hir) id i 0 xs h1
    have lx:=kM s1
    have sx:=jM s1
    simp only[lA]at lx;have v1:IntKind.i64.wrap (((j+1:Nat):Int)-1)=(j:Int):=by rw[CA _ (by omega) (by omega)];omega
    have v2:IntKind.i64.wrap (((j+1:Nat):Int)+1)=((j+1+1:Nat):Int):=CA _ (by omega) (by omega)
    have v3:IntKind.i64.wrap ((i:Int)+1)=((i+1:Nat):Int):=CA _ (by omega) (by omega)
    have p1:j+1<l.length-(k+1):=by omega
    have p2:j<l.length-(k+1):=by omega
    have p3:k+1+(j+1)=k+1+j+1:=by omega
    have p4:k+1+(l.length-(k+1))≤l.length:=by omega
    have hqj:=hq2 _ (List.getElem_mem hlt2) _ (List.getElem_mem r4)
    have hcs2:=z3b q l (k+1+j) hlt2
    cases hqy:q l[k+1+j+1] l[k+1+j]with
    | true=>
     rw[hqy,cond_true,List.append_nil]at hcs2;simp only[go_sem,hst,r1,p1,p2,p3,p4,e0,a1,a2,d1,d2,v1,v2,hqj,hqy];refine⟨(row,i,j+1),rfl,⟨r1,r2,by dsimp only;omega,by dsimp only;omega,?_,?_⟩,by dsimp only;omega⟩
     ·dsimp only;rw[r5,←hcs2];rfl
     ·dsimp only;rw[show k+1+(j+1)=k+1+j+1 from rfl,←List.drop_drop,r6,List.drop_drop]
    | false=>
     rw[hqy,cond_false]at hcs2;simp only[go_sem,hst,r1,p1,p2,p3,p4,e0,a1,a2,g3,d1,d2,v1,v2,v3,hil,hqj,hqy,lx,sx,t1];refine⟨(row.set i l[k+1+j+1],i+1,j+1),rfl,⟨by simpa using r1,fun x hx=>?_,by dsimp only;omega,by dsimp only;omega,?_,?_⟩,by dsimp only;omega⟩
     ·rcases List.mem_or_eq_of_mem_set hx with hx|rfl
      ·exact r2 x hx
      ·exact s1
     ·dsimp only
      rw[show k+1+(j+1)+1=k+1+j+1+1 from rfl,hcs2,←r5,List.take_succ_eq_append_getElem (by simp;omega)]
      simp [List.take_set_of_le]
     ·dsimp only
      rw[List.drop_set_of_lt (by omega),show k+1+(j+1)=k+1+j+1 from rfl,←List.drop_drop,r6,List.drop_drop]
   ·have ej:k+1+j+1=l.length:=by omega
    rw[ej,List.take_length]at r5;have hil:i≤l.length:=by omega
    have hm:(bC q l).length=i:=by rw[←r5];simp;omega
    have p1:¬(j+1<l.length-(k+1)):=by omega
    have sp:splice row i (List.replicate (l.length-i) (PV.str []))=bC q l++List.replicate (l.length-i) (PV.str []):=by
     unfold splice;rw[r5,List.length_replicate,List.drop_of_length_le (by omega),List.append_nil]
    have rl:(bC q l++List.replicate (l.length-i) (PV.str [])).length=l.length:=by simp only[List.length_append,hm,List.length_replicate];omega
    rw[hm];generalize bC q l++List.replicate (l.length-i) (PV.str [])=row' at *;simp only[go_sem,hst,r1,rl,hil,p1,sp,show i+(l.length-i)=l.length by omega,hb,hb2,hb3]
 ·have ek:k+1=l.length:=by omega
  rw[ek,List.take_length]at hc;have hge':¬k+1<l.length:=by omega
  simp only[go_sem,hge',hc,Nat.sub_self,List.replicate_zero,List.append_nil,hb,hb2,hb3];rw[WG hh]
end Go.Am
end
section
/- What is drawn: numbers,measured values. -/
open Go
namespace Go.Am
variable {L:List Int} {a:Int}
theorem g_Odd (hp:uA 14 a)(u v:Int)(huv:u≤v)(hu : -1000000000000≤u)(hv:v≤1000000000000):∃k a2:Int,a≤a2∧a2≤a+2 ∧ -1099511627776≤k∧k≤1099511627776 ∧
 Gen aK [AI u,AI v] L a a2 (AI k):=by
 have w1:IntKind.i64.wrap (u-1)=u-1:=CA _ (by omega) (by omega)
 have w2:IntKind.i64.wrap (v+1)=v+1:=CA _ (by omega) (by omega)
 by_cases hf:FA L a 12=0
 ·have hm:=zmJ (L:=L) (a:=a+1) (l:=[u-1,v+1,u,v,-1099511627776,1099511627776]) (by simp) (by simp)
  simp only[List.mem_cons,List.not_mem_nil,or_false]at hm;refine⟨BF [u-1,v+1,u,v,-1099511627776,1099511627776] L (a+1),a+1+1,by omega,by omega,by omega,by omega,Gen.of fun h id hid=>?_⟩
  rw[z2x rfl];simp only[dQ,go_sem,hid,z7K hp,hf,w1,w2]
 ·have hm:=VY L (a+1) huv (by omega)
  refine⟨SG u v L (a+1),a+1+1,by omega,by omega,by omega,by omega,Gen.of fun h id hid=>?_⟩
  rw[z2x rfl];simp only[dQ,go_sem,hid,z7K hp,hf,w1,w2,huv,show -1152921504606846976≤u by omega,show v≤1152921504606846976 by omega]
end Go.Am
end
section
/- Strings that are drawn. -/
open Go
set_option linter.unusedSimpArgs false
namespace Go.Am
variable {L:List Int} {a:Int} {h l:bA} {id:Nat} {K:nA}
def isS:PV→Bool
 | .str _=>true
 | _=>false
def unS:PV→List UInt8
 | .str s=>s
 | _=>[]
def nC (l:List (List UInt8))(L:List Int)(a:Int):List UInt8:=l.getD (FA L a l.length).toNat []
theorem aM {l:List (List UInt8)}{L:List Int}{a:Int}(hl:0<l.length)(hl2:l.length<4611686018427387904):nC l L a∈l:=by
 obtain⟨b1,b2⟩:=FE L a l.length (by omega) (by omega)
 unfold nC;have:(FA L a l.length).toNat<l.length:=by omega
 simp only[List.getD,List.getElem?_eq_getElem this,Option.getD_some];exact List.getElem_mem _
theorem zpI {xs:List PV}(h:xs.all isS=true):xs=(xs.map unS).map PV.str:=by
 induction xs with
 | nil=>rfl
 | cons x r ih=>
  simp only[List.all_cons,Bool.and_eq_true]at h;simp only[List.map_cons];rw[←ih h.2];cases x <;> first|rfl|cases h.1
theorem zjN (hp:uA 0 a)(xs:List PV)(hx:xs.all isS=true)(hl:0<xs.length)(hl2:xs.length<4611686018427387904) :
 Gen IC [.p (.sl none xs)] L a (a+1) (AS (nC (xs.map unS) L a)):=by
 refine Gen.of fun h id hid=>?_
 rw[zdH rfl];obtain⟨b1,b2⟩:=FE L a xs.length (by omega) (by omega)
 have e4:=yF (k:=.i64) b1
 have e5:xs[(FA L a xs.length).toNat]?=some (.str (nC (xs.map unS) L a)):=by
  have hm:=zpI hx
  generalize hq:xs.map unS=q at *;subst hm;simp only[List.length_map]at *;rw[XA PV.str (show(FA L a q.length).toNat<q.length by omega)]
  simp [nC,List.getD,show(FA L a q.length).toNat<q.length by omega]
 simp only[NV,go_sem,iM hid hp,e4,e5]
theorem nG (hid:id<h.length)(hp:uA 0 a){xs:List PV}(hx:xs.all isS=true)(hl:0<xs.length)(hl2:xs.length<4611686018427387904) :
 kA X IC [.ref id 0,.p (.sl none xs)] (h.set id (EA L a)++l) K=K (AS (nC (xs.map unS) L a)) (h.set id (EA L (a+1))++l) []:=(zjN hp xs hx hl hl2).app hid
attribute [go_sem ↓] nG
attribute [go_sem] nG isS unS
end Go.Am
end
section
/- What is drawn: strings,limits. -/
open Go
set_option linter.unusedSimpArgs false
namespace Go.Am
variable {L:List Int} {a:Int} {h l:bA} {id:Nat} {K:nA}
end Go.Am
end
section
/- Sorting records: printed by program. -/
open Go
set_option linter.unusedSimpArgs false
namespace Go.Am
attribute [-go_sem] PV.cells splice
variable {h:bA} {K:nA}
end Go.Am
end
section
/- Leaving out what is alike: printed by program. -/
open Go
set_option linter.unusedSimpArgs false
namespace Go.Am
attribute [-go_sem] PV.cells splice
variable {h:bA} {K:nA}
end Go.Am
end
section
/- What is drawn: records. -/
open Go
set_option linter.unusedSimpArgs false
namespace Go.Am
variable {L:List Int} {a:Int} {h l:bA} {id:Nat} {K:nA}
theorem zeI {b:Nat}{x:Esc}(hx:∀ y∈x,b≤y.1):∀k,VB k x b=b:=by
 have hb:YC x b=b:=by
  unfold YC;induction x with
  | nil=>rfl
  | cons y r ih=>
   simp only[List.foldl_cons];rw[if_neg (by have:=hx y (by simp);omega)]
   exact ih (fun z hz=>hx z (by simp [hz]))
 intro k;induction k with
 | zero=>rfl
 | succ k ih=>unfold VB;rw[hb,ih]
theorem zpC {b i t:Nat}{x0:Esc}{e:List (Nat × AV)}{h:bA}(hi:i<b):ZD b x0 ⟨e,h,[(i,t)]⟩=⟨oF (max b t) e,h.take (max b t),(i,t)::x0⟩:=by
 unfold ZD;have hb:VB [(i,t)].length [(i,t)] b=max b t:=by simp [VB,YC,hi]
 simp only[hb];have hc:fC [(i,t)] (max b t)=true:=by simp [fC];omega
 have hf:[(i,t)].filter (fun y=>decide (y.1<max b t))=[(i,t)]:=by simp;omega
 rw[if_pos hc,hf];rfl
end Go.Am
end
section
/- Merging two ordered lists: by sorting and leaving out what is alike,and by looking each one up. Plain lists. -/
namespace Go.Am
variable {α:Type}
structure Ordr (c:α→α→Int):Prop where
 neg:∀a b,c b a = - c a b
 trans:∀a b d,c a b≤0→c b d≤0→c a d≤0
theorem Ordr.refl {c:α→α→Int}(o:Ordr c)(a:α):c a a=0:=by have:=o.neg a a;omega
def ltO (c:α→α→Int)(a b:α):Bool:=decide (c a b<0)
theorem Ordr.weak {c:α→α→Int}(o:Ordr c):Weak (ltO c):=by
 refine⟨fun a b h=>?_,fun a b d h1 h2=>?_⟩
 ·simp only[ltO,decide_eq_true_eq,decide_eq_false_iff_not]at h ⊢
  have:=o.neg a b;omega
 ·simp only[ltO,decide_eq_false_iff_not]at h1 h2 ⊢
  have q1:=o.neg a b
  have q2:=o.neg b d
  have q3:=o.trans a b d (by omega) (by omega)
  have q4:=o.neg a d
  omega
theorem bV {q:α→α→Bool}(hq:∀ x y,q x y=true→x=y):∀(l:List α) (p x:α),x∈l→x=p∨x∈CD q p l
 | [],_,x,hx=>by simp at hx
 | y::r,p,x,hx=>by
  unfold CD;cases h:q y p with
  | true=>
   have e:=hq _ _ h
   subst e;rcases List.mem_cons.1 hx with e|e
   ·exact .inl e
   ·exact bV hq r y x e
  | false=>
   rcases List.mem_cons.1 hx with e|e
   ·subst e;exact .inr (by simp)
   ·rcases bV hq r y x e with e|e
    ·subst e;exact .inr (by simp)
    ·exact .inr (by simp [e])
theorem z3c {q:α→α→Bool}(hq:∀ x y,q x y=true→x=y):∀{l:List α} {x:α},x∈l→x∈bC q l
 | y::r,x,hx=>by
  rcases List.mem_cons.1 hx with e|e
  ·subst e;simp [bC]
  ·rcases bV hq r y x e with e|e
   ·subst e;simp [bC]
   ·simp [bC,e]
variable {c:α→α→Int} {q:α→α→Bool} {a b:List α}
end Go.Am
end
section
/- Records alike;copies;bins. -/
open Go
set_option linter.unusedSimpArgs false
namespace Go.Am
variable {h:bA} {K:nA}
def sZ (a b:Rec):Bool:=decide (a.unit=b.unit)&&(decide (a.time=b.time)&&(decide (a.site=b.site)&&decide (a.res=b.res)))
theorem zoB (a b:Rec):sZ a b=true↔a=b:=by
 cases a;cases b
 simp [sZ]
end Go.Am
end
section
/- Sorting numbers: printed by program. -/
open Go
set_option linter.unusedSimpArgs false
namespace Go.Am
attribute [-go_sem] PV.cells splice
variable {h:bA} {K:nA}
end Go.Am
end
section
/- Bins,both ways;lists joined;records sorted. -/
open Go
set_option linter.unusedSimpArgs false
namespace Go.Am
variable {h:bA} {K:nA}
end Go.Am
end
section
/- Lists of records joined,compared,merged. -/
open Go
set_option linter.unusedSimpArgs false
namespace Go.Am
variable {h:bA} {K:nA}
instance:DecidableEq Rec:=fun a b=>decidable_of_iff (sZ a b=true) (zoB a b)
end Go.Am
end
section
/- Records merged asv the reference does it. -/
open Go
set_option linter.unusedSimpArgs false
namespace Go.Am
variable {h:bA} {K:nA}
theorem ZU {a b c:List UInt8}(h1:vA a b≤0)(h2:vA b c≤0):vA a c≤0:=by
 by_cases e1:vA a b=0
 ·rw[QF e1];exact h2
 ·by_cases e2:vA b c=0
  ·rw[←QF e2];exact h1
  ·have:=jI (a:=a) (b:=b) (c:=c) (by omega) (by omega)
   omega
end Go.Am
end
section
/- Retests: which record of a unit counts. Plain lists;both ways yield the same. -/
set_option linter.all false
namespace Go.Am
def ltS (a b:List UInt8):Bool:=decide (vA a b<0)
end Go.Am
end
section
/- Lists of strings. -/
open Go
set_option linter.all false
namespace Go.Am
variable {h:bA} {K:nA}
theorem z1N:X.ex2=X.ex2:=rfl
theorem xZ {us:List (List UInt8)}:ZB none (us.map PV.str):=fun x hx=>by obtain⟨n,_,rfl⟩:=List.mem_map.1 hx;rfl
def z8Z:PV→List UInt8
 | .str s=>s
 | _=>[]
theorem oJ:∀ a b:List UInt8,Op.bytesLess a b=ltS a b
 | [],[]=>rfl
 | [],_::_=>rfl
 | _::_,[]=>rfl
 | a::x,b::y=>by
  have ih:=oJ x y
  unfold ltS at ih ⊢;unfold Op.bytesLess vA;rw[ih];by_cases h1:a<b
  ·simp [h1]
  ·by_cases h2:b<a
   ·have:¬a=b:=fun e=>by subst e;exact UInt8.lt_irrefl _ h2
    simp [h1,h2,this]
   ·have:a=b:=by
     rcases UInt8.lt_or_lt_of_ne (a:=a) (b:=b) |> fun f=>Classical.em (a=b) with e|e
     ·exact e
     ·rcases UInt8.lt_or_lt_of_ne e with h|h
      ·exact absurd h h1
      ·exact absurd h h2
    simp [h1,h2,this]
def ltPS (x y:PV):Bool:=ltS (z8Z x) (z8Z y)
theorem zku (us:List (List UInt8)):XB ltPS (us.map PV.str)=(XB ltS us).map PV.str:=z6O PV.str (fun a b=>rfl) us
end Go.Am
end
section
/- Texts sorted. -/
open Go
set_option linter.all false
namespace Go.Am
variable {h:bA} {K:nA}
theorem LS (a:List UInt8):kA X TE [AS a] h K=K (AB false) h []:=by
 refine IA ?_;rw[zd3 rfl];simp only[uV,go_sem]
theorem znK (a b:List UInt8):kA X rF [AS a,AS b] h K=K (AB (ltS a b)) h []:=by
 refine IA ?_;rw[zd1 rfl];simp only[tV,go_sem,LS,oJ]
theorem zlP {us:List (List UInt8)}:∀x∈us.map PV.str,∀y∈us.map PV.str,∀(h:bA) (K:nA),kA X rF [.p x,.p y] h K=K (AB (ltPS x y)) h []:=by
 intro x hx y hy h K;obtain⟨a,_,rfl⟩:=List.mem_map.1 hx;obtain⟨b,_,rfl⟩:=List.mem_map.1 hy;exact znK a b
theorem z83 (id:Nat)(us:List (List UInt8))(hl:us.length≤12)(hh:h[id]?=some (.row none (us.map PV.str) 0)) :
 kA X JI [.own id us.length 0 us.length] h K=K (.tup []) (h.set id (.row none ((XB ltS us).map PV.str) 0)) []:=by
 have:=zch (h:=h) (K:=K) id us.length (us.map PV.str) [] (by simp) xZ (by simpa using hl) (by simpa using hh) (lt:=ltPS) zlP
 simp only[List.length_map,List.append_nil,zku]at this;exact this
end Go.Am
end
section
/- A board's joins: their order,and what is wrong with them: the program. -/
open Go
set_option linter.all false
set_option maxRecDepth 100000
namespace Go.Am
variable {h:bA} {K:nA}
theorem mZ (a b:List UInt8):kA X VJ [AS a,AS b] h K=K (AI (vA a b)) h []:=by
 refine IA ?_;rw[zd0 rfl];have n:=z2X a b
 by_cases h1:vA a b<0
 ·have e:vA a b = -1:=by omega
  have l1:ltS a b=true:=by simp [ltS,h1]
  simp only[MM,go_sem,LS,oJ,l1,e]
 ·have l1:ltS a b=false:=by simp [ltS,h1]
  by_cases h2:a=b
  ·have e:vA a b=0:=by rw[h2];exact vJ b
   have h2p:=eq_true h2
   simp only[MM,go_sem,LS,oJ,l1,h2p,e]
  ·have hz:vA a b≠0:=fun z=>h2 (QF z)
   have e:vA a b=1:=by omega
   simp only[MM,go_sem,LS,oJ,l1,h2,e]
theorem or3 (a b c:Int):orL [a,b,c]=if a≠0 then a else if b≠0 then b else c:=by
 unfold orL orL orL;by_cases h1:a=0
 ·subst h1
  by_cases h2:b=0
  ·subst h2
   by_cases h3:c=0 <;> simp [orL,h3]
  ·simp [h2]
 ·simp [h1]
theorem znU (x y:Jon):kA X nI [.p x.pv,.p y.pv] h K=K (AI (GB x y)) h []:=by
 refine IA ?_;rw[zdl rfl];have q1:=fun h K=>NS (h:=h) (K:=K) x.net y.net
 have q2:=fun h K=>NS (h:=h) (K:=K) x.part y.part
 have q3:=fun h K=>NS (h:=h) (K:=K) x.pin y.pin
 have q4:=fun h K=>zok (h:=h) (K:=K) [vA x.net y.net,vA x.part y.part,vA x.pin y.pin] (by simp)
 rw[or3]at q4;simp only[AL,List.map_cons,List.map_nil]at q4;unfold GB;simp only[jV,Jon.pv,go_sem,↓q1,q1,↓q2,q2,↓q3,q3,↓q4,q4]
def Jon.bx (j:Jon):Obj:=.box [AS j.net,AS j.part,AS j.pin]
def spP (s:List UInt8 × List UInt8):PV:=.agg [.str s.1,.str s.2]
def vG (b:Bool):AV:=.p (.bool b)
theorem tN:YH spP:=fun a b=>by
 obtain⟨a1,a2⟩:=a;obtain⟨b1,b2⟩:=b;have e:decide ((a1,a2)=(b1,b2))=(decide (a1=b1)&&(decide (a2=b2)&&true)):=by rw[Bool.eq_iff_iff];simp
 rw[e];rfl
theorem uN {s:List UInt8 × List UInt8}:UC (some 2,[2,2]) (.p (spP s))=some (spP s):=by simp [spP,UC,PV.key,PV.shp,PV.sc,PV.cells,PV.kind]
def bF (l:List Jon):List ((List UInt8×List UInt8)×Bool):=l.map fun x=>((x.part,x.pin),true)
theorem XW (x:Jon):∀l:List Jon,zA (x.part,x.pin) (bF l)=if l.any (iD x) then some true else none
 | []=>rfl
 | y::l=>by
  have ih:=XW x l
  unfold bF at ih ⊢;rw[List.map_cons];unfold zA;rw[ih,List.any_cons];have e:((x.part,x.pin)=(y.part,y.pin))↔iD x y=true:=by
   unfold iD;simp only[Prod.mk.injEq,Bool.and_eq_true,decide_eq_true_eq];exact⟨fun h=>⟨h.1.symm,h.2.symm⟩,fun h=>⟨h.1.symm,h.2.symm⟩⟩
  by_cases hc:iD x y=true
  ·rw[if_pos (e.2 hc),hc];rfl
  ·have hf:iD x y=false:=by simpa using hc
   rw[if_neg (fun z=>hc (e.1 z)),hf,Bool.false_or]
theorem zpL (l:List Jon)(x:Jon)(h:l.any (iD x)=false):oB (x.part,x.pin) true (bF l)=bF (l++[x]):=by
 have:SB (x.part,x.pin) (bF l)=none:=by
  have e:=WS (k:=(x.part,x.pin)) (l:=bF l)
  rw[XW,h]at e;simpa using e
 rw[cJ this];unfold bF;simp
theorem CZ (seen:List Jon)(x:Jon)(r:List Jon):twJ seen (x::r)=if seen.any (iD x) then true else twJ (seen++[x]) r:=rfl
theorem fX (b:Brd)(p:Option Jon)(x:Jon)(r:List Jon):dD b p (x::r)=if TB x.net=false then 5 else if OG b x.part x.pin=false then 8 else if(match p with|some q=>decide (GB x q≤0)|none=>false)=true then 7 else dD b (some x) r:=rfl
attribute [-go_sem] ZA kB
attribute [-go_sem] KQ AJ
theorem zor {K:Ex→St→Prop}(b:Brd)(hl:b.joins.length≤100000)(env:List (Nat × AV))(b1:aA env 1 = .ref h.length 0)
 (f6:twJ [] b.joins=true→∀H,K .ret ⟨[(2,AI 6)],h++H,[]⟩) (f0:twJ [] b.joins=false→∀H,K .ret ⟨[(2,AI 0)],h++H,[]⟩) :
 NW (kA X) X.gl MN ⟨env,h++[qA b],[]⟩ K:=by
 rw[KQ];have ln:(b.joins.map Jon.pv).length=b.joins.length:=List.length_map ..
 unfold qA;simp only[AJ,b1,go_sem,ln];refine VA (fun k:Nat=>⟨[(5,.mp (h.length+1)),(51,.p (.sl (some 3) (b.joins.map Jon.pv))),(52,AI b.joins.length),(53,AI k)],h++[qA b,BA spP vG (bF (b.joins.take k))],[]⟩) (fun k=>k≤b.joins.length∧twJ (b.joins.take k) (b.joins.drop k)=twJ [] b.joins) (fun k=>b.joins.length-k) 0 rfl ⟨by omega,rfl⟩ ?_
 rintro k ⟨hk,hp⟩
 rcases Nat.lt_or_ge k b.joins.length with hlt|hge
 ·have g:=XA Jon.pv hlt
  have c1:LA (some 3) 0 b.joins[k].pv=some b.joins[k].pv:=rfl
  have w2:IntKind.i64.wrap ((k:Int)+1)=((k+1:Nat):Int):=CA _ (by omega) (by omega)
  rw[List.drop_eq_getElem_cons hlt,CZ]at hp;have tk:b.joins.take (k+1)=b.joins.take k++[b.joins[k]]:=List.take_succ_eq_append_getElem hlt
  rw[←tk]at hp;generalize hx:b.joins[k]=x at *;generalize b.joins.take k=S at *;generalize hb:qA b=bo at *;have lk:=fun(hp:bA) (e:hp[h.length+1]?=some (BA spP vG (bF S)))=>iG (kk:=(some 2,[2,2])) (k:=(x.part,x.pin)) tN e uN (ok:=false) (z:=vG false)
  have up:=fun(hp:bA) (e:hp[h.length+1]?=some (BA spP vG (bF S)))=>JK (kk:=(some 2,[2,2])) (k:=(x.part,x.pin)) tN e uN (v:=true) rfl
  have l1:=fun t=>lk (h++bo::BA spP vG (bF S)::t) (by simp)
  have u1:=fun t=>up (h++bo::BA spP vG (bF S)::t) (by simp)
  rw[XW]at l1;simp only[vG,spP,cond_false,WB,AV.top]at l1 u1;simp only[Jon.pv]at g c1;cases hc:S.any (iD x) with
  | true=>
   rw[hc,if_pos rfl]at hp;rw[hc]at l1;simp only[if_true,Option.map_some,Option.getD_some,vG]at l1;simp only[go_sem,hlt,g,c1,l1];exact f6 hp.symm _
  | false=>
   rw[hc,if_neg (by simp)]at hp
   rw[hc]at l1;have us:=zpL S x hc
   simp only[Bool.false_eq_true,if_false,Option.map_none,Option.getD_none,vG]at l1;have nl0:¬h.length+1<0:=by omega
   simp only[nl0,if_false]at u1;rw[us]at u1;simp only[go_sem,hlt,g,c1,l1,u1,w2];refine⟨k+1,?_,⟨by omega,hp⟩,by omega⟩
   rw[tk]
 ·have e:k=b.joins.length:=by omega
  subst e;rw[List.drop_length,List.take_length]at hp;simp only[go_sem,Nat.lt_irrefl];exact f0 hp.symm _
end Go.Am
end
section
/- A board's joins,its nets,the whole of it: the program. -/
open Go
set_option linter.all false
set_option maxRecDepth 100000
namespace Go.Am
variable {h:bA} {K:nA}
attribute [-go_sem] ZA kB KQ AJ
structure JonsOk (b:Brd):Prop where
 l:b.joins.length≤12
 n:∀j∈b.joins,j.net.length≤1000000
theorem gG {α:Type}{l:List α}{k:Nat}(hk:k+1≤l.length):(l.take (k+1)).getLast?=l[k]?:=by
 rw[List.take_succ_eq_append_getElem (by omega),List.getLast?_append,List.getElem?_eq_getElem (by omega)]
 simp
theorem zoq (b:Brd)(hs:PE b.parts)(ho:sM b)(hj:JonsOk b):kA X rI [.p b.pv] h K=K (AI (SD b)) h []:=by
 refine IA ?_;rw[zdt rfl];have ln:(b.joins.map Jon.pv).length=b.joins.length:=List.length_map ..
 have hl:=hj.l
 unfold SD;have h1000:¬(1000:Int)<b.joins.length:=by omega
 rw[if_neg h1000];simp only[OP,Brd.pv,go_sem,ln,h1000];refine VA (fun k:Nat=>⟨[(1,.ref h.length 0),(14,.p (.sl (some 3) (b.joins.map Jon.pv))),(15,AI b.joins.length),(16,AI k)],h++[qA b],[]⟩) (fun k=>k≤b.joins.length∧dD b (b.joins.take k).getLast? (b.joins.drop k)=dD b none b.joins) (fun k=>b.joins.length-k) 0 rfl ⟨by omega,rfl⟩ ?_
 rintro k ⟨hk,hp⟩
 rcases Nat.lt_or_ge k b.joins.length with hlt|hge
 ·have g:=XA Jon.pv hlt
  have c1:LA (some 3) 0 b.joins[k].pv=some b.joins[k].pv:=rfl
  have w2:IntKind.i64.wrap ((k:Int)+1)=((k+1:Nat):Int):=CA _ (by omega) (by omega)
  rw[List.drop_eq_getElem_cons hlt,fX]at hp;have lg:(b.joins.take (k+1)).getLast?=some b.joins[k]:=by rw[gG (by omega),List.getElem?_eq_getElem hlt]
  have hx:=hj.n _ (List.getElem_mem hlt)
  have KY:=fun h K=>iZ (h:=h) (K:=K) b.joins[k].net (by omega)
  have PN:=fun h K=>zoy (h:=h) (K:=K) b b.joins[k].part b.joins[k].pin hs ho
  have BN:=fun(y:Jon) h K=>znU (h:=h) (K:=K) b.joins[k] y
  generalize hxx:b.joins[k]=x at *;simp only[Jon.pv]at g c1 BN;simp only[Brd.pv]at PN;unfold qA;cases hkey:TB x.net with
  | false=>
   rw[hkey,if_pos rfl]at hp;rw[hkey]at KY;rw[←hp];simp only[go_sem,hlt,g,c1,↓KY,KY]
  | true=>
   rw[hkey,if_neg (by simp)]at hp
   rw[hkey]at KY;cases hpin:OG b x.part x.pin with
   | false=>
    rw[hpin,if_pos rfl]at hp;rw[hpin]at PN;rw[←hp];simp only[go_sem,hlt,g,c1,↓KY,KY,↓PN,PN]
   | true=>
    rw[hpin,if_neg (by simp)]at hp
    rw[hpin]at PN;cases k with
    | zero=>
     rw[List.take_zero,List.getLast?_nil,if_neg (by simp)]at hp
     have hlt0:(0:Int)<b.joins.length:=by omega
     simp only[go_sem,hlt,hlt0,g,c1,↓KY,KY,↓PN,PN,Int.lt_irrefl,show((0:Nat):Int)=0 from rfl,show IntKind.i64.wrap 1=1 from rfl]
     refine⟨1,rfl,⟨by omega,?_⟩,by omega⟩
     rw[lg];exact hp
    | succ m=>
     have hm:m<b.joins.length:=by omega
     have gm:=XA Jon.pv hm
     have cm:LA (some 3) 0 b.joins[m].pv=some b.joins[m].pv:=rfl
     have wm:IntKind.i64.wrap (((m+1:Nat):Int)-1)=(m:Int):=by rw[CA _ (by omega) (by omega)];omega
     have p1:(0:Int)<((m+1:Nat):Int):=by omega
     rw[gG (by omega),List.getElem?_eq_getElem hm]at hp
     generalize b.joins[m]=y at *;have BN':=BN y
     simp only[Jon.pv]at gm cm BN';by_cases hc:GB x y≤0
     ·rw[if_pos (by simp [hc])]at hp
      rw[←hp];simp only[go_sem,hlt,g,c1,↓KY,KY,↓PN,PN,p1,wm,hm,gm,cm,↓BN',BN',hc]
     ·rw[if_neg (by simp [hc])]at hp
      simp only[go_sem,hlt,g,c1,↓KY,KY,↓PN,PN,p1,wm,hm,gm,cm,↓BN',BN',hc,w2];refine⟨m+1+1,rfl,⟨by omega,?_⟩,by omega⟩
      rw[lg];exact hp
 ·have e:k=b.joins.length:=by omega
  subst e;rw[List.drop_length]at hp;have z:dD b none b.joins=0:=hp.symm
  rw[if_neg (by simp [z])]
  simp only[go_sem,Nat.lt_irrefl];refine zor b (by omega) _ rfl (fun ht H=>?_) (fun ht H=>?_)
  ·rw[ht];simp only[go_sem]
  ·rw[ht];simp only[go_sem]
theorem zms (us:List (List UInt8)):∀x∈us.map PV.str,∀y∈us.map PV.str,jA .eql (.p x) (.p y)=some (AB (eqN (unS x) (unS y))):=fun x hx y hy=>by
 obtain⟨a,_,rfl⟩:=List.mem_map.1 hx;obtain⟨b,_,rfl⟩:=List.mem_map.1 hy;simp only[go_sem];rfl
theorem zmt (us:List (List UInt8)):∀x∈us.map PV.str,∀y∈us.map PV.str,jA .neq (.p x) (.p y)=some (AB (!eqN (unS x) (unS y))):=fun x hx y hy=>by
 obtain⟨a,_,rfl⟩:=List.mem_map.1 hx;obtain⟨b,_,rfl⟩:=List.mem_map.1 hy;simp only[go_sem];rfl
theorem hZ (us:List (List UInt8))(id:Nat)(hl:us.length≤100000)(hh:h[id]?=some (.row none (us.map PV.str) 0)) :
 ∃xs:List PV,xs.length=us.length∧win xs 0 (bC eqN us).length=(bC eqN us).map PV.str∧(bC eqN us).length≤us.length∧ZB none xs∧∀K:nA,kA X bG [.own id us.length 0 us.length] h K=K (.own id us.length 0 (bC eqN us).length) (h.set id (.row none xs 0)) []:=by
 have ec:bC (fun x y=>eqN (unS x) (unS y)) (us.map PV.str)=(bC eqN us).map PV.str:=zeL PV.str (fun x y=>rfl) _
 have cl:=z3a eqN us
 have C:=fun K=>z9y (h:=h) (K:=K) id (us.map PV.str) xZ (by simpa using hl) hh (q:=fun x y=>eqN (unS x) (unS y)) (zms us) (zmt us)
 rw[ec]at C;simp only[List.length_map]at C;refine⟨_,by simp;omega,by simp [win],cl,fun x hx=>?_,C⟩
 rcases List.mem_append.1 hx with hx|hx
 ·exact xZ x hx
 ·rw[(List.mem_replicate.1 hx).2];rfl
theorem MS (b:Brd)(hl:b.joins.length≤100000):∃xs:List PV,xs.length=b.joins.length∧win xs 0 (sA b).length=(sA b).map PV.str∧(sA b).length≤b.joins.length∧ZB none xs ∧
 ∀K:nA,kA X zE [.p b.pv] h K=K (.own (h.length+1) b.joins.length 0 (sA b).length) (h++[qA b,.row none xs 0]) []:=by
 have nl:(b.joins.map Jon.net).length=b.joins.length:=List.length_map ..
 obtain⟨xs,x1,x2,x3,x4,C⟩:=hZ (h:=h++[qA b,.row none ((b.joins.map Jon.net).map PV.str) 0]) (b.joins.map Jon.net) (h.length+1) (by simpa using hl) (by simp)
 rw[nl]at C x1 x3;have es:∀o,(h++[qA b,.row none ((b.joins.map Jon.net).map PV.str) 0]).set (h.length+1) o=h++[qA b,o]:=fun o=>by rw[List.set_append_right _ _ (by omega)];simp
 rw[es]at C;refine⟨xs,x1,x2,x3,x4,fun K=>IA ?_⟩
 rw[zdv rfl];have ln:(b.joins.map Jon.pv).length=b.joins.length:=List.length_map ..
 simp only[QP,Brd.pv,go_sem,ln];refine VA (fun k:Nat=>⟨[(3,.own (h.length+1) k 0 k),(7,.p (.sl (some 3) (b.joins.map Jon.pv))),(8,AI b.joins.length),(9,AI k)],h++[qA b,.row none (((b.joins.map Jon.net).take k).map PV.str) 0],[]⟩) (fun k=>k≤b.joins.length) (fun k=>b.joins.length-k) 0 (by simp;rfl) (by omega) ?_
 intro k hk;unfold qA;rcases Nat.lt_or_ge k b.joins.length with hlt|hge
 ·have g:=XA Jon.pv hlt
  have c1:LA (some 3) 0 b.joins[k].pv=some b.joins[k].pv:=rfl
  have w2:IntKind.i64.wrap ((k:Int)+1)=((k+1:Nat):Int):=CA _ (by omega) (by omega)
  have hn:k<(b.joins.map Jon.net).length:=by simpa using hlt
  have tk:(b.joins.map Jon.net).take (k+1)=(b.joins.map Jon.net).take k++[b.joins[k].net]:=by rw[List.take_succ_eq_append_getElem hn];simp
  have tl:(((b.joins.map Jon.net).take k).map PV.str).length=k:=by simp;omega
  have hm:k+1≤WA:=by unfold WA;omega
  generalize b.joins[k]=x at *;simp only[Jon.pv]at g c1;simp only[go_sem,hlt,g,c1,w2,tl,hm];refine⟨k+1,?_,by omega,by omega⟩
  rw[tk];simp
 ·have e:k=b.joins.length:=by omega
  subst e;have t0:(b.joins.map Jon.net).take b.joins.length=b.joins.map Jon.net:=List.take_of_length_le (by simp)
  unfold qA at C;unfold sA;rw[t0];generalize (b.joins.map Jon.net).map PV.str=us at *;simp only[go_sem,Nat.lt_irrefl,↓C,C];exact List.take_of_length_le (by simp;omega)
theorem gR (a b:List UInt8):(Op.bytesLess a b||decide (a=b))=decide (vA a b≤0):=by
 rw[oJ,Bool.eq_iff_iff];unfold ltS;simp only[Bool.or_eq_true,decide_eq_true_eq];constructor
 ·rintro (h|h)
  ·omega
  ·rw[h,vJ];omega
 ·intro h
  by_cases e:vA a b=0
  ·exact .inr (QF e)
  ·exact .inl (by omega)
end Go.Am
end
section
/- A text split at a byte. -/
set_option linter.all false
namespace Go.Am
end Go.Am
end
section
/- A text read line by line. -/
set_option linter.all false
namespace Go.Am
end Go.Am
end
section
/- Numbers in texts. -/
set_option linter.all false
namespace Go.Am
end Go.Am
end
section
/- Faults of nets: what the words mean,in plain Lean. -/
set_option linter.all false
namespace Go.Am
def z6J (c:UInt8):Bool:=[48,49].contains c
def KD (s:List UInt8):Bool:=s.all z6J
theorem aN (p:UInt8→Bool):∀l:List UInt8,l.dropWhile p=[]↔l.all p=true
 | []=>by simp
 | c::r=>by
  rw[List.dropWhile_cons,List.all_cons];cases hp:p c with
  | true=>simp only[if_true,Bool.true_and];exact aN p r
  | false=>simp
theorem zp9 (s:List UInt8):decide ((s.reverse.dropWhile ([48,49].contains ·)).reverse.dropWhile ([48,49].contains ·)=[])=KD s:=by
 rw[Bool.eq_iff_iff,decide_eq_true_eq,aN,List.all_reverse];have hb:KD s=s.all ([48,49].contains ·):=rfl
 rw[hb];constructor
 ·intro h
  rw[←aN]at h;have key:∀l:List UInt8,(l.dropWhile ([48,49].contains ·)).all ([48,49].contains ·)=true→l.all ([48,49].contains ·)=true:=by
   intro l;induction l with
   | nil=>intro _;rfl
   | cons c r ih=>
    rw[List.dropWhile_cons];split
    ·rename_i hp;intro h;rw[List.all_cons,hp,ih h];rfl
    ·exact id
  have:=key s.reverse ((aN _ _).1 h);rwa [List.all_reverse]at this
 ·intro h
  have key:∀l:List UInt8,l.all ([48,49].contains ·)=true→(l.dropWhile ([48,49].contains ·)).all ([48,49].contains ·)=true:=by
   intro l hl;rw[(aN _ l).2 hl];rfl
  exact key _ (by rwa [List.all_reverse])
structure Flt where
 kind:Int
 nets:List Int
 deriving DecidableEq
end Go.Am
end
section
/- Faults read: the program's line and the reference's line agree. -/
set_option linter.all false
namespace Go.Am
end Go.Am
end
section
/- Where a byte stands in a text. -/
open Go
set_option linter.all false
namespace Go.Am
variable {h:bA} {K:nA}
end Go.Am
end
section
/- The abstract machine,part L4: strings.Repeat,strings.Trim,math/bits.TrailingZeros64 asv rows. -/
set_option linter.all false
namespace Go.Am
variable {P:Program} {gl:Nat→Option PV}
open Go.Shelf
theorem z2j {w w':World}(h:Go.RowKit.Below w.heap.size w w'):WExt w w':=⟨h.size,fun b hb=>h.block b hb,by unfold zed;rw[h.os,h.tape,h.output]⟩
theorem z7c (s:List UInt8):∀c,Go.Lib.repeatL s c=TH s c
 | 0=>rfl
 | c+1=>by rw[Go.Lib.repeatL,TH,z7c s c]
theorem zr7 {ρ:Ren}(L:Go.Proofs.Lays.n105 P ρ)(E:Go.Proofs.Builder.Extra P ρ)(he:∀ us w,(callFunc (ρ.f 105) us).run P w = .ok (.enter (ρ.f 105) us) w):PureRow P gl (ρ.f 105) dM where
 enter:=he
 run M w vs r us hc hb hG hl hr hs:=by
  unfold dM at hs;split at hs
  ·rename_i s c
   split at hs
   ·rename_i hbd
    match us,hl with
    | [u,v],_=>
     have q:=hr 0 _ u rfl rfl
     cases q;have q2:=hr 1 _ v rfl rfl
     cases q2;simp only[Option.some.injEq]at hs
     subst hs;obtain⟨n,rfl⟩:=Int.eq_ofNat_of_zero_le hbd.1;have hsz:(⟨s.toArray⟩:ByteArray).size=s.length:=by simp [ByteArray.size]
     simp only[Int.toNat_natCast]at hbd ⊢;refine(Go.Proofs.Any.strings_Repeat L E ⟨s.toArray⟩ n w (by omega) (by rw[hsz];omega)).mono fun e w' h=>?_
     obtain⟨rfl,h⟩:=h;exact⟨_,rfl,z2j h,by rw[z7c];exact .p _ _ (.str _)⟩
   ·cases hs
  ·cases hs
theorem zlX (s cs:List UInt8):Go.Lib.trimS s cs=yO s cs:=rfl
theorem trimRow {ρ:Ren}(L:Go.Proofs.Lays.n160 P ρ)(h116:(P.info? (ρ.t 116)).map (fun i=>(i.zero,i.size))=some (some (.agg (Array.replicate 256 (.bool false))),256))(he:∀ us w,(callFunc (ρ.f 160) us).run P w = .ok (.enter (ρ.f 160) us) w):PureRow P gl (ρ.f 160) trimS where
 enter:=he
 run M w vs r us hc hb hG hl hr hs:=by
  unfold trimS at hs;split at hs
  ·rename_i s cs
   split at hs
   ·rename_i hbd
    match us,hl with
    | [u,v],_=>
     have q:=hr 0 _ u rfl rfl
     cases q;have q2:=hr 1 _ v rfl rfl
     cases q2;simp only[Option.some.injEq]at hs
     subst hs;have hsz:∀l:List UInt8,(⟨l.toArray⟩:ByteArray).size=l.length:=fun l=>by simp [ByteArray.size]
     refine(Go.Proofs.Any.strings_Trim_laid L h116 ⟨s.toArray⟩ ⟨cs.toArray⟩ w (by rw[hsz];omega) (by rw[hsz];omega) (Go.Proofs.ascii_of_all hbd.2.2)).mono fun e w' h=>?_
     obtain⟨rfl,h⟩:=h;exact⟨_,rfl,z2j h,by rw[←zlX];exact .p _ _ (.str _)⟩
   ·cases hs
  ·cases hs
end Go.Am
end
section
/- The abstract machine,part L5: strings.Count at one byte,strings.Join asv rows. -/
set_option linter.all false
namespace Go.Am
variable {P:Program} {gl:Nat→Option PV}
open Go.Shelf
end Go.Am
end
section
/- Texts split at a byte. -/
open Go
set_option linter.all false
namespace Go.Am
variable {h:bA} {K:nA}
end Go.Am
end
section
/- Lines of a text. -/
open Go
set_option linter.all false
namespace Go.Am
variable {h:bA} {K:nA}
end Go.Am
end
section
/- Numbers read. -/
open Go
set_option linter.all false
namespace Go.Am
variable {h:bA} {K:nA}
end Go.Am
end
section
/- Several numbers read. -/
open Go
set_option linter.all false
namespace Go.Am
variable {h:bA} {K:nA}
end Go.Am
end
section
/- Numbers read,the reference's way. -/
open Go
set_option linter.all false
namespace Go.Am
variable {h:bA} {K:nA}
end Go.Am
end
section
/- Tests and faults: what is wrong with them,both ways. -/
open Go
set_option linter.all false
namespace Go.Am
variable {h:bA} {K:nA}
theorem znS (s cs:List UInt8)(hs:s.length≤1000000)(hc:cs.length≤1000)(ha:cs.all (fun b=>decide (b.toNat<128))=true):kA X BK [AS s,AS cs] h K=K (AS (yO s cs)) h []:=by
 refine oX (X:=X) (by kernel_rfl) ?_
 rw[z1N];show KH GRL PRL BK [AS s,AS cs] h=some (AS (yO s cs),h,[])
 exact z7b (vs:=[.str s,.str cs]) (by kernel_rfl) (s:=trimS) (by kernel_rfl) rfl (by simp only[trimS];rw[if_pos ⟨hs,hc,ha⟩])
theorem znB (s:List UInt8)(hs:s.length≤1000000):kA X mI [AS s] h K=K (AB (KD s)) h []:=by
 refine IA ?_;rw[zdb rfl];have e:=fun h K=>znS (h:=h) (K:=K) s [48,49] hs (by simp) (by decide)
 have b:decide (yO s [48,49]=[])=KD s:=zp9 s
 simp only[dV,go_sem,e,b]
theorem znC (s:List UInt8)(hs:s.length≤1000000):kA X bK [AS s] h K=K (AB (KD s)) h []:=by
 refine IA ?_;rw[zdK rfl];have e:=fun h K=>pZ (h:=h) (K:=K) s [48,49] (by omega)
 have b:(s.all fun c=>[48,49].contains c)=KD s:=rfl
 simp only[TV,go_sem,e,b]
end Go.Am
end
section
/- Faults: what is wrong with them,both ways. -/
open Go
set_option linter.all false
namespace Go.Am
variable {h:bA} {K:nA}
def Flt.pv (f:Flt):PV:=.agg [eI f.kind,.sl none (f.nets.map eI)]
end Go.Am
end
section
/- Where a string stands among strings;words. -/
open Go
set_option linter.all false
namespace Go.Am
variable {h:bA} {K:nA}
theorem zbm {v:AV}(l:List (List UInt8))(hv:Shows none v (l.map PV.str) h)(x:List UInt8)(hl:l.length≤1000000):kA X HI [v,AS x] h K=K (AI (if l.findIdx (fun y=>decide (y=x))<l.length then(l.findIdx (fun y=>decide (y=x)):Int) else -1)) h []:=by
 refine IA ?_;rw[zey];have vl:=hv.len
 rw[List.length_map]at vl;simp only[EQ,go_sem,vl];refine VA (fun k:Nat=>⟨[(0,v),(1,AS x),(7,AI l.length),(8,AI k)],h,[]⟩) (fun k=>k≤l.length∧∀y∈l.take k,decide (y=x)=false) (fun k=>l.length-k) 0 rfl (by simp) ?_
 rintro k ⟨hk,hn⟩
 rcases Nat.lt_or_ge k l.length with hlt|hge
 ·obtain⟨a,ha,hb⟩:=hv.get k (by simpa using hlt)
  rw[List.getElem_map]at hb;have w2:IntKind.i64.wrap ((k:Int)+1)=((k+1:Nat):Int):=CA _ (by omega) (by omega)
  by_cases hpk:x=l[k]
  ·have hf:l.findIdx (fun y=>decide (y=x))=k:=by
    rw[List.findIdx_eq hlt];refine⟨by simp [hpk],fun j hj=>?_⟩
    have:=hn l[j] (by rw[List.mem_take_iff_getElem];exact⟨j,by omega,rfl⟩)
    simpa using this
   simp only[go_sem,hlt,ha,hb,hpk.symm,w2];simp only[hf,hlt,if_true]
  ·simp only[go_sem,hlt,ha,hb,hpk,w2]
   refine⟨k+1,rfl,⟨by omega,fun y hy=>?_⟩,by omega⟩
   rw[List.take_succ_eq_append_getElem hlt,List.mem_append,List.mem_singleton]at hy;rcases hy with hy|hy
   ·exact hn y hy
   ·rw[hy];simp;exact fun e=>hpk e.symm
 ·have e1:k=l.length:=by omega
  subst e1;simp only[go_sem,Nat.lt_irrefl];rw[List.take_length]at hn;have:¬l.findIdx (fun y=>decide (y=x))<l.length:=by
   rw[Nat.not_lt,Nat.le_iff_lt_or_eq];right
   exact(List.findIdx_eq_length.2 (fun y hy=>by simp [hn y hy])).symm
  rw[if_neg this]
theorem WZ {v:AV}(l:List (List UInt8))(hv:∀ h':bA,h'=h→Shows none v (l.map PV.str) h')(x:List UInt8)(hl:l.length≤1000000):kA X DG [v,AS x] h K=K (AB (l.contains x)) h []:=by
 refine IA ?_;rw[zep];have e:=fun K=>zbm (h:=h) (K:=K) l (hv h rfl) x hl
 have hd:decide (0≤(if l.findIdx (fun y=>decide (y=x))<l.length then(l.findIdx (fun y=>decide (y=x)):Int) else -1))=l.contains x:=by
  rw[Bool.eq_iff_iff,decide_eq_true_eq,List.contains_iff_mem];constructor
  ·intro hq
   split at hq
   ·rename_i hlt
    have:=List.findIdx_getElem (w:=hlt);simp only[decide_eq_true_eq]at this;exact this ▸ List.getElem_mem hlt
   ·omega
  ·intro hm
   rw[if_pos (List.findIdx_lt_length_of_exists ⟨x,hm,by simp⟩)];omega
 simp only[mW,go_sem,e,hd]
end Go.Am
end
section
/- A board,whole: the program. -/
open Go
set_option linter.all false
set_option maxRecDepth 100000
namespace Go.Am
variable {h:bA} {K:nA}
attribute [-go_sem] ZA kB
theorem LY (p:Option Prt)(x:Prt)(r:List Prt):NC p (x::r)=if TB x.key=false then 5 else if(match p with|some q=>decide (vA x.key q.key≤0)|none=>false)=true then 7 else if nD x.cells≠0 then nD x.cells else NC (some x) r:=rfl
theorem TY (nets:List (List UInt8))(p:Option Pul)(x:Pul)(r:List Pul):HE nets p (x::r)=if nets.contains x.net=false then 8 else if inB 0 x.level 1=false then 1 else if(match p with|some q=>decide (vA x.net q.net≤0)|none=>false)=true then 7 else HE nets (some x) r:=rfl
theorem ZL:∀ (l:List Prt)(p:Option Prt),NC p l=0→(∀q,p=some q→∀x∈l,vA q.key x.key<0)∧PE l∧∀x∈l,TB x.key=true∧nD x.cells=0
 | [],p,_=>⟨fun _ _ _ h=>(by cases h),List.Pairwise.nil,fun _ h=>(by cases h)⟩
 | x::r,p,h=>by
  rw[LY]at h;cases hk:TB x.key with
  | false=>rw[hk,if_pos rfl]at h;cases h
  | true=>
   rw[hk,if_neg (by simp)]at h
   generalize hb:(match p with|some q=>decide (vA x.key q.key≤0)|none=>false)=c7 at h
   cases c7 with
   | true=>rw[if_pos rfl]at h;cases h
   | false=>
    rw[if_neg (by simp)]at h
    by_cases hc:nD x.cells=0
    ·rw[if_neg (by simp [hc])]at h
     obtain⟨i1,i2,i3⟩:=ZL r (some x) h;have i1':=i1 x rfl
     have px:∀q,p=some q→vA q.key x.key<0:=fun q hq=>by
      subst hq;simp only[decide_eq_false_iff_not]at hb;have:=wE x.key q.key;omega
     refine⟨fun q hq y hy=>?_,List.pairwise_cons.2 ⟨i1',i2⟩,fun y hy=>?_⟩
     ·rcases List.mem_cons.1 hy with e|hy
      ·rw[e];exact px q hq
      ·exact jI (px q hq) (i1' y hy)
     ·rcases List.mem_cons.1 hy with e|hy
      ·rw[e];exact⟨hk,hc⟩
      ·exact i3 y hy
    ·rw[if_pos hc]at h;exact absurd h hc
structure BrdOk (b:Brd):Prop where
 c:sM b
 j:JonsOk b
 p:b.pulls.length≤1000
 k:∀p∈b.parts,p.key.length≤1000000
attribute [-go_sem] BW zJ
theorem znF {K:Ex→St→Prop}(b:Brd)(ho:BrdOk b)(hs:PE b.parts)(env:List (Nat × AV))(b1:aA env 1 = .ref h.length 0)(v:Int)
 (hv:(if SD b≠0 then SD b else if(100:Int)<(sA b).length then 2 else HE (sA b) none b.pulls)=v)
 (fin:∀H,K .ret ⟨[(2,AI v)],h++H,[]⟩) :
 NW (kA X) X.gl HN ⟨env,h++[qA b],[]⟩ K:=by
 rw[BW];have JF:=fun h K=>zoq (h:=h) (K:=K) b hs ho.c ho.j
 have ln:(b.pulls.map Pul.pv).length=b.pulls.length:=List.length_map ..
 have hl:=ho.p
 obtain⟨xs,x1,x2,x3,x4,NM⟩:=MS (h:=h++[qA b]) b (by have:=ho.j.l;omega)
 simp only[Brd.pv]at JF NM;unfold qA at NM ⊢;by_cases hz:SD b=0
 ·rw[if_neg (by simp [hz])]at hv
  rw[hz]at JF;have j12:=ho.j.l
  have h100:¬(100:Int)<(sA b).length:=by omega
  rw[if_neg h100]at hv;simp only[zJ,b1,go_sem,↓JF,JF,↓NM,NM,h100,ln];refine VA (fun k:Nat=>⟨[(1,.ref h.length 0),(7,.own (h.length+1+1) b.joins.length 0 (sA b).length),(59,.p (.sl (some 2) (b.pulls.map Pul.pv))),(60,AI b.pulls.length),(61,AI k)],h++[qA b,qA b,.row none xs 0],[]⟩) (fun k=>k≤b.pulls.length∧HE (sA b) (b.pulls.take k).getLast? (b.pulls.drop k)=v) (fun k=>b.pulls.length-k) 0 (by first|rfl|skip) ⟨by omega,hv⟩ ?_
  rintro k ⟨hk,hp⟩
  have SH:∀T:bA,Shows none (.own (h.length+1+1) b.joins.length 0 (sA b).length) ((sA b).map PV.str) (h++qA b::qA b :: .row none xs 0::T):=fun T=>by
   have:=qO (h:=h++qA b::qA b :: .row none xs 0::T) (id:=h.length+1+1) (off:=0) (len:=(sA b).length) (fz:=0) x4 (by rw[List.getElem?_append_right (by omega),show h.length+1+1-h.length=2 by omega];rfl) (by omega)
   rw[x1,x2]at this;exact this
  have CT:=fun(T:bA) (s:List UInt8) K=>WZ (h:=h++qA b::qA b :: .row none xs 0::T) (K:=K) (sA b) (fun h' e=>by rw[e];exact SH T) s (by omega)
  unfold qA at CT ⊢;rcases Nat.lt_or_ge k b.pulls.length with hlt|hge
  ·have g:=XA Pul.pv hlt
   have c1:LA (some 2) 0 b.pulls[k].pv=some b.pulls[k].pv:=rfl
   have w2:IntKind.i64.wrap ((k:Int)+1)=((k+1:Nat):Int):=CA _ (by omega) (by omega)
   rw[List.drop_eq_getElem_cons hlt,TY]at hp;have lg:(b.pulls.take (k+1)).getLast?=some b.pulls[k]:=by rw[gG (by omega),List.getElem?_eq_getElem hlt]
   generalize hxx:b.pulls[k]=x at *;have CX:=fun T K=>CT T x.net K
   have OB:=fun h K=>JS (h:=h) (K:=K) x.level 0 1
   simp only[Pul.pv,eI]at g c1;cases hcn:(sA b).contains x.net with
   | false=>
    rw[hcn,if_pos rfl]at hp;rw[hcn]at CX;subst hp;simp only[go_sem,hlt,g,c1,↓CX,CX];exact fin _
   | true=>
    rw[hcn,if_neg (by simp)]at hp
    rw[hcn]at CX;cases hlv:inB 0 x.level 1 with
    | false=>
     rw[hlv,if_pos rfl]at hp;rw[hlv]at OB;subst hp;simp only[go_sem,hlt,g,c1,↓CX,CX,↓OB,OB];exact fin _
    | true=>
     rw[hlv,if_neg (by simp)]at hp
     rw[hlv]at OB;cases k with
     | zero=>
      rw[List.take_zero,List.getLast?_nil,if_neg (by simp)]at hp
      have hlt0:(0:Int)<b.pulls.length:=by omega
      simp only[go_sem,hlt,hlt0,g,c1,↓CX,CX,↓OB,OB,Int.lt_irrefl,show((0:Nat):Int)=0 from rfl,show IntKind.i64.wrap 1=1 from rfl]
      refine⟨1,rfl,⟨by omega,?_⟩,by omega⟩
      rw[lg];exact hp
     | succ m=>
      have hm:m<b.pulls.length:=by omega
      have gm:=XA Pul.pv hm
      have cm:LA none 0 b.pulls[m].pv=some (.str b.pulls[m].net):=rfl
      have wm:IntKind.i64.wrap (((m+1:Nat):Int)-1)=(m:Int):=by rw[CA _ (by omega) (by omega)];omega
      have p1:(0:Int)<((m+1:Nat):Int):=by omega
      rw[gG (by omega),List.getElem?_eq_getElem hm]at hp
      generalize b.pulls[m]=y at *;have le:=gR x.net y.net
      by_cases hc:vA x.net y.net≤0
      ·rw[if_pos (by simp [hc])]at hp
       subst hp;simp only[go_sem,hlt,g,c1,↓CX,CX,↓OB,OB,p1,wm,hm,gm,cm,le,hc];exact fin _
      ·rw[if_neg (by simp [hc])]at hp
       simp only[go_sem,hlt,g,c1,↓CX,CX,↓OB,OB,p1,wm,hm,gm,cm,le,hc,w2];refine⟨m+1+1,rfl,⟨by omega,?_⟩,by omega⟩
       rw[lg];exact hp
  ·have e:k=b.pulls.length:=by omega
   subst e;rw[List.drop_length]at hp;have z:v=0:=hp.symm
   subst z;simp only[go_sem,Nat.lt_irrefl];exact fin _
 ·rw[if_pos hz]at hv
  subst hv;have e12:jA .neq (.p (.int .i64 (SD b))) (.p (.int .i64 0))=some (AB true):=by simp only[go_sem,hz]
  simp only[zJ,b1,go_sem,↓JF,JF,↓e12];exact fin _
theorem uP {b:Brd}(ho:sM b){p:Prt}(hp:p∈b.parts):(∀c∈p.cells,c.pin.length≤1000000)∧p.cells.length≤100000:=⟨(ho.2 p hp).2,(ho.2 p hp).1⟩
theorem z8q (b:Brd)(ho:BrdOk b):kA X BG [.p b.pv] h K=K (AI (PC b)) h []:=by
 refine IA ?_;rw[zdg rfl];have ln:(b.parts.map Prt.pv).length=b.parts.length:=List.length_map ..
 unfold PC;by_cases h40:(40:Int)<b.parts.length
 ·rw[if_pos h40]
  simp only[GM,Brd.pv,go_sem,ln,h40]
 rw[if_neg h40];simp only[GM,Brd.pv,go_sem,ln,h40];refine VA (fun k:Nat=>⟨[(1,.ref h.length 0),(15,aC b.parts),(16,AI b.parts.length),(17,AI k)],h++[qA b],[]⟩) (fun k=>k≤b.parts.length∧NC (b.parts.take k).getLast? (b.parts.drop k)=NC none b.parts) (fun k=>b.parts.length-k) 0 rfl ⟨by omega,rfl⟩ ?_
 rintro k ⟨hk,hp⟩
 unfold qA;rcases Nat.lt_or_ge k b.parts.length with hlt|hge
 ·have g:=XA Prt.pv hlt
  have c1:LA (some 2) 0 b.parts[k].pv=some b.parts[k].pv:=rfl
  have w2:IntKind.i64.wrap ((k:Int)+1)=((k+1:Nat):Int):=CA _ (by omega) (by omega)
  rw[List.drop_eq_getElem_cons hlt,LY]at hp;have lg:(b.parts.take (k+1)).getLast?=some b.parts[k]:=by rw[gG (by omega),List.getElem?_eq_getElem hlt]
  have xm:=List.getElem_mem hlt
  generalize hxx:b.parts[k]=x at *;have KY:=fun h K=>iZ (h:=h) (K:=K) x.key (by have:=ho.k x xm;omega)
  have CF:=fun h K=>zob (h:=h) (K:=K) x (uP ho.c xm).1 (uP ho.c xm).2
  simp only[Prt.pv]at g c1 CF;cases hkey:TB x.key with
  | false=>
   rw[hkey,if_pos rfl]at hp;rw[hkey]at KY;rw[←hp];simp only[go_sem,hlt,g,c1,↓KY,KY]
  | true=>
   rw[hkey,if_neg (by simp)]at hp
   rw[hkey]at KY;generalize hz:nD x.cells=z at *;have stp:(if z≠0 then z else NC (some x) (b.parts.drop (k+1)))=NC none b.parts→((z≠0∧NC none b.parts=z)∨(z=0∧NC (some x) (b.parts.drop (k+1))=NC none b.parts)):=fun e=>by
    by_cases q:z=0
    ·right;rw[if_neg (by simp [q])]at e;exact⟨q,e⟩
    ·left;rw[if_pos q]at e;exact⟨q,e.symm⟩
   cases k with
   | zero=>
    rw[List.take_zero,List.getLast?_nil,if_neg (by simp)]at hp
    have hlt0:(0:Int)<b.parts.length:=by omega
    rcases stp hp with⟨q,e⟩|⟨q,e⟩
    ·rw[e,if_pos q]
     have e12:jA .neq (.p (.int .i64 z)) (.p (.int .i64 0))=some (AB true):=by simp only[go_sem,q]
     simp only[go_sem,hlt,hlt0,g,c1,↓KY,KY,Int.lt_irrefl,show((0:Nat):Int)=0 from rfl,↓CF,CF,↓e12]
    ·subst q
     simp only[go_sem,hlt,hlt0,g,c1,↓KY,KY,Int.lt_irrefl,show((0:Nat):Int)=0 from rfl,↓CF,CF,show IntKind.i64.wrap 1=1 from rfl]
     refine⟨1,rfl,⟨by omega,?_⟩,by omega⟩
     rw[lg];exact e
   | succ m=>
    have hm:m<b.parts.length:=by omega
    have gm:=XA Prt.pv hm
    have cm:LA none 0 b.parts[m].pv=some (.str b.parts[m].key):=rfl
    have wm:IntKind.i64.wrap (((m+1:Nat):Int)-1)=(m:Int):=by rw[CA _ (by omega) (by omega)];omega
    have p1:(0:Int)<((m+1:Nat):Int):=by omega
    rw[gG (by omega),List.getElem?_eq_getElem hm]at hp
    generalize b.parts[m]=y at *;have le:=gR x.key y.key
    by_cases hc:vA x.key y.key≤0
    ·rw[if_pos (by simp [hc])]at hp
     rw[←hp,if_pos (by decide)]
     simp only[go_sem,hlt,g,c1,↓KY,KY,p1,wm,hm,gm,cm,le,hc]
    ·rw[if_neg (by simp [hc])]at hp
     rcases stp hp with⟨q,e⟩|⟨q,e⟩
     ·rw[e,if_pos q]
      have e12:jA .neq (.p (.int .i64 z)) (.p (.int .i64 0))=some (AB true):=by simp only[go_sem,q]
      simp only[go_sem,hlt,g,c1,↓KY,KY,p1,wm,hm,gm,cm,le,hc,↓CF,CF,↓e12]
     ·subst q
      simp only[go_sem,hlt,g,c1,↓KY,KY,p1,wm,hm,gm,cm,le,hc,↓CF,CF,w2];refine⟨m+1+1,rfl,⟨by omega,?_⟩,by omega⟩
      rw[lg];exact e
 ·have e:k=b.parts.length:=by omega
  subst e;rw[List.drop_length]at hp;have z:NC none b.parts=0:=hp.symm
  rw[if_neg (by simp [z])]
  simp only[go_sem,Nat.lt_irrefl];refine znF b ho (ZL _ _ z).2.1 _ rfl _ rfl fun H=>?_
  simp only[go_sem]
end Go.Am
end
section
/- Boards,plainly: nets of pins,cells on nets. -/
set_option linter.all false
namespace Go.Am
abbrev Nm2:=List UInt8
def AC (l:List Jon):List ((Nm2×Nm2)×Nm2):=l.map fun j=>((j.part,j.pin),j.net)
theorem ZQ (part pin:Nm2):∀l:List Jon,zA (part,pin) (AC l)=(l.find? fun j=>decide (j.part=part)&&decide (j.pin=pin)).map Jon.net
 | []=>rfl
 | y::l=>by
  have ih:=ZQ part pin l
  unfold AC at ih ⊢;rw[List.map_cons];unfold zA;rw[ih,List.find?_cons];have e:((part,pin)=(y.part,y.pin))↔(decide (y.part=part)&&decide (y.pin=pin))=true:=by
   simp only[Prod.mk.injEq,Bool.and_eq_true,decide_eq_true_eq];exact⟨fun h=>⟨h.1.symm,h.2.symm⟩,fun h=>⟨h.1.symm,h.2.symm⟩⟩
  cases hc:(decide (y.part=part)&&decide (y.pin=pin)) with
  | true=>rw[if_pos (e.2 hc)];rfl
  | false=>rw[if_neg fun z=>by rw[e.1 z]at hc;cases hc]
def yD (b:Brd)(part pin:Nm2):Option Nm2:=(b.joins.find? fun j=>decide (j.part=part)&&decide (j.pin=pin)).map Jon.net
theorem zmr {l:List Jon}{x:Jon}(h:l.any (iD x)=false):SB (x.part,x.pin) (AC l)=none:=by
 have e:=WS (k:=(x.part,x.pin)) (l:=AC l)
 rw[ZQ]at e;have:l.find? (fun j=>decide (j.part=x.part)&&decide (j.pin=x.pin))=none:=by
  rw[List.find?_eq_none];intro y hy;have:=List.any_eq_false.1 h y hy;unfold iD at this;exact this
 rw[this]at e;simpa using e
theorem z8X:∀ (l seen:List Jon),twJ seen l=false→∀k (hk:k<l.length),(seen++l.take k).any (iD l[k])=false
 | [],_,_,k,hk=>by simp at hk
 | x::r,seen,h,k,hk=>by
  rw[CZ]at h;cases hs:seen.any (iD x) with
  | true=>rw[hs,if_pos rfl]at h;cases h
  | false=>
   rw[hs,if_neg (by simp)]at h
   cases k with
   | zero=>simpa using hs
   | succ k=>
    have:=z8X r (seen++[x]) h k (by simpa using hk)
    simpa using this
end Go.Am
end
section
/- Boards,plainly: cells on nets,in groups. -/
set_option linter.all false
namespace Go.Am
def wG (b:Brd)(kind:Int)(i:Nat)(key:Nm2)(ck:Cel × Nat):Option (Nm2×(Nat×Nat)):=if ck.1.kind=kind then(yD b key ck.1.pin).map fun n=>(n,(i,ck.2)) else none
def inL (b:Brd)(kind:Int)(i:Nat)(p:Prt)(k:Nat):List (Nm2×(Nat×Nat)):=((p.cells.take k).zipIdx).filterMap (wG b kind i p.key)
def EB (b:Brd)(kind:Int)(i:Nat):List (Nm2×(Nat×Nat)):=((b.parts.take i).zipIdx).flatMap fun pi=>inL b kind pi.2 pi.1 pi.1.cells.length
theorem z6D {b:Brd}{kind:Int}{i:Nat}{p:Prt}{k:Nat}(hk:k<p.cells.length):inL b kind i p (k+1)=inL b kind i p k++(wG b kind i p.key (p.cells[k],k)).toList:=by
 unfold inL;have hl:(p.cells.take k).length=k:=by simp;omega
 rw[List.take_succ_eq_append_getElem hk,List.zipIdx_append,List.filterMap_append,hl];simp only[List.zipIdx_cons,List.zipIdx_nil,Nat.zero_add];cases hc:wG b kind i p.key (p.cells[k],k) with
 | none=>simp [List.filterMap_cons,hc]
 | some v=>simp [List.filterMap_cons,hc]
theorem sR {b:Brd}{kind:Int}{i:Nat}(hi:i<b.parts.length):EB b kind (i+1)=EB b kind i++inL b kind i b.parts[i] b.parts[i].cells.length:=by
 unfold EB;have hl:(b.parts.take i).length=i:=by simp;omega
 rw[List.take_succ_eq_append_getElem hi,List.zipIdx_append,List.flatMap_append,hl];simp
def grp (P:List (Nm2 × (Nat × Nat)))(n:Nm2):List (Nat×Nat):=(P.filter fun e=>decide (e.1=n)).map Prod.snd
theorem z6B (P:List (Nm2 × (Nat × Nat)))(m:Nm2)(p:Nat × Nat)(n:Nm2):grp (P++[(m,p)]) n=if n=m then grp P n++[p] else grp P n:=by
 unfold grp;rw[List.filter_append,List.map_append];by_cases h:n=m
 ·subst h;simp
 ·rw[if_neg h]
  have:¬m=n:=fun e=>h e.symm
  simp [this]
abbrev CM:=List (Nm2 × (Nat × List (Nat × Nat)))
def eJ (M:CM)(P:List (Nm2 × (Nat × Nat))):Prop:=∀n,(zA n M).map Prod.snd=if grp P n=[] then none else some (grp P n)
theorem z6C {M:CM}{P:List (Nm2 × (Nat × Nat))}(h:eJ M P)(m:Nm2)(rid:Nat)(p:Nat × Nat):eJ (oB m (rid,grp P m++[p]) M) (P++[(m,p)]):=by
 intro n;rw[FH,z6B];by_cases e:n=m
 ·subst e
  rw[if_pos rfl,if_pos rfl,if_neg (by simp)];rfl
 ·rw[if_neg e,if_neg e];exact h n
end Go.Am
end
section
/- Boards,plainly: the levels of nets. -/
set_option linter.all false
namespace Go.Am
def bz (z:UInt8):Int:=if z=49 then 1 else 0
def EC (s:List UInt8)(k:Nat):Int:=bz (s.getD k 48)
def cN (b:Brd)(bits:List Nm2)(d:Option Int)(p:Nat × Nat):Option Int:=
 match (b.parts[p.1]?).bind (fun x=>x.cells[p.2]?),bits[p.1]? with
 | some c,some s=>if 0≤c.ctl∧EC s c.ctl.toNat=c.off then d else
  match d with
  | none=>some (EC s p.2)
  | some v=>if v=EC s p.2 then some v else some 3
 | _,_=>d
def FC (b:Brd)(bits:List Nm2)(l:List (Nat × Nat)):Option Int:=l.foldl (cN b bits) none
def WE (l:List Nm2):List (Nm2×Int):=l.foldl (fun M n=>oB n 2 M) []
def nE (M:List (Nm2 × Int))(l:List Pul):List (Nm2×Int):=l.foldl (fun M p=>oB p.net p.level M) M
def EE (b:Brd):List (Nm2×Int):=nE (WE (sA b)) b.pulls
def lB (b:Brd)(bits:List Nm2):List (Nm2×Int):=(EE b).map fun e=>(e.1,(FC b bits (grp (EB b 2 b.parts.length) e.1)).getD e.2)
theorem zlR (l:List Nm2)(n:Nm2):WE (l++[n])=oB n 2 (WE l):=by unfold WE;rw[List.foldl_append];rfl
theorem zlS (M:List (Nm2 × Int))(l:List Pul)(p:Pul):nE M (l++[p])=oB p.net p.level (nE M l):=by unfold nE;rw[List.foldl_append];rfl
theorem z5s (b:Brd)(bits:List Nm2)(l:List (Nat × Nat))(p:Nat × Nat):FC b bits (l++[p])=cN b bits (FC b bits l) p:=by unfold FC;rw[List.foldl_append];rfl
theorem zlQ:∀ (l:List Nm2)(n:Nm2),n∈l→n∈zB (WE l):=by
 intro l n hn;have key:∀(l:List Nm2) (M:List (Nm2×Int)),(n∈l∨n∈zB M)→n∈zB (l.foldl (fun M n=>oB n 2 M) M):=by
  intro l;induction l with
  | nil=>intro M h;exact h.resolve_left (by simp)
  | cons x r ih=>
   intro M h;rw[List.foldl_cons];refine ih _ ?_;rw[wN];rcases h with h|h
   ·rcases List.mem_cons.1 h with e|h
    ·right;subst e;split
     ·assumption
     ·simp
    ·exact .inl h
   ·right;split
    ·exact h
    ·simp [h]
 exact key l [] (.inl hn)
theorem z7a:∀ (l:List Pul)(M:List (Nm2 × Int))(n:Nm2),n∈zB M→n∈zB (nE M l)
 | [],M,n,h=>h
 | p::r,M,n,h=>by
  have:nE M (p::r)=nE (oB p.net p.level M) r:=rfl
  rw[this];refine z7a r _ n ?_;rw[wN];split
  ·exact h
  ·simp [h]
theorem zlT {b:Brd}{n:Nm2}(h:n∈sA b):n∈zB (EE b):=z7a _ _ _ (zlQ _ _ h)
theorem UW {α:Type}(f:α→Nm2)(g:α→Int):∀(l:List α) (M:List (Nm2×Int)),(zB M).Nodup→(zB (l.foldl (fun M x=>oB (f x) (g x) M) M)).Nodup
 | [],M,h=>h
 | x::r,M,h=>by rw[List.foldl_cons];exact UW f g r _ (lX _ _ h)
theorem zlU (b:Brd):(zB (EE b)).Nodup:=UW Pul.net Pul.level _ _ (UW id (fun _=>2) _ [] List.nodup_nil)
theorem z7i {β:Type}:∀{M M':List (Nm2×β)},zB M=zB M'→(zB M).Nodup→(∀n∈zB M,zA n M=zA n M')→M=M'
 | [],[],_,_,_=>rfl
 | [],e::r,h,_,_=>by cases h
 | e::r,[],h,_,_=>by cases h
 | e::r,e'::r',h,nd,hg=>by
  rw[KG,KG]at h;injection h with h1 h2
  rw[KG,List.nodup_cons]at nd;have a:=hg e.1 (by rw[KG];simp)
  unfold zA at a;rw[if_pos rfl,if_pos h1]at a;have e2:e=e':=by
   cases e;cases e';simp at a h1;rw[a,h1]
  have tl:r=r':=z7i h2 nd.2 fun n hn=>by
   have b:=hg n (by rw[KG];exact List.mem_cons_of_mem _ hn)
   have ne:n≠e.1:=fun q=>nd.1 (by rw[←q];exact hn)
   unfold zA at b;rw[if_neg ne,if_neg (by rw[←h1];exact ne)]at b
   exact b
  rw[e2,tl]
theorem YW {β γ:Type}(f:Nm2→β→γ)(n:Nm2):∀(M:List (Nm2×β)),zA n (M.map fun e=>(e.1,f e.1 e.2))=(zA n M).map (f n)
 | []=>rfl
 | e::r=>by
  rw[List.map_cons];unfold zA;by_cases h:n=e.1
  ·rw[if_pos h,if_pos h,h];rfl
  ·rw[if_neg h,if_neg h];exact YW f n r
theorem zk4 {β γ:Type}(f:Nm2→β→γ)(M:List (Nm2 × β)):zB (M.map fun e=>(e.1,f e.1 e.2))=zB M:=by
 unfold zB;rw[List.map_map];rfl
theorem zkj {b:Brd}{kind:Int}{i:Nat}{p:Prt}{k:Nat}{e}(h:e∈inL b kind i p k):e.2.1=i∧∃(hc:e.2.2<p.cells.length),p.cells[e.2.2].kind=kind∧e.1∈b.joins.map Jon.net:=by
 unfold inL at h;obtain⟨ck,h1,h2⟩:=List.mem_filterMap.1 h;obtain⟨c,j⟩:=ck;have h3:=List.mk_mem_zipIdx_iff_getElem?.1 h1
 unfold wG at h2;split at h2
 ·rename_i hk
  obtain⟨n,hn,rfl⟩:=Option.map_eq_some_iff.1 h2;obtain⟨hl,hg⟩:=List.getElem?_eq_some_iff.1 h3;rw[List.length_take]at hl;rw[List.getElem_take]at hg;refine⟨rfl,show j<p.cells.length by omega,?_,?_⟩
  ·dsimp only at hk ⊢;rw[hg];exact hk
  ·unfold yD at hn
   obtain⟨j,hj,rfl⟩:=Option.map_eq_some_iff.1 hn;exact List.mem_map_of_mem (List.mem_of_find?_eq_some hj)
 ·cases h2
theorem EN {b:Brd}{kind:Int}:∀{i:Nat},i≤b.parts.length→∀{e},e∈EB b kind i→∃(hp:e.2.1<b.parts.length) (hc:e.2.2<b.parts[e.2.1].cells.length),b.parts[e.2.1].cells[e.2.2].kind=kind∧e.1∈b.joins.map Jon.net
 | 0,_,e,h=>by simp [EB]at h
 | i+1,hi,e,h=>by
  rw[sR (by omega)]at h
  rcases List.mem_append.1 h with h|h
  ·exact EN (by omega) h
  ·obtain⟨n,pi,pk⟩:=e
   obtain⟨h1,h2,h3,h4⟩:=zkj h;dsimp only at h1 h2 h3 h4;subst h1;exact⟨show pi<b.parts.length by omega,h2,h3,h4⟩
theorem ZW {P:List (Nm2 × (Nat × Nat))}{n:Nm2}{p:Nat × Nat}(h:p∈grp P n):(n,p)∈P:=by
 unfold grp at h;obtain⟨e,he,rfl⟩:=List.mem_map.1 h;obtain⟨h1,h2⟩:=List.mem_filter.1 he;have:e.1=n:=by simpa using h2
 subst this;exact h1
end Go.Am
end
section
/- Numbers asv sets of bits;rows of a test asv numbers. -/
set_option linter.all false
namespace Go.Am
theorem zcR {c:UInt8}{r:List UInt8}(h:KD (c::r)=true):(c=48∨c=49)∧KD r=true:=by
 unfold KD at *;rw[List.all_cons,Bool.and_eq_true]at h;refine⟨?_,h.2⟩;have:=h.1;unfold z6J at this;simpa [List.contains_cons] using this
end Go.Am
end
section
/- Boards,plainly: what a right board and right bits are. -/
set_option linter.all false
namespace Go.Am
structure BrdR (b:Brd):Prop where
 p:b.parts.length≤40
 c:∀p∈b.parts,p.cells.length≤200
 t:∀p∈b.parts,∀c∈p.cells,c.ctl<p.cells.length
 j:b.joins.length≤1000
 w:twJ [] b.joins=false
theorem zeD {l:List Cel}{c:Cel}(hc:c∈l)(h:tC l c=0):c.ctl<l.length:=by
 have hl:0<l.length:=List.length_pos_of_mem hc
 unfold tC at h;by_cases h5:c.ctl = -1
 ·omega
 ·by_cases h6:inB 0 c.ctl (l.length-1)=true
  ·unfold inB at h6
   simp only[Bool.and_eq_true,decide_eq_true_eq]at h6;omega
  ·have h6':inB 0 c.ctl (l.length-1)=false:=by simpa using h6
   rw[h6',decide_eq_false h5]at h;unfold FB at h;exfalso;revert h
   generalize inB 1 c.kind 4=b1;generalize dC c=b2;generalize TB c.pin=b3;generalize decide (c.kind=2)=b4;generalize decide (DE l c.ctl=3)=b7;generalize inB 0 c.off 1=b8;generalize decide (c.off=0)=b9;generalize decide (c.pin=[])=bp;cases b1 <;> cases b2 <;> cases b3 <;> cases b4 <;> cases b7 <;> cases b8 <;> cases b9 <;> cases bp <;> decide
theorem eH {b:Brd}(h:PC b=0):BrdR b:=by
 unfold PC at h;by_cases h1:(40:Int)<b.parts.length
 ·rw[if_pos h1]at h;cases h
 rw[if_neg h1]at h;by_cases h2:NC none b.parts=0
 ·rw[if_neg (by simp [h2])]at h
  by_cases h3:SD b=0
  ·have hp:=(ZL b.parts none h2).2.2
   unfold SD at h3;by_cases j1:(1000:Int)<b.joins.length
   ·rw[if_pos j1]at h3;cases h3
   rw[if_neg j1]at h3;have hcl:∀p∈b.parts,p.cells.length≤200∧∀c∈p.cells,c.ctl<p.cells.length:=fun p hp'=>by
    have hc:=(hp p hp').2
    unfold nD at hc;by_cases c1:(200:Int)<p.cells.length
    ·rw[if_pos c1]at hc;cases hc
    rw[if_neg c1]at hc;by_cases c2:pD (tC p.cells) p.cells=0
    ·exact⟨by omega,fun c hc=>zeD hc (CK c2 c hc)⟩
    ·rw[if_pos c2]at hc;exact absurd hc c2
   refine⟨by omega,fun p hp'=>(hcl p hp').1,fun p hp'=>(hcl p hp').2,by omega,?_⟩
   by_cases j2:dD b none b.joins=0
   ·rw[if_neg (by simp [j2])]at h3
    cases ht:twJ [] b.joins with
    | false=>rfl
    | true=>rw[ht,if_pos rfl]at h3;cases h3
   ·rw[if_pos j2]at h3;exact absurd h3 j2
  ·rw[if_pos h3]at h;exact absurd h h3
 ·rw[if_pos h2]at h;exact absurd h h2
def okB (s:Nm2)(p:Prt):Bool:=decide (s.length=p.cells.length)&&KD s
def aI (b:Brd)(bits:List Nm2):Bool:=(bits.zip b.parts).all fun e=>okB e.1 e.2
def kC (b:Brd)(bits:List Nm2):Int:=if PC b≠0 then PC b else if bits.length≠b.parts.length then 3 else if aI b bits=true then 0 else 3
theorem HU {b:Brd}{bits:List Nm2}{k:Nat}(h1:k<bits.length)(h2:k<b.parts.length)(h:okB bits[k] b.parts[k]=false):aI b bits=false:=by
 unfold aI;rw[List.all_eq_false];refine⟨(bits[k],b.parts[k]),?_,by simp [h]⟩
 rw[List.mem_iff_getElem];exact⟨k,by simp;omega,by simp⟩
theorem z1V {b:Brd}{bits:List Nm2}(h:∀ k (h1:k<bits.length) (h2:k<b.parts.length),okB bits[k] b.parts[k]=true):aI b bits=true:=by
 unfold aI;rw[List.all_eq_true];intro e he;obtain⟨k,hk,rfl⟩:=List.mem_iff_getElem.1 he;rw[List.length_zip]at hk;simp only[List.getElem_zip];exact h k (by omega) (by omega)
theorem zcS {s:Nm2}(h:KD s=true):∀z∈s,z=48∨z=49:=by
 induction s with
 | nil=>intro z hz;cases hz
 | cons c r ih=>
  intro z hz;have:=zcR h;rcases List.mem_cons.1 hz with e|hz
  ·rw[e];exact this.1
  ·exact ih this.2 z hz
theorem gE {b:Brd}{bits:List Nm2}(h:kC b bits=0):PC b=0∧bits.length=b.parts.length∧aI b bits=true:=by
 unfold kC at h;by_cases h1:PC b=0
 ·rw[if_neg (by simp [h1])]at h
  by_cases h2:bits.length=b.parts.length
  ·rw[if_neg (by simp [h2])]at h
   refine⟨h1,h2,?_⟩;cases h3:aI b bits with
   | true=>rfl
   | false=>rw[h3,if_neg (by simp)]at h;cases h
  ·rw[if_pos h2]at h;cases h
 ·rw[if_pos h1]at h;exact absurd h h1
end Go.Am
end
section
/- The reference: comparing,a board's fault. -/
open Go
set_option linter.all false
set_option maxRecDepth 100000
namespace Go.Am
variable {h:bA} {K:nA}
attribute [-go_sem] ZA kB wB uB
theorem z8r (x y:Jon):kA X AH [.p (.sl none [.str x.net,.str x.part,.str x.pin]),.p (.sl none [.str y.net,.str y.part,.str y.pin])] h K=K (AI (GB x y)) h []:=by
 refine IA ?_;rw[zem rfl];have c1:=fun hh K=>mZ (h:=hh) (K:=K) x.net y.net
 have c2:=fun hh K=>mZ (h:=hh) (K:=K) x.part y.part
 have c3:=fun hh K=>mZ (h:=hh) (K:=K) x.pin y.pin
 unfold GB;simp only[vQ,go_sem];refine VA (fun k:Nat=>⟨[(0,.p (.sl none [.str x.net,.str x.part,.str x.pin])),(1,.p (.sl none [.str y.net,.str y.part,.str y.pin])),(9,.p (.sl none [.str x.net,.str x.part,.str x.pin])),(10,AI 3),(11,AI k)],h,[]⟩) (fun k=>k≤3∧(0<k→vA x.net y.net=0)∧(1<k→vA x.part y.part=0)∧(2<k→vA x.pin y.pin=0)) (fun k=>3-k) 0 rfl ⟨by omega,by omega,by omega,by omega⟩ ?_
 rintro k ⟨hk,k1,k2,k3⟩
 have hk':k=0∨k=1∨k=2∨k=3:=by omega
 rcases hk' with rfl|rfl|rfl|rfl
 ·by_cases h1:vA x.net y.net=0
  ·simp only[go_sem,c1,h1]
   exact⟨1,rfl,⟨by omega,by omega,by omega⟩,by omega⟩
  ·simp only[go_sem,c1,h1]
 ·have h1:=k1 (by omega)
  by_cases h2:vA x.part y.part=0
  ·simp only[go_sem,c2,h1,h2]
   exact⟨2,rfl,⟨by omega,by omega⟩,by omega⟩
  ·simp only[go_sem,c2,h1,h2]
 ·have h1:=k1 (by omega)
  have h2:=k2 (by omega)
  by_cases h3:vA x.pin y.pin=0
  ·simp only[go_sem,c3,h1,h2,h3]
   exact⟨3,rfl,by omega,by omega⟩
  ·simp only[go_sem,c3,h1,h2,h3]
 ·have h1:=k1 (by omega)
  have h2:=k2 (by omega)
  have h3:=k3 (by omega)
  simp only[go_sem,h1,h2,h3]
theorem jZ (b:Brd)(hl:b.joins.length≤12)(hsrt:XB ltS (b.joins.map Jon.net)=b.joins.map Jon.net):∃xs:List PV,xs.length=b.joins.length∧win xs 0 (sA b).length=(sA b).map PV.str∧(sA b).length≤b.joins.length∧ZB none xs ∧
 ∀K:nA,kA X AE [.p b.pv] h K=K (.own (h.length+1) b.joins.length 0 (sA b).length) (h++[qA b,.row none xs 0]) []:=by
 have nl:(b.joins.map Jon.net).length=b.joins.length:=List.length_map ..
 obtain⟨xs,x1,x2,x3,x4,C⟩:=hZ (h:=h++[qA b,.row none ((b.joins.map Jon.net).map PV.str) 0]) (b.joins.map Jon.net) (h.length+1) (by simp;omega) (by simp)
 rw[nl]at C x1 x3;have es:∀o,(h++[qA b,.row none ((b.joins.map Jon.net).map PV.str) 0]).set (h.length+1) o=h++[qA b,o]:=fun o=>by rw[List.set_append_right _ _ (by omega)];simp
 rw[es]at C;have S:=fun K=>z83 (h:=h++[qA b,.row none ((b.joins.map Jon.net).map PV.str) 0]) (K:=K) (h.length+1) (b.joins.map Jon.net) (by simpa using hl) (by simp)
 rw[hsrt,es,nl]at S;refine⟨xs,x1,x2,x3,x4,fun K=>IA ?_⟩
 rw[z2y];have ln:(b.joins.map Jon.pv).length=b.joins.length:=List.length_map ..
 simp only[SM,Brd.pv,go_sem,ln];refine VA (fun k:Nat=>⟨[(3,.own (h.length+1) k 0 k),(7,.p (.sl (some 3) (b.joins.map Jon.pv))),(8,AI b.joins.length),(9,AI k)],h++[qA b,.row none (((b.joins.map Jon.net).take k).map PV.str) 0],[]⟩) (fun k=>k≤b.joins.length) (fun k=>b.joins.length-k) 0 (by simp;rfl) (by omega) ?_
 intro k hk;unfold qA;rcases Nat.lt_or_ge k b.joins.length with hlt|hge
 ·have g:=XA Jon.pv hlt
  have c1:LA (some 3) 0 b.joins[k].pv=some b.joins[k].pv:=rfl
  have w2:IntKind.i64.wrap ((k:Int)+1)=((k+1:Nat):Int):=CA _ (by omega) (by omega)
  have hn:k<(b.joins.map Jon.net).length:=by simpa using hlt
  have tk:(b.joins.map Jon.net).take (k+1)=(b.joins.map Jon.net).take k++[b.joins[k].net]:=by rw[List.take_succ_eq_append_getElem hn];simp
  have tl:(((b.joins.map Jon.net).take k).map PV.str).length=k:=by simp;omega
  have hm:k+1≤WA:=by unfold WA;omega
  generalize b.joins[k]=x at *;simp only[Jon.pv]at g c1;simp only[go_sem,hlt,g,c1,w2,tl,hm];refine⟨k+1,?_,by omega,by omega⟩
  rw[tk];simp
 ·have e:k=b.joins.length:=by omega
  subst e;have t0:(b.joins.map Jon.net).take b.joins.length=b.joins.map Jon.net:=List.take_of_length_le (by simp)
  unfold qA at C S;unfold sA;rw[t0];generalize (b.joins.map Jon.net).map PV.str=us at *;simp only[go_sem,Nat.lt_irrefl,↓S,S,↓C,C];exact List.take_of_length_le (by simp;omega)
end Go.Am
end
section
/- The reference's board fault,plainly. -/
set_option linter.all false
namespace Go.Am
theorem z2W {x:Nm2}(h:x≠[]):¬vA x []≤0:=by
 cases x with
 | nil=>exact absurd rfl h
 | cons a r=>unfold vA;decide
def NI (l:List Pul):Nm2:=((l.getLast?).map Pul.net).getD []
def LI (l:List Prt):Nm2:=((l.getLast?).map Prt.key).getD []
theorem z6V {s:Nm2}(h:TB s=true):s≠[]:=fun e=>by subst e;revert h;decide
theorem zkv (x y:Jon):(GB x y≤0)↔(0≤GB y x):=by
 have n1:=wE x.net y.net
 have n2:=wE x.part y.part
 have n3:=wE x.pin y.pin
 unfold GB;by_cases h1:vA x.net y.net=0
 ·have h1':vA y.net x.net=0:=by omega
  by_cases h2:vA x.part y.part=0
  ·have h2':vA y.part x.part=0:=by omega
   simp only[h1,h1',h2,h2',ne_eq,not_true_eq_false,if_false];omega
  ·have h2':¬vA y.part x.part=0:=by omega
   simp only[h1,h1',h2,h2',ne_eq,not_true_eq_false,not_false_eq_true,if_false,if_true];omega
 ·have h1':¬vA y.net x.net=0:=by omega
  simp only[h1,h1',ne_eq,not_false_eq_true,if_true];omega
theorem zmH {b:Brd}(h:NC none b.parts=0):∀p∈b.parts,∀c∈p.cells,ED c=dC c:=fun p hp c hc=>by
 have hf:=((ZL b.parts none h).2.2 p hp).2
 unfold nD at hf;by_cases c1:(200:Int)<p.cells.length
 ·rw[if_pos c1]at hf;cases hf
 rw[if_neg c1]at hf;by_cases c2:pD (tC p.cells) p.cells=0
 ·exact z28 (CK c2 c hc)
 ·rw[if_pos c2]at hf;exact absurd hf c2
end Go.Am
end
section
/- The reference: a board's fault. -/
open Go
set_option linter.all false
set_option maxRecDepth 100000
namespace Go.Am
variable {h:bA} {K:nA}
attribute [-go_sem] ZA kB wB uB
attribute [-go_sem] KJ lH LJ mH MJ nH
theorem zn6 {K:Ex→St→Prop}(b:Brd)(ho:BrdOk b)(hsrt:XB ltS (b.joins.map Jon.net)=b.joins.map Jon.net)(hne:∀ n∈sA b,n≠[])(env:List (Nat × AV))(b1:aA env 1 = .ref h.length 0)(v:Int)
 (hv:(if(100:Int)<(sA b).length then 2 else HE (sA b) none b.pulls)=v)
 (fin:∀H,K .ret ⟨[(2,AI v)],h++H,[]⟩) :
 NW (kA X) X.gl QR ⟨env,h++[qA b],[]⟩ K:=by
 rw[KJ];have ln:(b.pulls.map Pul.pv).length=b.pulls.length:=List.length_map ..
 have hl:=ho.p
 have j12:=ho.j.l
 obtain⟨xs,x1,x2,x3,x4,NM⟩:=jZ (h:=h++[qA b]) b j12 hsrt;simp only[Brd.pv]at NM;unfold qA at NM ⊢;have h100:¬(100:Int)<(sA b).length:=by omega
 rw[if_neg h100]at hv;simp only[lH,b1,go_sem,↓NM,NM,h100,ln];refine VA (fun k:Nat=>⟨[(3,AS (NI (b.pulls.take k))),(11,.own (h.length+1+1) b.joins.length 0 (sA b).length),(126,.p (.sl (some 2) (b.pulls.map Pul.pv))),(127,AI b.pulls.length),(128,AI k)],h++[qA b,qA b,.row none xs 0],[]⟩) (fun k=>k≤b.pulls.length∧HE (sA b) (b.pulls.take k).getLast? (b.pulls.drop k)=v) (fun k=>b.pulls.length-k) 0 (by first|rfl|skip) ⟨by omega,hv⟩ ?_
 rintro k ⟨hk,hp⟩
 have SH:∀T:bA,Shows none (.own (h.length+1+1) b.joins.length 0 (sA b).length) ((sA b).map PV.str) (h++qA b::qA b :: .row none xs 0::T):=fun T=>by
  have:=qO (h:=h++qA b::qA b :: .row none xs 0::T) (id:=h.length+1+1) (off:=0) (len:=(sA b).length) (fz:=0) x4 (by rw[List.getElem?_append_right (by omega),show h.length+1+1-h.length=2 by omega];rfl) (by omega)
  rw[x1,x2]at this;exact this
 have CT:=fun(T:bA) (s:List UInt8) K=>WZ (h:=h++qA b::qA b :: .row none xs 0::T) (K:=K) (sA b) (fun h' e=>by rw[e];exact SH T) s (by omega)
 unfold qA at CT ⊢;rcases Nat.lt_or_ge k b.pulls.length with hlt|hge
 ·have g:=XA Pul.pv hlt
  have c1:LA (some 2) 0 b.pulls[k].pv=some b.pulls[k].pv:=rfl
  have w2:IntKind.i64.wrap ((k:Int)+1)=((k+1:Nat):Int):=CA _ (by omega) (by omega)
  rw[List.drop_eq_getElem_cons hlt,TY]at hp;have lg:(b.pulls.take (k+1)).getLast?=some b.pulls[k]:=by rw[gG (by omega),List.getElem?_eq_getElem hlt]
  have ln2:NI (b.pulls.take (k+1))=b.pulls[k].net:=by unfold NI;rw[lg];rfl
  generalize hxx:b.pulls[k]=x at *;have CX:=fun T K=>CT T x.net K
  have OB:=fun h K=>KS (h:=h) (K:=K) x.level 0 1
  simp only[Pul.pv,eI]at g c1;cases hcn:(sA b).contains x.net with
  | false=>
   rw[hcn,if_pos rfl]at hp;rw[hcn]at CX;subst hp;simp only[go_sem,hlt,g,c1,↓CX,CX];exact fin _
  | true=>
   have xne:x.net≠[]:=hne _ (by simpa using hcn)
   rw[hcn,if_neg (by simp)]at hp
   rw[hcn]at CX;cases hlv:inB 0 x.level 1 with
   | false=>
    rw[hlv,if_pos rfl]at hp;rw[hlv]at OB;subst hp;simp only[go_sem,hlt,g,c1,↓CX,CX,↓OB,OB];exact fin _
   | true=>
    rw[hlv,if_neg (by simp)]at hp
    rw[hlv]at OB;replace hp:(if decide (vA x.net (NI (b.pulls.take k))≤0)=true then 7 else HE (sA b) (some x) (b.pulls.drop (k+1)))=v:=by
     unfold NI;cases hgl:(b.pulls.take k).getLast? with
     | none=>
      rw[hgl]at hp;rw[show decide (vA x.net ((Option.map Pul.net none).getD [])≤0)=false from decide_eq_false (z2W xne)]
      exact hp
     | some q=>rw[hgl]at hp;exact hp
    have le:=gR x.net (NI (b.pulls.take k))
    generalize NI (b.pulls.take k)=la at *;by_cases hc:vA x.net la≤0
    ·rw[if_pos (by simp [hc])]at hp
     subst hp;simp only[go_sem,hlt,g,c1,↓CX,CX,↓OB,OB,le,hc];exact fin _
    ·rw[if_neg (by simp [hc])]at hp
     simp only[go_sem,hlt,g,c1,↓CX,CX,↓OB,OB,le,hc,w2];refine⟨k+1,?_,⟨by omega,?_⟩,by omega⟩
     ·rw[ln2]
     ·rw[lg];exact hp
 ·have e:k=b.pulls.length:=by omega
  subst e;rw[List.drop_length]at hp;have z:v=0:=hp.symm
  subst z;simp only[go_sem,Nat.lt_irrefl];exact fin _
end Go.Am
end
section
/- The reference: a board's fault,joins. -/
open Go
set_option linter.all false
set_option maxRecDepth 100000
namespace Go.Am
variable {h:bA} {K:nA}
attribute [-go_sem] ZA kB wB uB
attribute [-go_sem] KJ lH LJ mH MJ nH
def FK (x:Jon):Obj:=.box [AS x.net,AS x.part,AS x.pin]
def FZ:PV→Jon
 | .agg [.str a,.str b,.str c]=>⟨a,b,c⟩
 | _=>⟨[],[],[]⟩
theorem zpG (x:Jon):FZ x.pv=x:=rfl
theorem zk0 {l:List Jon}:ZB (some 3) (l.map Jon.pv):=fun x hx=>by obtain⟨e,_,rfl⟩:=List.mem_map.1 hx;rfl
theorem zn4 (x y:Jon)(id:Nat)(hc:h[id]?=some (FK x)):kA X yI [.p y.pv,.ref id 0] h K=K (AB (iD x y)) h []:=by
 refine IA ?_;rw[zdN rfl];have hl:=JB hc
 have hc2:∀t,(h++t)[id]?=some (FK x):=fun t=>by rw[List.getElem?_append_left hl];exact hc
 unfold FK at hc hc2;unfold iD;by_cases h1:y.part=x.part
 ·have h1p:=eq_true h1
  simp only[iQ,Jon.pv,go_sem,hc,hc2,h1p]
 ·simp only[iQ,Jon.pv,go_sem,hc,hc2,h1]
theorem zn7 {K:Ex→St→Prop}(b:Brd)(ho:BrdOk b)(hsrt:XB ltS (b.joins.map Jon.net)=b.joins.map Jon.net)(hne:∀ n∈sA b,n≠[])(env:List (Nat × AV))(b1:aA env 1 = .ref h.length 0)(v:Int)
 (hv:(if twJ [] b.joins=true then 6 else if(100:Int)<(sA b).length then 2 else HE (sA b) none b.pulls)=v)
 (fin:∀H,K .ret ⟨[(2,AI v)],h++H,[]⟩) :
 NW (kA X) X.gl SR ⟨env,h++[qA b],[]⟩ K:=by
 rw[LJ];have ln:(b.joins.map Jon.pv).length=b.joins.length:=List.length_map ..
 have j12:=ho.j.l
 unfold qA;simp only[mH,b1,go_sem,ln];refine VA (fun k:Nat=>⟨[(1,.ref h.length 0),(106,.p (.sl (some 3) (b.joins.map Jon.pv))),(107,AI b.joins.length),(108,AI k)],h++[qA b],[]⟩) (fun k=>k≤b.joins.length∧twJ (b.joins.take k) (b.joins.drop k)=twJ [] b.joins) (fun k=>b.joins.length-k) 0 rfl ⟨by omega,rfl⟩ ?_
 rintro k ⟨hk,hp⟩
 rcases Nat.lt_or_ge k b.joins.length with hlt|hge
 ·have g:=XA Jon.pv hlt
  have c1:LA (some 3) 0 b.joins[k].pv=some b.joins[k].pv:=rfl
  have w2:IntKind.i64.wrap ((k:Int)+1)=((k+1:Nat):Int):=CA _ (by omega) (by omega)
  rw[List.drop_eq_getElem_cons hlt,CZ]at hp;have tk:b.joins.take (k+1)=b.joins.take k++[b.joins[k]]:=List.take_succ_eq_append_getElem hlt
  rw[←tk]at hp;have hw:win (b.joins.map Jon.pv) 0 k=(b.joins.take k).map Jon.pv:=by simp [win,List.map_take]
  have hkl:k≤b.joins.length:=hk
  generalize hcc:b.joins[k]=c at *;have tells:∀o:Obj,fE yI [.ref (h.length+1) 0] (fun y=>iD c (FZ y)) ((b.joins.take k).map Jon.pv) (h++[o,FK c]):=fun o y hy K=>by
   obtain⟨d,_,rfl⟩:=List.mem_map.1 hy;dsimp only;rw[zpG];exact zn4 c d (h.length+1) (by simp)
  have CF:=fun(o:Obj) K=>z90 (h:=h++[o,FK c]) (K:=K) (tells o) zk0 (by simp;omega)
  have ea:((b.joins.take k).map Jon.pv).any (fun y=>iD c (FZ y))=(b.joins.take k).any (iD c):=by rw[List.any_map];rfl
  simp only[ea]at CF;unfold FK at CF;simp only[Jon.pv]at g c1;cases ha:(b.joins.take k).any (iD c) with
  | true=>
   rw[ha,if_pos rfl]at hp;rw[ha]at CF;rw[←hp,if_pos rfl]at hv;subst hv;simp only[qA,go_sem,hlt,g,c1,w2,ln,hkl,hw,↓CF,CF];exact fin _
  | false=>
   rw[ha,if_neg (by simp)]at hp
   rw[ha]at CF;simp only[qA,go_sem,hlt,g,c1,w2,ln,hkl,hw,↓CF,CF];exact⟨k+1,rfl,⟨by omega,hp⟩,by omega⟩
 ·have e:k=b.joins.length:=by omega
  subst e;rw[List.drop_length]at hp;have hz:twJ [] b.joins=false:=hp.symm
  rw[hz,if_neg (by simp)]at hv
  simp only[go_sem,Nat.lt_irrefl];exact zn6 b ho hsrt hne _ rfl v hv fin
end Go.Am
end
section
/- The reference: a board's fault,whole. -/
open Go
set_option linter.all false
set_option maxRecDepth 100000
namespace Go.Am
variable {h:bA} {K:nA}
attribute [-go_sem] ZA kB wB uB
attribute [-go_sem] KJ lH LJ mH MJ nH
theorem z6P {α:Type}(lt:α→α→Bool){l:List α}(hp:l.Pairwise (fun a b=>lt b a=false)):XB lt l=l:=by
 have key:∀(l r:List α),(∀x∈l,∀y∈r,lt x y=false)→l.Pairwise (fun a b=>lt b a=false)→l.foldl (fun r x=>gC lt x r) r=l.reverse++r:=by
  intro l;induction l with
  | nil=>intro r _ _;rfl
  | cons x l ih=>
   intro r h1 h2;rw[List.pairwise_cons]at h2;have hi:gC lt x r=x::r:=by
    cases r with
    | nil=>rfl
    | cons y r=>unfold gC;rw[h1 x (by simp) y (by simp)];rfl
   rw[List.foldl_cons,hi,ih _ (fun a ha y hy=>?_) h2.2,List.reverse_cons,List.append_assoc]
   ·rfl
   ·rcases List.mem_cons.1 hy with e|hy
    ·rw[e];exact h2.1 a ha
    ·exact h1 a (by simp [ha]) y hy
 have:=key l [] (by simp) hp
 rw[List.append_nil]at this;show(vD lt l).reverse=l
 unfold vD;rw[this,List.reverse_reverse]
theorem zkw {x q:Jon}(h:¬ GB x q≤0):vA q.net x.net≤0:=by
 have n1:=wE x.net q.net
 unfold GB at h;by_cases h1:vA x.net q.net=0
 ·omega
 ·rw[if_pos h1]at h;omega
theorem iX (b:Brd):∀(l:List Jon) (p:Option Jon),dD b p l=0→(∀q,p=some q→∀x∈l,vA q.net x.net≤0)∧l.Pairwise (fun x y=>vA x.net y.net≤0)∧∀x∈l,TB x.net=true
 | [],p,_=>⟨fun _ _ _ h=>(by cases h),List.Pairwise.nil,fun _ h=>(by cases h)⟩
 | x::r,p,h=>by
  rw[fX]at h;cases hk:TB x.net with
  | false=>rw[hk,if_pos rfl]at h;cases h
  | true=>
   rw[hk,if_neg (by simp)]at h
   cases hpn:OG b x.part x.pin with
   | false=>rw[hpn,if_pos rfl]at h;cases h
   | true=>
    rw[hpn,if_neg (by simp)]at h
    have px:(∀q,p=some q→vA q.net x.net≤0)∧dD b (some x) r=0:=by
     cases p with
     | none=>exact⟨fun _ h=>(by cases h),by rw[if_neg (by simp)]at h;exact h⟩
     | some q=>
      by_cases hc:GB x q≤0
      ·rw[if_pos (by simp [hc])]at h;cases h
      ·rw[if_neg (by simp [hc])]at h
       exact⟨fun q' e=>by cases e;exact zkw hc,h⟩
    obtain⟨i1,i2,i3⟩:=iX b r (some x) px.2;have i1':=i1 x rfl
    refine⟨fun q hq y hy=>?_,List.pairwise_cons.2 ⟨i1',i2⟩,fun y hy=>?_⟩
    ·rcases List.mem_cons.1 hy with e|hy
     ·rw[e];exact px.1 q hq
     ·exact ZU (px.1 q hq) (i1' y hy)
    ·rcases List.mem_cons.1 hy with e|hy
     ·rw[e];exact hk
     ·exact i3 y hy
theorem z6U {b:Brd}(h:dD b none b.joins=0):XB ltS (b.joins.map Jon.net)=b.joins.map Jon.net:=by
 refine z6P _ ?_;rw[List.pairwise_map];refine(iX b _ none h).2.1.imp fun {x y} q=>?_
 have:=wE x.net y.net;unfold ltS;simp;omega
theorem z6T {b:Brd}(h:dD b none b.joins=0):∀n∈sA b,n≠[]:=fun n hn=>by
 unfold sA at hn;obtain⟨x,hx,rfl⟩:=List.mem_map.1 (zeM hn);exact z6V ((iX b _ none h).2.2 x hx)
end Go.Am
end
section
/- Joins sorted by a comparison: printed by program. -/
open Go
set_option linter.unusedSimpArgs false
namespace Go.Am
attribute [-go_sem] PV.cells splice
variable {h:bA} {K:nA}
theorem zkk (id n:Nat)(l tl:List PV)(hn:n=l.length+tl.length)(hs:ZB (some 3) l)(hl:l.length≤1000)(hh:h[id]?=some (.row (some 3) (l++tl) 0)){g:Nat}{caps:List AV}{c:PV→PV→Int}(hc:Cmps g caps c l id h) :
 kA X yK [.own id n 0 l.length,AI 0,AI l.length,.fn g caps] h K=K (.tup []) (h.set id (.row (some 3) (XB (ltC c) l++tl) 0)) []:=by
 refine IA ?_;rw[ze1];have hid:=JB hh
 have hst:∀o,(h.set id o)[id]?=some o:=fun o=>VG hid
 simp only[FQ,go_sem,show IntKind.i64.wrap 1=1 from rfl]
 refine VA (fun i:Nat=>⟨[(0,.own id n 0 l.length),(1,AI 0),(2,AI l.length),(3,.fn g caps),(8,AI i)],h.set id (.row (some 3) ((vD (ltC c) (l.take i)).reverse++(l.drop i++tl)) 0),[]⟩) (fun i=>1≤i∧(i≤l.length∨i=1)) (fun i=>l.length-i) 1 ?_ (by simp) ?_
 ·have:(vD (ltC c) (l.take 1)).reverse++(l.drop 1++tl)=l++tl:=by cases l <;> rfl
  rw[this,WG hh];rfl
 rintro i ⟨hi1,hi2⟩
 rcases Nat.lt_or_ge i l.length with hlt|hge
 ·simp only[go_sem,hlt]
  have hxl:l[i]∈l:=List.getElem_mem hlt
  generalize hx:l[i]=x at *;generalize hR:vD (ltC c) (l.take i)=R;have hRl:R.length=i:=by rw[←hR,z6K];simp;omega
  have hRm:∀z∈R,z∈l:=fun z hz=>List.mem_of_mem_take ((eR (ltC c) (l.take i)).mem_iff.1 (by rw[hR];exact hz))
  have hdrop:l.drop i=x::l.drop (i+1):=by rw[←hx];exact List.drop_eq_getElem_cons hlt
  have hnext:vD (ltC c) (l.take (i+1))=gC (ltC c) x R:=by rw[z6N _ _ _ hlt,hR,hx]
  refine VA (fun t:List PV×List PV=>⟨[(0,.own id n 0 l.length),(1,AI 0),(2,AI l.length),(3,.fn g caps),(8,AI i),(9,AI t.1.length)],h.set id (.row (some 3) (t.1.reverse++x::t.2) 0),[]⟩)
   (fun t=>∃B,R=B++t.1∧t.2=B.reverse++(l.drop (i+1)++tl)∧∀b∈B,ltC c x b=true) (fun t=>t.1.length) (R,l.drop (i+1)++tl) (by rw[hdrop,hRl];rfl) ⟨[],rfl,rfl,by simp⟩ ?_
  rintro⟨A,C⟩ ⟨B,q1,q2,q3⟩
  dsimp only at q1 q2 q3;have hlen:(A.reverse++x::C).length=n:=by
   have:R.length=B.length+A.length:=by rw[q1];simp
   rw[q2];simp;omega
  have hBA:B.length+A.length<l.length:=by
   have:R.length=B.length+A.length:=by rw[q1];simp
   omega
  have hln:l.length≤n:=by omega
  have w1:IntKind.i64.wrap ((i:Int)+1)=((i+1:Nat):Int):=CA _ (by omega) (by omega)
  cases A with
  | nil=>
   have hd:gC (ltC c) x R=B++[x]:=by rw[q1];exact dR (ltC c) x [] B q3 (fun y r h=>by cases h)
   simp only[go_sem,Int.lt_irrefl,w1];refine⟨i+1,?_,by omega,by omega⟩
   simp only[hnext,hd,q2,List.reverse_append,List.reverse_nil,List.nil_append,List.reverse_cons,List.append_assoc,List.cons_append]
  | cons y A=>
   have hyl:y∈l:=hRm y (by rw[q1];simp)
   have g1:=z6G (y::A) C x
   have g2:=z6H A C x y
   have sw:=z6I A C x y
   simp only[List.length_cons]at hBA;generalize hrow:(y::A).reverse++x::C=row at *;simp only[List.length_cons]at g1;have w2:IntKind.i64.wrap (((A.length+1:Nat):Int)-1)=(A.length:Int):=by rw[CA _ (by omega) (by omega)];omega
   have p1:(0:Int)<((A.length+1:Nat):Int):=by omega
   have b1:A.length+1<l.length:=by omega
   have b2:A.length<l.length:=by omega
   have cx:=HF (hs x hxl)
   have cy:=HF (hs y hyl)
   have hcc:=fun o K=>hc o x hxl y hyl K
   by_cases hxy:c x y<0
   ·have g3:(row.set (A.length+1) y)[A.length]?=some y:=by rw[List.getElem?_set_ne (by omega),g2]
    have lx:=kM (hs x hxl)
    have ly:=kM (hs y hyl)
    have sx:=jM (hs x hxl)
    have sy:=jM (hs y hyl)
    simp only[lA]at lx ly;have t1:=fun i xs h1=>mM (hs x hxl) (hs y hyl) id i 0 xs h1
    have t2:=fun i xs h1=>mM (hs y hyl) (hs x hxl) id i 0 xs h1
    simp only[go_sem,hst,p1,hlen,g1,g2,g3,w2,b1,b2,hln,cx,cy,hcc,hxy,lx,ly,sx,sy,t1,t2,sw];refine⟨(A,y::C),rfl,⟨B++[y],by simp [q1],by simp [q2],fun b hb=>?_⟩,by simp⟩
    rw[List.mem_append,List.mem_singleton]at hb;rcases hb with hb|rfl
    ·exact q3 b hb
    ·simpa [ltC] using hxy
   ·have hd:gC (ltC c) x R=B++x::y::A:=by rw[q1];exact dR (ltC c) x (y::A) B q3 (fun z r h=>by cases h;simpa [ltC] using hxy)
    simp only[go_sem,hst,p1,hlen,g1,g2,w2,b1,b2,hln,cx,cy,hcc,hxy,w1];refine⟨i+1,?_,by omega,by omega⟩
    simp only[hnext,hd,←hrow,q2,List.reverse_append,List.reverse_cons,List.append_assoc,List.cons_append,List.nil_append]
 ·have hge':¬i<l.length:=by omega
  have e1:l.take i=l:=List.take_of_length_le hge
  have e2:l.drop i=[]:=List.drop_of_length_le hge
  simp only[go_sem,hge',e1,e2];rfl
theorem zcg (id:Nat)(l:List PV)(hs:ZB (some 3) l)(hl:l.length≤12)(hh:h[id]?=some (.row (some 3) l 0)){g:Nat}{caps:List AV}{c:PV→PV→Int}(hc:Cmps g caps c l id h) :
 kA X II [.own id l.length 0 l.length,.fn g caps] h K=K (.tup []) (h.set id (.row (some 3) (XB (ltC c) l) 0)) []:=by
 refine IA ?_;rw[zez];have w0:IntKind.u64.wrap (l.length:Int)=l.length:=EZ _ (by omega) (by omega)
 obtain⟨m,hm⟩:=z6Z (l.length:Int) (by omega) (by omega)
 have is:=fun K=>zkk (h:=h) (K:=K) id l.length l [] rfl hs (by omega) (by rw[List.append_nil];exact hh) hc
 simp only[List.append_nil]at is;have key:∀K:nA,kA X cG [.own id l.length 0 l.length,AI 0,AI l.length,AI m,.fn g caps] h K=K (.tup []) (h.set id (.row (some 3) (XB (ltC c) l) 0)) []:=by
  intro K;refine IA ?_;rw[ze3];simp only[HQ,go_sem];refine VA (fun _:Unit=>⟨[(0,.own id l.length 0 l.length),(1,AI 0),(2,AI l.length),(3,AI m),(4,.fn g caps),(10,AB true),(11,AB true)],h,[]⟩) (fun _=>True) (fun _=>0) () rfl trivial ?_
  intro _ _;have w1:IntKind.i64.wrap ((l.length:Int)-0)=l.length:=by rw[CA _ (by omega) (by omega)];omega
  have b1:((l.length:Int)≤12):=by omega
  simp only[go_sem,w1,b1,is]
 simp only[oW,go_sem,w0,hm,key]
end Go.Am
end
section
/- What is drawn: the order of joins. -/
open Go
set_option linter.all false
set_option maxRecDepth 100000
namespace Go.Am
variable {h:bA} {K:nA}
theorem znu (x y:Jon):kA X wH [.p x.pv,.p y.pv] h K=K (AI (GB x y)) h []:=by
 refine IA ?_;rw[zdB rfl];have C:=fun hh K=>z8r (h:=hh) (K:=K) x y
 simp only[HV,Jon.pv,go_sem,↓C,C]
theorem zky {x y z:Jon}(h1:GB x y≤0)(h2:GB y z≤0):vA x.net z.net≤0:=by
 have a1:vA x.net y.net≤0:=by
  unfold GB at h1;by_cases e:vA x.net y.net=0
  ·omega
  ·rw[if_pos e]at h1;exact h1
 have a2:vA y.net z.net≤0:=by
  unfold GB at h2;by_cases e:vA y.net z.net=0
  ·omega
  ·rw[if_pos e]at h2;exact h2
 exact ZU a1 a2
theorem z6S (x y:Jon):GB y x = - GB x y:=by
 have n1:=wE x.net y.net
 have n2:=wE x.part y.part
 have n3:=wE x.pin y.pin
 unfold GB;by_cases h1:vA x.net y.net=0
 ·have h1':vA y.net x.net=0:=by omega
  by_cases h2:vA x.part y.part=0
  ·have h2':vA y.part x.part=0:=by omega
   simp only[h1,h1',h2,h2',ne_eq,not_true_eq_false,if_false];omega
  ·have h2':¬vA y.part x.part=0:=by omega
   simp only[h1,h1',h2,h2',ne_eq,not_true_eq_false,not_false_eq_true,if_false,if_true];omega
 ·have h1':¬vA y.net x.net=0:=by omega
  simp only[h1,h1',ne_eq,not_false_eq_true,if_true];omega
theorem zkx {x y z:Jon}(h1:GB x y≤0)(h2:GB y z≤0):GB x z≤0:=by
 unfold GB at h1 h2 ⊢;by_cases a1:vA x.net y.net=0
 ·have e1:=QF a1
  simp only[a1,ne_eq,not_true_eq_false,if_false]at h1;rw[e1];by_cases a2:vA y.net z.net=0
  ·simp only[a2,ne_eq,not_true_eq_false,if_false]at h2 ⊢
   by_cases b1:vA x.part y.part=0
   ·have f1:=QF b1
    simp only[b1,ne_eq,not_true_eq_false,if_false]at h1;rw[f1];by_cases b2:vA y.part z.part=0
    ·simp only[b2,ne_eq,not_true_eq_false,if_false]at h2 ⊢
     exact ZU h1 h2
    ·simp only[b2,ne_eq,not_false_eq_true,if_true]at h2 ⊢
     exact h2
   ·simp only[b1,ne_eq,not_false_eq_true,if_true]at h1
    by_cases b2:vA y.part z.part=0
    ·rw[←QF b2]
     simp only[b1,ne_eq,not_false_eq_true,if_true];exact h1
    ·simp only[b2,ne_eq,not_false_eq_true,if_true]at h2
     have:=jI (a:=x.part) (b:=y.part) (c:=z.part) (by omega) (by omega)
     rw[if_pos (by omega)];omega
  ·simp only[a2,ne_eq,not_false_eq_true,if_true]at h2 ⊢
   exact h2
 ·simp only[a1,ne_eq,not_false_eq_true,if_true]at h1
  by_cases a2:vA y.net z.net=0
  ·rw[←QF a2]
   simp only[a1,ne_eq,not_false_eq_true,if_true];exact h1
  ·simp only[a2,ne_eq,not_false_eq_true,if_true]at h2
   have:=jI (a:=x.net) (b:=y.net) (c:=z.net) (by omega) (by omega)
   rw[if_pos (by omega)];omega
theorem ordJ:Ordr GB:=⟨fun a b=>z6S a b,fun a b d h1 h2=>zkx h1 h2⟩
def unJ2:PV→Jon
 | .agg [.str a,.str b,.str c]=>⟨a,b,c⟩
 | _=>⟨[],[],[]⟩
theorem zk1 {l:List Jon}:ZB (some 3) (l.map Jon.pv):=fun x hx=>by obtain⟨e,_,rfl⟩:=List.mem_map.1 hx;rfl
theorem znQ (id:Nat)(l:List Jon)(hl:l.length≤12)(hh:h[id]?=some (.row (some 3) (l.map Jon.pv) 0)) :
 kA X II [.own id l.length 0 l.length,.fn wH []] h K=K (.tup []) (h.set id (.row (some 3) ((XB (ltO GB) l).map Jon.pv) 0)) []:=by
 have hc:Cmps wH [] (fun a b=>GB (unJ2 a) (unJ2 b)) (l.map Jon.pv) id h:=by
  intro o x hx y hy K';obtain⟨a,_,rfl⟩:=List.mem_map.1 hx;obtain⟨b,_,rfl⟩:=List.mem_map.1 hy;exact znu a b
 have S:=zcg (h:=h) (K:=K) id (l.map Jon.pv) zk1 (by simpa using hl) hh hc
 have e:XB (ltC fun a b=>GB (unJ2 a) (unJ2 b)) (l.map Jon.pv)=(XB (ltO GB) l).map Jon.pv:=z6O Jon.pv (fun a b=>rfl) l
 rw[e]at S;simpa using S
theorem zkz (l:List Jon):XB ltS ((XB (ltO GB) l).map Jon.net)=(XB (ltO GB) l).map Jon.net:=by
 refine z6P _ ?_;rw[List.pairwise_map];refine(zkt ordJ.weak l).imp fun {x y} q=>?_
 have q':¬GB y x<0:=by simpa [ltO] using q
 have n1:=z6S x y
 have:=zky (x:=x) (y:=y) (z:=y) (by omega) (by rw[ordJ.refl];exact Int.le_refl 0)
 have n2:=wE x.net y.net
 unfold ltS;simp;omega
end Go.Am
end
section
/- What is drawn: the cells of a part. -/
open Go
set_option linter.all false
set_option maxRecDepth 100000
namespace Go.Am
variable {h:bA} {K:nA} {L:List Int}
attribute [-go_sem] ZA kB wB uB
def WD (k:Nat):Nm2:=[112,UInt8.ofNat (97+k%4)]
def rC (c:Cel):Prop:=c.pin=[]∨∃i:Nat,i<4∧c.pin=WD i
theorem zmM {k:Nat}(hk:k≤6):jA .rem (.p (.int .i64 (k:Int))) (.p (.int .i64 4))=some (.p (.int .i64 ((k%4:Nat):Int))):=by
 have:k=0∨k=1∨k=2∨k=3∨k=4∨k=5∨k=6:=by omega
 rcases this with rfl|rfl|rfl|rfl|rfl|rfl|rfl <;> rfl
theorem zmN {k:Nat}(hk:k≤6):jA .add (.p (.int .i64 97)) (.p (.int .i64 ((k%4:Nat):Int)))=some (.p (.int .i64 ((97+k%4:Nat):Int))):=by
 have:k=0∨k=1∨k=2∨k=3∨k=4∨k=5∨k=6:=by omega
 rcases this with rfl|rfl|rfl|rfl|rfl|rfl|rfl <;> rfl
theorem zmO {k:Nat}(hk:k≤6):UD .i32 (.p (.int .i64 ((97+k%4:Nat):Int)))=some (.p (.int .i32 ((97+k%4:Nat):Int))):=by
 have:k=0∨k=1∨k=2∨k=3∨k=4∨k=5∨k=6:=by omega
 rcases this with rfl|rfl|rfl|rfl|rfl|rfl|rfl <;> rfl
theorem zmP {k:Nat}(hk:k≤6)(h:bA):TD .r2s (.p (.int .i32 ((97+k%4:Nat):Int))) h=some (.p (.str [UInt8.ofNat (97+k%4)]),h,[]):=by
 have:k=0∨k=1∨k=2∨k=3∨k=4∨k=5∨k=6:=by omega
 rcases this with rfl|rfl|rfl|rfl|rfl|rfl|rfl <;> rfl
theorem zog {K:Ex→St→Prop}{id:Nat}(hid:id<h.length){a0:Int}{n:Nat}(hn:n≤6)(hp:uA 1000 a0)
 (fin:∀(l:List Cel) (a:Int) (z:Nat×AV),l.length=n→(∀c∈l,rC c)→a=a0+n→K (.exit 0) ⟨[(0,.ref id 0),(3,.own h.length l.length 0 l.length),(14,AI n),(15,AI n),z],h.set id (EA L a)++[.row (some 4) (l.map Cel.pv) 0],[]⟩) :
 GA (kA X) X.gl (.scope UI) K [(0,.ref id 0),(3,.own h.length 0 0 0),(14,AI n),(15,AI 0)] (h.set id (EA L a0)++[.row (some 4) [] 0]) []:=by
 refine VA (fun t:Nat×List Cel=>⟨[(0,.ref id 0),(3,.own h.length t.2.length 0 t.2.length),(14,AI n),(15,AI t.1)],h.set id (EA L (a0+t.1))++[.row (some 4) (t.2.map Cel.pv) 0],[]⟩) (fun t=>t.1≤n∧t.2.length=t.1∧∀c∈t.2,rC c) (fun t=>n-t.1) (0,[]) (by simp) ⟨by omega,rfl,by simp⟩ ?_
 rintro⟨k,l⟩ ⟨hk,hll,hl⟩
 dsimp only at hk hll hl ⊢;have i1:id≤h.length:=by omega
 rcases Nat.lt_or_ge k n with hlt|hge
 ·have w2:IntKind.i64.wrap ((k:Int)+1)=((k+1:Nat):Int):=CA _ (by omega) (by omega)
  have pk:uA 0 (a0+k):=by unfold uA at *;omega
  have e1:=zmM (k:=k) (by omega)
  have e2:=zmN (k:=k) (by omega)
  have e3:=zmO (k:=k) (by omega)
  have e4:=zmP (k:=k) (by omega)
  have el:(l.map Cel.pv).length=l.length:=List.length_map ..
  have km:l.length+1≤WA:=by unfold WA;omega
  have ea:a0+((k+1:Nat):Int)=a0+k+1:=by omega
  have dp:rC ⟨1,WD k,-1,0⟩∧rC ⟨2,WD k,-1,0⟩∧rC ⟨3,[],-1,0⟩:=by
   have hp:∃i:Nat,i<4∧WD k=WD i:=⟨k%4,by omega,by unfold WD;rw[Nat.mod_mod]⟩
   exact⟨.inr hp,.inr hp,.inl rfl⟩
  have nx:∀c,rC c→∀x∈l++[c],rC x:=fun c hc x hx=>by
   rcases List.mem_append.1 hx with q|q
   ·exact hl x q
   ·rw[List.mem_singleton]at q;rw[q];exact hc
  obtain⟨b1,b2⟩:=FE L (a0+k) 5 (by omega) (by omega)
  have hv:FA L (a0+k) 5=0∨FA L (a0+k) 5=1∨FA L (a0+k) 5=2∨FA L (a0+k) 5=3∨FA L (a0+k) 5=4:=by omega
  rcases hv with v|v|v|v|v
  ·simp only[go_sem,hlt,w2,↓e1,e1,↓e2,e2,↓e3,e3,↓e4,e4,hid,pk,v,el,km,i1]
   rw[if_pos (by decide)]
   refine⟨(k+1,l++[⟨1,WD k,-1,0⟩]),?_,⟨hlt,by simp [hll],nx _ dp.1⟩,by dsimp only;omega⟩
   dsimp only;rw[ea,List.length_append,List.map_append];rfl
  ·simp only[go_sem,hlt,w2,↓e1,e1,↓e2,e2,↓e3,e3,↓e4,e4,hid,pk,v,el,km,i1]
   rw[if_pos (by decide)]
   refine⟨(k+1,l++[⟨1,WD k,-1,0⟩]),?_,⟨hlt,by simp [hll],nx _ dp.1⟩,by dsimp only;omega⟩
   dsimp only;rw[ea,List.length_append,List.map_append];rfl
  ·simp only[go_sem,hlt,w2,↓e1,e1,↓e2,e2,↓e3,e3,↓e4,e4,hid,pk,v,el,km,i1]
   rw[if_pos (by decide)]
   refine⟨(k+1,l++[⟨2,WD k,-1,0⟩]),?_,⟨hlt,by simp [hll],nx _ dp.2.1⟩,by dsimp only;omega⟩
   dsimp only;rw[ea,List.length_append,List.map_append];rfl
  ·simp only[go_sem,hlt,w2,↓e1,e1,↓e2,e2,↓e3,e3,↓e4,e4,hid,pk,v,el,km,i1]
   rw[if_pos (by decide)]
   refine⟨(k+1,l++[⟨3,[],-1,0⟩]),?_,⟨hlt,by simp [hll],nx _ dp.2.2⟩,by dsimp only;omega⟩
   dsimp only;rw[ea,List.length_append,List.map_append];rfl
  ·simp only[go_sem,hlt,w2,↓e1,e1,↓e2,e2,↓e3,e3,↓e4,e4,hid,pk,v,el,km,i1]
   rw[if_pos (by decide)]
   refine⟨(k+1,l++[⟨2,WD k,-1,0⟩]),?_,⟨hlt,by simp [hll],nx _ dp.2.1⟩,by dsimp only;omega⟩
   dsimp only;rw[ea,List.length_append,List.map_append];rfl
 ·have e:k=n:=by omega
  subst e;simp only[go_sem,Nat.lt_irrefl,i1];exact fin l _ _ hll hl rfl
end Go.Am
end
section
/- What is drawn: the cells of a part,their control cells. -/
open Go
set_option linter.all false
set_option maxRecDepth 100000
namespace Go.Am
variable {h:bA} {K:nA} {L:List Int}
attribute [-go_sem] ZA kB wB uB
theorem zoh {K:Ex→St→Prop}{id:Nat}(hid:id<h.length){a0:Int}{l0:List Cel}(hn:l0.length≤6)(hp:uA 1000 a0)(hl0:∀ c∈l0,rC c)
 (fin:∀(l:List Cel) (a:Int) (z:Nat×AV),l.length=l0.length→(∀c∈l,rC c)→a0≤a→a≤a0+3*l0.length→K (.exit 3) ⟨[(0,.ref id 0),(3,.own h.length l0.length 0 l0.length),(54,AI l0.length),(55,AI l0.length),z],h.set id (EA L a)++[.row (some 4) (l.map Cel.pv) 0],[]⟩) :
 GA (kA X) X.gl pL K [(0,.ref id 0),(3,.own h.length l0.length 0 l0.length),(54,AI l0.length),(55,AI 0)] (h.set id (EA L a0)++[.row (some 4) (l0.map Cel.pv) 0]) []:=by
 refine VA (fun t:Nat×List Cel×Int=>⟨[(0,.ref id 0),(3,.own h.length l0.length 0 l0.length),(54,AI l0.length),(55,AI t.1)],h.set id (EA L t.2.2)++[.row (some 4) (t.2.1.map Cel.pv) 0],[]⟩) (fun t=>t.1≤l0.length∧t.2.1.length=l0.length∧(∀c∈t.2.1,rC c)∧a0≤t.2.2∧t.2.2≤a0+3*t.1) (fun t=>l0.length-t.1) (0,l0,a0) rfl ⟨by omega,rfl,hl0,by dsimp only;omega,by dsimp only;omega⟩ ?_
 rintro⟨k,l,a⟩ ⟨hk,hll,hl,ha1,ha2⟩
 dsimp only at hk hll hl ha1 ha2 ⊢;have i1:id≤h.length:=by omega
 rcases Nat.lt_or_ge k l0.length with hlt|hge
 ·have w2:IntKind.i64.wrap ((k:Int)+1)=((k+1:Nat):Int):=CA _ (by omega) (by omega)
  have p0:uA 0 a:=by unfold uA at *;omega
  have p1:uA 0 (a+1):=by unfold uA at *;omega
  have p2:uA 0 (a+1+1):=by unfold uA at *;omega
  have el:(l.map Cel.pv).length=l0.length:=by simp [hll]
  have kl:k<l.length:=by omega
  have g:=XA Cel.pv kl
  have cD:=hl _ (List.getElem_mem kl)
  have c0:LA none 0 l[k].pv=some (.int .i64 l[k].kind):=rfl
  by_cases hkind:l[k].kind=2
  ·have hkp:=eq_true hkind
   by_cases f:FA L a 2=0
   ·have f':=eq_true f
    obtain⟨n1,n2⟩:=FE L (a+1) l0.length (by omega) (by omega)
    have e4:=yF (k:=.i64) n1
    have jl:(FA L (a+1) l0.length).toNat<l.length:=by omega
    have jl0:(FA L (a+1) l0.length).toNat<l0.length:=by omega
    have gj:=XA Cel.pv jl
    have cj:LA none 0 l[(FA L (a+1) l0.length).toNat].pv=some (.int .i64 l[(FA L (a+1) l0.length).toNat].kind):=rfl
    by_cases hj:l[(FA L (a+1) l0.length).toNat].kind=3
    ·have hj':=eq_true hj
     have g2:(l.map Cel.pv)[k]?=some (.agg [.int .i64 l[k].kind,.str l[k].pin,.int .i64 l[k].ctl,.int .i64 l[k].off]):=g
     have c2:LA none 0 (.agg [.int .i64 l[k].kind,.str l[k].pin,.int .i64 l[k].ctl,.int .i64 l[k].off])=some (.int .i64 l[k].kind):=rfl
     have g3:∀x,((l.map Cel.pv).set k x)[k]?=some x:=fun x=>by rw[List.getElem?_set_self (by omega)]
     have el3:∀x,((l.map Cel.pv).set k x).length=l0.length:=fun x=>by simp [hll]
     have ss:∀x y,((l.map Cel.pv).set k x).set k y=(l.map Cel.pv).set k y:=fun x y=>List.set_set ..
     have sp2:∀(a b c d x:PV),splice [a,b,c,d] 2 [x]=[a,b,x,d]:=fun _ _ _ _ _=>rfl
     have sp3:∀(a b c d x:PV),splice [a,b,c,d] 3 [x]=[a,b,c,x]:=fun _ _ _ _ _=>rfl
     have hset:∀(o o':Obj),(h.set id (EA L (a+1+1+1))++[o]).set h.length o'=h.set id (EA L (a+1+1+1))++[o']:=fun o o'=>by rw[List.set_append_right _ _ (by simp)];simp
     have nc:rC ⟨l[k].kind,l[k].pin,FA L (a+1) l0.length,FA L (a+1+1) 2⟩:=cD
     have mp:(l.map Cel.pv).set k (.agg [.int .i64 l[k].kind,.str l[k].pin,.int .i64 (FA L (a+1) l0.length),.int .i64 (FA L (a+1+1) 2)])=(l.set k ⟨l[k].kind,l[k].pin,FA L (a+1) l0.length,FA L (a+1+1) 2⟩).map Cel.pv:=by rw[List.map_set];rfl
     have mm:∀c∈l.set k ⟨l[k].kind,l[k].pin,FA L (a+1) l0.length,FA L (a+1+1) 2⟩,rC c:=fun c hc=>by
      rcases List.mem_or_eq_of_mem_set hc with q|q
      ·exact hl c q
      ·rw[q];exact nc
     simp only[go_sem,hlt,w2,hid,p0,p1,p2,el,g2,c2,hkp,f',e4,jl0,gj,cj,hj',g3,el3,ss,sp2,sp3,hset];refine⟨(k+1,l.set k ⟨l[k].kind,l[k].pin,FA L (a+1) l0.length,FA L (a+1+1) 2⟩,a+1+1+1),?_,⟨hlt,by simp [hll],mm,by dsimp only;omega,by dsimp only;omega⟩,by dsimp only;omega⟩
     dsimp only;rw[←mp]
    ·simp only[go_sem,hlt,w2,hid,p0,p1,p2,el,g,c0,hkp,f',e4,jl0,gj,cj,hj]
     refine⟨(k+1,l,a+1+1),rfl,⟨hlt,hll,hl,by dsimp only;omega,by dsimp only;omega⟩,by dsimp only;omega⟩
   ·simp only[go_sem,hlt,w2,hid,p0,p1,el,g,c0,hkp,f]
    refine⟨(k+1,l,a+1),rfl,⟨hlt,hll,hl,by dsimp only;omega,by dsimp only;omega⟩,by dsimp only;omega⟩
  ·simp only[go_sem,hlt,w2,hid,p0,el,g,c0,hkind]
   refine⟨(k+1,l,a),rfl,⟨hlt,hll,hl,by dsimp only;omega,by dsimp only;omega⟩,by dsimp only;omega⟩
 ·have e:k=l0.length:=by omega
  subst e;simp only[go_sem,Nat.lt_irrefl];exact fin l a _ hll hl ha1 (by omega)
end Go.Am
end
section
/- What is drawn: the cells of a part,none twice. -/
open Go
set_option linter.all false
set_option maxRecDepth 100000
namespace Go.Am
variable {h:bA} {K:nA} {L:List Int}
attribute [-go_sem] ZA kB wB uB
theorem z9z {v:AV}{g:Nat}{caps:List AV}{p:PV→Bool}{xs:List PV}(hv:Shows (some 4) v xs h)(hp:fE g caps p xs h)(hl:xs.length≤1000000000) :
 kA X DD [v,.fn g caps] h K=K (AB (xs.any p)) h []:=by
 refine IA ?_;rw[z2z];have vi:=fun K=>ZZ (h:=h) (K:=K) hv hp hl
 simp only[wQ,go_sem,vi,aX]
theorem zoa (c d:Cel)(id:Nat)(hc:h[id]?=some c.bx):kA X xI [.p d.pv,.ref id 0] h K=K (AB (XC c d)) h []:=by
 refine IA ?_;rw[zdJ rfl];have hl:=JB hc
 have hc2:∀t,(h++t)[id]?=some c.bx:=fun t=>by rw[List.getElem?_append_left hl];exact hc
 unfold Cel.bx at hc hc2;unfold XC;by_cases h1:d.kind=c.kind
 ·have h1p:=eq_true h1
  simp only[gQ,Cel.pv,eI,go_sem,hc,hc2,h1p]
 ·simp only[gQ,Cel.pv,eI,go_sem,hc,hc2,h1]
theorem zoi {K:Ex→St→Prop}{l:List Cel}(hn:l.length≤7)(hl:∀ c∈l,rC c)
 (fin:∀(m:List Cel) (z:Nat×AV),m.length=l.length→(∀c∈m,rC c)→K (.exit 5) ⟨[(3,.own h.length l.length 0 l.length),(9,.own (h.length+1) m.length 0 m.length),(96,.own h.length l.length 0 l.length),(97,AI l.length),(98,AI l.length),z],h++[.row (some 4) (l.map Cel.pv) 0,.row (some 4) (m.map Cel.pv) 0],[]⟩) :
 GA (kA X) X.gl (.scope qL) K [(3,.own h.length l.length 0 l.length),(9,.own (h.length+1) 0 0 0),(96,.own h.length l.length 0 l.length),(97,AI l.length),(98,AI 0)] (h++[.row (some 4) (l.map Cel.pv) 0,.row (some 4) [] 0]) []:=by
 refine VA (fun t:Nat×List Cel=>⟨[(3,.own h.length l.length 0 l.length),(9,.own (h.length+1) t.2.length 0 t.2.length),(96,.own h.length l.length 0 l.length),(97,AI l.length),(98,AI t.1)],h++[.row (some 4) (l.map Cel.pv) 0,.row (some 4) (t.2.map Cel.pv) 0],[]⟩) (fun t=>t.1≤l.length∧t.2.length=t.1∧∀c∈t.2,rC c) (fun t=>l.length-t.1) (0,[]) rfl ⟨by omega,rfl,by simp⟩ ?_
 rintro⟨k,m⟩ ⟨hk,hmm,hm⟩
 dsimp only at hk hmm hm ⊢;have el:(l.map Cel.pv).length=l.length:=List.length_map ..
 have em:(m.map Cel.pv).length=m.length:=List.length_map ..
 rcases Nat.lt_or_ge k l.length with hlt|hge
 ·have w2:IntKind.i64.wrap ((k:Int)+1)=((k+1:Nat):Int):=CA _ (by omega) (by omega)
  have g:=XA Cel.pv hlt
  have c1:LA (some 4) 0 l[k].pv=some l[k].pv:=rfl
  have km:m.length+1≤WA:=by unfold WA;omega
  have cD:=hl _ (List.getElem_mem hlt)
  have hw:win (l.map Cel.pv) 0 k=(l.take k).map Cel.pv:=by simp [win,List.map_take]
  generalize hcc:l[k]=c at *;have tells:fE xI [.ref (h.length+2) 0] (fun y=>XC c (aE y)) ((l.take k).map Cel.pv) (h++[.row (some 4) (l.map Cel.pv) 0,.row (some 4) (m.map Cel.pv) 0,c.bx]):=fun y hy K=>by
   obtain⟨d,_,rfl⟩:=List.mem_map.1 hy;dsimp only;rw[BO];exact zoa c d (h.length+2) (by simp)
  have SH:Shows (some 4) (.own h.length l.length 0 k) ((l.take k).map Cel.pv) (h++[.row (some 4) (l.map Cel.pv) 0,.row (some 4) (m.map Cel.pv) 0,c.bx]):=by
   have:=qO (h:=h++[.row (some 4) (l.map Cel.pv) 0,.row (some 4) (m.map Cel.pv) 0,c.bx]) (id:=h.length) (off:=0) (len:=k) (fz:=0) (AM (l:=l)) (by simp) (by simp;omega)
   rw[el,hw]at this;exact this
  have CF:=fun K=>z9z (K:=K) SH tells (by simp;omega)
  have ea:((l.take k).map Cel.pv).any (fun y=>XC c (aE y))=(l.take k).any (XC c):=by rw[List.any_map];rfl
  simp only[ea]at CF;unfold Cel.bx at CF;simp only[Cel.pv,eI]at g c1;have nx:∀c,rC c→∀x∈m++[c],rC x:=fun c hc x hx=>by
   rcases List.mem_append.1 hx with q|q
   ·exact hm x q
   ·rw[List.mem_singleton]at q;rw[q];exact hc
  by_cases hpin:c.pin=[]
  ·have hp':=eq_true hpin
   have he:decide (c.pin=[])=true:=decide_eq_true hpin
   simp only[go_sem,hlt,g,c1,w2,el,em,he,km];refine⟨(k+1,m++[c]),?_,⟨hlt,by simp [hmm],nx c cD⟩,by dsimp only;omega⟩
   dsimp only;rw[List.length_append,List.map_append];rfl
  ·have he:decide (c.pin=[])=false:=decide_eq_false hpin
   cases ha:(l.take k).any (XC c) with
   | true=>
    rw[ha]at CF;simp only[go_sem,hlt,g,c1,w2,el,em,he,km,hk,↓CF,CF];refine⟨(k+1,m++[⟨4,[],-1,0⟩]),?_,⟨hlt,by simp [hmm],nx _ (.inl rfl)⟩,by dsimp only;omega⟩
    dsimp only;rw[List.length_append,List.map_append];rfl
   | false=>
    rw[ha]at CF;simp only[go_sem,hlt,g,c1,w2,el,em,he,km,hk,↓CF,CF];refine⟨(k+1,m++[c]),?_,⟨hlt,by simp [hmm],nx c cD⟩,by dsimp only;omega⟩
    dsimp only;rw[List.length_append,List.map_append];rfl
 ·have e:k=l.length:=by omega
  subst e;simp only[go_sem,Nat.lt_irrefl];exact fin m _ hmm hm
attribute [-go_sem] EW PM FW GJ GW QM
theorem zof {K:Ex→St→Prop}{l:List Cel}(hn:l.length≤7)(hl:∀ c∈l,rC c)(env:List (Nat × AV))(e3:aA env 3 = .own h.length l.length 0 l.length)
 (fin:∀(m:List Cel),m.length=l.length→(∀c∈m,rC c)→K .ret ⟨[(2,.own (h.length+1) m.length 0 m.length)],h++[.row (some 4) (l.map Cel.pv) 0,.row (some 4) (m.map Cel.pv) 0],[]⟩) :
 NW (kA X) X.gl NR ⟨env,h++[.row (some 4) (l.map Cel.pv) 0],[]⟩ K:=by
 rw[EW];simp only[PM,e3,go_sem];refine zoi (K:=wA 5 _) hn hl fun m z hm hd=>?_
 simp only[go_sem];exact fin m hm hd
def zM:Cel:=⟨4,[],-1,0⟩
set_option maxHeartbeats 1000000 in
theorem zjO {a:Int}(hp:uA 3000 a){id:Nat}(hid:id<h.length):∃(l m:List Cel) (a2:Int),m.length≤7∧l.length≤7∧(∀c∈m,rC c)∧a≤a2∧a2≤a+30∧∀K:nA,kA X wI [.ref id 0] (h.set id (EA L a)) K=K (.own (h.length+1) m.length 0 m.length) (h.set id (EA L a2)++[.row (some 4) (l.map Cel.pv) 0,.row (some 4) (m.map Cel.pv) 0]) []:=by
 have key:kA X wI [.ref id 0] (h.set id (EA L a)) fun v h1 x1=>∃(l m:List Cel) (a2:Int),(m.length≤7∧l.length≤7∧(∀c∈m,rC c)∧a≤a2∧a2≤a+30)∧v = .own (h.length+1) m.length 0 m.length∧h1=h.set id (EA L a2)++[.row (some 4) (l.map Cel.pv) 0,.row (some 4) (m.map Cel.pv) 0]∧x1=[]:=by
  rw[zdI rfl];have p0:uA 0 a:=by unfold uA at *;omega
  have i1:id≤h.length:=by omega
  obtain⟨r1,r2⟩:=VY L a (u:=0) (v:=6) (by omega) (by omega)
  simp only[fQ,go_sem,hid,p0];obtain⟨n,hn⟩:=Int.eq_ofNat_of_zero_le r1;rw[hn]at r2 ⊢;refine zog (K:=wA 0 _) hid (by omega) (a0:=a+1) (by unfold uA at *;omega) fun l a1 z hl hd ha=>?_
  simp only[go_sem];rw[GW];simp only[QM,go_sem];refine zoh (K:=wA 3 _) hid (by omega) (by unfold uA at *;omega) hd fun l2 a2 z2 hl2 hd2 h1 h2=>?_
  simp only[go_sem];rw[FW];have p2:uA 0 a2:=by unfold uA at *;omega
  have k10:=fun(K:Ex→St→Prop) (l:List Cel) (hn:l.length≤7) (hl:∀c∈l,rC c) env=>zof (h:=h.set id (EA L (a2+1))) (K:=K) hn hl env
  simp only[List.length_set]at k10;have el2:(l2.map Cel.pv).length=l2.length:=List.length_map ..
  by_cases f:FA L a2 6=0
  ·have f':=eq_true f
   have km:l2.length+1≤WA:=by unfold WA;omega
   simp only[GJ,←hl2,go_sem,hid,p2,f',el2,km];have hm4:List.map Cel.pv l2++[PV.agg [PV.int IntKind.i64 4,PV.str [],PV.int IntKind.i64 (-1),PV.int IntKind.i64 0]]=(l2++[zM]).map Cel.pv:=by rw[List.map_append];rfl
   rw[hm4];have e3x:aA [(3,AV.own h.length (l2.length+1) 0 (l2.length+1))] 3 = .own h.length (l2++[zM]).length 0 (l2++[zM]).length:=by rw[List.length_append];rfl
   refine k10 _ (l2++[zM]) (by simp;omega) (fun c hc=>?_) _ e3x fun m hm hd=>?_
   ·rcases List.mem_append.1 hc with q|q
    ·exact hd2 c q
    ·rw[List.mem_singleton]at q;rw[q];exact .inl rfl
   simp only[go_sem];rw[show max h.length (h.length+1+1)=h.length+2 by omega,List.take_of_length_le (by simp)]
   refine⟨l2++[zM],m,a2+1,⟨?_,?_,hd,by omega,by omega⟩,rfl,rfl⟩
   ·rw[hm];simp;omega
   ·simp;omega
  ·simp only[GJ,←hl2,go_sem,hid,p2,f]
   refine k10 _ l2 (by omega) hd2 _ rfl fun m hm hd=>?_
   simp only[go_sem];rw[show max h.length (h.length+1+1)=h.length+2 by omega,List.take_of_length_le (by simp)]
   exact⟨l2,m,a2+1,⟨by omega,by omega,hd,by omega,by omega⟩,rfl,rfl⟩
 obtain⟨v,h',x,⟨l,m,a2,q,e0,e1,e2⟩,r⟩:=kA.one uM key;subst e0 e1 e2;exact⟨l,m,a2,q.1,q.2.1,q.2.2.1,q.2.2.2.1,q.2.2.2.2,r⟩
end Go.Am
end
section
/- What is drawn: pairs looked through,and the nets' names of a board in memory. -/
open Go
set_option linter.all false
set_option maxRecDepth 100000
namespace Go.Am
variable {h:bA} {K:nA} {L:List Int}
attribute [-go_sem] ZA kB wB uB
def prV (e:Nm2 × Nm2):PV:=.agg [.str e.1,.str e.2]
theorem zmS {P:List (Nm2 × Nm2)}:ZB (some 2) (P.map prV):=fun x hx=>by obtain⟨n,_,rfl⟩:=List.mem_map.1 hx;rfl
theorem znJ {v:AV}(P:List (Nm2 × Nm2))(q:Nm2 × Nm2)(hv:∀ t,Shows (some 2) v (P.map prV) (h++t))(hl:P.length≤1000000):kA X xK [v,.p (prV q)] h K=K (AI (if P.findIdx (fun x=>decide (x=q))<P.length then(P.findIdx (fun x=>decide (x=q)):Int) else -1)) h []:=by
 refine IA ?_;rw[zex];obtain⟨q1,q2⟩:=q;have SH:=hv [.box [AS q1,AS q2]]
 have vl:=SH.len
 have el:(P.map prV).length=P.length:=List.length_map ..
 rw[el]at vl;simp only[DQ,go_sem,prV,vl];refine VA (fun k:Nat=>⟨[(0,v),(3,.ref h.length 0),(7,AI P.length),(8,AI k)],h++[.box [AS q1,AS q2]],[]⟩) (fun k=>k≤P.length∧∀i (hi:i<P.length),i<k→P[i]≠(q1,q2)) (fun k=>P.length-k) 0 rfl ⟨by omega,fun i _ hi=>by omega⟩ ?_
 rintro k ⟨hk,hp⟩
 rcases Nat.lt_or_ge k P.length with hlt|hge
 ·obtain⟨a,ha,hb⟩:=SH.get k (by omega)
  rw[List.getElem_map]at hb;simp only[prV]at hb;have w2:IntKind.i64.wrap ((k:Int)+1)=((k+1:Nat):Int):=CA _ (by omega) (by omega)
  by_cases he:P[k]=(q1,q2)
  ·have e1:P.findIdx (fun x=>decide (x=(q1,q2)))=k:=by
    rw[List.findIdx_eq hlt];exact⟨by simpa using he,fun j hj=>by simpa using hp j (by omega) hj⟩
   have a1:(P[k]).1=q1:=by rw[he]
   have a2:(P[k]).2=q2:=by rw[he]
   simp only[go_sem,hlt,ha,hb,w2,a1,a2,e1]
  ·have hc:¬(q1=(P[k]).1∧q2=(P[k]).2):=fun⟨c1,c2⟩=>he (by rw[c1,c2])
   simp only[go_sem,hlt,ha,hb,w2];rw[if_neg (by simpa using hc)]
   exact⟨k+1,rfl,⟨by omega,fun i hi hik=>by
    rcases Nat.lt_or_ge i k with hh|hh
    ·exact hp i hi hh
    ·have:i=k:=by omega
     subst this;exact he⟩,by omega⟩
 ·have e1:k=P.length:=by omega
  subst e1;have e2:¬P.findIdx (fun x=>decide (x=(q1,q2)))<P.length:=by
   intro hh;have:=List.findIdx_getElem (p:=fun x=>decide (x=(q1,q2))) (xs:=P) (w:=hh)
   exact hp _ hh hh (by simpa using this)
  simp only[go_sem,Nat.lt_irrefl,e2]
theorem znI {v:AV}(P:List (Nm2 × Nm2))(q:Nm2 × Nm2)(hv:∀ t,Shows (some 2) v (P.map prV) (h++t))(hl:P.length≤1000000):kA X sK [v,.p (prV q)] h K=K (AB (decide (q∈P))) h []:=by
 refine IA ?_;rw[zeo];have S:=fun o K=>znJ (h:=h++[o]) (K:=K) P q (fun t=>by rw[List.append_assoc];exact hv _) hl
 obtain⟨q1,q2⟩:=q;simp only[prV]at S;simp only[lW,go_sem,prV,↓S,S];by_cases hm:(q1,q2)∈P
 ·have:P.findIdx (fun x=>decide (x=(q1,q2)))<P.length:=List.findIdx_lt_length_of_exists ⟨_,hm,by simp⟩
  simp [this,hm]
 ·have:¬P.findIdx (fun x=>decide (x=(q1,q2)))<P.length:=by
   intro hh;have h2:=List.findIdx_getElem (p:=fun x=>decide (x=(q1,q2))) (xs:=P) (w:=hh)
   apply hm
   have h3:P[P.findIdx (fun x=>decide (x=(q1,q2)))]=(q1,q2):=by simpa using h2
   rw[←h3];exact List.getElem_mem hh
  simp [this,hm]
def KK (l:List Jon):List Nm2:=bC eqN (l.map Jon.net)
theorem znN (l:List Jon){jid pid g t qid m:Nat}(hj:h[jid]?=some (.row (some 3) (l.map Jon.pv) 0))(hl:l.length≤12)(hsrt:XB ltS (l.map Jon.net)=l.map Jon.net):∃xs:List PV,xs.length=l.length∧win xs 0 (KK l).length=(KK l).map PV.str∧(KK l).length≤l.length∧ZB none xs ∧
 ∀K:nA,kA X AE [.agg [.bt 3 t pid g,.own jid l.length 0 l.length,.own qid m 0 m]] h K=K (.own (h.length+1) l.length 0 (KK l).length) (h++[.box [.bt 3 t pid g,.own jid l.length 0 l.length,.own qid m 0 m],.row none xs 0]) []:=by
 have nl:(l.map Jon.net).length=l.length:=List.length_map ..
 generalize hB:(Obj.box [.bt 3 t pid g,.own jid l.length 0 l.length,.own qid m 0 m])=B;obtain⟨xs,x1,x2,x3,x4,C⟩:=hZ (h:=h++[B,.row none ((l.map Jon.net).map PV.str) 0]) (l.map Jon.net) (h.length+1) (by simp;omega) (by simp)
 rw[nl]at C x1 x3;have es:∀o,(h++[B,.row none ((l.map Jon.net).map PV.str) 0]).set (h.length+1) o=h++[B,o]:=fun o=>by rw[List.set_append_right _ _ (by omega)];simp
 rw[es]at C;have S:=fun K=>z83 (h:=h++[B,.row none ((l.map Jon.net).map PV.str) 0]) (K:=K) (h.length+1) (l.map Jon.net) (by simpa using hl) (by simp)
 rw[hsrt,es,nl]at S;refine⟨xs,x1,x2,x3,x4,fun K=>IA ?_⟩
 rw[z2y];have ln:(l.map Jon.pv).length=l.length:=List.length_map ..
 simp only[SM,go_sem,ln];subst hB;have jl:=JB hj
 have hj2:∀t,(h++t)[jid]?=some (.row (some 3) (l.map Jon.pv) 0):=fun t=>by rw[List.getElem?_append_left jl];exact hj
 refine VA (fun k:Nat=>⟨[(3,.own (h.length+1) k 0 k),(7,.own jid l.length 0 l.length),(8,AI l.length),(9,AI k)],h++[.box [.bt 3 t pid g,.own jid l.length 0 l.length,.own qid m 0 m],.row none (((l.map Jon.net).take k).map PV.str) 0],[]⟩) (fun k=>k≤l.length) (fun k=>l.length-k) 0 (by simp) (by omega) ?_
 intro k hk;rcases Nat.lt_or_ge k l.length with hlt|hge
 ·have g:=XA Jon.pv hlt
  have c1:LA (some 3) 0 l[k].pv=some l[k].pv:=rfl
  have w2:IntKind.i64.wrap ((k:Int)+1)=((k+1:Nat):Int):=CA _ (by omega) (by omega)
  have hn:k<(l.map Jon.net).length:=by simpa using hlt
  have tk:(l.map Jon.net).take (k+1)=(l.map Jon.net).take k++[l[k].net]:=by rw[List.take_succ_eq_append_getElem hn];simp
  have tl:(((l.map Jon.net).take k).map PV.str).length=k:=by simp;omega
  have hm:k+1≤WA:=by unfold WA;omega
  have j1:jid≤h.length+1:=by omega
  generalize l[k]=x at *;simp only[Jon.pv]at g c1;simp only[go_sem,hlt,hj2,ln,g,c1,w2,tl,hm,j1];refine⟨k+1,?_,by omega,by omega⟩
  rw[tk];simp
 ·have e:k=l.length:=by omega
  subst e;have t0:(l.map Jon.net).take l.length=l.map Jon.net:=List.take_of_length_le (by simp)
  unfold KK;rw[t0];generalize (l.map Jon.net).map PV.str=us at *;simp only[go_sem,Nat.lt_irrefl,↓S,S,↓C,C];exact List.take_of_length_le (by simp;omega)
end Go.Am
end
