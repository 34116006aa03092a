/- Texts of the proof, laid together: SpBrd1, SpBrd1q, SpBrdT, SpBrd2, SpBrd3, SpMap, SpLim, SpLotA, SpRecD, SpRec, SpLen, SpStrs, SpGenA, SpSome, SpGenL, SpSortRec, SpCompact, SpGenR, PMerge, SpMrgA, SpSort, SpMrgB, SpMrgC, SpMrgD, PFin, SpTxt, SpSrtS, SpBrd4, SpBrd5, PSplit, PTxt, PNum, PFlt, PFltR, SpIdx, AmL4, AmL5, SpSplit, SpLines, SpNum, SpNums, SpQNum, SpFlt1, SpFlt2, SpWords, SpBrd6, PBrd2, PBrd3, SpBrd7, SpEsc, SpBrd8, SpBrd9, PBrd4, SpBrdI, SpBrd10. -/
import Derived.KernelRfl
import Derived.Shelf.Strings.Repeat
import Derived.Shelf.Strings.SlTrimAscii
import Derived.Shelf.Spec.TrailingZeros
import Derived.Shelf.Strings.Count
import Derived.Shelf.Strings.OnBuilder
import Derived.Test.YtddfpebjibeclaaGreatDoorlawCS7
set_option linter.all false
section
/- A board's cells: what is wrong with one,both ways. -/
open Go
set_option linter.all false
namespace Go.Am
variable {h:bA} {K:mA}
theorem QY (c:Cel):jA X BE [.p c.pv] h K=K (AB (aC c)) h []:=by
 refine IA ?_;rw[zfn rfl];unfold aC;by_cases h1:c.kind=1
 ·simp only[pM,Cel.pv,eI,go_sem,h1]
 ·by_cases h2:c.kind=2
  ·simp only[pM,Cel.pv,eI,go_sem,h1,h2]
  ·simp only[pM,Cel.pv,eI,go_sem,h1,h2]
theorem z6P {l:List Cel}{i:Int}(h:inB 0 i (l.length-1)=true):∃(n:Nat) (d:Cel),i=n∧n<l.length∧(l.map Cel.pv)[n]?=some d.pv∧EE l i=d.kind:=by
 unfold inB at h;simp only[Bool.and_eq_true,decide_eq_true_eq]at h;have hn:i.toNat<l.length:=by omega
 refine⟨i.toNat,l[i.toNat],by omega,hn,ZA Cel.pv hn,?_⟩
 unfold EE;rw[List.getElem?_eq_getElem hn];rfl
set_option maxHeartbeats 4000000 in
theorem zqH (p:Prt)(c:Cel)(hp:c.pin.length≤1000000)(hl:p.cells.length≤100000):jA X kI [.p p.pv,.p c.pv] h K=K (AI (mC p.cells c)) h []:=by
 refine IA ?_;rw[zfh rfl];unfold mC;have H1:=fun h K=>QY (h:=h) (K:=K) c
 have H2:=fun h K=>PY (h:=h) (K:=K) c.pin (by omega)
 have H3:=fun h K=>zS (h:=h) (K:=K) c.kind 1 4
 have H4:=fun h K=>zS (h:=h) (K:=K) c.ctl 0 ((p.cells.length:Int)-1)
 have H5:=fun h K=>zS (h:=h) (K:=K) c.off 0 1
 simp only[Cel.pv,eI]at H1;have w:IntKind.i64.wrap ((p.cells.length:Int)-1)=(p.cells.length:Int)-1:=JA _ (by omega) (by omega)
 have ln:(p.cells.map Cel.pv).length=p.cells.length:=List.length_map ..
 have pk2:c.kind=2→aC c=true:=fun e=>by unfold aC;simp [e]
 obtain⟨b4,k4⟩:∃b,decide (c.kind=2)=b:=⟨_,rfl⟩;obtain⟨b5,k5⟩:∃b,decide (c.ctl = -1)=b:=⟨_,rfl⟩;obtain⟨b9,k9⟩:∃b,decide (c.off=0)=b:=⟨_,rfl⟩;obtain⟨bp,kp⟩:∃b,decide (c.pin=[])=b:=⟨_,rfl⟩;obtain⟨b1,k1⟩:∃b,inB 1 c.kind 4=b:=⟨_,rfl⟩;obtain⟨b2,k2⟩:∃b,aC c=b:=⟨_,rfl⟩;obtain⟨b3,k3⟩:∃b,PB c.pin=b:=⟨_,rfl⟩;obtain⟨b8,k8⟩:∃b,inB 0 c.off 1=b:=⟨_,rfl⟩;obtain⟨b6,k6⟩:∃b,inB 0 c.ctl ((p.cells.length:Int)-1)=b:=⟨_,rfl⟩;obtain⟨b7,k7⟩:∃b,decide (EE p.cells c.ctl=3)=b:=⟨_,rfl⟩;rw[k2]at H1;rw[k3]at H2;rw[k1]at H3;rw[k6]at H4;rw[k8]at H5;have n42:b4=true→b2=true:=fun e=>by rw[←k2];exact pk2 (by rw[e]at k4;simpa using k4)
 rw[k1,k2,k3,k4,k5,k6,k7,k8,k9,kp];cases b1
 ·simp only[kD,Prt.pv,Cel.pv,eI,go_sem,↓H1,H1,↓H2,H2,↓H3,H3,↓H4,H4,↓H5,H5,k4,k5,k9,kp,w,ln,xB]
 cases b2
 ·cases b4
  ·cases bp
   ·simp only[kD,Prt.pv,Cel.pv,eI,go_sem,↓H1,H1,↓H2,H2,↓H3,H3,↓H4,H4,↓H5,H5,k4,k5,k9,kp,w,ln,xB]
   cases b5
   ·simp only[kD,Prt.pv,Cel.pv,eI,go_sem,↓H1,H1,↓H2,H2,↓H3,H3,↓H4,H4,↓H5,H5,k4,k5,k9,kp,w,ln,xB]
   cases b9
   ·simp only[kD,Prt.pv,Cel.pv,eI,go_sem,↓H1,H1,↓H2,H2,↓H3,H3,↓H4,H4,↓H5,H5,k4,k5,k9,kp,w,ln,xB]
   ·simp only[kD,Prt.pv,Cel.pv,eI,go_sem,↓H1,H1,↓H2,H2,↓H3,H3,↓H4,H4,↓H5,H5,k4,k5,k9,kp,w,ln,xB]
  ·cases n42 rfl
 cases b3
 ·simp only[kD,Prt.pv,Cel.pv,eI,go_sem,↓H1,H1,↓H2,H2,↓H3,H3,↓H4,H4,↓H5,H5,k4,k5,k9,kp,w,ln,xB]
 cases b4
 ·cases b5
  ·simp only[kD,Prt.pv,Cel.pv,eI,go_sem,↓H1,H1,↓H2,H2,↓H3,H3,↓H4,H4,↓H5,H5,k4,k5,k9,kp,w,ln,xB]
  cases b9
  ·simp only[kD,Prt.pv,Cel.pv,eI,go_sem,↓H1,H1,↓H2,H2,↓H3,H3,↓H4,H4,↓H5,H5,k4,k5,k9,kp,w,ln,xB]
  ·simp only[kD,Prt.pv,Cel.pv,eI,go_sem,↓H1,H1,↓H2,H2,↓H3,H3,↓H4,H4,↓H5,H5,k4,k5,k9,kp,w,ln,xB]
 cases b5
 ·cases b6
  ·simp only[kD,Prt.pv,Cel.pv,eI,go_sem,↓H1,H1,↓H2,H2,↓H3,H3,↓H4,H4,↓H5,H5,k4,k5,k9,kp,w,ln,xB]
  obtain⟨n,d,e1,e2,e3,e4⟩:=z6P k6;have c1:QA none 0 d.pv=some (eI d.kind):=rfl
  have hn:vB (.p (.int .i64 c.ctl))=some n:=by rw[e1];exact gR
  rw[e4]at k7;simp only[eI]at c1;cases b7
  ·simp only[kD,Prt.pv,Cel.pv,eI,go_sem,↓H1,H1,↓H2,H2,↓H3,H3,↓H4,H4,↓H5,H5,k4,k5,k9,kp,w,ln,hn,e2,e3,c1,k7,xB]
  cases b8
  ·simp only[kD,Prt.pv,Cel.pv,eI,go_sem,↓H1,H1,↓H2,H2,↓H3,H3,↓H4,H4,↓H5,H5,k4,k5,k9,kp,w,ln,hn,e2,e3,c1,k7,xB]
  ·simp only[kD,Prt.pv,Cel.pv,eI,go_sem,↓H1,H1,↓H2,H2,↓H3,H3,↓H4,H4,↓H5,H5,k4,k5,k9,kp,w,ln,hn,e2,e3,c1,k7,xB]
 cases b8
 ·simp only[kD,Prt.pv,Cel.pv,eI,go_sem,↓H1,H1,↓H2,H2,↓H3,H3,↓H4,H4,↓H5,H5,k4,k5,k9,kp,w,ln,xB]
 cases b9
 ·simp only[kD,Prt.pv,Cel.pv,eI,go_sem,↓H1,H1,↓H2,H2,↓H3,H3,↓H4,H4,↓H5,H5,k4,k5,k9,kp,w,ln,xB]
 ·simp only[kD,Prt.pv,Cel.pv,eI,go_sem,↓H1,H1,↓H2,H2,↓H3,H3,↓H4,H4,↓H5,H5,k4,k5,k9,kp,w,ln,xB]
end Go.Am
end
section
/- A board's cells: what is wrong with one: the reference. -/
open Go
set_option linter.all false
namespace Go.Am
variable {h:bA} {K:mA}
set_option maxHeartbeats 4000000 in
theorem zqI (l:List Cel)(c:Cel)(hp:c.pin.length≤1000000)(hl:l.length≤100000):jA X YJ [.p (.sl (some 4) (l.map Cel.pv)),.p c.pv] h K=K (AI (mC l c)) h []:=by
 refine IA ?_;rw[zfN rfl];unfold mC;have H2:=fun h K=>UY (h:=h) (K:=K) c.pin (by omega)
 have H3:=fun h K=>BS (h:=h) (K:=K) c.kind 1 4
 have H4:=fun h K=>BS (h:=h) (K:=K) c.ctl 0 ((l.length:Int)-1)
 have H5:=fun h K=>BS (h:=h) (K:=K) c.off 0 1
 have w:IntKind.i64.wrap ((l.length:Int)-1)=(l.length:Int)-1:=JA _ (by omega) (by omega)
 have ln:(l.map Cel.pv).length=l.length:=List.length_map ..
 obtain⟨b4,k4⟩:∃b,decide (c.kind=2)=b:=⟨_,rfl⟩;obtain⟨b5,k5⟩:∃b,decide (c.ctl = -1)=b:=⟨_,rfl⟩;obtain⟨b9,k9⟩:∃b,decide (c.off=0)=b:=⟨_,rfl⟩;obtain⟨bp,kp⟩:∃b,decide (c.pin=[])=b:=⟨_,rfl⟩;obtain⟨ba,ka⟩:∃b,decide (c.kind=1)=b:=⟨_,rfl⟩;obtain⟨b1,k1⟩:∃b,inB 1 c.kind 4=b:=⟨_,rfl⟩;obtain⟨b2,k2⟩:∃b,aC c=b:=⟨_,rfl⟩;obtain⟨b3,k3⟩:∃b,PB c.pin=b:=⟨_,rfl⟩;obtain⟨b8,k8⟩:∃b,inB 0 c.off 1=b:=⟨_,rfl⟩;obtain⟨b6,k6⟩:∃b,inB 0 c.ctl ((l.length:Int)-1)=b:=⟨_,rfl⟩;obtain⟨b7,k7⟩:∃b,decide (EE l c.ctl=3)=b:=⟨_,rfl⟩;rw[k3]at H2;rw[k1]at H3;rw[k6]at H4;rw[k8]at H5;have e2:b2=(ba||b4):=by rw[←k2,←ka,←k4];rfl
 subst e2;rw[k1,k2,k3,k4,k5,k6,k7,k8,k9,kp];clear k2;cases b4
 ·cases ba
  ·cases b1
   ·simp only[KC,Cel.pv,eI,go_sem,↓H2,H2,↓H3,H3,↓H4,H4,↓H5,H5,ka,k4,k5,k9,kp,w,ln,xB]
   cases bp
   ·simp only[KC,Cel.pv,eI,go_sem,↓H2,H2,↓H3,H3,↓H4,H4,↓H5,H5,ka,k4,k5,k9,kp,w,ln,xB]
   cases b5
   ·simp only[KC,Cel.pv,eI,go_sem,↓H2,H2,↓H3,H3,↓H4,H4,↓H5,H5,ka,k4,k5,k9,kp,w,ln,xB]
   cases b9
   ·simp only[KC,Cel.pv,eI,go_sem,↓H2,H2,↓H3,H3,↓H4,H4,↓H5,H5,ka,k4,k5,k9,kp,w,ln,xB]
   ·simp only[KC,Cel.pv,eI,go_sem,↓H2,H2,↓H3,H3,↓H4,H4,↓H5,H5,ka,k4,k5,k9,kp,w,ln,xB]
  ·cases b1
   ·simp only[KC,Cel.pv,eI,go_sem,↓H2,H2,↓H3,H3,↓H4,H4,↓H5,H5,ka,k4,k5,k9,kp,w,ln,xB]
   cases b3
   ·simp only[KC,Cel.pv,eI,go_sem,↓H2,H2,↓H3,H3,↓H4,H4,↓H5,H5,ka,k4,k5,k9,kp,w,ln,xB]
   cases b5
   ·simp only[KC,Cel.pv,eI,go_sem,↓H2,H2,↓H3,H3,↓H4,H4,↓H5,H5,ka,k4,k5,k9,kp,w,ln,xB]
   cases b9
   ·simp only[KC,Cel.pv,eI,go_sem,↓H2,H2,↓H3,H3,↓H4,H4,↓H5,H5,ka,k4,k5,k9,kp,w,ln,xB]
   ·simp only[KC,Cel.pv,eI,go_sem,↓H2,H2,↓H3,H3,↓H4,H4,↓H5,H5,ka,k4,k5,k9,kp,w,ln,xB]
 ·cases ba
  ·cases b1
   ·simp only[KC,Cel.pv,eI,go_sem,↓H2,H2,↓H3,H3,↓H4,H4,↓H5,H5,ka,k4,k5,k9,kp,w,ln,xB]
   cases b3
   ·simp only[KC,Cel.pv,eI,go_sem,↓H2,H2,↓H3,H3,↓H4,H4,↓H5,H5,ka,k4,k5,k9,kp,w,ln,xB]
   cases b5
   ·cases b6
    ·simp only[KC,Cel.pv,eI,go_sem,↓H2,H2,↓H3,H3,↓H4,H4,↓H5,H5,ka,k4,k5,k9,kp,w,ln,xB]
    obtain⟨n,d,e1,e2,e3,e4⟩:=z6P k6;have c1:QA none 0 d.pv=some (eI d.kind):=rfl
    have hn:vB (.p (.int .i64 c.ctl))=some n:=by rw[e1];exact gR
    rw[e4]at k7;simp only[eI]at c1;cases b7
    ·simp only[KC,Cel.pv,eI,go_sem,↓H2,H2,↓H3,H3,↓H4,H4,↓H5,H5,ka,k4,k5,k9,kp,w,ln,hn,e2,e3,c1,k7,xB]
    cases b8
    ·simp only[KC,Cel.pv,eI,go_sem,↓H2,H2,↓H3,H3,↓H4,H4,↓H5,H5,ka,k4,k5,k9,kp,w,ln,hn,e2,e3,c1,k7,xB]
    ·simp only[KC,Cel.pv,eI,go_sem,↓H2,H2,↓H3,H3,↓H4,H4,↓H5,H5,ka,k4,k5,k9,kp,w,ln,hn,e2,e3,c1,k7,xB]
   cases b8
   ·simp only[KC,Cel.pv,eI,go_sem,↓H2,H2,↓H3,H3,↓H4,H4,↓H5,H5,ka,k4,k5,k9,kp,w,ln,xB]
   cases b9
   ·simp only[KC,Cel.pv,eI,go_sem,↓H2,H2,↓H3,H3,↓H4,H4,↓H5,H5,ka,k4,k5,k9,kp,w,ln,xB]
   ·simp only[KC,Cel.pv,eI,go_sem,↓H2,H2,↓H3,H3,↓H4,H4,↓H5,H5,ka,k4,k5,k9,kp,w,ln,xB]
  ·simp only[decide_eq_true_eq]at k4 ka
   omega
end Go.Am
end
section
/- Lists of cells,joins,parts: looked through: printed by program. -/
open Go
set_option linter.unusedSimpArgs false
namespace Go.Am
attribute [-go_sem] PV.cells splice
variable {h:bA} {K:mA}
theorem AZ {v:AV}{g:Nat}{caps:List AV}{p:PV→Bool}{xs:List PV}(hv:Shows (some 4) v xs h)(hp:jE g caps p xs h)(hl:xs.length≤1000000000) :
 jA X wI [v,.fn g caps] h K=K (AI (OC p xs)) h []:=by
 refine IA ?_;rw[zgc];have vl:=hv.len
 simp only[pQ,go_sem,vl];refine UA (fun k:Nat=>⟨[(0,v),(1,.fn g caps),(7,AI xs.length),(8,AI k)],h,[]⟩) (fun k=>k≤xs.length∧∀x∈xs.take k,p x=false) (fun k=>xs.length-k) 0 rfl (by simp) ?_
 rintro k ⟨hk,hn⟩
 rcases Nat.lt_or_ge k xs.length with hlt|hge
 ·obtain⟨a,ha,hb⟩:=hv.get k hlt
  have w2:IntKind.i64.wrap ((k:Int)+1)=((k+1:Nat):Int):=JA _ (by omega) (by omega)
  have ht:=hp _ (List.getElem_mem hlt)
  cases hpk:p xs[k]with
  | true=>
   have hf:xs.findIdx p=k:=by
    rw[List.findIdx_eq hlt];refine⟨hpk,fun j hj=>?_⟩
    have:=hn xs[j] (by rw[List.mem_take_iff_getElem];exact⟨j,by omega,rfl⟩)
    simpa using this
   simp only[go_sem,hlt,ha,hb,ht,hpk,w2];simp only[OC,hf,hlt,if_true]
  | false=>
   simp only[go_sem,hlt,ha,hb,ht,hpk,w2];refine⟨k+1,rfl,⟨by omega,fun x hx=>?_⟩,by omega⟩
   rw[List.take_succ_eq_append_getElem hlt,List.mem_append,List.mem_singleton]at hx;rcases hx with hx|hx
   ·exact hn x hx
   ·rw[hx];exact hpk
 ·have e1:k=xs.length:=by omega
  subst e1;simp only[go_sem,Nat.lt_irrefl];rw[List.take_length]at hn;have:¬xs.findIdx p<xs.length:=by
   rw[Nat.not_lt,Nat.le_iff_lt_or_eq];right
   exact(List.findIdx_eq_length.2 (fun x hx=>by simp [hn x hx])).symm
  simp [OC,this]
theorem oO {g:Nat}{caps:List AV}{p:PV→Bool}{xs:List PV}(hp:jE g caps p xs h)(hs:bC (some 4) xs)(hl:xs.length≤1000000000) :
 jA X JD [.p (.sl (some 4) xs),.fn g caps] h K=K (AB (xs.any p)) h []:=by
 refine IA ?_;rw[z1T];have vi:=fun K=>AZ (h:=h) (K:=K) (GS hs) hp hl
 simp only[mQ,go_sem,vi,MW]
theorem zaR {v:AV}{g:Nat}{caps:List AV}{p:PV→Bool}{xs:List PV}(hv:Shows (some 3) v xs h)(hp:jE g caps p xs h)(hl:xs.length≤1000000000) :
 jA X iK [v,.fn g caps] h K=K (AI (OC p xs)) h []:=by
 refine IA ?_;rw[zge];have vl:=hv.len
 simp only[rQ,go_sem,vl];refine UA (fun k:Nat=>⟨[(0,v),(1,.fn g caps),(7,AI xs.length),(8,AI k)],h,[]⟩) (fun k=>k≤xs.length∧∀x∈xs.take k,p x=false) (fun k=>xs.length-k) 0 rfl (by simp) ?_
 rintro k ⟨hk,hn⟩
 rcases Nat.lt_or_ge k xs.length with hlt|hge
 ·obtain⟨a,ha,hb⟩:=hv.get k hlt
  have w2:IntKind.i64.wrap ((k:Int)+1)=((k+1:Nat):Int):=JA _ (by omega) (by omega)
  have ht:=hp _ (List.getElem_mem hlt)
  cases hpk:p xs[k]with
  | true=>
   have hf:xs.findIdx p=k:=by
    rw[List.findIdx_eq hlt];refine⟨hpk,fun j hj=>?_⟩
    have:=hn xs[j] (by rw[List.mem_take_iff_getElem];exact⟨j,by omega,rfl⟩)
    simpa using this
   simp only[go_sem,hlt,ha,hb,ht,hpk,w2];simp only[OC,hf,hlt,if_true]
  | false=>
   simp only[go_sem,hlt,ha,hb,ht,hpk,w2];refine⟨k+1,rfl,⟨by omega,fun x hx=>?_⟩,by omega⟩
   rw[List.take_succ_eq_append_getElem hlt,List.mem_append,List.mem_singleton]at hx;rcases hx with hx|hx
   ·exact hn x hx
   ·rw[hx];exact hpk
 ·have e1:k=xs.length:=by omega
  subst e1;simp only[go_sem,Nat.lt_irrefl];rw[List.take_length]at hn;have:¬xs.findIdx p<xs.length:=by
   rw[Nat.not_lt,Nat.le_iff_lt_or_eq];right
   exact(List.findIdx_eq_length.2 (fun x hx=>by simp [hn x hx])).symm
  simp [OC,this]
theorem z9q {g:Nat}{caps:List AV}{p:PV→Bool}{xs:List PV}(hp:jE g caps p xs h)(hs:bC (some 3) xs)(hl:xs.length≤1000000000) :
 jA X bK [.p (.sl (some 3) xs),.fn g caps] h K=K (AB (xs.any p)) h []:=by
 refine IA ?_;rw[zfX];have vi:=fun K=>zaR (h:=h) (K:=K) (GS hs) hp hl
 simp only[IV,go_sem,vi,MW]
theorem zaQ {v:AV}{g:Nat}{caps:List AV}{p:PV→Bool}{xs:List PV}(hv:Shows (some 2) v xs h)(hp:jE g caps p xs h)(hl:xs.length≤1000000000) :
 jA X fK [v,.fn g caps] h K=K (AI (OC p xs)) h []:=by
 refine IA ?_;rw[zgd];have vl:=hv.len
 simp only[qQ,go_sem,vl];refine UA (fun k:Nat=>⟨[(0,v),(1,.fn g caps),(7,AI xs.length),(8,AI k)],h,[]⟩) (fun k=>k≤xs.length∧∀x∈xs.take k,p x=false) (fun k=>xs.length-k) 0 rfl (by simp) ?_
 rintro k ⟨hk,hn⟩
 rcases Nat.lt_or_ge k xs.length with hlt|hge
 ·obtain⟨a,ha,hb⟩:=hv.get k hlt
  have w2:IntKind.i64.wrap ((k:Int)+1)=((k+1:Nat):Int):=JA _ (by omega) (by omega)
  have ht:=hp _ (List.getElem_mem hlt)
  cases hpk:p xs[k]with
  | true=>
   have hf:xs.findIdx p=k:=by
    rw[List.findIdx_eq hlt];refine⟨hpk,fun j hj=>?_⟩
    have:=hn xs[j] (by rw[List.mem_take_iff_getElem];exact⟨j,by omega,rfl⟩)
    simpa using this
   simp only[go_sem,hlt,ha,hb,ht,hpk,w2];simp only[OC,hf,hlt,if_true]
  | false=>
   simp only[go_sem,hlt,ha,hb,ht,hpk,w2];refine⟨k+1,rfl,⟨by omega,fun x hx=>?_⟩,by omega⟩
   rw[List.take_succ_eq_append_getElem hlt,List.mem_append,List.mem_singleton]at hx;rcases hx with hx|hx
   ·exact hn x hx
   ·rw[hx];exact hpk
 ·have e1:k=xs.length:=by omega
  subst e1;simp only[go_sem,Nat.lt_irrefl];rw[List.take_length]at hn;have:¬xs.findIdx p<xs.length:=by
   rw[Nat.not_lt,Nat.le_iff_lt_or_eq];right
   exact(List.findIdx_eq_length.2 (fun x hx=>by simp [hn x hx])).symm
  simp [OC,this]
end Go.Am
end
section
/- A board's cells: what is wrong with some,both ways. -/
open Go
set_option linter.all false
namespace Go.Am
variable {h:bA} {K:mA}
abbrev dE (l:List Cel):AV:=.p (.sl (some 4) (l.map Cel.pv))
def Cel.bx (c:Cel):Obj:=.box [AI c.kind,AS c.pin,AI c.ctl,AI c.off]
def Prt.bx (p:Prt):Obj:=.box [AS p.key,dE p.cells]
def cE:PV→Cel
 | .agg [.int _ a,.str b,.int _ c,.int _ d]=>⟨a,b,c,d⟩
 | _=>⟨0,[],0,0⟩
theorem lO (c:Cel):cE c.pv=c:=rfl
theorem dM {l:List Cel}:bC (some 4) (l.map Cel.pv):=fun x hx=>by obtain⟨e,_,rfl⟩:=List.mem_map.1 hx;rfl
theorem z8K (P:Cel→Bool)(seen:List Cel)(c:Cel)(r:List Cel):twC P seen (c::r)=if(P c&&seen.any (QC c))=true then true else twC P (seen++[c]) r:=rfl
theorem zqL (c d:Cel)(id:Nat)(hc:h[id]?=some c.bx):jA X nH [.p d.pv,.ref id 0] h K=K (AB (QC c d)) h []:=by
 refine IA ?_;rw[zfk rfl];have hl:=yB hc
 have hc2:∀t,(h++t)[id]?=some c.bx:=fun t=>by rw[List.getElem?_append_left hl];exact hc
 unfold Cel.bx at hc hc2;unfold QC;by_cases h1:d.kind=c.kind
 ·have h1p:=eq_true h1
  simp only[EP,Cel.pv,eI,go_sem,hc,hc2,h1p]
 ·simp only[EP,Cel.pv,eI,go_sem,hc,hc2,h1]
attribute [-go_sem] gW oM
theorem zqM {K:Ex→St→Prop}(p:Prt)(hl:p.cells.length≤100000)(b:List (Nat × AV))(b1:aA b 1 = .ref h.length 0)
 (f6:twC aC [] p.cells=true→∀H,K .ret ⟨[(2,AI 6)],h++H,[]⟩) (f0:twC aC [] p.cells=false→∀H,K .ret ⟨[(2,AI 0)],h++H,[]⟩) :
 NW (jA X) X.gl rN ⟨b,h++[p.bx],[]⟩ K:=by
 rw[gW];have ln:(p.cells.map Cel.pv).length=p.cells.length:=List.length_map ..
 unfold Prt.bx;simp only[oM,b1,go_sem,ln];refine UA (fun k:Nat=>⟨[(1,.ref h.length 0),(27,dE p.cells),(28,AI p.cells.length),(29,AI k)],h++[p.bx],[]⟩) (fun k=>k≤p.cells.length∧twC aC (p.cells.take k) (p.cells.drop k)=twC aC [] p.cells) (fun k=>p.cells.length-k) 0 rfl ⟨by omega,rfl⟩ ?_
 rintro k ⟨hk,hp⟩
 unfold Prt.bx;rcases Nat.lt_or_ge k p.cells.length with hlt|hge
 ·have g:=ZA Cel.pv hlt
  have c1:QA (some 4) 0 p.cells[k].pv=some p.cells[k].pv:=rfl
  have w2:IntKind.i64.wrap ((k:Int)+1)=((k+1:Nat):Int):=JA _ (by omega) (by omega)
  rw[List.drop_eq_getElem_cons hlt,z8K]at hp;have tk:p.cells.take (k+1)=p.cells.take k++[p.cells[k]]:=List.take_succ_eq_append_getElem hlt
  rw[←tk]at hp;have hw:win (p.cells.map Cel.pv) 0 k=(p.cells.take k).map Cel.pv:=by simp [win,List.map_take]
  have hkl:k≤p.cells.length:=hk
  generalize hcc:p.cells[k]=c at *;have HP:=fun h K=>QY (h:=h) (K:=K) c
  simp only[Cel.pv,eI]at HP;have tells:∀o:Obj,jE nH [.ref (h.length+1) 0] (fun y=>QC c (cE y)) ((p.cells.take k).map Cel.pv) (h++[o,c.bx]):=fun o y hy K=>by
   obtain⟨d,_,rfl⟩:=List.mem_map.1 hy;dsimp only;rw[lO];exact zqL c d (h.length+1) (by simp)
  have CF:=fun(o:Obj) K=>oO (h:=h++[o,c.bx]) (K:=K) (tells o) dM (by simp;omega)
  have ea:((p.cells.take k).map Cel.pv).any (fun y=>QC c (cE y))=(p.cells.take k).any (QC c):=by rw[List.any_map];rfl
  simp only[ea]at CF;unfold Cel.bx at CF;simp only[Cel.pv,eI]at g c1;cases hq:aC c with
  | false=>
   rw[hq]at hp;rw[hq]at HP;simp only[go_sem,hlt,g,c1,w2,↓HP,HP];exact⟨k+1,rfl,⟨by omega,hp⟩,by omega⟩
  | true=>
   rw[hq]at hp;rw[hq]at HP;cases ha:(p.cells.take k).any (QC c) with
   | true=>
    rw[ha]at hp CF;simp only[go_sem,hlt,g,c1,w2,↓HP,HP,ln,hkl,hw,↓CF,CF];exact f6 hp.symm _
   | false=>
    rw[ha]at hp CF;simp only[go_sem,hlt,g,c1,w2,↓HP,HP,ln,hkl,hw,↓CF,CF];exact⟨k+1,rfl,⟨by omega,hp⟩,by omega⟩
 ·have e:k=p.cells.length:=by omega
  subst e;rw[List.drop_length,List.take_length]at hp;simp only[go_sem,Nat.lt_irrefl];exact f0 hp.symm _
theorem zqK (p:Prt)(hc:∀ c∈p.cells,c.pin.length≤1000000)(hl:p.cells.length≤100000):jA X lI [.p p.pv] h K=K (AI (jD p.cells)) h []:=by
 refine IA ?_;rw[zfj rfl];have ln:(p.cells.map Cel.pv).length=p.cells.length:=List.length_map ..
 rw[jD];by_cases h2:(200:Int)<p.cells.length
 ·rw[if_pos h2]
  simp only[nM,Prt.pv,go_sem,ln,h2]
 rw[if_neg h2];simp only[nM,Prt.pv,go_sem,ln,h2];refine UA (fun k:Nat=>⟨[(1,.ref h.length 0),(13,dE p.cells),(14,AI p.cells.length),(15,AI k)],h++[p.bx],[]⟩) (fun k=>k≤p.cells.length∧nD (mC p.cells) (p.cells.drop k)=nD (mC p.cells) p.cells) (fun k=>p.cells.length-k) 0 rfl ⟨by omega,rfl⟩ ?_
 rintro k ⟨hk,hp⟩
 unfold Prt.bx;rcases Nat.lt_or_ge k p.cells.length with hlt|hge
 ·have g:=ZA Cel.pv hlt
  have c1:QA (some 4) 0 p.cells[k].pv=some p.cells[k].pv:=rfl
  have w2:IntKind.i64.wrap ((k:Int)+1)=((k+1:Nat):Int):=JA _ (by omega) (by omega)
  rw[List.drop_eq_getElem_cons hlt,nD]at hp;have hcl:=hc _ (List.getElem_mem hlt)
  generalize hcc:p.cells[k]=c at *;have CE:=fun h K=>zqH (h:=h) (K:=K) p c hcl hl
  simp only[Prt.pv,Cel.pv,eI]at CE g c1;by_cases hz:mC p.cells c=0
  ·rw[if_neg (by simp [hz])]at hp
   rw[hz]at CE;simp only[go_sem,hlt,g,c1,w2,↓CE,CE];exact⟨k+1,rfl,⟨by omega,hp⟩,by omega⟩
  ·rw[if_pos hz]at hp
   rw[if_pos (by rw[←hp];exact hz),←hp]
   have e12:eA .neq (.p (.int .i64 (mC p.cells c))) (.p (.int .i64 0))=some (AB true):=by simp only[go_sem,hz]
   simp only[go_sem,hlt,g,c1,w2,↓CE,CE,↓e12]
 ·have e:k=p.cells.length:=by omega
  subst e;rw[List.drop_length]at hp;rw[if_neg (by rw[←hp];simp [nD])]
  simp only[go_sem,Nat.lt_irrefl];refine zqM p hl _ rfl (fun ht H=>?_) (fun ht H=>?_)
  ·rw[ht];simp only[go_sem]
  ·rw[ht];simp only[go_sem]
theorem zrd (c d:Cel)(id:Nat)(hc:h[id]?=some c.bx):jA X vI [.p d.pv,.ref id 0] h K=K (AB (QC c d)) h []:=by
 refine IA ?_;rw[zfT rfl];have hl:=yB hc
 have hc2:∀t,(h++t)[id]?=some c.bx:=fun t=>by rw[List.getElem?_append_left hl];exact hc
 unfold Cel.bx at hc hc2;unfold QC;by_cases h1:d.kind=c.kind
 ·have h1p:=eq_true h1
  simp only[iQ,Cel.pv,eI,go_sem,hc,hc2,h1p]
 ·simp only[iQ,Cel.pv,eI,go_sem,hc,hc2,h1]
attribute [-go_sem] oW zM
theorem zre {K:Ex→St→Prop}(p:Prt)(hl:p.cells.length≤100000)(b:List (Nat × AV))(b1:aA b 1 = .ref h.length 0)
 (f6:twC KD [] p.cells=true→∀H,K .ret ⟨[(2,AI 6)],h++H,[]⟩) (f0:twC KD [] p.cells=false→∀H,K .ret ⟨[(2,AI 0)],h++H,[]⟩) :
 NW (jA X) X.gl FN ⟨b,h++[p.bx],[]⟩ K:=by
 rw[oW];have ln:(p.cells.map Cel.pv).length=p.cells.length:=List.length_map ..
 unfold Prt.bx;simp only[zM,b1,go_sem,ln];refine UA (fun k:Nat=>⟨[(1,.ref h.length 0),(28,dE p.cells),(29,AI p.cells.length),(30,AI k)],h++[p.bx],[]⟩) (fun k=>k≤p.cells.length∧twC KD (p.cells.take k) (p.cells.drop k)=twC KD [] p.cells) (fun k=>p.cells.length-k) 0 rfl ⟨by omega,rfl⟩ ?_
 rintro k ⟨hk,hp⟩
 unfold Prt.bx;rcases Nat.lt_or_ge k p.cells.length with hlt|hge
 ·have g:=ZA Cel.pv hlt
  have c1:QA (some 4) 0 p.cells[k].pv=some p.cells[k].pv:=rfl
  have w2:IntKind.i64.wrap ((k:Int)+1)=((k+1:Nat):Int):=JA _ (by omega) (by omega)
  rw[List.drop_eq_getElem_cons hlt,z8K]at hp;have tk:p.cells.take (k+1)=p.cells.take k++[p.cells[k]]:=List.take_succ_eq_append_getElem hlt
  rw[←tk]at hp;have hw:win (p.cells.map Cel.pv) 0 k=(p.cells.take k).map Cel.pv:=by simp [win,List.map_take]
  have hkl:k≤p.cells.length:=hk
  generalize hcc:p.cells[k]=c at *;have tells:∀o:Obj,jE vI [.ref (h.length+1) 0] (fun y=>QC c (cE y)) ((p.cells.take k).map Cel.pv) (h++[o,c.bx]):=fun o y hy K=>by
   obtain⟨d,_,rfl⟩:=List.mem_map.1 hy;dsimp only;rw[lO];exact zrd c d (h.length+1) (by simp)
  have CF:=fun(o:Obj) K=>oO (h:=h++[o,c.bx]) (K:=K) (tells o) dM (by simp;omega)
  have ea:((p.cells.take k).map Cel.pv).any (fun y=>QC c (cE y))=(p.cells.take k).any (QC c):=by rw[List.any_map];rfl
  simp only[ea]at CF;unfold Cel.bx at CF;simp only[Cel.pv,eI]at g c1;cases hq:KD c with
  | false=>
   rw[hq]at hp;have he:decide (c.pin=[])=true:=by unfold KD at hq;simpa using hq
   simp only[go_sem,hlt,g,c1,w2,he];exact⟨k+1,rfl,⟨by omega,hp⟩,by omega⟩
  | true=>
   rw[hq]at hp;have he:decide (c.pin=[])=false:=by unfold KD at hq;simpa using hq
   cases ha:(p.cells.take k).any (QC c) with
   | true=>
    rw[ha]at hp CF;simp only[go_sem,hlt,g,c1,w2,he,ln,hkl,hw,↓CF,CF];exact f6 hp.symm _
   | false=>
    rw[ha]at hp CF;simp only[go_sem,hlt,g,c1,w2,he,ln,hkl,hw,↓CF,CF];exact⟨k+1,rfl,⟨by omega,hp⟩,by omega⟩
 ·have e:k=p.cells.length:=by omega
  subst e;rw[List.drop_length,List.take_length]at hp;simp only[go_sem,Nat.lt_irrefl];exact f0 hp.symm _
theorem zrc (p:Prt)(hc:∀ c∈p.cells,c.pin.length≤1000000)(hl:p.cells.length≤100000):jA X aK [.p p.pv] h K=K (AI (jD p.cells)) h []:=by
 refine IA ?_;rw[zfS rfl];have ln:(p.cells.map Cel.pv).length=p.cells.length:=List.length_map ..
 rw[zg7];by_cases h2:(200:Int)<p.cells.length
 ·rw[if_pos h2]
  simp only[yM,Prt.pv,go_sem,ln,h2]
 rw[if_neg h2];simp only[yM,Prt.pv,go_sem,ln,h2];refine UA (fun k:Nat=>⟨[(1,.ref h.length 0),(13,dE p.cells),(14,AI p.cells.length),(15,AI k)],h++[p.bx],[]⟩) (fun k=>k≤p.cells.length∧nD (mC p.cells) (p.cells.drop k)=nD (mC p.cells) p.cells) (fun k=>p.cells.length-k) 0 rfl ⟨by omega,rfl⟩ ?_
 rintro k ⟨hk,hp⟩
 unfold Prt.bx;rcases Nat.lt_or_ge k p.cells.length with hlt|hge
 ·have g:=ZA Cel.pv hlt
  have c1:QA (some 4) 0 p.cells[k].pv=some p.cells[k].pv:=rfl
  have w2:IntKind.i64.wrap ((k:Int)+1)=((k+1:Nat):Int):=JA _ (by omega) (by omega)
  rw[List.drop_eq_getElem_cons hlt,nD]at hp;have hcl:=hc _ (List.getElem_mem hlt)
  generalize hcc:p.cells[k]=c at *;have CE:=fun h K=>zqI (h:=h) (K:=K) p.cells c hcl hl
  simp only[Prt.pv,Cel.pv,eI]at CE g c1;by_cases hz:mC p.cells c=0
  ·rw[if_neg (by simp [hz])]at hp
   rw[hz]at CE;simp only[go_sem,hlt,g,c1,w2,↓CE,CE];exact⟨k+1,rfl,⟨by omega,hp⟩,by omega⟩
  ·rw[if_pos hz]at hp
   rw[if_pos (by rw[←hp];exact hz),←hp]
   have e12:eA .neq (.p (.int .i64 (mC p.cells c))) (.p (.int .i64 0))=some (AB true):=by simp only[go_sem,hz]
   simp only[go_sem,hlt,g,c1,w2,↓CE,CE,↓e12]
 ·have e:k=p.cells.length:=by omega
  subst e;rw[List.drop_length]at hp;rw[if_neg (by rw[←hp];simp [nD])]
  simp only[go_sem,Nat.lt_irrefl];refine zre p hl _ rfl (fun ht H=>?_) (fun ht H=>?_)
  ·rw[ht];simp only[go_sem]
  ·rw[ht];simp only[go_sem]
end Go.Am
end
section
/- Where a part is: both ways. -/
open Go
set_option linter.all false
namespace Go.Am
variable {h:bA} {K:mA}
abbrev aD (l:List Prt):AV:=.p (.sl (some 2) (l.map Prt.pv))
def zss:PV→List Cel
 | .sl _ l=>l.map cE
 | _=>[]
def LS:PV→Prt
 | .agg [.str a,b]=>⟨a,zss b⟩
 | _=>⟨[],[]⟩
theorem zsv (p:Prt):LS p.pv=p:=by
 cases p with
 | mk k c=>
  show(⟨k,(c.map Cel.pv).map cE⟩:Prt)=⟨k,c⟩
  rw[List.map_map];congr 1
  induction c with
  | nil=>rfl
  | cons x r ih=>rw[List.map_cons,ih];rfl
theorem zpF {l:List Prt}:bC (some 2) (l.map Prt.pv):=fun x hx=>by obtain⟨e,_,rfl⟩:=List.mem_map.1 hx;rfl
def QH (l:List Prt):Prop:=l.Pairwise fun p q=>vA p.key q.key<0
theorem z8p (p:Prt)(key:List UInt8):jA X VF [.p p.pv,AS key] h K=K (AI (vA p.key key)) h []:=by
 refine IA ?_;rw[zfm rfl];have q:=fun h K=>DS (h:=h) (K:=K) p.key key
 simp only[UU,Prt.pv,go_sem,↓q,q]
theorem zr1 (n:Nat)(hn:n≤1000000):IntKind.i64.wrap (uK IntKind.u64 (n:Int) 1)=((n / 2:Nat):Int):=by
 have e:uK IntKind.u64 (n:Int) 1=((n / 2:Nat):Int):=by
  show Int.fdiv (n:Int) 2=_
  rw[Int.fdiv_eq_ediv_of_nonneg _ (by omega)];omega
 rw[e,JA _ (by omega) (by omega)]
theorem zqw (l:List Prt)(key:List UInt8)(hs:QH l)(hl:l.length≤100000)(hk:∀ a b:List UInt8,vA a b<0→∀ c,vA b c<0→vA a c<0) :
 ∃(i:Nat) (is:Bool),(i≤l.length)∧(∀t (ht:t<l.length),t<i→vA l[t].key key<0)∧(∀t (ht:t<l.length),i≤t→¬vA l[t].key key<0)∧(is=true↔∃ht:i<l.length,vA l[i].key key=0) ∧
  ∀(K:mA),jA X tH [aD l,AS key,.fn VF []] h K=K (.tup [AI i,AB is]) h []:=by
 obtain⟨Q,hQ⟩:∃Q:mA,Q=fun v h' x=>∃(i:Nat) (is:Bool),v = .tup [AI i,AB is]∧h'=h∧x=[]∧(i≤l.length)∧(∀t (ht:t<l.length),t<i→vA l[t].key key<0)∧(∀t (ht:t<l.length),i≤t→¬vA l[t].key key<0)∧(is=true↔∃ht:i<l.length,vA l[i].key key=0):=⟨_,rfl⟩
 have H:jA X tH [aD l,AS key,.fn VF []] h Q:=by
  rw[zfU rfl];have ln:(l.map Prt.pv).length=l.length:=List.length_map ..
  simp only[jQ,go_sem,ln];refine UA (fun t:Nat×Nat=>⟨[(0,aD l),(1,AS key),(2,.fn VF []),(8,AI l.length),(9,AI t.1),(10,AI t.2)],h,[]⟩) (fun t=>t.1≤t.2∧t.2≤l.length∧(∀k (hk:k<l.length),k<t.1→vA l[k].key key<0)∧∀k (hk:k<l.length),t.2≤k→¬vA l[k].key key<0) (fun t=>t.2-t.1) (0,l.length) rfl ⟨by omega,by omega,fun k _ h=>by omega,fun k h1 h2=>by omega⟩ ?_
  rintro⟨i,j⟩ ⟨h1,h2,h3,h4⟩
  dsimp only at h1 h2 h3 h4 ⊢;rcases Nat.lt_or_ge i j with hij|hge
  ·have w1:IntKind.i64.wrap ((i:Int)+j)=((i+j:Nat):Int):=by rw[JA _ (by omega) (by omega)];omega
   have w2:IntKind.u64.wrap ((i+j:Nat):Int)=((i+j:Nat):Int):=gZ _ (by omega) (by omega)
   have w3:=zr1 (i+j) (by omega)
   have hm:(i+j) / 2<l.length:=by omega
   have hm1:i≤(i+j) / 2:=by omega
   have hm2:(i+j) / 2<j:=by omega
   have g:=ZA Prt.pv hm
   have h3':=fun q:vA l[(i+j) / 2].key key<0=>q
   generalize hmm:(i+j) / 2=m at *;have c1:QA (some 2) 0 l[m].pv=some l[m].pv:=rfl
   have w4:IntKind.i64.wrap ((m:Int)+1)=((m+1:Nat):Int):=JA _ (by omega) (by omega)
   have F:=fun h K=>z8p (h:=h) (K:=K) l[m] key
   simp only[Prt.pv]at g c1 F;by_cases hc:vA l[m].key key<0
   ·simp only[go_sem,hij,w1,w2,w3,hm,g,c1,↓F,F,hc,w4]
    refine⟨(m+1,j),rfl,⟨by dsimp only;omega,h2,fun k hk1 hk2=>?_,h4⟩,by dsimp only;omega⟩
    dsimp only at hk2;by_cases e:k=m
    ·subst e;exact hc
    ·exact hk _ _ (List.pairwise_iff_getElem.1 hs k m hk1 hm (by omega)) _ hc
   ·simp only[go_sem,hij,w1,w2,w3,hm,g,c1,↓F,F,hc]
    refine⟨(i,m),rfl,⟨by dsimp only;omega,by dsimp only;omega,h3,fun k hk1 hk2=>?_⟩,by dsimp only;omega⟩
    dsimp only at hk2;by_cases e:k=m
    ·subst e;exact hc
    ·intro q
     exact hc (hk _ _ (List.pairwise_iff_getElem.1 hs m k hm hk1 (by omega)) _ q)
  ·have e:i=j:=by omega
   subst e;rcases Nat.lt_or_ge i l.length with hlt|hge2
   ·have g:=ZA Prt.pv hlt
    have c1:QA (some 2) 0 l[i].pv=some l[i].pv:=rfl
    have F:=fun h K=>z8p (h:=h) (K:=K) l[i] key
    simp only[Prt.pv]at g c1 F;by_cases hz:vA l[i].key key=0
    ·simp only[go_sem,Nat.lt_irrefl,hlt,g,c1,↓F,F,hz]
     rw[hQ];exact⟨i,true,rfl,rfl,rfl,h2,h3,h4,by simp [hlt,hz]⟩
    ·simp only[go_sem,Nat.lt_irrefl,hlt,g,c1,↓F,F,hz]
     rw[hQ];exact⟨i,false,rfl,rfl,rfl,h2,h3,h4,by simp [hz]⟩
   ·have hn:¬i<l.length:=by omega
    simp only[go_sem,Nat.lt_irrefl,hn];rw[hQ];exact⟨i,false,rfl,rfl,rfl,h2,h3,h4,by simp [hn]⟩
 rw[hQ]at H;obtain⟨v,h',x,⟨i,is,rfl,rfl,rfl,q1,q2,q3,q4⟩,gK⟩:=jA.one VL H;exact⟨i,is,q1,q2,q3,q4,gK⟩
def SI (l:List Prt)(key:List UInt8):Int:=OC (fun y=>decide ((LS y).key=key)) (l.map Prt.pv)
def qA (b:Brd):Obj:=.box [aD b.parts,.p (.sl (some 3) (b.joins.map Jon.pv)),.p (.sl (some 2) (b.pulls.map Pul.pv))]
theorem iM (a:List UInt8):vA a a=0:=by have:=LE a a;omega
theorem zli {l:List Prt}{key:List UInt8}(hs:QH l){i:Nat}(hi:i<l.length)(he:l[i].key=key):l.findIdx (fun p=>decide (p.key=key))=i:=by
 rw[List.findIdx_eq hi];refine⟨by simp [he],fun j hj=>?_⟩
 have:=List.pairwise_iff_getElem.1 hs j i (by omega) hi hj
 rw[he]at this;simp only[decide_eq_false_iff_not];intro e;rw[e,iM]at this;omega
theorem iS (l:List Prt)(key:List UInt8):SI l key=if l.findIdx (fun p=>decide (p.key=key))<l.length then((l.findIdx fun p=>decide (p.key=key):Nat):Int) else -1:=by
 unfold SI OC;have e:(l.map Prt.pv).findIdx (fun y=>decide ((LS y).key=key))=l.findIdx fun p=>decide (p.key=key):=by
  rw[List.findIdx_map];congr 1
 rw[e,List.length_map]
theorem zqV (b:Brd)(key:List UInt8)(hs:QH b.parts)(hl:b.parts.length≤100000):jA X mI [.p b.pv,AS key] h K=K (AI (SI b.parts key)) h []:=by
 refine IA ?_;rw[zfl rfl];obtain⟨i,is,q1,q2,q3,q4,B⟩:=zqw (h:=h++[qA b]) b.parts key hs hl fun a b h1 c h2=>rJ h1 h2
 unfold qA at B;cases is with
 | true=>
  obtain⟨ht,hz⟩:=q4.1 rfl;have hf:=zli hs ht (QF hz)
  have e:SI b.parts key=i:=by rw[iS,hf,if_pos ht]
  rw[e];simp only[FP,Brd.pv,go_sem,↓B,B]
 | false=>
  have e:SI b.parts key = -1:=by
   rw[iS,if_neg];intro hlt;have hp:=List.findIdx_getElem (w:=hlt)
   simp only[decide_eq_true_eq]at hp;generalize b.parts.findIdx (fun p=>decide (p.key=key))=j at *
   by_cases hij:j<i
   ·have:=q2 j hlt hij
    rw[hp,iM]at this;omega
   ·by_cases e:j=i
    ·subst e
     have:=q4.2 ⟨hlt,by rw[hp,iM]⟩
     cases this
    ·have h1:=List.pairwise_iff_getElem.1 hs i j (by omega) hlt (by omega)
     rw[hp]at h1;exact q3 i (by omega) (Nat.le_refl _) h1
  rw[e];simp only[FP,Brd.pv,go_sem,↓B,B]
theorem zqB (p:Prt)(key:List UInt8)(id:Nat)(hk:h[id]?=some (.box [AS key])):jA X tI [.p p.pv,.ref id 0] h K=K (AB (decide (p.key=key))) h []:=by
 refine IA ?_;rw[zfM rfl];have hl:=yB hk
 have hk2:∀t,(h++t)[id]?=some (.box [AS key]):=fun t=>by rw[List.getElem?_append_left hl];exact hk
 simp only[DV,Prt.pv,go_sem,hk2]
theorem zqA (b:Brd)(key:List UInt8)(hl:b.parts.length≤100000):jA X XJ [.p b.pv,AS key] h K=K (AI (SI b.parts key)) h []:=by
 refine IA ?_;rw[zfL rfl];have tells:jE tI [.ref (h.length+1) 0] (fun y=>decide ((LS y).key=key)) (b.parts.map Prt.pv) (h++[qA b,.box [AS key]]):=fun y hy K=>by
  obtain⟨p,_,rfl⟩:=List.mem_map.1 hy;dsimp only;rw[zsv];exact zqB p key (h.length+1) (by simp)
 have ix:=fun K=>zaQ (h:=h++[qA b,.box [AS key]]) (K:=K) (GS zpF) tells (by simp;omega)
 unfold qA at ix;unfold SI;simp only[CV,Brd.pv,go_sem,↓ix,ix]
theorem z10 {α:Type}{p q:α→Bool}:∀{l:List α},(∀x∈l,p x=q x)→l.any p=l.any q
 | [],_=>rfl
 | x::r,h=>by rw[List.any_cons,List.any_cons,h x (by simp),z10 (l:=r) fun y hy=>h y (by simp [hy])]
theorem zrg (c:Cel)(pin:List UInt8)(id:Nat)(hk:h[id]?=some (.box [AS pin])):jA X oH [.p c.pv,.ref id 0] h K=K (AB (aC c&&decide (c.pin=pin))) h []:=by
 refine IA ?_;rw[zft rfl];have hl:=yB hk
 have hk2:∀t,(h++t)[id]?=some (.box [AS pin]):=fun t=>by rw[List.getElem?_append_left hl];exact hk
 have HP:=fun h K=>QY (h:=h) (K:=K) c
 simp only[Cel.pv,eI]at HP;cases hq:aC c with
 | false=>
  rw[hq]at HP;simp only[MP,Cel.pv,eI,go_sem,↓HP,HP]
 | true=>
  rw[hq]at HP;simp only[MP,Cel.pv,eI,go_sem,↓HP,HP,hk2]
theorem zqW (c:Cel)(pin:List UInt8)(id:Nat)(hk:h[id]?=some (.box [AS pin])):jA X uI [.p c.pv,.ref id 0] h K=K (AB (decide (c.pin=pin))) h []:=by
 refine IA ?_;rw[zfP rfl];have hl:=yB hk
 have hk2:∀t,(h++t)[id]?=some (.box [AS pin]):=fun t=>by rw[List.getElem?_append_left hl];exact hk
 simp only[EV,Cel.pv,eI,go_sem,hk2]
def TL (b:Brd):Prop:=b.parts.length≤100000∧∀p∈b.parts,p.cells.length≤100000∧∀c∈p.cells,c.pin.length≤1000000
theorem zrf (b:Brd)(part pin:List UInt8)(hs:QH b.parts)(ho:TL b):jA X oI [.p b.pv,AS part,AS pin] h K=K (AB (NG b part pin)) h []:=by
 refine IA ?_;rw[zfs rfl];have FI:=fun h K=>zqV (h:=h) (K:=K) b part hs ho.1
 have pe:=iS b.parts part
 unfold NG oY;by_cases hlt:b.parts.findIdx (fun p=>decide (p.key=part))<b.parts.length
 ·rw[if_pos hlt]at pe
  rw[pe]at FI;rw[List.getElem?_eq_getElem hlt];generalize b.parts.findIdx (fun p=>decide (p.key=part))=i at *
  have g:=ZA Prt.pv hlt
  have hpo:=ho.2 _ (List.getElem_mem hlt)
  generalize b.parts[i]=p at *;have c1:QA none 1 p.pv=some (.sl (some 4) (p.cells.map Cel.pv)):=rfl
  have tells:jE oH [.ref (h.length+1) 0] (fun y=>aC (cE y)&&decide ((cE y).pin=pin)) (p.cells.map Cel.pv) (h++[qA b,.box [AS pin]]):=fun y hy K=>by
   obtain⟨c,_,rfl⟩:=List.mem_map.1 hy;dsimp only;rw[lO];exact zrg c pin (h.length+1) (by simp)
  have CF:=fun K=>oO (h:=h++[qA b,.box [AS pin]]) (K:=K) tells dM (by simp;omega)
  have ea:(p.cells.map Cel.pv).any (fun y=>aC (cE y)&&decide ((cE y).pin=pin))=p.cells.any fun c=>aC c&&decide (c.pin=pin):=by rw[List.any_map];rfl
  rw[ea]at CF;unfold qA at CF;have n0:¬((i:Int)<0):=by omega
  have n1:(0:Int)≤(i:Int):=by omega
  simp only[Brd.pv]at FI;simp only[LP,Brd.pv,go_sem,↓FI,FI,n1,hlt,g,c1,↓CF,CF]
 ·rw[if_neg hlt]at pe
  rw[pe]at FI;rw[List.getElem?_eq_none (by omega)]
  simp only[Brd.pv]at FI;simp only[LP,Brd.pv,go_sem,↓FI,FI]
theorem zqX (b:Brd)(part pin:List UInt8)(hq:∀ p∈b.parts,∀ c∈p.cells,KD c=aC c)(ho:TL b):jA X ZJ [.p b.pv,AS part,AS pin] h K=K (AB (NG b part pin)) h []:=by
 refine IA ?_;rw[zfO rfl];have FI:=fun h K=>zqA (h:=h) (K:=K) b part ho.1
 have pe:=iS b.parts part
 unfold NG oY;by_cases hlt:b.parts.findIdx (fun p=>decide (p.key=part))<b.parts.length
 ·rw[if_pos hlt]at pe
  rw[pe]at FI;rw[List.getElem?_eq_getElem hlt];have hpq:=hq _ (List.getElem_mem hlt)
  generalize b.parts.findIdx (fun p=>decide (p.key=part))=i at *
  have g:=ZA Prt.pv hlt
  have hpo:=ho.2 _ (List.getElem_mem hlt)
  generalize b.parts[i]=p at *;have c1:QA none 1 p.pv=some (.sl (some 4) (p.cells.map Cel.pv)):=rfl
  have tells:jE uI [.ref (h.length+1) 0] (fun y=>decide ((cE y).pin=pin)) (p.cells.map Cel.pv) (h++[qA b,.box [AS pin]]):=fun y hy K=>by
   obtain⟨c,_,rfl⟩:=List.mem_map.1 hy;dsimp only;rw[lO];exact zqW c pin (h.length+1) (by simp)
  have CF:=fun K=>oO (h:=h++[qA b,.box [AS pin]]) (K:=K) tells dM (by simp;omega)
  have ea:(p.cells.map Cel.pv).any (fun y=>decide ((cE y).pin=pin))=p.cells.any fun c=>decide (c.pin=pin):=by rw[List.any_map];rfl
  rw[ea]at CF;unfold qA at CF;have n1:(0:Int)≤(i:Int):=by omega
  simp only[Brd.pv]at FI;by_cases hp0:pin=[]
  ·have z:(p.cells.any fun c=>aC c&&decide (c.pin=pin))=false:=by
    rw[List.any_eq_false];intro c hc;have:=hpq c hc;unfold KD at this;cases h1:decide (c.pin=pin) with
    | false=>simp
    | true=>
     have h2:c.pin=pin:=by simpa using h1
     rw[h2,hp0]at this;simp at this;simp [this]
   dsimp only;rw[z];have hp0':=eq_true hp0
   simp only[xM,Brd.pv,go_sem,↓FI,FI,n1,hp0']
  ·have z:(p.cells.any fun c=>aC c&&decide (c.pin=pin))=p.cells.any fun c=>decide (c.pin=pin):=by
    refine z10 fun c hc=>?_
    have:=hpq c hc;unfold KD at this;cases h1:decide (c.pin=pin) with
    | false=>simp
    | true=>
     have h2:c.pin=pin:=by simpa using h1
     have h3:c.pin≠[]:=by rw[h2];exact hp0
     simp [h3]at this;simp [this]
   dsimp only;rw[z];simp only[xM,Brd.pv,go_sem,↓FI,FI,n1,hp0,hlt,g,c1,↓CF,CF]
 ·rw[if_neg hlt]at pe
  rw[pe]at FI;rw[List.getElem?_eq_none (by omega)]
  simp only[Brd.pv]at FI;simp only[xM,Brd.pv,go_sem,↓FI,FI]
end Go.Am
end
section
/- Maps,asv lists of keys with values. -/
open Go
set_option linter.all false
namespace Go.Am
section
variable {α β:Type} [DecidableEq α]
def xC (key:α→PV)(val:β→AV):Nat→List (α×β)→List ME
 | _,[]=>[]
 | n,e::r=>⟨key e.1,val e.2,n⟩::xC key val (n+1) r
def BA (key:α→PV)(val:β→AV)(l:List (α × β)):Obj:=.amap (xC key val 0 l) l.length
def AC (k:α):List (α×β)→Option Nat
 | []=>none
 | e::r=>if k=e.1 then some 0 else(AC k r).map (· + 1)
def AA (k:α):List (α×β)→Option β
 | []=>none
 | e::r=>if k=e.1 then some e.2 else AA k r
def dB (k:α)(v:β):List (α×β)→List (α×β)
 | []=>[(k,v)]
 | e::r=>if k=e.1 then(k,v)::r else e::dB k v r
def bJ (key:α→PV):Prop:=∀a b,PV.eqv (key a) (key b)=some (decide (a=b))
theorem eG:bJ PV.str:=fun a b=>rfl
theorem SW:bJ (fun n:Int=>PV.int .i64 n):=fun a b=>by simp [PV.eqv,PV.eq1]
theorem fG {s:List UInt8}:PC (none,[2]) (.p (.str s))=some (.str s):=by simp [PC,PV.key,PV.shp,PV.sc,PV.cells,PV.kind]
theorem TW {n:Int}{k:IntKind}:PC (none,[0]) (.p (.int k n))=some (.int k n):=by simp [PC,PV.key,PV.shp,PV.sc,PV.cells,PV.kind]
variable {key:α→PV} {val:β→AV}
theorem XW (hk:bJ key)(k:α):∀(l:List (α×β)) (n:Nat),yC (key k) (xC key val n l)=some (AC k l)
 | [],n=>rfl
 | e::r,n=>by
  simp only[xC,yC,hk k e.1,AC];by_cases h:k=e.1
  ·simp [h]
  ·simp [h,XW hk k r (n+1)]
theorem z7e:∀ (l:List (α × β))(n:Nat),(xC key val n l).length=l.length
 | [],n=>rfl
 | e::r,n=>by simp [xC,z7e r (n+1)]
theorem AH:∀ (l:List (α × β))(n i:Nat),(xC key val n l)[i]?=(l[i]?).map fun e=>⟨key e.1,val e.2,n+i⟩
 | [],n,i=>rfl
 | e::r,n,0=>rfl
 | e::r,n,i+1=>by simp only[xC,List.getElem?_cons_succ,AH r (n+1) i];rw[show n+1+i=n+(i+1) by omega]
theorem z8Y {k:α}:∀{l:List (α×β)} {i:Nat},AC k l=some i→i<l.length
 | [],i,h=>by cases h
 | e::r,i,h=>by
  unfold AC at h;split at h
  ·cases h;simp
  ·obtain⟨j,hj,e2⟩:=Option.map_eq_some_iff.1 h
   have:=z8Y hj;simp;omega
theorem jZ {k:α}:∀{l:List (α×β)} {i:Nat},AC k l=some i→l[i]?=(AA k l).map fun v=>(k,v)
 | [],i,h=>by cases h
 | e::r,i,h=>by
  unfold AC at h;unfold AA;split at h
  ·rename_i hk;cases h;simp [hk]
  ·rename_i hk
   obtain⟨j,hj,e2⟩:=Option.map_eq_some_iff.1 h;subst e2;rw[if_neg hk,List.getElem?_cons_succ];exact jZ hj
theorem lZ {k:α}:∀{l:List (α×β)},AC k l=none→AA k l=none
 | [],h=>rfl
 | e::r,h=>by
  unfold AC at h;unfold AA;split at h
  ·cases h
  ·rename_i hk
   rw[if_neg hk];exact lZ (by simpa using h)
theorem mZ {k:α}:∀{l:List (α×β)} {i:Nat},AC k l=some i→(AA k l).isSome=true
 | [],i,h=>by cases h
 | e::r,i,h=>by
  unfold AC at h;unfold AA;split at h
  ·rename_i hk;simp [hk]
  ·rename_i hk
   obtain⟨j,hj,e2⟩:=Option.map_eq_some_iff.1 h;rw[if_neg hk];exact mZ hj
theorem kZ {k:α}{l:List (α × β)}:(AC k l).isSome=(AA k l).isSome:=by
 generalize h:AC k l=o;cases o with
 | none=>rw[lZ h];rfl
 | some i=>rw[mZ h];rfl
theorem znA {k:α}{l:List (α × β)}{n:Nat}:((AC k l).bind fun i=>(xC key val n l)[i]?).map ME.val=(AA k l).map val:=by
 cases h:AC k l with
 | none=>rw[lZ h];rfl
 | some i=>
  simp only[Option.bind_some,AH,jZ h];cases AA k l <;> rfl
theorem mO {k:α}{v:β}:∀{l:List (α×β)},AC k l=none→dB k v l=l++[(k,v)]
 | [],h=>rfl
 | e::r,h=>by
  unfold AC at h;unfold dB;split at h
  ·cases h
  ·rename_i hk
   rw[if_neg hk,mO (by simpa using h)];rfl
theorem z8Q {k:α}{v:β}:∀{l:List (α×β)} {i:Nat},AC k l=some i→dB k v l=l.set i (k,v)
 | [],i,h=>by cases h
 | e::r,i,h=>by
  unfold AC at h;unfold dB;split at h
  ·rename_i hk;cases h;simp [hk]
  ·rename_i hk
   obtain⟨j,hj,e2⟩:=Option.map_eq_some_iff.1 h;subst e2;rw[if_neg hk,z8Q hj];rfl
theorem z7f (k:α)(v:β):∀(l:List (α×β)) (n:Nat),xC key val n (l++[(k,v)])=xC key val n l++[⟨key k,val v,n+l.length⟩]
 | [],n=>rfl
 | e::r,n=>by simp only[List.cons_append,xC,z7f k v r (n+1),List.length_cons];rw[show n+1+r.length=n+(r.length+1) by omega]
theorem znF {k:α}{v:β}{l:List (α × β)}{i n:Nat}(h:AC k l=some i):(xC key val n l).modify i (fun e=>{ e with val:=val v })=xC key val n (l.set i (k,v)):=by
 apply List.ext_getElem?
 intro j;rw[List.getElem?_modify,AH,AH,List.getElem?_set];have hi:=z8Y h
 have hg:=jZ h
 by_cases hij:i=j
 ·subst hij
  rw[hg];simp only[if_true,hi];obtain⟨w,hw⟩:=Option.isSome_iff_exists.1 (mZ h);rw[hw];rfl
 ·simp [hij]
variable {h:bA} {id:Nat} {l:List (α × β)} {kk:Sh × List Nat} {k:α}
theorem cN (hh:h[id]?=some (BA key val l)):qC h (.mp id)=some (id,xC key val 0 l,l.length):=by
 simp only[qC,hh,BA]
theorem rF (hk:bJ key)(hh:h[id]?=some (BA key val l))(hq:PC kk (.p (key k))=some (key k)){ok:Bool}{z:AV} :
 YA kk ok z (.mp id) (.p (key k)) h=some (bif ok then .tup [((AA k l).map val).getD z,AV.p (.bool (AA k l).isSome)] else((AA k l).map val).getD z):=by
 simp only[YA,hq,cN hh,Option.map_some,XW hk,znA,Option.isSome_map];rfl
theorem JI (hk:bJ key)(hh:h[id]?=some (BA key val l))(hq:PC kk (.p (key k))=some (key k)){v:β}(hv:DH (val v)=true) :
 bB kk (.mp id) (.p (key k)) (val v) h=some (.und,h.set id (BA key val (dB k v l)),TB id (val v)):=by
 simp only[bB,hq,cN hh,hv,XW hk];cases hw:AC k l with
 | none=>
  simp only[BA,mO hw,z7f,List.length_append,List.length_cons,List.length_nil,Nat.zero_add]
 | some i=>
  simp only[BA,z8Q hw,znF hw,List.length_set]
theorem zeM {l:List (α × β)}{i:Nat}(hi:i<l.length):(xC key val 0 l).findIdx? (fun e=>e.born==i)=some i:=by
 rw[List.findIdx?_eq_some_iff_getElem];have hl:=z7e (key:=key) (val:=val) l 0
 have hb:∀j (hj:j<(xC key val 0 l).length),(xC key val 0 l)[j].born=j:=fun j hj=>by
  have h1:=List.getElem?_eq_getElem hj
  rw[AH,List.getElem?_eq_getElem (by omega)]at h1
  simp only[Option.map_some,Option.some.injEq]at h1;rw[←h1];simp
 refine⟨by omega,by simp [hb],fun j hj=>?_⟩
 simp [hb];omega
theorem TQ (k k':α)(v:β):∀(l:List (α×β)),AA k' (dB k v l)=if k'=k then some v else AA k' l
 | []=>by simp [dB,AA]
 | e::r=>by
  unfold dB;by_cases h1:k=e.1
  ·rw[if_pos h1];simp only[AA]
   by_cases h2:k'=k
   ·simp [h2]
   ·rw[if_neg h2,if_neg h2,if_neg (by rw[←h1];exact h2)]
  ·rw[if_neg h1];simp only[AA,TQ k k' v r]
   by_cases h2:k'=e.1
   ·rw[if_pos h2,if_pos h2,if_neg (by rw[h2];exact fun h=>h1 h.symm)]
   ·rw[if_neg h2,if_neg h2]
def rB (l:List (α × β)):List α:=l.map (·.1)
theorem LG (e:α × β)(r:List (α × β)):rB (e::r)=e.1::rB r:=rfl
theorem ZM (k:α)(v:β):∀(l:List (α×β)),rB (dB k v l)=if k∈rB l then rB l else rB l++[k]
 | []=>rfl
 | e::r=>by
  unfold dB;by_cases h1:k=e.1
  ·rw[if_pos h1];simp [LG,h1]
  ·rw[if_neg h1]
   rw[LG,LG,ZM k v r];by_cases h2:k∈rB r
   ·rw[if_pos h2,if_pos (by simp [h2])]
   ·rw[if_neg h2,if_neg (by simp [h1,h2])];rfl
theorem UW (k:α)(v:β){l:List (α × β)}(h:(rB l).Nodup):(rB (dB k v l)).Nodup:=by
 rw[ZM];split
 ·exact h
 ·rename_i hk
  rw[List.nodup_append];exact⟨h,by simp,fun a ha b hb=>by rw[List.mem_singleton]at hb;subst hb;intro e;subst e;exact hk ha⟩
theorem z61 {k:α}:∀{l:List (α×β)},(AA k l).isSome=true↔k∈rB l
 | []=>by simp [AA,rB]
 | e::r=>by
  unfold AA;by_cases h:k=e.1
  ·simp [h,rB]
  ·have:=z61 (k:=k) (l:=r)
   simp only[rB]at this;simp [h,rB,this]
theorem zoc {j m:Nat}{seen:List Nat}{K:AV→bA→Esc→Prop}(hj:h[j]?=some (.iter (some m) l.length seen l.length))(hm:h[m]?=some (BA key val l))
 (hend:(∀i,i<l.length→i∈seen)→K (.tup [AV.p (.bool false)]) (h.set j (.iter none 1 [] 0)) [])
 (hstep:∀(i:Nat) (hi:i<l.length),i∉seen→K (.tup [AV.p (.bool true),.p (key l[i].1),val l[i].2]) (h.set j (.iter (some m) l.length (seen++[i]) l.length)) []):nxK (.it j) h K:=by
 unfold nxK dN;simp only[hj,cN hm,and_self,if_true];have hmem:∀e∈(xC key val 0 l).filter (fun e=>!seen.contains e.born),∃(i:Nat) (hi:i<l.length),e=⟨key l[i].1,val l[i].2,i⟩∧i∉seen:=by
  intro e he;obtain⟨h1,h2⟩:=List.mem_filter.1 he;obtain⟨i,hi,e2⟩:=List.mem_iff_getElem?.1 h1 |>.elim fun i hi=>by
   rw[AH]at hi;obtain⟨x,hx,e3⟩:=Option.map_eq_some_iff.1 hi;obtain⟨hl,e4⟩:=List.getElem?_eq_some_iff.1 hx;exact(⟨i,hl,by rw[←e3,←e4];simp⟩:∃(i:Nat) (hi:i<l.length),e=⟨key l[i].1,val l[i].2,i⟩)
  refine⟨i,hi,e2,?_⟩;rw[e2]at h2;simpa using h2
 have hnil:(xC key val 0 l).filter (fun e=>!seen.contains e.born)=[]→∀i,i<l.length→i∈seen:=by
  intro hf i hi;have h1:=List.filter_eq_nil_iff.1 hf ⟨key l[i].1,val l[i].2,i⟩ (by
   apply List.mem_iff_getElem?.2
   exact⟨i,by rw[AH,List.getElem?_eq_getElem hi];simp⟩)
  simpa using h1
 generalize (xC key val 0 l).filter (fun e=>!seen.contains e.born)=F at *
 cases F with
 | nil=>
  refine⟨by simp,fun y hy=>?_⟩
  rw[List.mem_singleton]at hy;subst hy;exact hend (hnil rfl)
 | cons e F=>
  refine⟨by simp,fun y hy=>?_⟩
  obtain⟨e',he',rfl⟩:=List.mem_map.1 hy;obtain⟨i,hi,e2,h2⟩:=hmem e' he';subst e2;exact hstep i hi h2
theorem znL (hh:h[id]?=some (BA key val l)):EB (.mp id) h=some (.it h.length,h++[.iter (some id) l.length [] l.length],[]):=by
 simp only[EB,cN hh]
theorem znD {j m:Nat}{seen:List Nat}{i:Nat}(hj:h[j]?=some (.iter (some m) l.length (seen++[i]) l.length))(hm:h[m]?=some (BA key val l))(hi:i<l.length) :
 BB (.it j) h=some (.tup [.p (key l[i].1),val l[i].2],h,[]):=by
 simp only[BB,hj,cN hm,List.getLast?_append,List.getLast?_singleton,Option.some_or,if_true];have hb:=zeM (key:=key) (val:=val) hi
 have hg:=AH (key:=key) (val:=val) l 0 i
 rw[List.getElem?_eq_getElem hi]at hg;have hf:(xC key val 0 l).find? (fun e=>e.born==i)=some ⟨key l[i].1,val l[i].2,i⟩:=by
  rw[List.find?_eq_some_iff_getElem];rw[List.findIdx?_eq_some_iff_getElem]at hb;obtain⟨h1,h2,h3⟩:=hb;refine⟨by simp,i,h1,?_,fun j hj=>by simpa using h3 j hj⟩
  have:=List.getElem?_eq_getElem h1;rw[hg]at this;simpa using (Option.some.inj this).symm
 rw[hf];rfl
end
end Go.Am
end
section
/- What is wrong with limits,both ways: printed by program. -/
open Go
set_option linter.unusedSimpArgs false
namespace Go.Am
variable {h:bA} {K:mA}
end Go.Am
end
section
/- Package lot on measured values,and what the reference says of them. -/
open Go
namespace Go.Am
variable {h:bA} {K:mA}
structure Meas (l:List Int):Prop where
 len:l.length≤5000
 bd:∀n∈l,-100000≤n∧n≤100000
theorem Meas.sum {l:List Int}(hm:Meas l)(k:Nat) : -500000000≤(l.take k).sum∧(l.take k).sum≤500000000:=by
 have:=zsa hm.bd hm.len (by omega) k
 omega
end Go.Am
end
section
/- Records: what they are,what is wrong with them. -/
open Go
set_option linter.unusedSimpArgs false
namespace Go.Am
variable {h:bA} {K:mA}
theorem zpZ {b:Nat}{P:mA}{vs:List AV}{h:bA}:LC true b P (some vs) h []=P (kB vs) (h.take (max b (kB vs).top)) []:=by
 simp [LC,QB,WB]
attribute [go_sem] zpZ
structure Rec where
 unit:List UInt8
 time:Int
 site:List UInt8
 res:List Int
def Rec.pv (r:Rec):PV:=.agg [.str r.unit,eI r.time,.str r.site,.sl none (r.res.map eI)]
end Go.Am
end
section
/- Records: what is wrong with them,both ways. -/
open Go
set_option linter.unusedSimpArgs false
namespace Go.Am
variable {h:bA} {K:mA}
def orL:List Int→Int
 | []=>0
 | x::r=>if x≠0 then x else orL r
theorem zqT (l:List Int)(hl:l.length≤1000):jA X pH [AL l] h K=K (AI (orL l)) h []:=by
 refine IA ?_;rw[zfw rfl];simp only[NP,go_sem];refine UA (fun k:Nat=>⟨[(3,AI 0),(6,AL l),(7,AI l.length),(8,AI k)],h,[]⟩) (fun k=>k≤l.length∧orL (l.drop k)=orL l) (fun k=>l.length-k) 0 rfl ⟨by omega,rfl⟩ ?_
 rintro k ⟨hk,hp⟩
 rcases Nat.lt_or_ge k l.length with hlt|hge
 ·have g2:=ZA eI hlt
  have w2:IntKind.i64.wrap ((k:Int)+1)=((k+1:Nat):Int):=JA _ (by omega) (by omega)
  rw[List.drop_eq_getElem_cons hlt,orL]at hp;by_cases hz:l[k]=0
  ·rw[if_neg (by simp [hz])]at hp
   simp only[go_sem,hlt,g2,hz,w2];exact⟨k+1,rfl,⟨by omega,hp⟩,by omega⟩
  ·rw[if_pos hz]at hp
   simp only[go_sem,hlt,g2,hz];rw[hp]
 ·have ek:k=l.length:=by omega
  subst ek;rw[List.drop_length]at hp;simp only[go_sem,Nat.lt_irrefl];rw[←hp];rfl
end Go.Am
end
section
/- Lengths of numbers in bits,and comparisons of plain values. -/
open Go
namespace Go.Am
variable {h:bA} {K:mA}
set_option maxRecDepth 20000
theorem zsb (k:Nat)(hk:k<256):∃b,([0,1,2,2,3,3,3,3,4,4,4,4,4,4,4,4,5,5,5,5,5,5,5,5,5,5,5,5,5,5,5,5,6,6,6,6,6,6,6,6,6,6,6,6,6,6,6,6,6,6,6,6,6,6,6,6,6,6,6,6,6,6,6,6,7,7,7,7,7,7,7,7,7,7,7,7,7,7,7,7,7,7,7,7,7,7,7,7,7,7,7,7,7,7,7,7,7,7,7,7,7,7,7,7,7,7,7,7,7,7,7,7,7,7,7,7,7,7,7,7,7,7,7,7,7,7,7,7,8,8,8,8,8,8,8,8,8,8,8,8,8,8,8,8,8,8,8,8,8,8,8,8,8,8,8,8,8,8,8,8,8,8,8,8,8,8,8,8,8,8,8,8,8,8,8,8,8,8,8,8,8,8,8,8,8,8,8,8,8,8,8,8,8,8,8,8,8,8,8,8,8,8,8,8,8,8,8,8,8,8,8,8,8,8,8,8,8,8,8,8,8,8,8,8,8,8,8,8,8,8,8,8,8,8,8,8,8,8,8,8,8,8,8,8,8,8,8,8,8,8,8,8,8,8,8,8]:List UInt8)[k]?=some b:=⟨_,List.getElem?_eq_getElem (Nat.lt_of_lt_of_eq hk (by kernel_rfl))⟩
theorem z6S (x:Int)(h0:0≤x)(h1:x<256):∃m:Int,∀(h:bA) (K:mA),jA X qH [AU x] h K=K (AI m) h []:=by
 obtain⟨b,hb⟩:=zsb x.toNat (by omega)
 refine⟨IntKind.i64.wrap (0+IntKind.i64.wrap b.toNat),fun h K=>?_⟩
 have w:IntKind.u8.wrap x=x:=by simp [IntKind.wrap,IntKind.bits,IntKind.signed];omega
 have b1:¬(4294967296≤x):=by omega
 have b2:¬(65536≤x):=by omega
 have b3:¬(256≤x):=by omega
 have hn:=sF (k:=.u8) h0
 have key:∀(h:bA) (K:mA),jA X PJ [AU x] h K=K (AI (IntKind.i64.wrap (0+IntKind.i64.wrap b.toNat))) h []:=by
  intro h K;refine IA ?_;rw[zf1 rfl];simp only[QP,go_sem,b1,b2,b3,w,hn,hb]
 refine IA ?_;rw[zf0 rfl];simp only[jV,go_sem,key]
end Go.Am
end
section
/- Lists of strings sorted,left out: printed by program. -/
open Go
set_option linter.unusedSimpArgs false
namespace Go.Am
attribute [-go_sem] PV.cells splice
variable {h:bA} {K:mA}
theorem zlM (id n:Nat)(l tl:List PV)(hn:n=l.length+tl.length)(hs:bC none l)(hl:l.length≤1000)(hh:h[id]?=some (.row none (l++tl) 0)){lt:PV→PV→Bool}(hc:∀ x∈l,∀ y∈l,∀ (h:bA) (K:mA),jA X kF [.p x,.p y] h K=K (AB (lt x y)) h []) :
 jA X mK [.own id n 0 l.length,AI 0,AI l.length] h K=K (.tup []) (h.set id (.row none (UB lt l++tl) 0)) []:=by
 refine IA ?_;rw[zgl];have hid:=yB hh
 have hst:∀o,(h.set id o)[id]?=some o:=fun o=>pG hid
 simp only[wQ,go_sem,show IntKind.i64.wrap 1=1 from rfl]
 refine UA (fun i:Nat=>⟨[(0,.own id n 0 l.length),(1,AI 0),(2,AI l.length),(6,AI i)],h.set id (.row none ((yD lt (l.take i)).reverse++(l.drop i++tl)) 0),[]⟩) (fun i=>1≤i∧(i≤l.length∨i=1)) (fun i=>l.length-i) 1 ?_ (by simp) ?_
 ·have:(yD lt (l.take 1)).reverse++(l.drop 1++tl)=l++tl:=by cases l <;> rfl
  rw[this,qG hh];rfl
 rintro i ⟨hi1,hi2⟩
 rcases Nat.lt_or_ge i l.length with hlt|hge
 ·simp only[go_sem,hlt]
  have hxl:l[i]∈l:=List.getElem_mem hlt
  generalize hx:l[i]=x at *;generalize hR:yD lt (l.take i)=R;have hRl:R.length=i:=by rw[←hR,z6F];simp;omega
  have hRm:∀z∈R,z∈l:=fun z hz=>List.mem_of_mem_take ((ZQ lt (l.take i)).mem_iff.1 (by rw[hR];exact hz))
  have hdrop:l.drop i=x::l.drop (i+1):=by rw[←hx];exact List.drop_eq_getElem_cons hlt
  have hnext:yD lt (l.take (i+1))=dC lt x R:=by rw[z6I _ _ _ hlt,hR,hx]
  refine UA (fun t:List PV×List PV=>⟨[(0,.own id n 0 l.length),(1,AI 0),(2,AI l.length),(6,AI i),(7,AI t.1.length)],h.set id (.row none (t.1.reverse++x::t.2) 0),[]⟩)
   (fun t=>∃B,R=B++t.1∧t.2=B.reverse++(l.drop (i+1)++tl)∧∀b∈B,lt x b=true) (fun t=>t.1.length) (R,l.drop (i+1)++tl) (by rw[hdrop,hRl];rfl) ⟨[],rfl,rfl,by simp⟩ ?_
  rintro⟨A,C⟩ ⟨B,q1,q2,q3⟩
  dsimp only at q1 q2 q3;have hlen:(A.reverse++x::C).length=n:=by
   have:R.length=B.length+A.length:=by rw[q1];simp
   rw[q2];simp;omega
  have hBA:B.length+A.length<l.length:=by
   have:R.length=B.length+A.length:=by rw[q1];simp
   omega
  have hln:l.length≤n:=by omega
  have w1:IntKind.i64.wrap ((i:Int)+1)=((i+1:Nat):Int):=JA _ (by omega) (by omega)
  cases A with
  | nil=>
   have hd:dC lt x R=B++[x]:=by rw[q1];exact YQ lt x [] B q3 (fun y r h=>by cases h)
   simp only[go_sem,Int.lt_irrefl,w1];refine⟨i+1,?_,by omega,by omega⟩
   simp only[hnext,hd,q2,List.reverse_append,List.reverse_nil,List.nil_append,List.reverse_cons,List.append_assoc,List.cons_append]
  | cons y A=>
   have hyl:y∈l:=hRm y (by rw[q1];simp)
   have g1:=z6B (y::A) C x
   have g2:=z6C A C x y
   have sw:=z6D A C x y
   simp only[List.length_cons]at hBA;generalize hrow:(y::A).reverse++x::C=row at *;simp only[List.length_cons]at g1;have w2:IntKind.i64.wrap (((A.length+1:Nat):Int)-1)=(A.length:Int):=by rw[JA _ (by omega) (by omega)];omega
   have p1:(0:Int)<((A.length+1:Nat):Int):=by omega
   have b1:A.length+1<l.length:=by omega
   have b2:A.length<l.length:=by omega
   have cx:=EF (hs x hxl)
   have cy:=EF (hs y hyl)
   have hcc:=fun h K=>hc x hxl y hyl h K
   cases hxy:lt x y with
   | false=>
    have hd:dC lt x R=B++x::y::A:=by rw[q1];exact YQ lt x (y::A) B q3 (fun z r h=>by cases h;exact hxy)
    simp only[go_sem,hst,p1,hlen,g1,g2,w2,b1,b2,hln,cx,cy,hcc,hxy,w1];refine⟨i+1,?_,by omega,by omega⟩
    simp only[hnext,hd,←hrow,q2,List.reverse_append,List.reverse_cons,List.append_assoc,List.cons_append,List.nil_append]
   | true=>
    have g3:(row.set (A.length+1) y)[A.length]?=some y:=by rw[List.getElem?_set_ne (by omega),g2]
    have lx:=ML (hs x hxl)
    have ly:=ML (hs y hyl)
    have sx:=LL (hs x hxl)
    have sy:=LL (hs y hyl)
    simp only[lA]at lx ly;have t1:=fun i xs h1=>NL (hs x hxl) (hs y hyl) id i 0 xs h1
    have t2:=fun i xs h1=>NL (hs y hyl) (hs x hxl) id i 0 xs h1
    simp only[go_sem,hst,p1,hlen,g1,g2,g3,w2,b1,b2,hln,cx,cy,hcc,hxy,lx,ly,sx,sy,t1,t2,sw];refine⟨(A,y::C),rfl,⟨B++[y],by simp [q1],by simp [q2],fun b hb=>?_⟩,by simp⟩
    rw[List.mem_append,List.mem_singleton]at hb;rcases hb with hb|rfl
    ·exact q3 b hb
    ·exact hxy
 ·have hge':¬i<l.length:=by omega
  have e1:l.take i=l:=List.take_of_length_le hge
  have e2:l.drop i=[]:=List.drop_of_length_le hge
  simp only[go_sem,hge',e1,e2];rfl
theorem zcZ (id n:Nat)(l tl:List PV)(hn:n=l.length+tl.length)(hs:bC none l)(hl:l.length≤12)(hh:h[id]?=some (.row none (l++tl) 0)){lt:PV→PV→Bool}(hc:∀ x∈l,∀ y∈l,∀ (h:bA) (K:mA),jA X kF [.p x,.p y] h K=K (AB (lt x y)) h []) :
 jA X yI [.own id n 0 l.length] h K=K (.tup []) (h.set id (.row none (UB lt l++tl) 0)) []:=by
 refine IA ?_;rw[zgj];have w0:IntKind.u64.wrap (l.length:Int)=l.length:=gZ _ (by omega) (by omega)
 obtain⟨m,hm⟩:=z6S (l.length:Int) (by omega) (by omega)
 have is:=fun h' (hq:h'=h) K=>zlM (h:=h) (K:=K) id n l tl hn hs (by omega) hh hc
 have key:∀K:mA,jA X cG [.own id n 0 l.length,AI 0,AI l.length,AI m] h K=K (.tup []) (h.set id (.row none (UB lt l++tl) 0)) []:=by
  intro K;refine IA ?_;rw[zgn];simp only[yQ,go_sem];refine UA (fun _:Unit=>⟨[(0,.own id n 0 l.length),(1,AI 0),(2,AI l.length),(3,AI m),(8,AB true),(9,AB true)],h,[]⟩) (fun _=>True) (fun _=>0) () rfl trivial ?_
  intro _ _;have w1:IntKind.i64.wrap ((l.length:Int)-0)=l.length:=by rw[JA _ (by omega) (by omega)];omega
  have b1:((l.length:Int)≤12):=by omega
  simp only[go_sem,w1,b1,is _ rfl]
 simp only[NV,go_sem,w0,hm,key]
theorem z9o (id:Nat)(l:List PV)(hs:bC none l)(hl:l.length≤100000)(hh:h[id]?=some (.row none l 0)){q:PV→PV→Bool}(hq1:∀ x∈l,∀ y∈l,eA .eql (.p x) (.p y)=some (AB (q x y)))(hq2:∀ x∈l,∀ y∈l,eA .neq (.p x) (.p y)=some (AB (!q x y))) :
 jA X aG [.own id l.length 0 l.length] h K=K (.own id l.length 0 (XB q l).length) (h.set id (.row none (XB q l++List.replicate (l.length-(XB q l).length) (PV.str [])) 0)) []:=by
 refine IA ?_;rw[zfV];have hid:=yB hh
 have hst:∀o,(h.set id o)[id]?=some o:=fun o=>pG hid
 have hb:¬h.length≤id:=by omega
 have hb2:max h.length (id+1)=h.length:=by omega
 have hb3:id+1≤h.length:=hid
 by_cases h2:l.length<2
 ·have h2':(l.length:Int)<2:=by omega
  have e:XB q l=l:=by
   cases l with
   | nil=>rfl
   | cons x r=>
    have:r=[]:=List.length_eq_zero_iff.1 (by simp only[List.length_cons]at h2;omega)
    subst this;rfl
  simp only[AM,go_sem,h2',e,Nat.sub_self,List.replicate_zero,List.append_nil,hb,hb2,hb3];rw[qG hh]
 have h2':¬(l.length:Int)<2:=by omega
 simp only[AM,go_sem,h2'];refine UA (fun k:Nat=>⟨[(0,.own id l.length 0 l.length),(3,AI ((k+1:Nat):Int))],h,[]⟩) (fun k=>k+1≤l.length∧XB q (l.take (k+1))=l.take (k+1)) (fun k=>l.length-(k+1)) 0 rfl ⟨by omega,?_⟩ ?_
 ·cases l with
  | nil=>rfl
  | cons x r=>rfl
 rintro k ⟨hk,hc⟩
 rcases Nat.lt_or_ge (k+1) l.length with hlt|hge
 ·have hk0:k<l.length:=by omega
  have g1:l[k+1]?=some l[k+1]:=List.getElem?_eq_getElem hlt
  have g2:l[k]?=some l[k]:=List.getElem?_eq_getElem hk0
  have c1:=EF (SG hs hlt)
  have c2:=EF (SG hs hk0)
  have w1:IntKind.i64.wrap (((k+1:Nat):Int)-1)=(k:Int):=by rw[JA _ (by omega) (by omega)];omega
  have w2:IntKind.i64.wrap (((k+1:Nat):Int)+1)=((k+1+1:Nat):Int):=JA _ (by omega) (by omega)
  have hqk:=hq1 _ (List.getElem_mem hlt) _ (List.getElem_mem hk0)
  have hcs:=z23 q l k hlt
  cases hqx:q l[k+1] l[k]with
  | false=>
   rw[hqx]at hcs;simp only[go_sem,hh,hlt,hk0,g1,g2,c1,c2,w1,w2,hqk,hqx];exact⟨k+1,rfl,⟨by omega,by rw[hcs,hc,cond_false,List.take_succ_eq_append_getElem hlt]⟩,by omega⟩
  | true=>
   rw[hqx,cond_true,List.append_nil,hc]at hcs;have hle:k+1≤l.length:=by omega
   simp only[go_sem,hh,hlt,hk0,hle,g1,g2,c1,c2,w1,hqk,hqx];have e0:k+1+(l.length-(k+1))=l.length:=by omega
   refine UA (fun t:List PV×Nat×Nat=>⟨[(0,.own id l.length 0 l.length),(3,AI ((t.2.1:Nat):Int)),(4,.own id l.length (k+1) (l.length-(k+1))),(5,AI ((t.2.2+1:Nat):Int))],h.set id (.row none t.1 0),[]⟩)
    (fun t=>t.1.length=l.length∧bC none t.1∧t.2.1≤k+1+t.2.2∧k+1+t.2.2<l.length∧t.1.take t.2.1=XB q (l.take (k+1+t.2.2+1))∧t.1.drop (k+1+t.2.2)=l.drop (k+1+t.2.2)) (fun t=>l.length-t.2.2)
    (l,k+1,0) (by rw[qG hh];rfl) ⟨rfl,hs,by simp,by simpa using hlt,by simpa using hcs.symm,rfl⟩ ?_
   rintro⟨row,i,j⟩ ⟨r1,r2,r3,r4,r5,r6⟩
   dsimp only at r1 r2 r3 r4 r5 r6;rcases Nat.lt_or_ge (k+1+j+1) l.length with hlt2|hge2
   ·have a1:row[k+1+j+1]?=some l[k+1+j+1]:=by
     have:=congrArg (·[1]?) r6
     simp only[List.getElem?_drop]at this;rw[this,List.getElem?_eq_getElem hlt2]
    have a2:row[k+1+j]?=some l[k+1+j]:=by
     have:=congrArg (·[0]?) r6
     simp only[List.getElem?_drop,Nat.add_zero]at this;rw[this,List.getElem?_eq_getElem r4]
    have s1:=SG hs hlt2
    have d1:=EF s1
    have d2:=EF (SG hs r4)
    have hil:i<l.length:=by omega
    have hir:i<row.length:=by omega
    have g3:row[i]?=some row[i]:=List.getElem?_eq_getElem hir
    have t1:=fun xs h1=>NL s1 (SG r2 hir) id i 0 xs h1
    have lx:=ML s1
    have sx:=LL s1
    simp only[lA]at lx;have v1:IntKind.i64.wrap (((j+1:Nat):Int)-1)=(j:Int):=by rw[JA _ (by omega) (by omega)];omega
    have v2:IntKind.i64.wrap (((j+1:Nat):Int)+1)=((j+1+1:Nat):Int):=JA _ (by omega) (by omega)
    have v3:IntKind.i64.wrap ((i:Int)+1)=((i+1:Nat):Int):=JA _ (by omega) (by omega)
    have p1:j+1<l.length-(k+1):=by omega
    have p2:j<l.length-(k+1):=by omega
    have p3:k+1+(j+1)=k+1+j+1:=by omega
    have p4:k+1+(l.length-(k+1))≤l.length:=by omega
    have hqj:=hq2 _ (List.getElem_mem hlt2) _ (List.getElem_mem r4)
    have hcs2:=z23 q l (k+1+j) hlt2
    cases hqy:q l[k+1+j+1] l[k+1+j]with
    | true=>
     rw[hqy,cond_true,List.append_nil]at hcs2;simp only[go_sem,hst,r1,p1,p2,p3,p4,e0,a1,a2,d1,d2,v1,v2,hqj,hqy];refine⟨(row,i,j+1),rfl,⟨r1,r2,by dsimp only;omega,by dsimp only;omega,?_,?_⟩,by dsimp only;omega⟩
     ·dsimp only;rw[r5,←hcs2];rfl
     ·dsimp only;rw[show k+1+(j+1)=k+1+j+1 from rfl,←List.drop_drop,r6,List.drop_drop]
    | false=>
     rw[hqy,cond_false]at hcs2;simp only[go_sem,hst,r1,p1,p2,p3,p4,e0,a1,a2,g3,d1,d2,v1,v2,v3,hil,hqj,hqy,lx,sx,t1];refine⟨(row.set i l[k+1+j+1],i+1,j+1),rfl,⟨by simpa using r1,fun x hx=>?_,by dsimp only;omega,by dsimp only;omega,?_,?_⟩,by dsimp only;omega⟩
     ·rcases List.mem_or_eq_of_mem_set hx with hx|rfl
      ·exact r2 x hx
      ·exact s1
     ·dsimp only
      rw[show k+1+(j+1)+1=k+1+j+1+1 from rfl,hcs2,←r5,List.take_succ_eq_append_getElem (by simp;omega)]
      simp [List.take_set_of_le]
     ·dsimp only
      rw[List.drop_set_of_lt (by omega),show k+1+(j+1)=k+1+j+1 from rfl,←List.drop_drop,r6,List.drop_drop]
   ·have ej:k+1+j+1=l.length:=by omega
    rw[ej,List.take_length]at r5;have hil:i≤l.length:=by omega
    have hm:(XB q l).length=i:=by rw[←r5];simp;omega
    have p1:¬(j+1<l.length-(k+1)):=by omega
    have sp:splice row i (List.replicate (l.length-i) (PV.str []))=XB q l++List.replicate (l.length-i) (PV.str []):=by
     unfold splice;rw[r5,List.length_replicate,List.drop_of_length_le (by omega),List.append_nil]
    have rl:(XB q l++List.replicate (l.length-i) (PV.str [])).length=l.length:=by simp only[List.length_append,hm,List.length_replicate];omega
    rw[hm];generalize XB q l++List.replicate (l.length-i) (PV.str [])=row' at *;simp only[go_sem,hst,r1,rl,hil,p1,sp,show i+(l.length-i)=l.length by omega,hb,hb2,hb3]
 ·have ek:k+1=l.length:=by omega
  rw[ek,List.take_length]at hc;have hge':¬k+1<l.length:=by omega
  simp only[go_sem,hge',hc,Nat.sub_self,List.replicate_zero,List.append_nil,hb,hb2,hb3];rw[qG hh]
end Go.Am
end
section
/- What is drawn: numbers,measured values. -/
open Go
namespace Go.Am
variable {L:List Int} {a:Int}
theorem g_Odd (hp:sA 14 a)(u v:Int)(huv:u≤v)(hu : -1000000000000≤u)(hv:v≤1000000000000):∃k a2:Int,a≤a2∧a2≤a+2 ∧ -1099511627776≤k∧k≤1099511627776 ∧
 Gen TJ [AI u,AI v] L a a2 (AI k):=by
 have w1:IntKind.i64.wrap (u-1)=u-1:=JA _ (by omega) (by omega)
 have w2:IntKind.i64.wrap (v+1)=v+1:=JA _ (by omega) (by omega)
 by_cases hf:EA L a 12=0
 ·have hm:=zp5 (L:=L) (a:=a+1) (l:=[u-1,v+1,u,v,-1099511627776,1099511627776]) (by simp) (by simp)
  simp only[List.mem_cons,List.not_mem_nil,or_false]at hm;refine⟨wF [u-1,v+1,u,v,-1099511627776,1099511627776] L (a+1),a+1+1,by omega,by omega,by omega,by omega,Gen.of fun h id hid=>?_⟩
  rw[z1R rfl];simp only[ZP,go_sem,hid,z76 hp,hf,w1,w2]
 ·have hm:=zY L (a+1) huv (by omega)
  refine⟨OG u v L (a+1),a+1+1,by omega,by omega,by omega,by omega,Gen.of fun h id hid=>?_⟩
  rw[z1R rfl];simp only[ZP,go_sem,hid,z76 hp,hf,w1,w2,huv,show -1152921504606846976≤u by omega,show v≤1152921504606846976 by omega]
end Go.Am
end
section
/- Strings that are drawn. -/
open Go
set_option linter.unusedSimpArgs false
namespace Go.Am
variable {L:List Int} {a:Int} {h l:bA} {id:Nat} {K:mA}
def isS:PV→Bool
 | .str _=>true
 | _=>false
def unS:PV→List UInt8
 | .str s=>s
 | _=>[]
def gC (l:List (List UInt8))(L:List Int)(a:Int):List UInt8:=l.getD (EA L a l.length).toNat []
theorem DL {l:List (List UInt8)}{L:List Int}{a:Int}(hl:0<l.length)(hl2:l.length<4611686018427387904):gC l L a∈l:=by
 obtain⟨b1,b2⟩:=FE L a l.length (by omega) (by omega)
 unfold gC;have:(EA L a l.length).toNat<l.length:=by omega
 simp only[List.getD,List.getElem?_eq_getElem this,Option.getD_some];exact List.getElem_mem _
theorem zsw {xs:List PV}(h:xs.all isS=true):xs=(xs.map unS).map PV.str:=by
 induction xs with
 | nil=>rfl
 | cons x r ih=>
  simp only[List.all_cons,Bool.and_eq_true]at h;simp only[List.map_cons];rw[←ih h.2];cases x <;> first|rfl|cases h.1
theorem zlx (hp:sA 0 a)(xs:List PV)(hx:xs.all isS=true)(hl:0<xs.length)(hl2:xs.length<4611686018427387904) :
 Gen wC [.p (.sl none xs)] L a (a+1) (AS (gC (xs.map unS) L a)):=by
 refine Gen.of fun h id hid=>?_
 rw[zfD rfl];obtain⟨b1,b2⟩:=FE L a xs.length (by omega) (by omega)
 have e4:=sF (k:=.i64) b1
 have e5:xs[(EA L a xs.length).toNat]?=some (.str (gC (xs.map unS) L a)):=by
  have hm:=zsw hx
  generalize hq:xs.map unS=q at *;subst hm;simp only[List.length_map]at *;rw[ZA PV.str (show(EA L a q.length).toNat<q.length by omega)]
  simp [gC,List.getD,show(EA L a q.length).toNat<q.length by omega]
 simp only[wV,go_sem,IL hid hp,e4,e5]
theorem nG (hid:id<h.length)(hp:sA 0 a){xs:List PV}(hx:xs.all isS=true)(hl:0<xs.length)(hl2:xs.length<4611686018427387904) :
 jA X wC [.ref id 0,.p (.sl none xs)] (h.set id (DA L a)++l) K=K (AS (gC (xs.map unS) L a)) (h.set id (DA L (a+1))++l) []:=(zlx hp xs hx hl hl2).app hid
attribute [go_sem ↓] nG
attribute [go_sem] nG isS unS
end Go.Am
end
section
/- What is drawn: strings,limits. -/
open Go
set_option linter.unusedSimpArgs false
namespace Go.Am
variable {L:List Int} {a:Int} {h l:bA} {id:Nat} {K:mA}
end Go.Am
end
section
/- Sorting records: printed by program. -/
open Go
set_option linter.unusedSimpArgs false
namespace Go.Am
attribute [-go_sem] PV.cells splice
variable {h:bA} {K:mA}
end Go.Am
end
section
/- Leaving out what is alike: printed by program. -/
open Go
set_option linter.unusedSimpArgs false
namespace Go.Am
attribute [-go_sem] PV.cells splice
variable {h:bA} {K:mA}
end Go.Am
end
section
/- What is drawn: records. -/
open Go
set_option linter.unusedSimpArgs false
namespace Go.Am
variable {L:List Int} {a:Int} {h l:bA} {id:Nat} {K:mA}
theorem z2v {b:Nat}{x:Esc}(hx:∀ y∈x,b≤y.1):∀k,QB k x b=b:=by
 have hb:RC x b=b:=by
  unfold RC;induction x with
  | nil=>rfl
  | cons y r ih=>
   simp only[List.foldl_cons];rw[if_neg (by have:=hx y (by simp);omega)]
   exact ih (fun z hz=>hx z (by simp [hz]))
 intro k;induction k with
 | zero=>rfl
 | succ k ih=>unfold QB;rw[hb,ih]
theorem zsq {b i t:Nat}{x0:Esc}{e:List (Nat × AV)}{h:bA}(hi:i<b):bE b x0 ⟨e,h,[(i,t)]⟩=⟨iF (max b t) e,h.take (max b t),(i,t)::x0⟩:=by
 unfold bE;have hb:QB [(i,t)].length [(i,t)] b=max b t:=by simp [QB,RC,hi]
 simp only[hb];have hc:WB [(i,t)] (max b t)=true:=by simp [WB];omega
 have hf:[(i,t)].filter (fun y=>decide (y.1<max b t))=[(i,t)]:=by simp;omega
 rw[if_pos hc,hf];rfl
end Go.Am
end
section
/- Merging two ordered lists: by sorting and leaving out what is alike,and by looking each one up. Plain lists. -/
namespace Go.Am
variable {α:Type}
structure Ordr (c:α→α→Int):Prop where
 neg:∀a b,c b a = - c a b
 trans:∀a b d,c a b≤0→c b d≤0→c a d≤0
theorem Ordr.refl {c:α→α→Int}(o:Ordr c)(a:α):c a a=0:=by have:=o.neg a a;omega
def ltO (c:α→α→Int)(a b:α):Bool:=decide (c a b<0)
theorem Ordr.weak {c:α→α→Int}(o:Ordr c):Weak (ltO c):=by
 refine⟨fun a b h=>?_,fun a b d h1 h2=>?_⟩
 ·simp only[ltO,decide_eq_true_eq,decide_eq_false_iff_not]at h ⊢
  have:=o.neg a b;omega
 ·simp only[ltO,decide_eq_false_iff_not]at h1 h2 ⊢
  have q1:=o.neg a b
  have q2:=o.neg b d
  have q3:=o.trans a b d (by omega) (by omega)
  have q4:=o.neg a d
  omega
theorem MU {q:α→α→Bool}(hq:∀ x y,q x y=true→x=y):∀(l:List α) (p x:α),x∈l→x=p∨x∈ID q p l
 | [],_,x,hx=>by simp at hx
 | y::r,p,x,hx=>by
  unfold ID;cases h:q y p with
  | true=>
   have e:=hq _ _ h
   subst e;rcases List.mem_cons.1 hx with e|e
   ·exact .inl e
   ·exact MU hq r y x e
  | false=>
   rcases List.mem_cons.1 hx with e|e
   ·subst e;exact .inr (by simp)
   ·rcases MU hq r y x e with e|e
    ·subst e;exact .inr (by simp)
    ·exact .inr (by simp [e])
theorem zgD {q:α→α→Bool}(hq:∀ x y,q x y=true→x=y):∀{l:List α} {x:α},x∈l→x∈XB q l
 | y::r,x,hx=>by
  rcases List.mem_cons.1 hx with e|e
  ·subst e;simp [XB]
  ·rcases MU hq r y x e with e|e
   ·subst e;simp [XB]
   ·simp [XB,e]
variable {c:α→α→Int} {q:α→α→Bool} {a b:List α}
end Go.Am
end
section
/- Records alike;copies;bins. -/
open Go
set_option linter.unusedSimpArgs false
namespace Go.Am
variable {h:bA} {K:mA}
def WY (a b:Rec):Bool:=decide (a.unit=b.unit)&&(decide (a.time=b.time)&&(decide (a.site=b.site)&&decide (a.res=b.res)))
theorem zrq (a b:Rec):WY a b=true↔a=b:=by
 cases a;cases b
 simp [WY]
end Go.Am
end
section
/- Sorting numbers: printed by program. -/
open Go
set_option linter.unusedSimpArgs false
namespace Go.Am
attribute [-go_sem] PV.cells splice
variable {h:bA} {K:mA}
end Go.Am
end
section
/- Bins,both ways;lists joined;records sorted. -/
open Go
set_option linter.unusedSimpArgs false
namespace Go.Am
variable {h:bA} {K:mA}
end Go.Am
end
section
/- Lists of records joined,compared,merged. -/
open Go
set_option linter.unusedSimpArgs false
namespace Go.Am
variable {h:bA} {K:mA}
instance:DecidableEq Rec:=fun a b=>decidable_of_iff (WY a b=true) (zrq a b)
end Go.Am
end
section
/- Records merged asv the reference does it. -/
open Go
set_option linter.unusedSimpArgs false
namespace Go.Am
variable {h:bA} {K:mA}
theorem KU {a b c:List UInt8}(h1:vA a b≤0)(h2:vA b c≤0):vA a c≤0:=by
 by_cases e1:vA a b=0
 ·rw[QF e1];exact h2
 ·by_cases e2:vA b c=0
  ·rw[←QF e2];exact h1
  ·have:=rJ (a:=a) (b:=b) (c:=c) (by omega) (by omega)
   omega
end Go.Am
end
section
/- Retests: which record of a unit counts. Plain lists;both ways yield the same. -/
set_option linter.all false
namespace Go.Am
def ltS (a b:List UInt8):Bool:=decide (vA a b<0)
end Go.Am
end
section
/- Lists of strings. -/
open Go
set_option linter.all false
namespace Go.Am
variable {h:bA} {K:mA}
theorem X_ex2:X.ex2=X.ex2:=rfl
theorem KS {us:List (List UInt8)}:bC none (us.map PV.str):=fun x hx=>by obtain⟨n,_,rfl⟩:=List.mem_map.1 hx;rfl
def z8N:PV→List UInt8
 | .str s=>s
 | _=>[]
theorem kJ:∀ a b:List UInt8,Op.bytesLess a b=ltS a b
 | [],[]=>rfl
 | [],_::_=>rfl
 | _::_,[]=>rfl
 | a::x,b::y=>by
  have ih:=kJ x y
  unfold ltS at ih ⊢;unfold Op.bytesLess vA;rw[ih];by_cases h1:a<b
  ·simp [h1]
  ·by_cases h2:b<a
   ·have:¬a=b:=fun e=>by subst e;exact UInt8.lt_irrefl _ h2
    simp [h1,h2,this]
   ·have:a=b:=by
     rcases UInt8.lt_or_lt_of_ne (a:=a) (b:=b) |> fun f=>Classical.em (a=b) with e|e
     ·exact e
     ·rcases UInt8.lt_or_lt_of_ne e with h|h
      ·exact absurd h h1
      ·exact absurd h h2
    simp [h1,h2,this]
def ltPS (x y:PV):Bool:=ltS (z8N x) (z8N y)
theorem zlV (us:List (List UInt8)):UB ltPS (us.map PV.str)=(UB ltS us).map PV.str:=z6J PV.str (fun a b=>rfl) us
end Go.Am
end
section
/- Texts sorted. -/
open Go
set_option linter.all false
namespace Go.Am
variable {h:bA} {K:mA}
theorem CS (a:List UInt8):jA X PE [AS a] h K=K (AB false) h []:=by
 refine IA ?_;rw[zfx rfl];simp only[ZU,go_sem]
theorem zq5 (a b:List UInt8):jA X kF [AS a,AS b] h K=K (AB (ltS a b)) h []:=by
 refine IA ?_;rw[zfv rfl];simp only[YU,go_sem,CS,kJ]
theorem zny {us:List (List UInt8)}:∀x∈us.map PV.str,∀y∈us.map PV.str,∀(h:bA) (K:mA),jA X kF [.p x,.p y] h K=K (AB (ltPS x y)) h []:=by
 intro x hx y hy h K;obtain⟨a,_,rfl⟩:=List.mem_map.1 hx;obtain⟨b,_,rfl⟩:=List.mem_map.1 hy;exact zq5 a b
theorem z8n (id:Nat)(us:List (List UInt8))(hl:us.length≤12)(hh:h[id]?=some (.row none (us.map PV.str) 0)) :
 jA X yI [.own id us.length 0 us.length] h K=K (.tup []) (h.set id (.row none ((UB ltS us).map PV.str) 0)) []:=by
 have:=zcZ (h:=h) (K:=K) id us.length (us.map PV.str) [] (by simp) KS (by simpa using hl) (by simpa using hh) (lt:=ltPS) zny
 simp only[List.length_map,List.append_nil,zlV]at this;exact this
end Go.Am
end
section
/- A board's joins: their order,and what is wrong with them: the program. -/
open Go
set_option linter.all false
set_option maxRecDepth 100000
namespace Go.Am
variable {h:bA} {K:mA}
theorem RY (a b:List UInt8):jA X NJ [AS a,AS b] h K=K (AI (vA a b)) h []:=by
 refine IA ?_;rw[zfu rfl];have n:=z2y a b
 by_cases h1:vA a b<0
 ·have e:vA a b = -1:=by omega
  have l1:ltS a b=true:=by simp [ltS,h1]
  simp only[qM,go_sem,CS,kJ,l1,e]
 ·have l1:ltS a b=false:=by simp [ltS,h1]
  by_cases h2:a=b
  ·have e:vA a b=0:=by rw[h2];exact iM b
   have h2p:=eq_true h2
   simp only[qM,go_sem,CS,kJ,l1,h2p,e]
  ·have hz:vA a b≠0:=fun z=>h2 (QF z)
   have e:vA a b=1:=by omega
   simp only[qM,go_sem,CS,kJ,l1,h2,e]
theorem or3 (a b c:Int):orL [a,b,c]=if a≠0 then a else if b≠0 then b else c:=by
 unfold orL orL orL;by_cases h1:a=0
 ·subst h1
  by_cases h2:b=0
  ·subst h2
   by_cases h3:c=0 <;> simp [orL,h3]
  ·simp [h2]
 ·simp [h1]
theorem zqF (x y:Jon):jA X jI [.p x.pv,.p y.pv] h K=K (AI (zB x y)) h []:=by
 refine IA ?_;rw[zfg rfl];have q1:=fun h K=>DS (h:=h) (K:=K) x.net y.net
 have q2:=fun h K=>DS (h:=h) (K:=K) x.part y.part
 have q3:=fun h K=>DS (h:=h) (K:=K) x.pin y.pin
 have q4:=fun h K=>zqT (h:=h) (K:=K) [vA x.net y.net,vA x.part y.part,vA x.pin y.pin] (by simp)
 rw[or3]at q4;simp only[AL,List.map_cons,List.map_nil]at q4;unfold zB;simp only[SU,Jon.pv,go_sem,↓q1,q1,↓q2,q2,↓q3,q3,↓q4,q4]
def Jon.bx (j:Jon):Obj:=.box [AS j.net,AS j.part,AS j.pin]
def spP (s:List UInt8 × List UInt8):PV:=.agg [.str s.1,.str s.2]
def wG (b:Bool):AV:=.p (.bool b)
theorem WM:bJ spP:=fun a b=>by
 obtain⟨a1,a2⟩:=a;obtain⟨b1,b2⟩:=b;have e:decide ((a1,a2)=(b1,b2))=(decide (a1=b1)&&(decide (a2=b2)&&true)):=by rw[Bool.eq_iff_iff];simp
 rw[e];rfl
theorem XM {s:List UInt8 × List UInt8}:PC (some 2,[2,2]) (.p (spP s))=some (spP s):=by simp [spP,PC,PV.key,PV.shp,PV.sc,PV.cells,PV.kind]
def UE (l:List Jon):List ((List UInt8×List UInt8)×Bool):=l.map fun x=>((x.part,x.pin),true)
theorem LW (x:Jon):∀l:List Jon,AA (x.part,x.pin) (UE l)=if l.any (ZC x) then some true else none
 | []=>rfl
 | y::l=>by
  have ih:=LW x l
  unfold UE at ih ⊢;rw[List.map_cons];unfold AA;rw[ih,List.any_cons];have e:((x.part,x.pin)=(y.part,y.pin))↔ZC x y=true:=by
   unfold ZC;simp only[Prod.mk.injEq,Bool.and_eq_true,decide_eq_true_eq];exact⟨fun h=>⟨h.1.symm,h.2.symm⟩,fun h=>⟨h.1.symm,h.2.symm⟩⟩
  by_cases hc:ZC x y=true
  ·rw[if_pos (e.2 hc),hc];rfl
  ·have hf:ZC x y=false:=by simpa using hc
   rw[if_neg (fun z=>hc (e.1 z)),hf,Bool.false_or]
theorem zsz (l:List Jon)(x:Jon)(h:l.any (ZC x)=false):dB (x.part,x.pin) true (UE l)=UE (l++[x]):=by
 have:AC (x.part,x.pin) (UE l)=none:=by
  have e:=kZ (k:=(x.part,x.pin)) (l:=UE l)
  rw[LW,h]at e;simpa using e
 rw[mO this];unfold UE;simp
theorem eZ (seen:List Jon)(x:Jon)(r:List Jon):twJ seen (x::r)=if seen.any (ZC x) then true else twJ (seen++[x]) r:=rfl
theorem QW (b:Brd)(p:Option Jon)(x:Jon)(r:List Jon):zD b p (x::r)=if PB x.net=false then 5 else if NG b x.part x.pin=false then 8 else if(match p with|some q=>decide (zB x q≤0)|none=>false)=true then 7 else zD b (some x) r:=rfl
attribute [-go_sem] YA bB
attribute [-go_sem] BQ wJ
theorem zqZ {K:Ex→St→Prop}(b:Brd)(hl:b.joins.length≤100000)(env:List (Nat × AV))(b1:aA env 1 = .ref h.length 0)
 (f6:twJ [] b.joins=true→∀H,K .ret ⟨[(2,AI 6)],h++H,[]⟩) (f0:twJ [] b.joins=false→∀H,K .ret ⟨[(2,AI 0)],h++H,[]⟩) :
 NW (jA X) X.gl tN ⟨env,h++[qA b],[]⟩ K:=by
 rw[BQ];have ln:(b.joins.map Jon.pv).length=b.joins.length:=List.length_map ..
 unfold qA;simp only[wJ,b1,go_sem,ln];refine UA (fun k:Nat=>⟨[(5,.mp (h.length+1)),(51,.p (.sl (some 3) (b.joins.map Jon.pv))),(52,AI b.joins.length),(53,AI k)],h++[qA b,BA spP wG (UE (b.joins.take k))],[]⟩) (fun k=>k≤b.joins.length∧twJ (b.joins.take k) (b.joins.drop k)=twJ [] b.joins) (fun k=>b.joins.length-k) 0 rfl ⟨by omega,rfl⟩ ?_
 rintro k ⟨hk,hp⟩
 rcases Nat.lt_or_ge k b.joins.length with hlt|hge
 ·have g:=ZA Jon.pv hlt
  have c1:QA (some 3) 0 b.joins[k].pv=some b.joins[k].pv:=rfl
  have w2:IntKind.i64.wrap ((k:Int)+1)=((k+1:Nat):Int):=JA _ (by omega) (by omega)
  rw[List.drop_eq_getElem_cons hlt,eZ]at hp;have tk:b.joins.take (k+1)=b.joins.take k++[b.joins[k]]:=List.take_succ_eq_append_getElem hlt
  rw[←tk]at hp;generalize hx:b.joins[k]=x at *;generalize b.joins.take k=S at *;generalize hb:qA b=bo at *;have lk:=fun(hp:bA) (e:hp[h.length+1]?=some (BA spP wG (UE S)))=>rF (kk:=(some 2,[2,2])) (k:=(x.part,x.pin)) WM e XM (ok:=false) (z:=wG false)
  have up:=fun(hp:bA) (e:hp[h.length+1]?=some (BA spP wG (UE S)))=>JI (kk:=(some 2,[2,2])) (k:=(x.part,x.pin)) WM e XM (v:=true) rfl
  have l1:=fun t=>lk (h++bo::BA spP wG (UE S)::t) (by simp)
  have u1:=fun t=>up (h++bo::BA spP wG (UE S)::t) (by simp)
  rw[LW]at l1;simp only[wG,spP,cond_false,TB,AV.top]at l1 u1;simp only[Jon.pv]at g c1;cases hc:S.any (ZC x) with
  | true=>
   rw[hc,if_pos rfl]at hp;rw[hc]at l1;simp only[if_true,Option.map_some,Option.getD_some,wG]at l1;simp only[go_sem,hlt,g,c1,l1];exact f6 hp.symm _
  | false=>
   rw[hc,if_neg (by simp)]at hp
   rw[hc]at l1;have us:=zsz S x hc
   simp only[Bool.false_eq_true,if_false,Option.map_none,Option.getD_none,wG]at l1;have nl0:¬h.length+1<0:=by omega
   simp only[nl0,if_false]at u1;rw[us]at u1;simp only[go_sem,hlt,g,c1,l1,u1,w2];refine⟨k+1,?_,⟨by omega,hp⟩,by omega⟩
   rw[tk]
 ·have e:k=b.joins.length:=by omega
  subst e;rw[List.drop_length,List.take_length]at hp;simp only[go_sem,Nat.lt_irrefl];exact f0 hp.symm _
end Go.Am
end
section
/- A board's joins,its nets,the whole of it: the program. -/
open Go
set_option linter.all false
set_option maxRecDepth 100000
namespace Go.Am
variable {h:bA} {K:mA}
attribute [-go_sem] YA bB BQ wJ
structure JonsOk (b:Brd):Prop where
 l:b.joins.length≤12
 n:∀j∈b.joins,j.net.length≤1000000
theorem iG {α:Type}{l:List α}{k:Nat}(hk:k+1≤l.length):(l.take (k+1)).getLast?=l[k]?:=by
 rw[List.take_succ_eq_append_getElem (by omega),List.getLast?_append,List.getElem?_eq_getElem (by omega)]
 simp
theorem zqY (b:Brd)(hs:QH b.parts)(ho:TL b)(hj:JonsOk b):jA X nI [.p b.pv] h K=K (AI (DE b)) h []:=by
 refine IA ?_;rw[zfo rfl];have ln:(b.joins.map Jon.pv).length=b.joins.length:=List.length_map ..
 have hl:=hj.l
 unfold DE;have h1000:¬(1000:Int)<b.joins.length:=by omega
 rw[if_neg h1000];simp only[GP,Brd.pv,go_sem,ln,h1000];refine UA (fun k:Nat=>⟨[(1,.ref h.length 0),(14,.p (.sl (some 3) (b.joins.map Jon.pv))),(15,AI b.joins.length),(16,AI k)],h++[qA b],[]⟩) (fun k=>k≤b.joins.length∧zD b (b.joins.take k).getLast? (b.joins.drop k)=zD b none b.joins) (fun k=>b.joins.length-k) 0 rfl ⟨by omega,rfl⟩ ?_
 rintro k ⟨hk,hp⟩
 rcases Nat.lt_or_ge k b.joins.length with hlt|hge
 ·have g:=ZA Jon.pv hlt
  have c1:QA (some 3) 0 b.joins[k].pv=some b.joins[k].pv:=rfl
  have w2:IntKind.i64.wrap ((k:Int)+1)=((k+1:Nat):Int):=JA _ (by omega) (by omega)
  rw[List.drop_eq_getElem_cons hlt,QW]at hp;have lg:(b.joins.take (k+1)).getLast?=some b.joins[k]:=by rw[iG (by omega),List.getElem?_eq_getElem hlt]
  have hx:=hj.n _ (List.getElem_mem hlt)
  have KY:=fun h K=>PY (h:=h) (K:=K) b.joins[k].net (by omega)
  have PN:=fun h K=>zrf (h:=h) (K:=K) b b.joins[k].part b.joins[k].pin hs ho
  have BN:=fun(y:Jon) h K=>zqF (h:=h) (K:=K) b.joins[k] y
  generalize hxx:b.joins[k]=x at *;simp only[Jon.pv]at g c1 BN;simp only[Brd.pv]at PN;unfold qA;cases hkey:PB x.net with
  | false=>
   rw[hkey,if_pos rfl]at hp;rw[hkey]at KY;rw[←hp];simp only[go_sem,hlt,g,c1,↓KY,KY]
  | true=>
   rw[hkey,if_neg (by simp)]at hp
   rw[hkey]at KY;cases hpin:NG b x.part x.pin with
   | false=>
    rw[hpin,if_pos rfl]at hp;rw[hpin]at PN;rw[←hp];simp only[go_sem,hlt,g,c1,↓KY,KY,↓PN,PN]
   | true=>
    rw[hpin,if_neg (by simp)]at hp
    rw[hpin]at PN;cases k with
    | zero=>
     rw[List.take_zero,List.getLast?_nil,if_neg (by simp)]at hp
     have hlt0:(0:Int)<b.joins.length:=by omega
     simp only[go_sem,hlt,hlt0,g,c1,↓KY,KY,↓PN,PN,Int.lt_irrefl,show((0:Nat):Int)=0 from rfl,show IntKind.i64.wrap 1=1 from rfl]
     refine⟨1,rfl,⟨by omega,?_⟩,by omega⟩
     rw[lg];exact hp
    | succ m=>
     have hm:m<b.joins.length:=by omega
     have gm:=ZA Jon.pv hm
     have cm:QA (some 3) 0 b.joins[m].pv=some b.joins[m].pv:=rfl
     have wm:IntKind.i64.wrap (((m+1:Nat):Int)-1)=(m:Int):=by rw[JA _ (by omega) (by omega)];omega
     have p1:(0:Int)<((m+1:Nat):Int):=by omega
     rw[iG (by omega),List.getElem?_eq_getElem hm]at hp
     generalize b.joins[m]=y at *;have BN':=BN y
     simp only[Jon.pv]at gm cm BN';by_cases hc:zB x y≤0
     ·rw[if_pos (by simp [hc])]at hp
      rw[←hp];simp only[go_sem,hlt,g,c1,↓KY,KY,↓PN,PN,p1,wm,hm,gm,cm,↓BN',BN',hc]
     ·rw[if_neg (by simp [hc])]at hp
      simp only[go_sem,hlt,g,c1,↓KY,KY,↓PN,PN,p1,wm,hm,gm,cm,↓BN',BN',hc,w2];refine⟨m+1+1,rfl,⟨by omega,?_⟩,by omega⟩
      rw[lg];exact hp
 ·have e:k=b.joins.length:=by omega
  subst e;rw[List.drop_length]at hp;have z:zD b none b.joins=0:=hp.symm
  rw[if_neg (by simp [z])]
  simp only[go_sem,Nat.lt_irrefl];refine zqZ b (by omega) _ rfl (fun ht H=>?_) (fun ht H=>?_)
  ·rw[ht];simp only[go_sem]
  ·rw[ht];simp only[go_sem]
theorem znP (us:List (List UInt8)):∀x∈us.map PV.str,∀y∈us.map PV.str,eA .eql (.p x) (.p y)=some (AB (eqN (unS x) (unS y))):=fun x hx y hy=>by
 obtain⟨a,_,rfl⟩:=List.mem_map.1 hx;obtain⟨b,_,rfl⟩:=List.mem_map.1 hy;simp only[go_sem];rfl
theorem znQ (us:List (List UInt8)):∀x∈us.map PV.str,∀y∈us.map PV.str,eA .neq (.p x) (.p y)=some (AB (!eqN (unS x) (unS y))):=fun x hx y hy=>by
 obtain⟨a,_,rfl⟩:=List.mem_map.1 hx;obtain⟨b,_,rfl⟩:=List.mem_map.1 hy;simp only[go_sem];rfl
theorem OY (us:List (List UInt8))(id:Nat)(hl:us.length≤100000)(hh:h[id]?=some (.row none (us.map PV.str) 0)) :
 ∃xs:List PV,xs.length=us.length∧win xs 0 (XB eqN us).length=(XB eqN us).map PV.str∧(XB eqN us).length≤us.length∧bC none xs∧∀K:mA,jA X aG [.own id us.length 0 us.length] h K=K (.own id us.length 0 (XB eqN us).length) (h.set id (.row none xs 0)) []:=by
 have ec:XB (fun x y=>eqN (unS x) (unS y)) (us.map PV.str)=(XB eqN us).map PV.str:=zgB PV.str (fun x y=>rfl) _
 have cl:=z22 eqN us
 have C:=fun K=>z9o (h:=h) (K:=K) id (us.map PV.str) KS (by simpa using hl) hh (q:=fun x y=>eqN (unS x) (unS y)) (znP us) (znQ us)
 rw[ec]at C;simp only[List.length_map]at C;refine⟨_,by simp;omega,by simp [win],cl,fun x hx=>?_,C⟩
 rcases List.mem_append.1 hx with hx|hx
 ·exact KS x hx
 ·rw[(List.mem_replicate.1 hx).2];rfl
theorem JL (b:Brd)(hl:b.joins.length≤100000):∃xs:List PV,xs.length=b.joins.length∧win xs 0 (tA b).length=(tA b).map PV.str∧(tA b).length≤b.joins.length∧bC none xs ∧
 ∀K:mA,jA X xD [.p b.pv] h K=K (.own (h.length+1) b.joins.length 0 (tA b).length) (h++[qA b,.row none xs 0]) []:=by
 have nl:(b.joins.map Jon.net).length=b.joins.length:=List.length_map ..
 obtain⟨xs,x1,x2,x3,x4,C⟩:=OY (h:=h++[qA b,.row none ((b.joins.map Jon.net).map PV.str) 0]) (b.joins.map Jon.net) (h.length+1) (by simpa using hl) (by simp)
 rw[nl]at C x1 x3;have es:∀o,(h++[qA b,.row none ((b.joins.map Jon.net).map PV.str) 0]).set (h.length+1) o=h++[qA b,o]:=fun o=>by rw[List.set_append_right _ _ (by omega)];simp
 rw[es]at C;refine⟨xs,x1,x2,x3,x4,fun K=>IA ?_⟩
 rw[zfq rfl];have ln:(b.joins.map Jon.pv).length=b.joins.length:=List.length_map ..
 simp only[JP,Brd.pv,go_sem,ln];refine UA (fun k:Nat=>⟨[(3,.own (h.length+1) k 0 k),(7,.p (.sl (some 3) (b.joins.map Jon.pv))),(8,AI b.joins.length),(9,AI k)],h++[qA b,.row none (((b.joins.map Jon.net).take k).map PV.str) 0],[]⟩) (fun k=>k≤b.joins.length) (fun k=>b.joins.length-k) 0 (by simp;rfl) (by omega) ?_
 intro k hk;unfold qA;rcases Nat.lt_or_ge k b.joins.length with hlt|hge
 ·have g:=ZA Jon.pv hlt
  have c1:QA (some 3) 0 b.joins[k].pv=some b.joins[k].pv:=rfl
  have w2:IntKind.i64.wrap ((k:Int)+1)=((k+1:Nat):Int):=JA _ (by omega) (by omega)
  have hn:k<(b.joins.map Jon.net).length:=by simpa using hlt
  have tk:(b.joins.map Jon.net).take (k+1)=(b.joins.map Jon.net).take k++[b.joins[k].net]:=by rw[List.take_succ_eq_append_getElem hn];simp
  have tl:(((b.joins.map Jon.net).take k).map PV.str).length=k:=by simp;omega
  have hm:k+1≤XA:=by unfold XA;omega
  generalize b.joins[k]=x at *;simp only[Jon.pv]at g c1;simp only[go_sem,hlt,g,c1,w2,tl,hm];refine⟨k+1,?_,by omega,by omega⟩
  rw[tk];simp
 ·have e:k=b.joins.length:=by omega
  subst e;have t0:(b.joins.map Jon.net).take b.joins.length=b.joins.map Jon.net:=List.take_of_length_le (by simp)
  unfold qA at C;unfold tA;rw[t0];generalize (b.joins.map Jon.net).map PV.str=us at *;simp only[go_sem,Nat.lt_irrefl,↓C,C];exact List.take_of_length_le (by simp;omega)
theorem bR (a b:List UInt8):(Op.bytesLess a b||decide (a=b))=decide (vA a b≤0):=by
 rw[kJ,Bool.eq_iff_iff];unfold ltS;simp only[Bool.or_eq_true,decide_eq_true_eq];constructor
 ·rintro (h|h)
  ·omega
  ·rw[h,iM];omega
 ·intro h
  by_cases e:vA a b=0
  ·exact .inr (QF e)
  ·exact .inl (by omega)
end Go.Am
end
section
/- A text split at a byte. -/
set_option linter.all false
namespace Go.Am
end Go.Am
end
section
/- A text read line by line. -/
set_option linter.all false
namespace Go.Am
end Go.Am
end
section
/- Numbers in texts. -/
set_option linter.all false
namespace Go.Am
end Go.Am
end
section
/- Faults of nets: what the words mean,in plain Lean. -/
set_option linter.all false
namespace Go.Am
def z6E (c:UInt8):Bool:=[48,49].contains c
def vD (s:List UInt8):Bool:=s.all z6E
theorem BM (p:UInt8→Bool):∀l:List UInt8,l.dropWhile p=[]↔l.all p=true
 | []=>by simp
 | c::r=>by
  rw[List.dropWhile_cons,List.all_cons];cases hp:p c with
  | true=>simp only[if_true,Bool.true_and];exact BM p r
  | false=>simp
theorem zsn (s:List UInt8):decide ((s.reverse.dropWhile ([48,49].contains ·)).reverse.dropWhile ([48,49].contains ·)=[])=vD s:=by
 rw[Bool.eq_iff_iff,decide_eq_true_eq,BM,List.all_reverse];have hb:vD s=s.all ([48,49].contains ·):=rfl
 rw[hb];constructor
 ·intro h
  rw[←BM]at h;have key:∀l:List UInt8,(l.dropWhile ([48,49].contains ·)).all ([48,49].contains ·)=true→l.all ([48,49].contains ·)=true:=by
   intro l;induction l with
   | nil=>intro _;rfl
   | cons c r ih=>
    rw[List.dropWhile_cons];split
    ·rename_i hp;intro h;rw[List.all_cons,hp,ih h];rfl
    ·exact id
  have:=key s.reverse ((BM _ _).1 h);rwa [List.all_reverse]at this
 ·intro h
  have key:∀l:List UInt8,l.all ([48,49].contains ·)=true→(l.dropWhile ([48,49].contains ·)).all ([48,49].contains ·)=true:=by
   intro l hl;rw[(BM _ l).2 hl];rfl
  exact key _ (by rwa [List.all_reverse])
structure Flt where
 kind:Int
 nets:List Int
 deriving DecidableEq
end Go.Am
end
section
/- Faults read: the program's line and the reference's line agree. -/
set_option linter.all false
namespace Go.Am
end Go.Am
end
section
/- Where a byte stands in a text. -/
open Go
set_option linter.all false
namespace Go.Am
variable {h:bA} {K:mA}
theorem zri (s:List UInt8)(c:UInt8):jA X lF [AS s,.p (.int .u8 c.toNat)] h K=K (AI (oD s c)) h []:=by
 refine IA ?_;rw[z1Q rfl];simp only[PP,go_sem,z8q]
end Go.Am
end
section
/- The abstract machine,part L4: strings.Repeat,strings.Trim,math/bits.TrailingZeros64 asv rows. -/
set_option linter.all false
namespace Go.Am
variable {P:Program} {gl:Nat→Option PV}
open Go.Shelf
theorem ze1 {w w':World}(h:Go.RowKit.Below w.heap.size w w'):WExt w w':=⟨h.size,fun b hb=>h.block b hb,by unfold zed;rw[h.os,h.tape,h.output]⟩
theorem zn5 (s cs:List UInt8):Go.Lib.trimS s cs=iO s cs:=rfl
theorem trimRow {ρ:Ren}(L:Go.Proofs.Lays.n160 P ρ)(h116:(P.info? (ρ.t 116)).map (fun i=>(i.zero,i.size))=some (some (.agg (Array.replicate 256 (.bool false))),256))(he:∀ us w,(callFunc (ρ.f 160) us).run P w = .ok (.enter (ρ.f 160) us) w):PureRow P gl (ρ.f 160) trimS where
 enter:=he
 run M w vs r us hc hb hG hl hr hs:=by
  unfold trimS at hs;split at hs
  ·rename_i s cs
   split at hs
   ·rename_i hbd
    match us,hl with
    | [u,v],_=>
     have q:=hr 0 _ u rfl rfl
     cases q;have q2:=hr 1 _ v rfl rfl
     cases q2;simp only[Option.some.injEq]at hs
     subst hs;have hsz:∀l:List UInt8,(⟨l.toArray⟩:ByteArray).size=l.length:=fun l=>by simp [ByteArray.size]
     refine(Go.Proofs.Any.strings_Trim_laid L h116 ⟨s.toArray⟩ ⟨cs.toArray⟩ w (by rw[hsz];omega) (by rw[hsz];omega) (Go.Proofs.ascii_of_all hbd.2.2)).mono fun e w' h=>?_
     obtain⟨rfl,h⟩:=h;exact⟨_,rfl,ze1 h,by rw[←zn5];exact .p _ _ (.str _)⟩
   ·cases hs
  ·cases hs
end Go.Am
end
section
/- The abstract machine,part L5: strings.Count at one byte,strings.Join asv rows. -/
set_option linter.all false
namespace Go.Am
variable {P:Program} {gl:Nat→Option PV}
open Go.Shelf
end Go.Am
end
section
/- Texts split at a byte. -/
open Go
set_option linter.all false
namespace Go.Am
variable {h:bA} {K:mA}
theorem zrj (s:List UInt8)(c:UInt8)(hs:s.length≤1000000):jA X OJ [AS s,AS [c]] h K=K (AI (oD s c)) h []:=by
 refine IA ?_;rw[zfz rfl];have q:=fun h K=>zri (h:=h) (K:=K) s c
 simp only[OP,go_sem,↓q,q,List.length_cons,List.length_nil];split
 ·rename_i h1;subst h1;simp [oD]
 ·trivial
end Go.Am
end
section
/- Lines of a text. -/
open Go
set_option linter.all false
namespace Go.Am
variable {h:bA} {K:mA}
end Go.Am
end
section
/- Numbers read. -/
open Go
set_option linter.all false
namespace Go.Am
variable {h:bA} {K:mA}
end Go.Am
end
section
/- Several numbers read. -/
open Go
set_option linter.all false
namespace Go.Am
variable {h:bA} {K:mA}
end Go.Am
end
section
/- Numbers read,the reference's way. -/
open Go
set_option linter.all false
namespace Go.Am
variable {h:bA} {K:mA}
end Go.Am
end
section
/- Tests and faults: what is wrong with them,both ways. -/
open Go
set_option linter.all false
namespace Go.Am
variable {h:bA} {K:mA}
theorem zqE (s cs:List UInt8)(hs:s.length≤1000000)(hc:cs.length≤1000)(ha:cs.all (fun b=>decide (b.toNat<128))=true):jA X qK [AS s,AS cs] h K=K (AS (iO s cs)) h []:=by
 refine z6U (X:=X) (by kernel_rfl) ?_
 rw[X_ex2];show GI GRL PRL qK [AS s,AS cs] h=some (AS (iO s cs),h,[])
 exact zn4 (vs:=[.str s,.str cs]) (by kernel_rfl) (s:=trimS) (by kernel_rfl) rfl (by simp only[trimS];rw[if_pos ⟨hs,hc,ha⟩])
theorem zqy (s:List UInt8)(hs:s.length≤1000000):jA X NE [AS s] h K=K (AB (vD s)) h []:=by
 refine IA ?_;rw[zeV rfl];have e:=fun h K=>zqE (h:=h) (K:=K) s [48,49] hs (by simp) (by decide)
 have b:decide (iO s [48,49]=[])=vD s:=zsn s
 simp only[NU,go_sem,e,b]
theorem zqz (s:List UInt8)(hs:s.length≤1000000):jA X VJ [AS s] h K=K (AB (vD s)) h []:=by
 refine IA ?_;rw[zfG rfl];have e:=fun h K=>TY (h:=h) (K:=K) s [48,49] (by omega)
 have b:(s.all fun c=>[48,49].contains c)=vD s:=rfl
 simp only[BV,go_sem,e,b]
end Go.Am
end
section
/- Faults: what is wrong with them,both ways. -/
open Go
set_option linter.all false
namespace Go.Am
variable {h:bA} {K:mA}
def Flt.pv (f:Flt):PV:=.agg [eI f.kind,.sl none (f.nets.map eI)]
end Go.Am
end
section
/- Where a string stands among strings;words. -/
open Go
set_option linter.all false
namespace Go.Am
variable {h:bA} {K:mA}
theorem zaT {v:AV}(l:List (List UInt8))(hv:Shows none v (l.map PV.str) h)(x:List UInt8)(hl:l.length≤1000000):jA X vH [v,AS x] h K=K (AI (if l.findIdx (fun y=>decide (y=x))<l.length then(l.findIdx (fun y=>decide (y=x)):Int) else -1)) h []:=by
 refine IA ?_;rw[zgh];have vl:=hv.len
 rw[List.length_map]at vl;simp only[uQ,go_sem,vl];refine UA (fun k:Nat=>⟨[(0,v),(1,AS x),(7,AI l.length),(8,AI k)],h,[]⟩) (fun k=>k≤l.length∧∀y∈l.take k,decide (y=x)=false) (fun k=>l.length-k) 0 rfl (by simp) ?_
 rintro k ⟨hk,hn⟩
 rcases Nat.lt_or_ge k l.length with hlt|hge
 ·obtain⟨a,ha,hb⟩:=hv.get k (by simpa using hlt)
  rw[List.getElem_map]at hb;have w2:IntKind.i64.wrap ((k:Int)+1)=((k+1:Nat):Int):=JA _ (by omega) (by omega)
  by_cases hpk:x=l[k]
  ·have hf:l.findIdx (fun y=>decide (y=x))=k:=by
    rw[List.findIdx_eq hlt];refine⟨by simp [hpk],fun j hj=>?_⟩
    have:=hn l[j] (by rw[List.mem_take_iff_getElem];exact⟨j,by omega,rfl⟩)
    simpa using this
   simp only[go_sem,hlt,ha,hb,hpk.symm,w2];simp only[hf,hlt,if_true]
  ·simp only[go_sem,hlt,ha,hb,hpk,w2]
   refine⟨k+1,rfl,⟨by omega,fun y hy=>?_⟩,by omega⟩
   rw[List.take_succ_eq_append_getElem hlt,List.mem_append,List.mem_singleton]at hy;rcases hy with hy|hy
   ·exact hn y hy
   ·rw[hy];simp;exact fun e=>hpk e.symm
 ·have e1:k=l.length:=by omega
  subst e1;simp only[go_sem,Nat.lt_irrefl];rw[List.take_length]at hn;have:¬l.findIdx (fun y=>decide (y=x))<l.length:=by
   rw[Nat.not_lt,Nat.le_iff_lt_or_eq];right
   exact(List.findIdx_eq_length.2 (fun y hy=>by simp [hn y hy])).symm
  rw[if_neg this]
theorem pO {v:AV}(l:List (List UInt8))(hv:∀ h':bA,h'=h→Shows none v (l.map PV.str) h')(x:List UInt8)(hl:l.length≤1000000):jA X nE [v,AS x] h K=K (AB (l.contains x)) h []:=by
 refine IA ?_;rw[zfZ];have e:=fun K=>zaT (h:=h) (K:=K) l (hv h rfl) x hl
 have hd:decide (0≤(if l.findIdx (fun y=>decide (y=x))<l.length then(l.findIdx (fun y=>decide (y=x)):Int) else -1))=l.contains x:=by
  rw[Bool.eq_iff_iff,decide_eq_true_eq,List.contains_iff_mem];constructor
  ·intro hq
   split at hq
   ·rename_i hlt
    have:=List.findIdx_getElem (w:=hlt);simp only[decide_eq_true_eq]at this;exact this ▸ List.getElem_mem hlt
   ·omega
  ·intro hm
   rw[if_pos (List.findIdx_lt_length_of_exists ⟨x,hm,by simp⟩)];omega
 simp only[KV,go_sem,e,hd]
end Go.Am
end
section
/- A board,whole: the program. -/
open Go
set_option linter.all false
set_option maxRecDepth 100000
namespace Go.Am
variable {h:bA} {K:mA}
attribute [-go_sem] YA bB
theorem pY (p:Option Prt)(x:Prt)(r:List Prt):DC p (x::r)=if PB x.key=false then 5 else if(match p with|some q=>decide (vA x.key q.key≤0)|none=>false)=true then 7 else if jD x.cells≠0 then jD x.cells else DC (some x) r:=rfl
theorem z79 (nets:List (List UInt8))(p:Option Pul)(x:Pul)(r:List Pul):xF nets p (x::r)=if nets.contains x.net=false then 8 else if inB 0 x.level 1=false then 1 else if(match p with|some q=>decide (vA x.net q.net≤0)|none=>false)=true then 7 else xF nets (some x) r:=rfl
theorem MN:∀ (l:List Prt)(p:Option Prt),DC p l=0→(∀q,p=some q→∀x∈l,vA q.key x.key<0)∧QH l∧∀x∈l,PB x.key=true∧jD x.cells=0
 | [],p,_=>⟨fun _ _ _ h=>(by cases h),List.Pairwise.nil,fun _ h=>(by cases h)⟩
 | x::r,p,h=>by
  rw[pY]at h;cases hk:PB x.key with
  | false=>rw[hk,if_pos rfl]at h;cases h
  | true=>
   rw[hk,if_neg (by simp)]at h
   generalize hb:(match p with|some q=>decide (vA x.key q.key≤0)|none=>false)=c7 at h
   cases c7 with
   | true=>rw[if_pos rfl]at h;cases h
   | false=>
    rw[if_neg (by simp)]at h
    by_cases hc:jD x.cells=0
    ·rw[if_neg (by simp [hc])]at h
     obtain⟨i1,i2,i3⟩:=MN r (some x) h;have i1':=i1 x rfl
     have px:∀q,p=some q→vA q.key x.key<0:=fun q hq=>by
      subst hq;simp only[decide_eq_false_iff_not]at hb;have:=LE x.key q.key;omega
     refine⟨fun q hq y hy=>?_,List.pairwise_cons.2 ⟨i1',i2⟩,fun y hy=>?_⟩
     ·rcases List.mem_cons.1 hy with e|hy
      ·rw[e];exact px q hq
      ·exact rJ (px q hq) (i1' y hy)
     ·rcases List.mem_cons.1 hy with e|hy
      ·rw[e];exact⟨hk,hc⟩
      ·exact i3 y hy
    ·rw[if_pos hc]at h;exact absurd h hc
structure BrdOk (b:Brd):Prop where
 c:TL b
 j:JonsOk b
 p:b.pulls.length≤1000
 k:∀p∈b.parts,p.key.length≤1000000
attribute [-go_sem] eW vJ
theorem zq0 {K:Ex→St→Prop}(b:Brd)(ho:BrdOk b)(hs:QH b.parts)(env:List (Nat × AV))(b1:aA env 1 = .ref h.length 0)(v:Int)
 (hv:(if DE b≠0 then DE b else if(100:Int)<(tA b).length then 2 else xF (tA b) none b.pulls)=v)
 (fin:∀H,K .ret ⟨[(2,AI v)],h++H,[]⟩) :
 NW (jA X) X.gl oN ⟨env,h++[qA b],[]⟩ K:=by
 rw[eW];have JF:=fun h K=>zqY (h:=h) (K:=K) b hs ho.c ho.j
 have ln:(b.pulls.map Pul.pv).length=b.pulls.length:=List.length_map ..
 have hl:=ho.p
 obtain⟨xs,x1,x2,x3,x4,NM⟩:=JL (h:=h++[qA b]) b (by have:=ho.j.l;omega)
 simp only[Brd.pv]at JF NM;unfold qA at NM ⊢;by_cases hz:DE b=0
 ·rw[if_neg (by simp [hz])]at hv
  rw[hz]at JF;have j12:=ho.j.l
  have h100:¬(100:Int)<(tA b).length:=by omega
  rw[if_neg h100]at hv;simp only[vJ,b1,go_sem,↓JF,JF,↓NM,NM,h100,ln];refine UA (fun k:Nat=>⟨[(1,.ref h.length 0),(7,.own (h.length+1+1) b.joins.length 0 (tA b).length),(59,.p (.sl (some 2) (b.pulls.map Pul.pv))),(60,AI b.pulls.length),(61,AI k)],h++[qA b,qA b,.row none xs 0],[]⟩) (fun k=>k≤b.pulls.length∧xF (tA b) (b.pulls.take k).getLast? (b.pulls.drop k)=v) (fun k=>b.pulls.length-k) 0 (by first|rfl|skip) ⟨by omega,hv⟩ ?_
  rintro k ⟨hk,hp⟩
  have SH:∀T:bA,Shows none (.own (h.length+1+1) b.joins.length 0 (tA b).length) ((tA b).map PV.str) (h++qA b::qA b :: .row none xs 0::T):=fun T=>by
   have:=KL (h:=h++qA b::qA b :: .row none xs 0::T) (id:=h.length+1+1) (off:=0) (len:=(tA b).length) (fz:=0) x4 (by rw[List.getElem?_append_right (by omega),show h.length+1+1-h.length=2 by omega];rfl) (by omega)
   rw[x1,x2]at this;exact this
  have CT:=fun(T:bA) (s:List UInt8) K=>pO (h:=h++qA b::qA b :: .row none xs 0::T) (K:=K) (tA b) (fun h' e=>by rw[e];exact SH T) s (by omega)
  unfold qA at CT ⊢;rcases Nat.lt_or_ge k b.pulls.length with hlt|hge
  ·have g:=ZA Pul.pv hlt
   have c1:QA (some 2) 0 b.pulls[k].pv=some b.pulls[k].pv:=rfl
   have w2:IntKind.i64.wrap ((k:Int)+1)=((k+1:Nat):Int):=JA _ (by omega) (by omega)
   rw[List.drop_eq_getElem_cons hlt,z79]at hp;have lg:(b.pulls.take (k+1)).getLast?=some b.pulls[k]:=by rw[iG (by omega),List.getElem?_eq_getElem hlt]
   generalize hxx:b.pulls[k]=x at *;have CX:=fun T K=>CT T x.net K
   have OB:=fun h K=>zS (h:=h) (K:=K) x.level 0 1
   simp only[Pul.pv,eI]at g c1;cases hcn:(tA b).contains x.net with
   | false=>
    rw[hcn,if_pos rfl]at hp;rw[hcn]at CX;subst hp;simp only[go_sem,hlt,g,c1,↓CX,CX];exact fin _
   | true=>
    rw[hcn,if_neg (by simp)]at hp
    rw[hcn]at CX;cases hlv:inB 0 x.level 1 with
    | false=>
     rw[hlv,if_pos rfl]at hp;rw[hlv]at OB;subst hp;simp only[go_sem,hlt,g,c1,↓CX,CX,↓OB,OB];exact fin _
    | true=>
     rw[hlv,if_neg (by simp)]at hp
     rw[hlv]at OB;cases k with
     | zero=>
      rw[List.take_zero,List.getLast?_nil,if_neg (by simp)]at hp
      have hlt0:(0:Int)<b.pulls.length:=by omega
      simp only[go_sem,hlt,hlt0,g,c1,↓CX,CX,↓OB,OB,Int.lt_irrefl,show((0:Nat):Int)=0 from rfl,show IntKind.i64.wrap 1=1 from rfl]
      refine⟨1,rfl,⟨by omega,?_⟩,by omega⟩
      rw[lg];exact hp
     | succ m=>
      have hm:m<b.pulls.length:=by omega
      have gm:=ZA Pul.pv hm
      have cm:QA none 0 b.pulls[m].pv=some (.str b.pulls[m].net):=rfl
      have wm:IntKind.i64.wrap (((m+1:Nat):Int)-1)=(m:Int):=by rw[JA _ (by omega) (by omega)];omega
      have p1:(0:Int)<((m+1:Nat):Int):=by omega
      rw[iG (by omega),List.getElem?_eq_getElem hm]at hp
      generalize b.pulls[m]=y at *;have le:=bR x.net y.net
      by_cases hc:vA x.net y.net≤0
      ·rw[if_pos (by simp [hc])]at hp
       subst hp;simp only[go_sem,hlt,g,c1,↓CX,CX,↓OB,OB,p1,wm,hm,gm,cm,le,hc];exact fin _
      ·rw[if_neg (by simp [hc])]at hp
       simp only[go_sem,hlt,g,c1,↓CX,CX,↓OB,OB,p1,wm,hm,gm,cm,le,hc,w2];refine⟨m+1+1,rfl,⟨by omega,?_⟩,by omega⟩
       rw[lg];exact hp
  ·have e:k=b.pulls.length:=by omega
   subst e;rw[List.drop_length]at hp;have z:v=0:=hp.symm
   subst z;simp only[go_sem,Nat.lt_irrefl];exact fin _
 ·rw[if_pos hz]at hv
  subst hv;have e12:eA .neq (.p (.int .i64 (DE b))) (.p (.int .i64 0))=some (AB true):=by simp only[go_sem,hz]
  simp only[vJ,b1,go_sem,↓JF,JF,↓e12];exact fin _
theorem mP {b:Brd}(ho:TL b){p:Prt}(hp:p∈b.parts):(∀c∈p.cells,c.pin.length≤1000000)∧p.cells.length≤100000:=⟨(ho.2 p hp).2,(ho.2 p hp).1⟩
theorem z8e (b:Brd)(ho:BrdOk b):jA X CG [.p b.pv] h K=K (AI (fD b)) h []:=by
 refine IA ?_;rw[zfa rfl];have ln:(b.parts.map Prt.pv).length=b.parts.length:=List.length_map ..
 unfold fD;by_cases h40:(40:Int)<b.parts.length
 ·rw[if_pos h40]
  simp only[kM,Brd.pv,go_sem,ln,h40]
 rw[if_neg h40];simp only[kM,Brd.pv,go_sem,ln,h40];refine UA (fun k:Nat=>⟨[(1,.ref h.length 0),(15,aD b.parts),(16,AI b.parts.length),(17,AI k)],h++[qA b],[]⟩) (fun k=>k≤b.parts.length∧DC (b.parts.take k).getLast? (b.parts.drop k)=DC none b.parts) (fun k=>b.parts.length-k) 0 rfl ⟨by omega,rfl⟩ ?_
 rintro k ⟨hk,hp⟩
 unfold qA;rcases Nat.lt_or_ge k b.parts.length with hlt|hge
 ·have g:=ZA Prt.pv hlt
  have c1:QA (some 2) 0 b.parts[k].pv=some b.parts[k].pv:=rfl
  have w2:IntKind.i64.wrap ((k:Int)+1)=((k+1:Nat):Int):=JA _ (by omega) (by omega)
  rw[List.drop_eq_getElem_cons hlt,pY]at hp;have lg:(b.parts.take (k+1)).getLast?=some b.parts[k]:=by rw[iG (by omega),List.getElem?_eq_getElem hlt]
  have xm:=List.getElem_mem hlt
  generalize hxx:b.parts[k]=x at *;have KY:=fun h K=>PY (h:=h) (K:=K) x.key (by have:=ho.k x xm;omega)
  have CF:=fun h K=>zqK (h:=h) (K:=K) x (mP ho.c xm).1 (mP ho.c xm).2
  simp only[Prt.pv]at g c1 CF;cases hkey:PB x.key with
  | false=>
   rw[hkey,if_pos rfl]at hp;rw[hkey]at KY;rw[←hp];simp only[go_sem,hlt,g,c1,↓KY,KY]
  | true=>
   rw[hkey,if_neg (by simp)]at hp
   rw[hkey]at KY;generalize hz:jD x.cells=z at *;have stp:(if z≠0 then z else DC (some x) (b.parts.drop (k+1)))=DC none b.parts→((z≠0∧DC none b.parts=z)∨(z=0∧DC (some x) (b.parts.drop (k+1))=DC none b.parts)):=fun e=>by
    by_cases q:z=0
    ·right;rw[if_neg (by simp [q])]at e;exact⟨q,e⟩
    ·left;rw[if_pos q]at e;exact⟨q,e.symm⟩
   cases k with
   | zero=>
    rw[List.take_zero,List.getLast?_nil,if_neg (by simp)]at hp
    have hlt0:(0:Int)<b.parts.length:=by omega
    rcases stp hp with⟨q,e⟩|⟨q,e⟩
    ·rw[e,if_pos q]
     have e12:eA .neq (.p (.int .i64 z)) (.p (.int .i64 0))=some (AB true):=by simp only[go_sem,q]
     simp only[go_sem,hlt,hlt0,g,c1,↓KY,KY,Int.lt_irrefl,show((0:Nat):Int)=0 from rfl,↓CF,CF,↓e12]
    ·subst q
     simp only[go_sem,hlt,hlt0,g,c1,↓KY,KY,Int.lt_irrefl,show((0:Nat):Int)=0 from rfl,↓CF,CF,show IntKind.i64.wrap 1=1 from rfl]
     refine⟨1,rfl,⟨by omega,?_⟩,by omega⟩
     rw[lg];exact e
   | succ m=>
    have hm:m<b.parts.length:=by omega
    have gm:=ZA Prt.pv hm
    have cm:QA none 0 b.parts[m].pv=some (.str b.parts[m].key):=rfl
    have wm:IntKind.i64.wrap (((m+1:Nat):Int)-1)=(m:Int):=by rw[JA _ (by omega) (by omega)];omega
    have p1:(0:Int)<((m+1:Nat):Int):=by omega
    rw[iG (by omega),List.getElem?_eq_getElem hm]at hp
    generalize b.parts[m]=y at *;have le:=bR x.key y.key
    by_cases hc:vA x.key y.key≤0
    ·rw[if_pos (by simp [hc])]at hp
     rw[←hp,if_pos (by decide)]
     simp only[go_sem,hlt,g,c1,↓KY,KY,p1,wm,hm,gm,cm,le,hc]
    ·rw[if_neg (by simp [hc])]at hp
     rcases stp hp with⟨q,e⟩|⟨q,e⟩
     ·rw[e,if_pos q]
      have e12:eA .neq (.p (.int .i64 z)) (.p (.int .i64 0))=some (AB true):=by simp only[go_sem,q]
      simp only[go_sem,hlt,g,c1,↓KY,KY,p1,wm,hm,gm,cm,le,hc,↓CF,CF,↓e12]
     ·subst q
      simp only[go_sem,hlt,g,c1,↓KY,KY,p1,wm,hm,gm,cm,le,hc,↓CF,CF,w2];refine⟨m+1+1,rfl,⟨by omega,?_⟩,by omega⟩
      rw[lg];exact e
 ·have e:k=b.parts.length:=by omega
  subst e;rw[List.drop_length]at hp;have z:DC none b.parts=0:=hp.symm
  rw[if_neg (by simp [z])]
  simp only[go_sem,Nat.lt_irrefl];refine zq0 b ho (MN _ _ z).2.1 _ rfl _ rfl fun H=>?_
  simp only[go_sem]
end Go.Am
end
section
/- Boards,plainly: nets of pins,cells on nets. -/
set_option linter.all false
namespace Go.Am
abbrev Nm2:=List UInt8
def rC (l:List Jon):List ((Nm2×Nm2)×Nm2):=l.map fun j=>((j.part,j.pin),j.net)
theorem SQ (part pin:Nm2):∀l:List Jon,AA (part,pin) (rC l)=(l.find? fun j=>decide (j.part=part)&&decide (j.pin=pin)).map Jon.net
 | []=>rfl
 | y::l=>by
  have ih:=SQ part pin l
  unfold rC at ih ⊢;rw[List.map_cons];unfold AA;rw[ih,List.find?_cons];have e:((part,pin)=(y.part,y.pin))↔(decide (y.part=part)&&decide (y.pin=pin))=true:=by
   simp only[Prod.mk.injEq,Bool.and_eq_true,decide_eq_true_eq];exact⟨fun h=>⟨h.1.symm,h.2.symm⟩,fun h=>⟨h.1.symm,h.2.symm⟩⟩
  cases hc:(decide (y.part=part)&&decide (y.pin=pin)) with
  | true=>rw[if_pos (e.2 hc)];rfl
  | false=>rw[if_neg fun z=>by rw[e.1 z]at hc;cases hc]
def tF (b:Brd)(part pin:Nm2):Option Nm2:=(b.joins.find? fun j=>decide (j.part=part)&&decide (j.pin=pin)).map Jon.net
theorem znO {l:List Jon}{x:Jon}(h:l.any (ZC x)=false):AC (x.part,x.pin) (rC l)=none:=by
 have e:=kZ (k:=(x.part,x.pin)) (l:=rC l)
 rw[SQ]at e;have:l.find? (fun j=>decide (j.part=x.part)&&decide (j.pin=x.pin))=none:=by
  rw[List.find?_eq_none];intro y hy;have:=List.any_eq_false.1 h y hy;unfold ZC at this;exact this
 rw[this]at e;simpa using e
theorem z8L:∀ (l seen:List Jon),twJ seen l=false→∀k (hk:k<l.length),(seen++l.take k).any (ZC l[k])=false
 | [],_,_,k,hk=>by simp at hk
 | x::r,seen,h,k,hk=>by
  rw[eZ]at h;cases hs:seen.any (ZC x) with
  | true=>rw[hs,if_pos rfl]at h;cases h
  | false=>
   rw[hs,if_neg (by simp)]at h
   cases k with
   | zero=>simpa using hs
   | succ k=>
    have:=z8L r (seen++[x]) h k (by simpa using hk)
    simpa using this
end Go.Am
end
section
/- Boards,plainly: cells on nets,in groups. -/
set_option linter.all false
namespace Go.Am
def xG (b:Brd)(kind:Int)(i:Nat)(key:Nm2)(ck:Cel × Nat):Option (Nm2×(Nat×Nat)):=if ck.1.kind=kind then(tF b key ck.1.pin).map fun n=>(n,(i,ck.2)) else none
def inL (b:Brd)(kind:Int)(i:Nat)(p:Prt)(k:Nat):List (Nm2×(Nat×Nat)):=((p.cells.take k).zipIdx).filterMap (xG b kind i p.key)
def wB (b:Brd)(kind:Int)(i:Nat):List (Nm2×(Nat×Nat)):=((b.parts.take i).zipIdx).flatMap fun pi=>inL b kind pi.2 pi.1 pi.1.cells.length
theorem zlK {b:Brd}{kind:Int}{i:Nat}{p:Prt}{k:Nat}(hk:k<p.cells.length):inL b kind i p (k+1)=inL b kind i p k++(xG b kind i p.key (p.cells[k],k)).toList:=by
 unfold inL;have hl:(p.cells.take k).length=k:=by simp;omega
 rw[List.take_succ_eq_append_getElem hk,List.zipIdx_append,List.filterMap_append,hl];simp only[List.zipIdx_cons,List.zipIdx_nil,Nat.zero_add];cases hc:xG b kind i p.key (p.cells[k],k) with
 | none=>simp [List.filterMap_cons,hc]
 | some v=>simp [List.filterMap_cons,hc]
theorem mR {b:Brd}{kind:Int}{i:Nat}(hi:i<b.parts.length):wB b kind (i+1)=wB b kind i++inL b kind i b.parts[i] b.parts[i].cells.length:=by
 unfold wB;have hl:(b.parts.take i).length=i:=by simp;omega
 rw[List.take_succ_eq_append_getElem hi,List.zipIdx_append,List.flatMap_append,hl];simp
def grp (P:List (Nm2 × (Nat × Nat)))(n:Nm2):List (Nat×Nat):=(P.filter fun e=>decide (e.1=n)).map Prod.snd
theorem zl2 (P:List (Nm2 × (Nat × Nat)))(m:Nm2)(p:Nat × Nat)(n:Nm2):grp (P++[(m,p)]) n=if n=m then grp P n++[p] else grp P n:=by
 unfold grp;rw[List.filter_append,List.map_append];by_cases h:n=m
 ·subst h;simp
 ·rw[if_neg h]
  have:¬m=n:=fun e=>h e.symm
  simp [this]
abbrev CM:=List (Nm2 × (Nat × List (Nat × Nat)))
def aJ (M:CM)(P:List (Nm2 × (Nat × Nat))):Prop:=∀n,(AA n M).map Prod.snd=if grp P n=[] then none else some (grp P n)
theorem z66 {M:CM}{P:List (Nm2 × (Nat × Nat))}(h:aJ M P)(m:Nm2)(rid:Nat)(p:Nat × Nat):aJ (dB m (rid,grp P m++[p]) M) (P++[(m,p)]):=by
 intro n;rw[TQ,zl2];by_cases e:n=m
 ·subst e
  rw[if_pos rfl,if_pos rfl,if_neg (by simp)];rfl
 ·rw[if_neg e,if_neg e];exact h n
end Go.Am
end
section
/- The nets of a board's pins: the program's map. -/
open Go
set_option linter.all false
set_option maxRecDepth 100000
namespace Go.Am
variable {h:bA} {K:mA}
attribute [-go_sem] YA bB
def zC (s:List UInt8):AV:=.p (.str s)
theorem z8r (b:Brd)(hl:b.joins.length≤100000)(ht:twJ [] b.joins=false):jA X DG [.p b.pv] h K=K (.mp (h.length+1)) (h++[qA b,BA spP zC (rC b.joins)]) []:=by
 refine IA ?_;rw[zfr rfl];have ln:(b.joins.map Jon.pv).length=b.joins.length:=List.length_map ..
 simp only[KP,Brd.pv,go_sem,ln];refine UA (fun k:Nat=>⟨[(3,.mp (h.length+1)),(8,.p (.sl (some 3) (b.joins.map Jon.pv))),(9,AI b.joins.length),(10,AI k)],h++[qA b,BA spP zC (rC (b.joins.take k))],[]⟩) (fun k=>k≤b.joins.length) (fun k=>b.joins.length-k) 0 rfl (by omega) ?_
 intro k hk;rcases Nat.lt_or_ge k b.joins.length with hlt|hge
 ·have g:=ZA Jon.pv hlt
  have c1:QA (some 3) 0 b.joins[k].pv=some b.joins[k].pv:=rfl
  have w2:IntKind.i64.wrap ((k:Int)+1)=((k+1:Nat):Int):=JA _ (by omega) (by omega)
  have tk:b.joins.take (k+1)=b.joins.take k++[b.joins[k]]:=List.take_succ_eq_append_getElem hlt
  have nw:=z8L b.joins [] ht k hlt
  rw[List.nil_append]at nw;generalize hx:b.joins[k]=x at *;generalize b.joins.take k=S at *;generalize hb:qA b=bo at *;have up:=fun(hp:bA) (e:hp[h.length+1]?=some (BA spP zC (rC S)))=>JI (kk:=(some 2,[2,2])) (k:=(x.part,x.pin)) WM e XM (v:=x.net) rfl
  have u1:=fun t=>up (h++bo::BA spP zC (rC S)::t) (by simp)
  simp only[zC,spP,cond_false,TB,AV.top]at u1;have us:dB (x.part,x.pin) x.net (rC S)=rC (S++[x]):=by
   rw[mO (znO nw)];unfold rC;simp
  have nl0:¬h.length+1<0:=by omega
  simp only[nl0,if_false]at u1;rw[us]at u1;simp only[Jon.pv]at g c1;simp only[go_sem,hlt,g,c1,u1,w2];refine⟨k+1,?_,by omega,by omega⟩
  rw[tk]
 ·have e:k=b.joins.length:=by omega
  subst e;rw[List.take_length];simp only[go_sem,Nat.lt_irrefl];exact⟨by omega,List.take_of_length_le (by simp;omega)⟩
end Go.Am
end
section
/- What a scope leaves behind when rows made in it are named by one map. -/
open Go
set_option linter.all false
namespace Go.Am
theorem z1K (mid:Nat):∀(X:Esc) (m:Nat),(∀y∈X,y.1=mid)→mid<m→m≤RC X m∧(∀y∈X,y.2≤RC X m)∧∀B,m≤B→(∀y∈X,y.2≤B)→RC X m≤B
 | [],m,_,_=>⟨Nat.le_refl _,fun _ h=>(by cases h),fun B h _=>h⟩
 | y::r,m,hX,hm=>by
  have e:RC (y::r) m=RC r (max m y.2):=by
   unfold RC;rw[List.foldl_cons,if_pos (by rw[hX y (by simp)];exact hm)]
  obtain⟨h1,h2,h3⟩:=z1K mid r (max m y.2) (fun z hz=>hX z (by simp [hz])) (by omega)
  rw[e];refine⟨by omega,fun z hz=>?_,fun B hB hy=>h3 B (by have:=hy y (by simp);omega) fun z hz=>hy z (by simp [hz])⟩
  rcases List.mem_cons.1 hz with e|hz
  ·rw[e];omega
  ·exact h2 z hz
theorem z2t (mid:Nat):∀(k:Nat) (X:Esc) (m:Nat),(∀y∈X,y.1=mid)→mid<m→m≤QB k X m∧(k≠0→∀y∈X,y.2≤QB k X m)∧∀B,m≤B→(∀y∈X,y.2≤B)→QB k X m≤B
 | 0,X,m,_,_=>⟨Nat.le_refl _,fun h=>absurd rfl h,fun B h _=>h⟩
 | k+1,X,m,hX,hm=>by
  obtain⟨b1,b2,b3⟩:=z1K mid X m hX hm;obtain⟨c1,_,c3⟩:=z2t mid k X (RC X m) hX (by omega)
  show m≤QB k X (RC X m)∧(_→∀y∈X,y.2≤QB k X (RC X m))∧∀B,m≤B→(∀y∈X,y.2≤B)→QB k X (RC X m)≤B
  exact⟨by omega,fun _ y hy=>by have:=b2 y hy;omega,fun B hB hy=>c3 B (b3 B hB hy) hy⟩
theorem z2u {X:Esc}{mid b L:Nat}(hX:∀ y∈X,y.1=mid∧y.2≤L)(hm:mid<b)(hb:b≤L):∃n,QB X.length X b=n∧b≤n∧n≤L∧(∀y∈X,y.2≤n)∧WB X n=true∧X.filter (fun y=>decide (y.1<n))=X:=by
 obtain⟨c1,c2,c3⟩:=z2t mid X.length X b (fun y hy=>(hX y hy).1) hm
 have c3':=c3 L hb fun y hy=>(hX y hy).2
 have c2':∀y∈X,y.2≤QB X.length X b:=by
  cases X with
  | nil=>intro y hy;cases hy
  | cons z r=>exact c2 (by simp)
 refine⟨_,rfl,c1,c3',c2',?_,?_⟩
 ·unfold WB
  rw[List.all_eq_true];intro y hy;have:=c2' y hy;simp [this]
 ·rw[List.filter_eq_self]
  intro y hy;have:=(hX y hy).1;simp only[decide_eq_true_eq];omega
theorem z8I {X x0:Esc}{mid b:Nat}{e:List (Nat × AV)}{H:bA}(hX:∀ y∈X,y.1=mid∧y.2≤H.length)(hm:mid<b)(hb:b≤H.length):∃n,b≤n∧n≤H.length∧(∀y∈X,y.2≤n)∧bE b x0 ⟨e,H,X⟩=⟨iF n e,H.take n,X++x0⟩:=by
 obtain⟨n,c0,c1,c2,c3,c4,c5⟩:=z2u hX hm hb;refine⟨n,c1,c2,c3,?_⟩;unfold bE;dsimp only;rw[c0,c4,if_pos rfl,c5]
theorem zqb {X:Esc}{mid b:Nat}{P:mA}{H:bA}(hX:∀ y∈X,y.1=mid∧y.2≤H.length)(hb:b≤mid)(hH:mid<H.length):∃n,mid<n∧n≤H.length∧(∀y∈X,y.2≤n)∧LC false b P (some [.mp mid]) H X=P (.mp mid) (H.take n) X:=by
 have ht:(AV.mp mid).top=mid+1:=rfl
 have hmx:max b (mid+1)=mid+1:=by omega
 obtain⟨n,c0,c1,c2,c3,c4,c5⟩:=z2u (b:=mid+1) hX (by omega) (by omega)
 refine⟨n,by omega,c2,c3,?_⟩
 have e:VA b H (kB [.mp mid])=some (.mp mid):=TN
 have e2:VA n H (kB [.mp mid])=some (.mp mid):=TN
 unfold LC;dsimp only;rw[e];dsimp only;rw[ht,hmx,c0,c4,if_pos rfl,e2];dsimp only;rw[c5];have:(mid+1≤n)=True:=eq_true c1
 rw[ht,this,true_and]
end Go.Am
end
section
/- The cells of a kind on each net: the program's map. -/
open Go
set_option linter.all false
set_option maxRecDepth 100000
namespace Go.Am
variable {h:bA} {K:mA}
attribute [-go_sem] YA bB
def plP (p:Nat × Nat):PV:=.agg [eI p.1,eI p.2]
def pD (v:Nat × List (Nat × Nat)):AV:=.own v.1 v.2.length 0 v.2.length
structure CMI (H:bA) (lo mid:Nat) (M:CM):Prop where
 lo:lo≤mid
 hi:mid<H.length
 mp:H[mid]?=some (BA PV.str pD M)
 rw:∀e∈M,mid<e.2.1∧H[e.2.1]?=some (.row (some 2) (e.2.2.map plP) 0)
 nd:(M.map fun e=>e.2.1).Nodup
 kn:(rB M).Nodup
theorem CMI.take {H:bA}{lo mid n:Nat}{M:CM}(C:CMI H lo mid M)(hm:mid<n)(hr:∀ e∈M,e.2.1<n):CMI (H.take n) lo mid M:=by
 refine⟨C.lo,by rw[List.length_take];have:=C.hi;omega,by rw[List.getElem?_take_of_lt hm];exact C.mp,fun e he=>⟨(C.rw e he).1,by rw[List.getElem?_take_of_lt (hr e he)];exact(C.rw e he).2⟩,C.nd,C.kn⟩
theorem CMI.app {H T:bA}{lo mid:Nat}{M:CM}(C:CMI H lo mid M):CMI (H++T) lo mid M:=by
 refine⟨C.lo,by simp;have:=C.hi;omega,by rw[List.getElem?_append_left C.hi];exact C.mp,fun e he=>⟨(C.rw e he).1,?_⟩,C.nd,C.kn⟩
 have:=yB (C.rw e he).2;rw[List.getElem?_append_left this];exact(C.rw e he).2
theorem II {n:Nm2}:∀{M:CM} {v:Nat×List (Nat×Nat)},AA n M=some v→(n,v)∈M
 | [],v,h=>by cases h
 | e::r,v,h=>by
  unfold AA at h;by_cases he:n=e.1
  ·rw[if_pos he]at h
   cases h;rw[he];simp
  ·rw[if_neg he]at h
   exact List.mem_cons_of_mem _ (II h)
theorem iZ {n:Nm2}{v:Nat × List (Nat × Nat)}{M:CM}(h:AA n M=none):dB n v M=M++[(n,v)]:=by
 refine mO ?_;have:=kZ (k:=n) (l:=M);rw[h]at this;simpa using this
theorem z8P {n:Nm2}{rid:Nat}{pl pl':List (Nat × Nat)}:∀{M:CM},AA n M=some (rid,pl)→(dB n (rid,pl') M).map (fun e=>e.2.1)=M.map fun e=>e.2.1
 | [],h=>by cases h
 | x::r,h=>by
  unfold AA at h;unfold dB;by_cases hx:n=x.1
  ·rw[if_pos hx]at h ⊢
   have:x.2=(rid,pl):=Option.some.inj h
   rw[List.map_cons,List.map_cons,this]
  ·rw[if_neg hx]at h ⊢
   rw[List.map_cons,List.map_cons,z8P h]
theorem MS {n:Nm2}{rid:Nat}{pl pl':List (Nat × Nat)}:∀{M:CM},AA n M=some (rid,pl)→(M.map fun e=>e.2.1).Nodup→∀e∈dB n (rid,pl') M,e=(n,(rid,pl'))∨(e∈M∧e.2.1≠rid)
 | [],h,_,e,_=>by cases h
 | x::r,h,nd,e,he=>by
  unfold AA at h;unfold dB at he;rw[List.map_cons,List.nodup_cons]at nd;by_cases hx:n=x.1
  ·rw[if_pos hx]at h he
   have hx2:x.2=(rid,pl):=Option.some.inj h
   rcases List.mem_cons.1 he with q|q
   ·exact .inl q
   ·refine .inr ⟨List.mem_cons_of_mem _ q,fun z=>nd.1 ?_⟩
    rw[hx2];exact List.mem_map.2 ⟨e,q,z⟩
  ·rw[if_neg hx]at h he
   rcases List.mem_cons.1 he with q|q
   ·refine .inr ⟨by rw[q];simp,fun z=>nd.1 ?_⟩
    rw[q]at z;exact List.mem_map.2 ⟨_,II h,z.symm⟩
   ·rcases MS h nd.2 e q with q|⟨q1,q2⟩
    ·exact .inl q
    ·exact .inr ⟨List.mem_cons_of_mem _ q1,q2⟩
theorem CMI.old {H:bA}{lo mid rid:Nat}{M:CM}{n:Nm2}{pl:List (Nat × Nat)}{p:Nat × Nat}(C:CMI H lo mid M)(hg:AA n M=some (rid,pl)):CMI ((H.set rid (.row (some 2) ((pl++[p]).map plP) 0)).set mid (BA PV.str pD (dB n (rid,pl++[p]) M))) lo mid (dB n (rid,pl++[p]) M):=by
 have hm:=II hg
 obtain⟨r1,r2⟩:=C.rw _ hm;have rl:=yB r2
 dsimp only at r1 r2 rl;have mh:=C.hi
 refine⟨C.lo,by simpa using C.hi,by rw[List.getElem?_set_self (by simpa using mh)],fun e he=>?_,by rw[z8P hg];exact C.nd,UW _ _ C.kn⟩
 rcases MS hg C.nd e he with q|⟨q1,q2⟩
 ·subst q
  dsimp only;refine⟨r1,?_⟩;rw[List.getElem?_set_ne (by omega),List.getElem?_set_self rl]
 ·obtain⟨e1,e2⟩:=C.rw e q1
  refine⟨e1,?_⟩;rw[List.getElem?_set_ne (by omega),List.getElem?_set_ne (by omega)]
  exact e2
theorem CMI.new {H:bA}{lo mid:Nat}{M:CM}{n:Nm2}{p:Nat × Nat}{o:Obj}(C:CMI H lo mid M)(hg:AA n M=none):CMI ((H++[o,.row (some 2) [plP p] 0]).set mid (BA PV.str pD (dB n (H.length+1,[p]) M))) lo mid (dB n (H.length+1,[p]) M):=by
 have mh:=C.hi
 rw[iZ hg];refine⟨C.lo,by simp;omega,by rw[List.getElem?_set_self (by simp;omega)],fun e he=>?_,?_,by rw[←iZ hg];exact UW _ _ C.kn⟩
 ·rcases List.mem_append.1 he with q|q
  ·obtain⟨e1,e2⟩:=C.rw e q
   have:=yB e2;refine⟨e1,?_⟩;rw[List.getElem?_set_ne (by omega),List.getElem?_append_left this]
   exact e2
  ·rw[List.mem_singleton]at q
   subst q;dsimp only;refine⟨by omega,?_⟩
   rw[List.getElem?_set_ne (by omega),List.getElem?_append_right (by omega)]
   simp
 ·rw[List.map_append,List.nodup_append]
  refine⟨C.nd,by simp,fun a ha b hb=>?_⟩
  obtain⟨e,he,rfl⟩:=List.mem_map.1 ha;have:=yB (C.rw e he).2;simp at hb;omega
attribute [-go_sem] z48 DP
structure CelSt (b:Brd) (kind:Int) (lo nid mid xb:Nat) (p:Prt) (Xo:Esc) (H:bA) (X:Esc) (M:CM) (P:List (Nm2 × (Nat × Nat))):Prop where
 c:CMI H lo mid M
 g:aJ M P
 nt:H[nid]?=some (BA spP zC (rC b.joins))
 nm:nid<mid
 x:H[xb]?=some p.bx
 mx:mid<xb
 es:∀y∈X,y.1=mid∧y.2≤H.length
 cv:∀e∈M,(mid,e.2.1+1)∈Xo∨(mid,e.2.1+1)∈X
theorem VQ (P:List (Nm2 × (Nat × Nat)))(n:Nm2):(grp P n).length≤P.length:=by
 unfold grp;rw[List.length_map];exact List.length_filter_le ..
theorem z68 (b:Brd)(kind:Int)(i:Nat)(p:Prt)(k:Nat):(inL b kind i p k).length≤p.cells.length:=by
 unfold inL;refine Nat.le_trans (List.length_filterMap_le ..) ?_;simp;omega
theorem z2f {b:Brd}{kind:Int}{lo nid mid xb w:Nat}{p:Prt}{Xo:Esc}{H H':bA}{X:Esc}{M M':CM}{P P':List (Nm2 × (Nat × Nat))}{e:List (Nat × AV)}(C:CelSt b kind lo nid mid xb p Xo H X M P)(C':CMI H' lo mid M')(G:aJ M' P')(hl:H.length≤H'.length)
 (pn:H'[nid]?=H[nid]?) (px:H'[xb]?=H[xb]?) (hw:w≤H'.length) (cv:∀e∈M',(mid,e.2.1+1)∈Xo∨(mid,e.2.1+1)∈[(mid,w)]++X) (rl:∀e∈M',e.2.1<H.length∨e.2.1<w) (hc:∀n,H.length≤n→iF n e=e) :
 ∃n,bE H.length X ⟨e,H',[(mid,w)]⟩=⟨e,H'.take n,[(mid,w)]++X⟩∧CelSt b kind lo nid mid xb p Xo (H'.take n) ([(mid,w)]++X) M' P'∧H.length≤(H'.take n).length∧∀j,j<lo→(H'.take n)[j]?=H'[j]?:=by
 have m1:mid<H.length:=C.c.hi
 have x1:=yB C.x
 have n1:=yB C.nt
 have lo1:=C.c.lo
 obtain⟨n,t1,t2,t3,t4⟩:=z8I (X:=[(mid,w)]) (x0:=X) (mid:=mid) (b:=H.length) (e:=e) (H:=H') (by
  intro y hy;rw[List.mem_singleton]at hy;subst hy;exact⟨rfl,hw⟩) (by omega) hl
 have wn:w≤n:=t3 (mid,w) (by simp)
 have ln:(H'.take n).length=n:=by rw[List.length_take];omega
 refine⟨n,by rw[t4,hc n t1],⟨C'.take (by omega) fun e he=>by rcases rl e he with q|q <;> omega,G,by rw[List.getElem?_take_of_lt (by omega),pn];exact C.nt,C.nm,by rw[List.getElem?_take_of_lt (by omega),px];exact C.x,C.mx,?_,cv⟩,by omega,fun j hj=>List.getElem?_take_of_lt (by omega)⟩
 intro y hy;rw[List.mem_append,List.mem_singleton]at hy;rw[ln];rcases hy with q|q
 ·subst q;exact⟨rfl,wn⟩
 ·have:=C.es y q;exact⟨this.1,by omega⟩
theorem zqN {K:Ex→St→Prop}(b:Brd)(kind:Int){lo nid mid xb i:Nat}{p:Prt}{Xo:Esc}{H0:bA}{X0:Esc}{M0:CM}{P0:List (Nm2 × (Nat × Nat))}(hp:p.cells.length≤100000)(hi:i≤1000000)(hP:P0.length+p.cells.length≤1000000)
 (C0:CelSt b kind lo nid mid xb p Xo H0 X0 M0 P0)
 (fin:∀H X M z,CelSt b kind lo nid mid xb p Xo H X M (P0++inL b kind i p p.cells.length)→H0.length≤H.length→(∀j,j<lo→H[j]?=H0[j]?)→K (.exit 2) ⟨[(1,AI kind),(5,.mp nid),(6,.mp mid),(7,AI i),(8,.ref xb 0),(17,aD b.parts),(18,AI b.parts.length),(19,AI i),(25,dE p.cells),(26,AI p.cells.length),(27,AI p.cells.length),z],H,X⟩) :
 FA (jA X) X.gl (.scope JK) K [(1,AI kind),(5,.mp nid),(6,.mp mid),(7,AI i),(8,.ref xb 0),(17,aD b.parts),(18,AI b.parts.length),(19,AI i),(25,dE p.cells),(26,AI p.cells.length),(27,AI 0)] H0 X0:=by
 refine UA (fun t:Nat×bA×Esc×CM=>⟨[(1,AI kind),(5,.mp nid),(6,.mp mid),(7,AI i),(8,.ref xb 0),(17,aD b.parts),(18,AI b.parts.length),(19,AI i),(25,dE p.cells),(26,AI p.cells.length),(27,AI t.1)],t.2.1,t.2.2.1⟩)
  (fun t=>t.1≤p.cells.length∧CelSt b kind lo nid mid xb p Xo t.2.1 t.2.2.1 t.2.2.2 (P0++inL b kind i p t.1)∧H0.length≤t.2.1.length∧∀j,j<lo→t.2.1[j]?=H0[j]?) (fun t=>p.cells.length-t.1) (0,H0,X0,M0) rfl ⟨by omega,by simpa [inL] using C0,Nat.le_refl _,fun _ _=>rfl⟩ ?_
 rintro⟨k,H,X,M⟩ ⟨hk,C,hl,hpre⟩
 dsimp only at hk C hl hpre ⊢;have ln:(p.cells.map Cel.pv).length=p.cells.length:=List.length_map ..
 have n1:nid+1≤H.length:=yB C.nt
 have m1:mid+1≤H.length:=C.c.hi
 have x1:xb+1≤H.length:=yB C.x
 have gx:=C.x
 unfold Prt.bx at gx;have xa:∀t,(H++t)[xb]?=some (.box [AS p.key,dE p.cells]):=fun t=>by rw[List.getElem?_append_left (by omega)];exact gx
 rcases Nat.lt_or_ge k p.cells.length with hlt|hge
 ·have g:=ZA Cel.pv hlt
  have c1:QA (some 4) 0 p.cells[k].pv=some p.cells[k].pv:=rfl
  have w2:IntKind.i64.wrap ((k:Int)+1)=((k+1:Nat):Int):=JA _ (by omega) (by omega)
  have is:=zlK (b:=b) (kind:=kind) (i:=i) hlt
  generalize hc:p.cells[k]=c at *;simp only[Cel.pv,eI]at g c1;by_cases hkind:c.kind=kind
  ·have hkp:=eq_true hkind
   have ntx:∀T:bA,(H++T)[nid]?=some (BA spP zC (rC b.joins)):=fun T=>by
    rw[List.getElem?_append_left (show nid<H.length by omega)];exact C.nt
   have lkN:=fun(T:bA)=>rF (h:=H++T) (kk:=(some 2,[2,2])) (k:=(p.key,c.pin)) (val:=zC) WM (ntx T) XM (ok:=true) (z:=.p (.str []))
   simp only[SQ,spP,cond_true]at lkN;have lkC:=fun(T:bA) (n:Nm2)=>rF (h:=H++T) (kk:=(none,[2])) (k:=n) (val:=pD) eG (C.c.app (T:=T)).mp fG (ok:=false) (z:=.sl0 (some 2))
   simp only[cond_false]at lkC;have cO:xG b kind i p.key (c,k)=(tF b p.key c.pin).map fun n=>(n,(i,k)):=by unfold xG;rw[if_pos hkind]
   cases hn:tF b p.key c.pin with
   | none=>
    rw[hn]at cO;unfold tF at hn;rw[hn]at lkN;simp only[go_sem,hlt,g,c1,w2,hkp,xa,lkN,Option.isSome_none,n1,m1,x1];refine⟨(k+1,H,X,M),rfl,⟨hlt,?_,hl,hpre⟩,by dsimp only;omega⟩
    dsimp only;rw[is,cO];simpa using C
   | some n=>
    rw[hn]at cO;unfold tF at hn;rw[hn]at lkN;have is':P0++inL b kind i p (k+1)=(P0++inL b kind i p k)++[(n,(i,k))]:=by rw[is,cO];simp
    cases hgm:AA n M with
    | some v=>
     obtain⟨rid,pl⟩:=v;have lkC':=fun T=>lkC T n
     rw[hgm]at lkC';simp only[Option.map_some,Option.getD_some,pD]at lkC';have rr:=(C.c.rw _ (II hgm)).2
     have rm:=(C.c.rw _ (II hgm)).1
     dsimp only at rr rm;have rl:=yB rr
     have rr':∀T:bA,(H++T)[rid]?=some (.row (some 2) (pl.map plP) 0):=fun T=>by
      rw[List.getElem?_append_left (show rid<H.length by omega)];exact rr
     simp only[go_sem,hlt,g,c1,w2,hkp,xa,lkN,lkC',rr',zC,Option.map_some,Option.getD_some,Option.isSome_some,n1,m1,x1];have e1:AV.own rid (pl.length+1) 0 (pl.length+1)=pD (rid,pl++[(i,k)]):=by simp [pD]
     have e2:List.map plP pl++[PV.agg [PV.int IntKind.i64 ↑i,PV.int IntKind.i64 ↑k]]=(pl++[(i,k)]).map plP:=by simp [plP,eI]
     have pb:pl.length+1≤XA:=by
      have gq:=C.g n
      rw[hgm]at gq;have:pl.length≤(P0++inL b kind i p k).length:=by
       by_cases hz:grp (P0++inL b kind i p k) n=[]
       ·rw[if_pos hz]at gq;simp at gq
       ·rw[if_neg hz]at gq
        simp only[Option.map_some,Option.some.injEq]at gq;rw[gq];exact VQ _ _
      have:=z68 b kind i p k;unfold XA;simp at *;omega
     have gp:grp (P0++inL b kind i p k) n=pl:=by
      have gq:=C.g n
      rw[hgm]at gq;by_cases hz:grp (P0++inL b kind i p k) n=[]
      ·rw[if_pos hz]at gq;simp at gq
      ·rw[if_neg hz]at gq
       simp only[Option.map_some,Option.some.injEq]at gq;exact gq.symm
     rw[if_pos pb,e1,e2];generalize hbx:Obj.box _=bo;have up:=fun(T:bA)=>JI (kk:=(none,[2])) (k:=n) (h:=(H++T).set rid (.row (some 2) ((pl++[(i,k)]).map plP) 0)) (id:=mid) (val:=pD) eG (by rw[List.getElem?_set_ne (show rid≠mid by omega)];exact(C.c.app (T:=T)).mp) fG (v:=(rid,pl++[(i,k)])) rfl
     rw[up];have et:TB mid (pD (rid,pl++[(i,k)]))=[(mid,rid+1)]:=by
      unfold TB;exact if_pos (show mid<rid+1 by omega)
     rw[et];simp only[wK];have CO:=C.c.old (p:=(i,k)) hgm
     have CO':=CMI.old (p:=(i,k)) (C.c.app (T:=[bo])) hgm
     obtain⟨n',q1,q2,q3,q4⟩:=z2f (w:=rid+1) (P':=P0++inL b kind i p (k+1)) (e:=[(1,AI kind),(5,.mp nid),(6,.mp mid),(7,AI i),(8,.ref xb 0),(17,aD b.parts),(18,AI b.parts.length),(19,AI i),(25,dE p.cells),(26,AI p.cells.length),(27,AI ↑(k+1))]) C CO' (by rw[is',←gp];exact z66 C.g n rid (i,k)) (by simp) 
      (by
       have:=C.nm;rw[List.getElem?_set_ne (by omega),List.getElem?_set_ne (by omega),List.getElem?_append_left (by omega)])
      (by
       have:=C.mx;have rx:rid≠xb:=fun e=>by rw[e,gx]at rr;cases rr
       rw[List.getElem?_set_ne (by omega),List.getElem?_set_ne rx,List.getElem?_append_left (by omega)])
      (by simp;omega)
      (fun e he=>by
       rcases MS hgm C.c.nd e he with q|⟨q,_⟩
       ·subst q;exact .inr (by simp)
       ·rcases C.cv e q with z|z
        ·exact .inl z
        ·exact .inr (by simp [z]))
      (fun e he=>by
       rcases MS hgm C.c.nd e he with q|⟨q,_⟩
       ·subst q;exact .inl rl
       ·exact .inl (yB (C.c.rw e q).2))
      (fun m hm=>by
       have a1:nid+1≤m:=by omega
       have a2:mid+1≤m:=by omega
       have a3:xb+1≤m:=by omega
       simp only[go_sem,a1,a2,a3])
     refine⟨(k+1,_,_,_),q1,⟨hlt,q2,by dsimp only;omega,fun j hj=>?_⟩,by dsimp only;omega⟩
     dsimp only;have lo1:=C.c.lo
     rw[q4 j hj,List.getElem?_set_ne (by omega),List.getElem?_set_ne (by omega),List.getElem?_append_left (by omega),hpre j hj]
    | none=>
     have lkC':=fun T=>lkC T n
     rw[hgm]at lkC';simp only[Option.map_none,Option.getD_none]at lkC';simp only[go_sem,hlt,g,c1,w2,hkp,xa,lkN,lkC',zC,Option.map_some,Option.getD_some,Option.isSome_some,n1,m1,x1];have e1:AV.own (List.length H+1) 1 0 1=pD (H.length+1,[(i,k)]):=rfl
     have e2:[PV.agg [PV.int IntKind.i64 ↑i,PV.int IntKind.i64 ↑k]]=[plP (i,k)]:=rfl
     have gp:grp (P0++inL b kind i p k) n=[]:=by
      have gq:=C.g n
      rw[hgm]at gq;by_cases hz:grp (P0++inL b kind i p k) n=[]
      ·exact hz
      ·rw[if_neg hz]at gq;simp at gq
     rw[if_pos (by decide),e1,e2]
     generalize hbx:Obj.box _=bo;have up:=JI (kk:=(none,[2])) (k:=n) (h:=H++[bo,.row (some 2) [plP (i,k)] 0]) (id:=mid) (val:=pD) eG (C.c.app (T:=_)).mp fG (v:=(H.length+1,[(i,k)])) rfl
     rw[up];have et:TB mid (pD (H.length+1,[(i,k)]))=[(mid,H.length+2)]:=by
      unfold TB;exact if_pos (show mid<H.length+2 by omega)
     rw[et];simp only[wK];have CO':=CMI.new (p:=(i,k)) (o:=bo) C.c hgm
     have nu:=iZ (v:=(H.length+1,[(i,k)])) hgm
     have nm':∀e∈dB n (H.length+1,[(i,k)]) M,e=(n,(H.length+1,[(i,k)]))∨e∈M:=fun e he=>by
      rw[nu,List.mem_append,List.mem_singleton]at he;exact he.symm
     obtain⟨n',q1,q2,q3,q4⟩:=z2f (w:=H.length+2) (P':=P0++inL b kind i p (k+1)) (e:=[(1,AI kind),(5,.mp nid),(6,.mp mid),(7,AI i),(8,.ref xb 0),(17,aD b.parts),(18,AI b.parts.length),(19,AI i),(25,dE p.cells),(26,AI p.cells.length),(27,AI ↑(k+1))]) C CO' (by
      rw[is'];have:=z66 C.g n (H.length+1) (i,k);rw[gp]at this;exact this) (by simp)
      (by
       have:=C.nm;rw[List.getElem?_set_ne (by omega),List.getElem?_append_left (by omega)])
      (by
       have:=C.mx;rw[List.getElem?_set_ne (by omega),List.getElem?_append_left (by omega)])
      (by simp)
      (fun e he=>by
       rcases nm' e he with q|q
       ·subst q;exact .inr (by simp)
       ·rcases C.cv e q with z|z
        ·exact .inl z
        ·exact .inr (by simp [z]))
      (fun e he=>by
       rcases nm' e he with q|q
       ·subst q;exact .inr (by simp)
       ·exact .inl (yB (C.c.rw e q).2))
      (fun m hm=>by
       have a1:nid+1≤m:=by omega
       have a2:mid+1≤m:=by omega
       have a3:xb+1≤m:=by omega
       simp only[go_sem,a1,a2,a3])
     refine⟨(k+1,_,_,_),q1,⟨hlt,q2,by dsimp only;omega,fun j hj=>?_⟩,by dsimp only;omega⟩
     dsimp only;have lo1:=C.c.lo
     rw[q4 j hj,List.getElem?_set_ne (by omega),List.getElem?_append_left (by omega),hpre j hj]
  ·have cO:xG b kind i p.key (c,k)=none:=by unfold xG;rw[if_neg hkind]
   simp only[go_sem,hlt,g,c1,w2,hkind,n1,m1,x1];refine⟨(k+1,H,X,M),rfl,⟨hlt,?_,hl,hpre⟩,by dsimp only;omega⟩
   dsimp only;rw[is,cO];simpa using C
 ·have e:k=p.cells.length:=by omega
  subst e;simp only[go_sem,Nat.lt_irrefl,n1,m1,x1];exact fin H X M _ C hl hpre
end Go.Am
end
section
/- The cells of a kind on each net: the program's map,over all parts. -/
open Go
set_option linter.all false
set_option maxRecDepth 100000
namespace Go.Am
variable {h:bA} {K:mA}
structure CelO (b:Brd) (kind:Int) (lo nid mid:Nat) (H:bA) (X:Esc) (M:CM) (P:List (Nm2 × (Nat × Nat))):Prop where
 c:CMI H lo mid M
 g:aJ M P
 nt:H[nid]?=some (BA spP zC (rC b.joins))
 nm:nid<mid
 es:∀y∈X,y.1=mid∧y.2≤H.length
 cv:∀e∈M,(mid,e.2.1+1)∈X
theorem iN (b:Brd)(kind:Int):∀(i:Nat),i≤b.parts.length→(∀p∈b.parts,p.cells.length≤1000)→(wB b kind i).length≤i*1000
 | 0,_,_=>by simp [wB]
 | i+1,h,hc=>by
  have ih:=iN b kind i (by omega) hc
  rw[mR (by omega),List.length_append]
  have:=z68 b kind i b.parts[i] b.parts[i].cells.length;have:=hc _ (List.getElem_mem (show i<b.parts.length by omega))
  omega
theorem z8o (b:Brd)(kind:Int)(hp:b.parts.length≤900)(hc:∀ p∈b.parts,p.cells.length≤1000)(hj:b.joins.length≤100000)(ht:twJ [] b.joins=false)
 (hK:∀H X M mid,CMI H h.length mid M→aJ M (wB b kind b.parts.length)→h.length≤mid→(∀j,j<h.length→H[j]?=h[j]?)→(∀y∈X,y.1=mid∧y.2≤H.length)→K (.mp mid) H X) :
 jA X UF [.p b.pv,AI kind] h K:=by
 rw[zfi rfl];have ln:(b.parts.map Prt.pv).length=b.parts.length:=List.length_map ..
 have sn:=fun hh K=>z8r (h:=hh) (K:=K) b hj ht
 simp only[Brd.pv]at sn;simp only[BP,Brd.pv,go_sem,sn,ln];have C0:CelO b kind h.length (h.length+1+1) (h.length+3) (h++[qA b,qA b,BA spP zC (rC b.joins),Obj.amap [] 0]) [] [] []:=by
  refine⟨⟨by omega,by simp,by simp [BA,xC],by simp,by simp,List.nodup_nil⟩,fun n=>by simp [AA,grp],by rw[List.getElem?_append_right (by omega),show h.length+1+1-h.length=2 by omega];rfl,by omega,by simp,by simp⟩
 have pre0:∀j,j<h.length→(h++[qA b,qA b,BA spP zC (rC b.joins),Obj.amap [] 0])[j]?=h[j]?:=fun j hj=>List.getElem?_append_left hj
 have e0:Obj.box [AV.p (PV.sl (some 2) (List.map Prt.pv b.parts)),AV.p (PV.sl (some 3) (List.map Jon.pv b.joins)),AV.p (PV.sl (some 2) (List.map Pul.pv b.pulls))]=qA b:=rfl
 rw[e0];have lm:h.length≤h.length+3:=by omega
 generalize h.length+1+1=nid at *;generalize h.length+3=mid at *;generalize (h++[qA b,qA b,BA spP zC (rC b.joins),Obj.amap [] 0])=H0 at *;refine UA (fun t:Nat×bA×Esc×CM=>⟨[(1,AI kind),(5,.mp nid),(6,.mp mid),(17,aD b.parts),(18,AI b.parts.length),(19,AI t.1)],t.2.1,t.2.2.1⟩)
  (fun t=>t.1≤b.parts.length∧CelO b kind h.length nid mid t.2.1 t.2.2.1 t.2.2.2 (wB b kind t.1)∧∀j,j<h.length→t.2.1[j]?=h[j]?) (fun t=>b.parts.length-t.1) (0,H0,[],[]) rfl ⟨by omega,by simpa [wB] using C0,pre0⟩ ?_
 rintro⟨k,H,X,M⟩ ⟨hk,C,hpre⟩
 dsimp only at hk C hpre ⊢;have n1:nid+1≤H.length:=yB C.nt
 have m1:mid+1≤H.length:=C.c.hi
 rcases Nat.lt_or_ge k b.parts.length with hlt|hge
 ·have g:=ZA Prt.pv hlt
  have c1:QA (some 2) 0 b.parts[k].pv=some b.parts[k].pv:=rfl
  have w2:IntKind.i64.wrap ((k:Int)+1)=((k+1:Nat):Int):=JA _ (by omega) (by omega)
  have os:=mR (b:=b) (kind:=kind) hlt
  have pc:=hc _ (List.getElem_mem hlt)
  generalize hp:b.parts[k]=p at *;simp only[Prt.pv]at g c1;have lp:(p.cells.map Cel.pv).length=p.cells.length:=List.length_map ..
  simp only[go_sem,hlt,g,c1,w2,lp];refine zqN (K:=wA 2 _) b kind (lo:=h.length) (nid:=nid) (mid:=mid) (xb:=H.length) (i:=k) (p:=p) (Xo:=X) (X0:=[]) (M0:=M) (P0:=wB b kind k) (by omega) (by omega) ?_ ⟨C.c.app,C.g,by rw[List.getElem?_append_left (by omega)];exact C.nt,C.nm,by rw[List.getElem?_append_right (Nat.le_refl _),Nat.sub_self];rfl,by omega,by simp,fun e he=>.inl (C.cv e he)⟩ ?_
  ·have:=iN b kind k (by omega) hc
   have:k*1000≤900*1000:=Nat.mul_le_mul (by omega) (Nat.le_refl _)
   omega
  intro H' X' M' z D hl hq;simp only[List.length_append,List.length_cons,List.length_nil]at hl;rw[←os]at D;simp only[go_sem,w2];have lo1:=C.c.lo
  obtain⟨n,t1,t2,t3,t4⟩:=z8I (X:=X') (x0:=X) (mid:=mid) (b:=H.length) (e:=[(1,AI kind),(5,.mp nid),(6,.mp mid),(17,aD b.parts),(18,AI b.parts.length),(19,AI ↑(k+1))]) (H:=H') D.es (by omega) (by omega)
  have ln':(H'.take n).length=n:=by rw[List.length_take];omega
  have a1:nid+1≤n:=by omega
  have a2:mid+1≤n:=by omega
  refine⟨(k+1,H'.take n,X'++X,M'),?_,⟨hlt,⟨D.c.take (by omega) ?_,D.g,by rw[List.getElem?_take_of_lt (by omega)];exact D.nt,C.nm,?_,?_⟩,?_⟩,by dsimp only;omega⟩
  ·refine t4.trans ?_
   simp only[go_sem,a1,a2]
  ·intro e he
   rcases D.cv e he with q|q
   ·have:=(C.es _ q).2;dsimp only at this;omega
   ·have:=t3 _ q;dsimp only at this;omega
  ·intro y hy
   rw[ln'];rcases List.mem_append.1 hy with q|q
   ·exact⟨(D.es y q).1,t3 y q⟩
   ·have:=C.es y q;exact⟨this.1,by omega⟩
  ·intro e he
   rcases D.cv e he with q|q
   ·exact List.mem_append_right _ q
   ·exact List.mem_append_left _ q
  ·intro j hj
   dsimp only;rw[List.getElem?_take_of_lt (by omega),hq j hj,List.getElem?_append_left (by omega),hpre j hj]
 ·have e:k=b.parts.length:=by omega
  subst e;simp only[go_sem,Nat.lt_irrefl,n1,m1];obtain⟨n,t1,t2,t3,t4⟩:=zqb (X:=X) (mid:=mid) (b:=h.length) (P:=K) (H:=H) C.es lm C.c.hi;rw[t4];have lo1:=C.c.lo
  have ln':(H.take n).length=n:=by rw[List.length_take];omega
  refine hK _ X M mid (C.c.take t1 ?_) C.g lm ?_ ?_
  ·intro e he
   have:=t3 _ (C.cv e he);dsimp only at this;omega
  ·intro j hj
   rw[List.getElem?_take_of_lt (by omega),hpre j hj]
  ·intro y hy
   rw[ln'];exact⟨(C.es y hy).1,t3 y hy⟩
end Go.Am
end
section
/- Boards,plainly: the levels of nets. -/
set_option linter.all false
namespace Go.Am
def bz (z:UInt8):Int:=if z=49 then 1 else 0
def NF (s:List UInt8)(k:Nat):Int:=bz (s.getD k 48)
def gI (b:Brd)(bits:List Nm2)(d:Option Int)(p:Nat × Nat):Option Int:=
 match (b.parts[p.1]?).bind (fun x=>x.cells[p.2]?),bits[p.1]? with
 | some c,some s=>if 0≤c.ctl∧NF s c.ctl.toNat=c.off then d else
  match d with
  | none=>some (NF s p.2)
  | some v=>if v=NF s p.2 then some v else some 3
 | _,_=>d
def vC (b:Brd)(bits:List Nm2)(l:List (Nat × Nat)):Option Int:=l.foldl (gI b bits) none
def oF (l:List Nm2):List (Nm2×Int):=l.foldl (fun M n=>dB n 2 M) []
def pF (M:List (Nm2 × Int))(l:List Pul):List (Nm2×Int):=l.foldl (fun M p=>dB p.net p.level M) M
def qF (b:Brd):List (Nm2×Int):=pF (oF (tA b)) b.pulls
def oB (b:Brd)(bits:List Nm2):List (Nm2×Int):=(qF b).map fun e=>(e.1,(vC b bits (grp (wB b 2 b.parts.length) e.1)).getD e.2)
theorem zn0 (l:List Nm2)(n:Nm2):oF (l++[n])=dB n 2 (oF l):=by unfold oF;rw[List.foldl_append];rfl
theorem zn1 (M:List (Nm2 × Int))(l:List Pul)(p:Pul):pF M (l++[p])=dB p.net p.level (pF M l):=by unfold pF;rw[List.foldl_append];rfl
theorem zgU (b:Brd)(bits:List Nm2)(l:List (Nat × Nat))(p:Nat × Nat):vC b bits (l++[p])=gI b bits (vC b bits l) p:=by unfold vC;rw[List.foldl_append];rfl
theorem znz:∀ (l:List Nm2)(n:Nm2),n∈l→n∈rB (oF l):=by
 intro l n hn;have key:∀(l:List Nm2) (M:List (Nm2×Int)),(n∈l∨n∈rB M)→n∈rB (l.foldl (fun M n=>dB n 2 M) M):=by
  intro l;induction l with
  | nil=>intro M h;exact h.resolve_left (by simp)
  | cons x r ih=>
   intro M h;rw[List.foldl_cons];refine ih _ ?_;rw[ZM];rcases h with h|h
   ·rcases List.mem_cons.1 h with e|h
    ·right;subst e;split
     ·assumption
     ·simp
    ·exact .inl h
   ·right;split
    ·exact h
    ·simp [h]
 exact key l [] (.inl hn)
theorem z6T:∀ (l:List Pul)(M:List (Nm2 × Int))(n:Nm2),n∈rB M→n∈rB (pF M l)
 | [],M,n,h=>h
 | p::r,M,n,h=>by
  have:pF M (p::r)=pF (dB p.net p.level M) r:=rfl
  rw[this];refine z6T r _ n ?_;rw[ZM];split
  ·exact h
  ·simp [h]
theorem zn2 {b:Brd}{n:Nm2}(h:n∈tA b):n∈rB (qF b):=z6T _ _ _ (znz _ _ h)
theorem IW {α:Type}(f:α→Nm2)(g:α→Int):∀(l:List α) (M:List (Nm2×Int)),(rB M).Nodup→(rB (l.foldl (fun M x=>dB (f x) (g x) M) M)).Nodup
 | [],M,h=>h
 | x::r,M,h=>by rw[List.foldl_cons];exact IW f g r _ (UW _ _ h)
theorem zn3 (b:Brd):(rB (qF b)).Nodup:=IW Pul.net Pul.level _ _ (IW id (fun _=>2) _ [] List.nodup_nil)
theorem z7b {β:Type}:∀{M M':List (Nm2×β)},rB M=rB M'→(rB M).Nodup→(∀n∈rB M,AA n M=AA n M')→M=M'
 | [],[],_,_,_=>rfl
 | [],e::r,h,_,_=>by cases h
 | e::r,[],h,_,_=>by cases h
 | e::r,e'::r',h,nd,hg=>by
  rw[LG,LG]at h;injection h with h1 h2
  rw[LG,List.nodup_cons]at nd;have a:=hg e.1 (by rw[LG];simp)
  unfold AA at a;rw[if_pos rfl,if_pos h1]at a;have e2:e=e':=by
   cases e;cases e';simp at a h1;rw[a,h1]
  have tl:r=r':=z7b h2 nd.2 fun n hn=>by
   have b:=hg n (by rw[LG];exact List.mem_cons_of_mem _ hn)
   have ne:n≠e.1:=fun q=>nd.1 (by rw[←q];exact hn)
   unfold AA at b;rw[if_neg ne,if_neg (by rw[←h1];exact ne)]at b
   exact b
  rw[e2,tl]
theorem z62 {β γ:Type}(f:Nm2→β→γ)(n:Nm2):∀(M:List (Nm2×β)),AA n (M.map fun e=>(e.1,f e.1 e.2))=(AA n M).map (f n)
 | []=>rfl
 | e::r=>by
  rw[List.map_cons];unfold AA;by_cases h:n=e.1
  ·rw[if_pos h,if_pos h,h];rfl
  ·rw[if_neg h,if_neg h];exact z62 f n r
theorem zmh {β γ:Type}(f:Nm2→β→γ)(M:List (Nm2 × β)):rB (M.map fun e=>(e.1,f e.1 e.2))=rB M:=by
 unfold rB;rw[List.map_map];rfl
theorem zlJ {b:Brd}{kind:Int}{i:Nat}{p:Prt}{k:Nat}{e}(h:e∈inL b kind i p k):e.2.1=i∧∃(hc:e.2.2<p.cells.length),p.cells[e.2.2].kind=kind∧e.1∈b.joins.map Jon.net:=by
 unfold inL at h;obtain⟨ck,h1,h2⟩:=List.mem_filterMap.1 h;obtain⟨c,j⟩:=ck;have h3:=List.mk_mem_zipIdx_iff_getElem?.1 h1
 unfold xG at h2;split at h2
 ·rename_i hk
  obtain⟨n,hn,rfl⟩:=Option.map_eq_some_iff.1 h2;obtain⟨hl,hg⟩:=List.getElem?_eq_some_iff.1 h3;rw[List.length_take]at hl;rw[List.getElem_take]at hg;refine⟨rfl,show j<p.cells.length by omega,?_,?_⟩
  ·dsimp only at hk ⊢;rw[hg];exact hk
  ·unfold tF at hn
   obtain⟨j,hj,rfl⟩:=Option.map_eq_some_iff.1 hn;exact List.mem_map_of_mem (List.mem_of_find?_eq_some hj)
 ·cases h2
theorem jN {b:Brd}{kind:Int}:∀{i:Nat},i≤b.parts.length→∀{e},e∈wB b kind i→∃(hp:e.2.1<b.parts.length) (hc:e.2.2<b.parts[e.2.1].cells.length),b.parts[e.2.1].cells[e.2.2].kind=kind∧e.1∈b.joins.map Jon.net
 | 0,_,e,h=>by simp [wB]at h
 | i+1,hi,e,h=>by
  rw[mR (by omega)]at h
  rcases List.mem_append.1 h with h|h
  ·exact jN (by omega) h
  ·obtain⟨n,pi,pk⟩:=e
   obtain⟨h1,h2,h3,h4⟩:=zlJ h;dsimp only at h1 h2 h3 h4;subst h1;exact⟨show pi<b.parts.length by omega,h2,h3,h4⟩
theorem WQ {P:List (Nm2 × (Nat × Nat))}{n:Nm2}{p:Nat × Nat}(h:p∈grp P n):(n,p)∈P:=by
 unfold grp at h;obtain⟨e,he,rfl⟩:=List.mem_map.1 h;obtain⟨h1,h2⟩:=List.mem_filter.1 he;have:e.1=n:=by simpa using h2
 subst this;exact h1
end Go.Am
end
section
/- A whole number asv a map's value. -/
open Go
namespace Go.Am
def TA (n:Int):AV:=.p (.int .i64 n)
abbrev nB (bits:List (List UInt8)):AV:=.p (.sl none (bits.map PV.str))
end Go.Am
end
section
/- The levels of nets: the program's map. -/
open Go
set_option linter.all false
set_option maxRecDepth 100000
namespace Go.Am
variable {h:bA} {K:mA}
attribute [-go_sem] YA bB EB BB
def H4 (h:bA)(b:Brd)(xs:List PV)(M:List (Nm2 × Int)):bA:=h++[qA b,BA PV.str TA M,qA b,.row none xs 0]
structure BitsOk (b:Brd) (bits:List Nm2):Prop where
 n:bits.length=b.parts.length
 l:∀i (hi:i<b.parts.length),∃s,bits[i]?=some s∧s.length=b.parts[i].cells.length∧∀z∈s,z=48∨z=49
 c:∀p∈b.parts,∀c∈p.cells,c.ctl<p.cells.length
attribute [-go_sem] CQ xJ
def aE (n:Nm2)(M:List (Nm2 × Int)):Option Int→List (Nm2×Int)
 | none=>M
 | some v=>dB n v M
theorem z1P {z:UInt8}(h:z=48∨z=49):IntKind.u8.wrap ((z.toNat:Int)-48)=bz z:=by rcases h with rfl|rfl <;> rfl
theorem z1O (z:UInt8):IntKind.i64.wrap (bz z)=bz z:=by unfold bz;split <;> rfl
theorem z8R {β:Type}(n:Nm2)(v w:β):∀M:List (Nm2×β),dB n w (dB n v M)=dB n w M
 | []=>by simp [dB]
 | e::r=>by
  by_cases h:n=e.1
  ·simp [dB,h]
  ·simp [dB,h,z8R n v w r]
theorem zra {K:Ex→St→Prop}(b:Brd)(bits:List Nm2)(ho:BitsOk b bits){H:bA}{T:Obj}{rid:Nat}{pl:List (Nat × Nat)}{n:Nm2}{M:List (Nm2 × Int)}{X0:Esc}
 (hpl:∀p∈pl,∃(hp:p.1<b.parts.length),p.2<b.parts[p.1].cells.length) (hlen:pl.length≤1000000)
 (hB:H[h.length]?=some (qA b)) (h1:h.length+1<rid) (hR:H[rid]?=some (.row (some 2) (pl.map plP) 0))
 (fin:∀z,K (.exit 6) ⟨[(1,nB bits),(2,.ref h.length 0),(5,.mp (h.length+1)),(10,AS n),(12,AB (vC b bits pl).isSome),(44,.it H.length),(50,.own rid pl.length 0 pl.length),(51,AI pl.length),(52,AI pl.length),z],H.set (h.length+1) (BA PV.str TA (aE n M (vC b bits pl)))++[T],X0⟩) :
 FA (jA X) X.gl (.scope PK) K [(1,nB bits),(2,.ref h.length 0),(5,.mp (h.length+1)),(10,AS n),(12,AB false),(44,.it H.length),(50,.own rid pl.length 0 pl.length),(51,AI pl.length),(52,AI 0)] (H.set (h.length+1) (BA PV.str TA M)++[T]) X0:=by
 refine UA (fun k:Nat=>⟨[(1,nB bits),(2,.ref h.length 0),(5,.mp (h.length+1)),(10,AS n),(12,AB (vC b bits (pl.take k)).isSome),(44,.it H.length),(50,.own rid pl.length 0 pl.length),(51,AI pl.length),(52,AI k)],H.set (h.length+1) (BA PV.str TA (aE n M (vC b bits (pl.take k))))++[T],X0⟩) (fun k=>k≤pl.length) (fun k=>pl.length-k) 0 rfl (by omega) ?_
 intro k hk;have rl:=yB hR
 have ln:(pl.map plP).length=pl.length:=List.length_map ..
 have b1:h.length+1≤H.length+1:=by omega
 have b2:h.length+1+1≤H.length+1:=by omega
 have b3:rid+1≤H.length+1:=by omega
 have lh':∀M:List (Nm2×Int),(H.set (h.length+1) (BA PV.str TA M)).length=H.length:=fun M=>by simp
 rcases Nat.lt_or_ge k pl.length with hlt|hge
 ·have g:=ZA plP hlt
  have w2:IntKind.i64.wrap ((k:Int)+1)=((k+1:Nat):Int):=JA _ (by omega) (by omega)
  have tk:pl.take (k+1)=pl.take k++[pl[k]]:=List.take_succ_eq_append_getElem hlt
  obtain⟨pp,pc⟩:=hpl pl[k] (List.getElem_mem hlt);obtain⟨s,hs,hsl,hsz⟩:=ho.l pl[k].1 pp;have hctl:=ho.c b.parts[pl[k].1] (List.getElem_mem pp) b.parts[pl[k].1].cells[pl[k].2] (List.getElem_mem pc)
  have gp:=ZA Prt.pv pp
  have gc:=ZA Cel.pv pc
  have gs:(bits.map PV.str)[pl[k].1]?=some (.str s):=by rw[List.getElem?_map,hs];rfl
  have pcs:pl[k].2<s.length:=by omega
  have dn:vC b bits (pl.take (k+1))=gI b bits (vC b bits (pl.take k)) pl[k]:=by rw[tk,zgU]
  have cc:(b.parts[pl[k].1]?).bind (fun x=>x.cells[pl[k].2]?)=some b.parts[pl[k].1].cells[pl[k].2]:=by rw[List.getElem?_eq_getElem pp];simp [pc]
  unfold gI at dn;rw[cc,hs]at dn;dsimp only at dn;have hB':∀(M:List (Nm2×Int)) (t:bA),(H.set (h.length+1) (BA PV.str TA M)++t)[h.length]?=some (qA b):=fun M t=>by
   rw[List.getElem?_append_left (by simp;omega),List.getElem?_set_ne (by omega)];exact hB
  have hR':∀(M:List (Nm2×Int)) (t:bA),(H.set (h.length+1) (BA PV.str TA M)++t)[rid]?=some (.row (some 2) (pl.map plP) 0):=fun M t=>by
   rw[List.getElem?_append_left (by simp;omega),List.getElem?_set_ne (by omega)];exact hR
  have hM':∀(M:List (Nm2×Int)) (t:bA),(H.set (h.length+1) (BA PV.str TA M)++t)[h.length+1]?=some (BA PV.str TA M):=fun M t=>by
   rw[List.getElem?_append_left (by simp;omega),List.getElem?_set_self (by omega)]
  have hS':∀(M M':List (Nm2×Int)) (t:bA),(H.set (h.length+1) (BA PV.str TA M)++t).set (h.length+1) (BA PV.str TA M')=H.set (h.length+1) (BA PV.str TA M')++t:=fun M M' t=>by
   rw[List.set_append_left _ _ (by simp;omega),List.set_set]
  have up:=fun(M:List (Nm2×Int)) (v:Int) (t:bA)=>JI (kk:=(none,[2])) (k:=n) (val:=TA) (l:=M) eG (hM' M t) fG (v:=v) rfl
  have lk:=fun(M:List (Nm2×Int)) (t:bA)=>rF (kk:=(none,[2])) (k:=n) (val:=TA) (l:=M) eG (hM' M t) fG (ok:=false) (z:=AI 0)
  simp only[hS',cond_false]at up lk;have lh:∀M:List (Nm2×Int),(H.set (h.length+1) (BA PV.str TA M)).length=H.length:=fun M=>by simp
  generalize hd:vC b bits (pl.take k)=d at *;generalize hq:pl[k]=q at *;obtain⟨qi,qj⟩:=q;dsimp only at pp pc gp gc gs pcs dn hctl hsl;generalize hP:b.parts[qi]=P at *;generalize hcc:P.cells[qj]=c at *;simp only[plP,eI]at g;simp only[Prt.pv]at gp;simp only[Cel.pv,eI]at gc;simp only[qA]at hB';have c1:QA (some 4) 0 (.agg [.int .i64 c.kind,.str c.pin,.int .i64 c.ctl,.int .i64 c.off])=some (.agg [.int .i64 c.kind,.str c.pin,.int .i64 c.ctl,.int .i64 c.off]):=rfl
  have c2:QA (some 2) 0 (.agg [.int .i64 (qi:Int),.int .i64 (qj:Int)])=some (.agg [.int .i64 (qi:Int),.int .i64 (qj:Int)]):=rfl
  have tk':∀(M:List (Nm2×Int)) (t:bA),(H.set (h.length+1) (BA PV.str TA M)++T::t).take (H.length+1)=H.set (h.length+1) (BA PV.str TA M)++[T]:=fun M t=>by
   rw[List.take_append,List.take_of_length_le (by simp)];simp
  have bzs:NF s qj=bz s[qj]:=by unfold NF;rw[List.getD_eq_getElem?_getD,List.getElem?_eq_getElem pcs];rfl
  have hz:=hsz _ (List.getElem_mem pcs)
  have gz:s[qj]?=some s[qj]:=List.getElem?_eq_getElem pcs
  rw[bzs]at dn;generalize hzz:s[qj]=z at *;have z1:=z1P hz
  have z2:=z1O z
  simp only[TA,TB,AV.top,Nat.not_lt_zero,if_false]at up;have gM:∀v,d=some v→AA n (aE n M d)=some v:=fun v hv=>by rw[hv];unfold aE;rw[TQ,if_pos rfl]
  have sD:∀v,dB n v (aE n M d)=aE n M (some v):=fun v=>by
   cases d with
   | none=>rfl
   | some w=>exact z8R n w v M
  have fin1:∀d',vC b bits (pl.take (k+1))=d'→vC b bits (pl.take (k+1))=d':=fun _ x=>x
  by_cases hneg:0≤c.ctl
  ·obtain⟨m,hm⟩:=Int.eq_ofNat_of_zero_le hneg
   have ml:m<s.length:=by rw[hm]at hctl;omega
   have hn:(0≤(m:Int))=True:=eq_true (by omega)
   have bm:NF s c.ctl.toNat=bz s[m]:=by
    rw[hm];unfold NF;rw[List.getD_eq_getElem?_getD,Int.toNat_natCast,List.getElem?_eq_getElem ml];rfl
   have gz':s[m]?=some s[m]:=List.getElem?_eq_getElem ml
   have hz':=hsz _ (List.getElem_mem ml)
   rw[bm]at dn;generalize hzz':s[m]=y at *;have y1:=z1P hz'
   have y2:=z1O y
   by_cases hoff:bz y=c.off
   ·have hof:=eq_true hoff
    rw[if_pos ⟨hneg,hoff⟩]at dn;generalize hM0:aE n M d=M0 at *;simp only[go_sem,hlt,g,c1,c2,w2,hm,hn,hof,gz',y1,y2,ln,lh,hB',hR',gp,gc,gs,b1,b2,b3,tk'];refine⟨k+1,?_,by omega,by omega⟩
    rw[dn,hM0]
   ·have hof:=eq_false hoff
    rw[if_neg (fun x=>hoff x.2)]at dn
    cases d with
    | none=>
     dsimp only at dn;have sD1:=sD (bz z)
     generalize hM0:aE n M none=M0 at *;simp only[go_sem,hlt,g,c1,c2,w2,hm,hn,hof,gz',y1,y2,ln,lh,hB',hR',gp,gc,gs,gz,z1,z2,b1,b2,b3,up,tk',Option.isSome_none,sD1];refine⟨k+1,?_,by omega,by omega⟩
     rw[dn];rfl
    | some v=>
     dsimp only at dn;have gv:=gM v rfl
     have sD1:=sD (bz z)
     have sD2:=sD 3
     generalize hM0:aE n M (some v)=M0 at *;by_cases hv:v=bz z
     ·rw[if_pos hv]at dn
      have hv':=eq_true hv
      simp only[go_sem,hlt,g,c1,c2,w2,hm,hn,hof,gz',y1,y2,ln,lh,hB',hR',gp,gc,gs,gz,z1,z2,b1,b2,b3,up,tk',Option.isSome_some,lk,gv,TA,Option.map_some,Option.getD_some,hv',sD1];refine⟨k+1,?_,by omega,by omega⟩
      rw[dn,hv];rfl
     ·rw[if_neg hv]at dn
      simp only[go_sem,hlt,g,c1,c2,w2,hm,hn,hof,gz',y1,y2,ln,lh,hB',hR',gp,gc,gs,gz,z1,z2,b1,b2,b3,up,tk',Option.isSome_some,lk,gv,TA,Option.map_some,Option.getD_some,hv,sD2];refine⟨k+1,?_,by omega,by omega⟩
      rw[dn];rfl
  ·have hn:=eq_false hneg
   rw[if_neg (fun x=>hneg x.1)]at dn
   cases d with
   | none=>
    dsimp only at dn;have sD1:=sD (bz z)
    generalize hM0:aE n M none=M0 at *;simp only[go_sem,hlt,g,c1,c2,w2,hn,ln,lh,hB',hR',gp,gc,gs,gz,z1,z2,b1,b2,b3,up,tk',Option.isSome_none,sD1];refine⟨k+1,?_,by omega,by omega⟩
    rw[dn];rfl
   | some v=>
    dsimp only at dn;have gv:=gM v rfl
    have sD1:=sD (bz z)
    have sD2:=sD 3
    generalize hM0:aE n M (some v)=M0 at *;by_cases hv:v=bz z
    ·rw[if_pos hv]at dn
     have hv':=eq_true hv
     simp only[go_sem,hlt,g,c1,c2,w2,hn,ln,lh,hB',hR',gp,gc,gs,gz,z1,z2,b1,b2,b3,up,tk',Option.isSome_some,lk,gv,TA,Option.map_some,Option.getD_some,hv',sD1];refine⟨k+1,?_,by omega,by omega⟩
     rw[dn,hv];rfl
    ·rw[if_neg hv]at dn
     simp only[go_sem,hlt,g,c1,c2,w2,hn,ln,lh,hB',hR',gp,gc,gs,gz,z1,z2,b1,b2,b3,up,tk',Option.isSome_some,lk,gv,TA,Option.map_some,Option.getD_some,hv,sD2];refine⟨k+1,?_,by omega,by omega⟩
     rw[dn];rfl
 ·have e:k=pl.length:=by omega
  subst e;rw[List.take_length];have e1:h.length≤H.length:=by omega
  have e2:h.length+1≤H.length:=by omega
  have e3:rid≤H.length:=by omega
  simp only[go_sem,Nat.lt_irrefl,e1,e2,e3,lh'];exact fin _
end Go.Am
end
