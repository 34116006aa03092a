/- Texts of the proof, laid together: SpEnt6, SpEach, SpFltR, SpFltR2, SpFltR3, SpGenA2, SpDelF, SpGenF2, SpInts, SpFltE, SpEnt7, SpEnt8, SpEnt9, PRecT, SpRecT, SpRecT2, SpRecT3, SpRecT4, SpRecT5, SpEnt10, SpEnt11, SpEnt12, SpEnt13, SpFlo2, SpFlo3, SpFlo4, SpFlo5, SpFlo6, SpFlo7, SpFlo8, SpFlo9, SpFlo10, SpFlo11, SpRun, SpQFlo10, PUnd, SpStnd, SpLawET, SpPath, SpReady, SpLawUN, SpQFlo11, SpCts. -/
import Derived.KernelRfl
import Derived.Test.YtpmepdkfbangiaaGreatDoorlawBF7
set_option linter.all false
section
/- Entries written. -/
open Go
set_option linter.all false
set_option maxRecDepth 100000
namespace Go.Am
variable {h:aA} {K:lA}
theorem z6l:∀ {rs:List Ent}{p:Option Ent},OC p rs=0→∀r∈rs,WB r=0
 | [],p,_,r,hr=>by cases hr
 | x::rs,p,hf,r,hr=>by
  have e:OC p (x::rs)=(if WB x≠0 then WB x else if(p.elim false fun q=>decide (eC x q≤0))=true then 7 else OC (some x) rs):=by cases p <;> rfl
  have hf':=hf
  rw[e]at hf';by_cases h1:WB x=0
  ·rw[if_neg (by simp [h1])]at hf'
   by_cases h2:(p.elim false fun q=>decide (eC x q≤0))=true
   ·rw[if_pos h2]at hf';exact absurd hf' (by decide)
   ·rw[if_neg h2]at hf'
    rcases List.mem_cons.1 hr with e|e
    ·rw[e];exact h1
    ·exact z6l hf' r e
  ·rw[if_pos h1]at hf';exact absurd hf' h1
theorem zk7 {rs:List Ent}(hf:oD rs=0):∀r∈rs,WB r=0:=by
 unfold oD at hf;split at hf
 ·cases hf
 split at hf
 ·rename_i h;exact absurd hf h
 ·rename_i h
  exact z6l (by simpa using h)
end Go.Am
end
section
/- A text taken line by line: base.Each,scanref2.Lines. -/
open Go
set_option linter.all false
namespace Go.Am
variable {h:aA} {K:lA}
end Go.Am
end
section
/- Faults read. -/
open Go
set_option linter.all false
namespace Go.Am
variable {h:aA} {K:lA}
end Go.Am
end
section
/- Lists of faults read. -/
open Go
set_option linter.all false
namespace Go.Am
variable {h:aA} {K:lA}
end Go.Am
end
section
/- fault.Read,scanref2.FaultsRead. -/
open Go
set_option linter.all false
namespace Go.Am
variable {h:aA} {K:lA}
end Go.Am
end
section
/- What is drawn: faults. -/
open Go
set_option linter.all false
namespace Go.Am
variable {L:List Int} {a:Int} {h l:aA} {id:Nat} {K:lA}
end Go.Am
end
section
/- Deleting faults: printed by program. -/
open Go
set_option linter.unusedSimpArgs false
namespace Go.Am
attribute [-go_sem] PV.cells splice
variable {h:aA} {K:lA}
attribute [-go_sem] AV.cells cut
attribute [go_sem] AV.cells cut
end Go.Am
end
section
/- What is drawn: lists of faults. -/
open Go
set_option linter.all false
namespace Go.Am
variable {L:List Int} {a:Int} {h l:aA} {id:Nat} {K:lA}
end Go.Am
end
section
/- Stable sorts of numbers: printed by program. -/
open Go
set_option linter.unusedSimpArgs false
namespace Go.Am
attribute [-go_sem] PV.cells splice
variable {h:aA} {K:lA}
end Go.Am
end
section
/- Faults compared;texts of faults drawn. -/
open Go
set_option linter.all false
namespace Go.Am
variable {L:List Int} {a:Int} {h:aA} {K:lA}
end Go.Am
end
section
/- Entries written,the reference;kinds read. -/
open Go
set_option linter.all false
set_option maxRecDepth 100000
namespace Go.Am
variable {h:aA} {K:lA}
end Go.Am
end
section
/- A line of an entry read: the program. -/
open Go
set_option linter.all false
set_option maxRecDepth 100000
namespace Go.Am
variable {h:aA} {K:lA}
end Go.Am
end
section
/- A line of an entry read: the reference. -/
open Go
set_option linter.all false
set_option maxRecDepth 100000
namespace Go.Am
variable {h:aA} {K:lA}
end Go.Am
end
section
/- Records asv texts,plainly: read qE ways. -/
set_option linter.all false
namespace Go.Am
end Go.Am
end
section
/- Records read: a line,qE ways. -/
open Go
set_option linter.all false
set_option maxRecDepth 100000
namespace Go.Am
variable {h:aA} {K:lA}
end Go.Am
end
section
/- Records read: the program's line. -/
open Go
set_option linter.all false
set_option maxRecDepth 100000
namespace Go.Am
variable {h:aA} {K:lA}
end Go.Am
end
section
/- Records read: all lines. -/
open Go
set_option linter.all false
set_option maxRecDepth 100000
namespace Go.Am
variable {h:aA} {K:lA}
end Go.Am
end
section
/- lot.Read,scanref2.RecordsRead. -/
open Go
set_option linter.all false
set_option maxRecDepth 100000
namespace Go.Am
variable {h:aA} {K:lA}
end Go.Am
end
section
/- scanref2.RecordsRead. -/
open Go
set_option linter.all false
set_option maxRecDepth 100000
namespace Go.Am
variable {h:aA} {K:lA}
end Go.Am
end
section
/- Entries read,qE ways. -/
open Go
set_option linter.all false
set_option maxRecDepth 100000
namespace Go.Am
variable {h:aA} {K:lA}
end Go.Am
end
section
/- Entries drawn: their pieces. -/
open Go
set_option linter.all false
set_option maxRecDepth 100000
namespace Go.Am
variable {L:List Int} {a:Int} {h l:aA} {id:Nat} {K:lA}
attribute [-go_sem] nB
def LD:List (List UInt8):=[[],[65],[98,49],[98,50],[98,51],[98,52]]
structure EntV (x:Ent):Prop where
 s:x.site.length≤1000
 b:x.board.length≤1000
 p:x.step.length≤1000
 o:x.of.length≤1000
 n : -100000000000000000≤x.no∧x.no≤100000000000000000
 t : -100000000000000000≤x.time∧x.time≤100000000000000000
 z:x.site≠[122,122]∧(x.time≤1000∨345686399999<x.time)
 w:x.board∈LD
theorem zll (hp:XA 14 a)(u v:Int)(huv:u≤v)(hu : -1000000000000≤u)(hv:v≤1000000000000):∃k a2:Int,a≤a2∧a2≤a+2 ∧ -1099511627776≤k∧k≤1099511627776∧(k≤v+1∨k=1099511627776) ∧
 Gen VD [AI u,AI v] L a a2 (AI k):=by
 have w1:IntKind.i64.wrap (u-1)=u-1:=CA _ (by omega) (by omega)
 have w2:IntKind.i64.wrap (v+1)=v+1:=CA _ (by omega) (by omega)
 by_cases hf:QB L a 12=0
 ·have hm:=z0z (L:=L) (a:=a+1) (l:=[u-1,v+1,u,v,-1099511627776,1099511627776]) (by simp) (by simp)
  simp only[List.mem_cons,List.not_mem_nil,or_false]at hm;refine⟨rD [u-1,v+1,u,v,-1099511627776,1099511627776] L (a+1),a+1+1,by omega,by omega,by omega,by omega,by omega,Gen.of fun h id hid=>?_⟩
  rw[PQ rfl];simp only[UK,go_sem,hid,JH hp,hf,w1,w2]
 ·have hm:=JP L (a+1) huv (by omega)
  refine⟨KC u v L (a+1),a+1+1,by omega,by omega,by omega,by omega,by omega,Gen.of fun h id hid=>?_⟩
  rw[PQ rfl];simp only[UK,go_sem,hid,JH hp,hf,w1,w2,huv,show -1152921504606846976≤u by omega,show v≤1152921504606846976 by omega]
theorem EntV.ok {x:Ent}(v:EntV x):EntOk x:=⟨by have:=v.s;omega,by have:=v.b;omega,by have:=v.p;omega,by have:=v.o;omega⟩
theorem zov (a b:Ent)(ha:EntV a)(hb:EntV b):cA X AG [.p a.pv,.p b.pv] h K=K (AI (eC a b)) h []:=by
 refine uA ?_;rw[z3L rfl];have a1:=ha.t
 have a2:=hb.t
 have a3:=ha.n
 have a4:=hb.n
 have w:IntKind.i64.wrap (a.time-b.time)=a.time-b.time:=CA _ (by omega) (by omega)
 have w2:IntKind.i64.wrap (a.no-b.no)=a.no-b.no:=CA _ (by omega) (by omega)
 unfold eC;by_cases he:a.time=b.time
 ·have:sB a.time b.time=0:=by rw[he];unfold sB;simp
  rw[if_neg (by simp [this])]
  by_cases hs:a.site=b.site
  ·have hc:EA a.site b.site=0:=by rw[hs];exact iO _
   rw[if_neg (by simp [hc]),ZQ]
   simp only[vI,Ent.pv,go_sem,he,hs,w2,RP]
  ·have hc:EA a.site b.site≠0:=fun e=>hs (xD e)
   rw[if_pos hc];simp only[vI,Ent.pv,go_sem,he,hs,SP]
 ·have hc:sB a.time b.time≠0:=by unfold sB;split <;> (try split) <;> omega
  rw[if_pos hc];rw[ZQ];simp only[vI,Ent.pv,go_sem,he,w,RP]
theorem dJ {l:List (List UInt8)}(hl:0<l.length)(hl2:l.length<100)(m:Nat)(h:∀ s∈l,s.length≤m):(NB l L a).length≤m:=h _ (sK hl (by omega))
set_option maxHeartbeats 4000000 in
theorem bZ (hid:id<h.length)(hp:XA 60 a)(es:List Ent)(hes:es.length≤1000)(x:Ent)(hx:EntV x)(M:Obj)(v6 v11 v12:AV)(K:Ex→St→Prop)
 (hK:∀(x':Ent) (a':Int) (J:aA),EntV x'→a≤a'→a'≤a+10 →
  K .normal ⟨[(0,.ref id 0),(5,.own h.length (es.length+1) 0 (es.length+1)),(6,v6),(7,.mp (h.length+1)),(11,v11),(12,v12)],h.set id (IA L a') ++ .row (some 8) (es.map Ent.pv++[x'.pv]) 0::M::J,[]⟩) :
 uG (cA X) X.gl uT (.ref id 0) (.own h.length es.length 0 es.length) v6 (.mp (h.length+1)) (.ref (h.length+2) 0) v11 v12
  (h.set id (IA L a)++[.row (some 8) (es.map Ent.pv) 0,M,x.box]) [] K:=by
 have P:=JH (UB hp (Int.le_refl a) (by omega))
 have hmx:es.length+1≤cB:=by unfold cB;omega
 have e1:h.length+1<h.length+3+1:=by omega
 obtain⟨site,no,time,kind,board,step,of,other⟩:=x;obtain⟨xs,xb,xp,xo,xn,xt,xz,xw⟩:=hx;dsimp only at xs xb xp xo xn xt xz xw;unfold Ent.box;dsimp only;by_cases hf:QB L a 100=0
 ·by_cases h0:QB L (a+1) 3=0
  ·obtain⟨kv,a3,c1,c2,c3,c4,O⟩:=JO (L:=L) (a:=a+1+1+1) (UB hp (by omega) (by omega)) 1 9 (by omega) (by omega) (by omega)
   have O':=fun l K=>O.app (h:=h) (id:=id) (l:=l) (K:=K) hid
   obtain⟨kv2,a4,d1,d2,d3,d4,d5,O2⟩:=zll (L:=L) (a:=a3) (UB hp (by omega) (by omega)) 0 100 (by omega) (by omega) (by omega)
   have O2':=fun l K=>O2.app (h:=h) (id:=id) (l:=l) (K:=K) hid
   have p1:(NB [[],site] L (a+1+1)).length≤1000:=dJ (by simp) (by simp) 1000 (fun s hs=>by simp only[List.mem_cons,List.not_mem_nil,or_false]at hs;rcases hs with e|e <;> rw[e] <;> first|omega|simp)
   have p9:NB [[],site] L (a+1+1)≠[122,122]:=fun e=>by
    have:=sK (l:=[[],site]) (L:=L) (a:=a+1+1) (by simp) (by simp)
    simp only[List.mem_cons,List.not_mem_nil,or_false]at this;rw[e]at this;rcases this with h|h
    ·cases h
    ·exact xz.1 h.symm
   simp only[uG,go_sem,hid,P,hf,h0,↓O',O',↓O2',O2',hmx];exact hK ⟨NB [[],site] L (a+1+1),kv,kv2,kind,board,step,of,other⟩ a4 _ ⟨p1,xb,xp,xo,by dsimp only;omega,by dsimp only;omega,⟨p9,by dsimp only;omega⟩,xw⟩ (by omega) (by omega)
  ·by_cases h1:QB L (a+1) 3=1
   ·obtain⟨kv,a3,c1,c2,c3,c4,O⟩:=JO (L:=L) (a:=a+1+1) (UB hp (by omega) (by omega)) 1 7 (by omega) (by omega) (by omega)
    have O':=fun l K=>O.app (h:=h) (id:=id) (l:=l) (K:=K) hid
    have P2:=JH (UB hp (show a≤a3 by omega) (show a3+14≤a+60 by omega))
    have p1:(NB [[],[65],board] L a3).length≤1000:=dJ (by simp) (by simp) 1000 (fun s hs=>by simp only[List.mem_cons,List.not_mem_nil,or_false]at hs;rcases hs with e|e|e <;> rw[e] <;> first|omega|simp)
    have p2:(NB [[],[115,99,97,110]] L (a3+1)).length≤1000:=dJ (by simp) (by simp) 1000 (fun s hs=>by simp only[List.mem_cons,List.not_mem_nil,or_false]at hs;rcases hs with e|e <;> rw[e] <;> simp)
    have pw:NB [[],[65],board] L a3∈LD:=by
     have:=sK (l:=[[],[65],board]) (L:=L) (a:=a3) (by simp) (by simp)
     simp only[List.mem_cons,List.not_mem_nil,or_false]at this;rcases this with h|h|h
     ·rw[h];simp [LD]
     ·rw[h];simp [LD]
     ·rw[h];exact xw
    simp only[uG,go_sem,hid,P,P2,hf,h0,h1,↓O',O',hmx];exact hK ⟨site,no,time,kv,NB [[],[65],board] L a3,NB [[],[115,99,97,110]] L (a3+1),of,other⟩ (a3+1+1) _ ⟨xs,p1,p2,xo,xn,xt,xz,pw⟩ (by omega) (by omega)
   ·obtain⟨kv,a3,c1,c2,c3,c4,O⟩:=JO (L:=L) (a:=a+1+1+1) (UB hp (by omega) (by omega)) 0 5 (by omega) (by omega) (by omega)
    have O':=fun l K=>O.app (h:=h) (id:=id) (l:=l) (K:=K) hid
    have p1:(NB [[],[115,97]] L (a+1+1)).length≤1000:=dJ (by simp) (by simp) 1000 (fun s hs=>by simp only[List.mem_cons,List.not_mem_nil,or_false]at hs;rcases hs with e|e <;> rw[e] <;> simp)
    simp only[uG,go_sem,hid,P,hf,h0,h1,↓O',O',hmx];exact hK ⟨site,no,time,kind,board,step,NB [[],[115,97]] L (a+1+1),kv⟩ a3 _ ⟨xs,xb,xp,p1,xn,xt,xz,xw⟩ (by omega) (by omega)
 ·simp only[uG,go_sem,hid,P,hf,hmx]
  exact hK ⟨site,no,time,kind,board,step,of,other⟩ (a+1) _ ⟨xs,xb,xp,xo,xn,xt,xz,xw⟩ (by omega) (by omega)
end Go.Am
end
section
/- Entries drawn. -/
open Go
set_option linter.all false
set_option maxRecDepth 100000
namespace Go.Am
variable {L:List Int} {a:Int} {h l:aA} {id:Nat} {K:lA}
attribute [-go_sem] nB QA oB uG eL
def oC (n:Int):AV:=.p (.int .i64 n)
def MB (m:Int)(l:List (List UInt8 × Int)):Prop:=∀s v,xB s l=some v→0≤v∧v≤m
theorem MB.upd {m:Int}{l:List (List UInt8 × Int)}(H:MB m l)(s:List UInt8){c:Int}(h0:0≤c)(h1:c≤m+1):MB (m+1) (LC s c l):=fun s' v hv=>by
 rw[KO]at hv;split at hv
 ·cases hv;exact⟨h0,h1⟩
 ·have:=H s' v hv;omega
abbrev EH (h:aA)(id:Nat)(L:List Int)(a:Int)(es:List Ent)(M:List (List UInt8 × Int))(x:Ent):aA:=h.set id (IA L a)++[.row (some 8) (es.map Ent.pv) 0,vA PV.str oC M,x.box]
set_option maxHeartbeats 4000000 in
theorem z6k (hid:id<h.length)(hp:XA 80 a)(es:List Ent)(hes:es.length≤1000)(x:Ent)(hx:EntV x)(M:List (List UInt8 × Int))(v6 v11 v12:AV)(K:Ex→St→Prop)
 (hK:∀(x':Ent) (a':Int) (J:aA),EntV x'→a≤a'→a'≤a+12 →
  K .normal ⟨[(0,.ref id 0),(5,.own h.length (es.length+1) 0 (es.length+1)),(6,v6),(7,.mp (h.length+1)),(11,v11),(12,v12)],h.set id (IA L a') ++ .row (some 8) (es.map Ent.pv++[x'.pv]) 0::vA PV.str oC M::J,[]⟩) :
 NW (cA X) X.gl pP ⟨[(0,.ref id 0),(5,.own h.length es.length 0 es.length),(6,v6),(7,.mp (h.length+1)),(9,.ref (h.length+2) 0),(11,v11),(12,v12)],EH h id L a es M x,[]⟩ (yA 2 (NA (cA X) X.gl qP K)):=by
 have P:=JH (UB hp (Int.le_refl a) (by omega))
 obtain⟨site,no,time,kind,board,step,of,other⟩:=x;obtain⟨xs,xb,xp,xo,xn,xt,xz,xw⟩:=hx;dsimp only at xs xb xp xo xn xt xz xw;unfold EH Ent.box;dsimp only;by_cases k2:kind=2
 ·have p1:(NB [[115,99,97,110],[115,99,97,110],[102,108,97,115,104],[98,117,114,110]] L a).length≤1000:=dJ (by simp) (by simp) 1000 (fun s hs=>by simp only[List.mem_cons,List.not_mem_nil,or_false]at hs;rcases hs with e|e|e|e <;> rw[e] <;> simp)
  simp only[go_sem,hid,P,eq_true k2];rw[eL];refine bZ hid (UB hp (by omega) (by omega)) es hes ⟨site,no,time,kind,board,NB [[115,99,97,110],[115,99,97,110],[102,108,97,115,104],[98,117,114,110]] L a,of,other⟩ ⟨xs,xb,p1,xo,xn,xt,xz,xw⟩ (vA PV.str oC M) v6 v11 v12 K (fun x' a' J h1 h2 h3=>hK x' a' J h1 (by omega) (by omega))
 ·simp only[go_sem,hid,P,k2]
  rw[eL];refine bZ hid (UB hp (by omega) (by omega)) es hes ⟨site,no,time,kind,board,step,of,other⟩ ⟨xs,xb,xp,xo,xn,xt,xz,xw⟩ (vA PV.str oC M) v6 v11 v12 K (fun x' a' J h1 h2 h3=>hK x' a' J h1 (by omega) (by omega))
attribute [-go_sem] UY
set_option maxHeartbeats 4000000 in
theorem zk5 (hid:id<h.length)(hp:XA 120 a)(es:List Ent)(hes:es.length≤1000)(x:Ent)(hx:EntV x)(M:List (List UInt8 × Int))(m:Int)(hm:0≤m∧m≤1000)(hM:MB m M)(k:Nat)(v6 v11 v12:AV)(K:Ex→St→Prop)
 (hK:∀(x':Ent) (a':Int) (M':List (List UInt8×Int)) (J:aA),EntV x'→a≤a'→a'≤a+15→MB (m+1) M' →
  K .normal ⟨[(0,.ref id 0),(5,.own h.length (es.length+1) 0 (es.length+1)),(6,v6),(7,.mp (h.length+1)),(11,v11),(12,v12)],h.set id (IA L a') ++ .row (some 8) (es.map Ent.pv++[x'.pv]) 0::vA PV.str oC M'::J,[]⟩) :
 DJ (cA X) X.gl pP qP (.ref id 0) (.own h.length es.length 0 es.length) v6 (.mp (h.length+1)) (AI k) (.ref (h.length+2) 0) v11 v12 (EH h id L a es M x) [] K:=by
 have P:=JH (UB hp (Int.le_refl a) (by omega))
 obtain⟨site,no,time,kind,board,step,of,other⟩:=x;obtain⟨xs,xb,xp,xo,xn,xt,xz,xw⟩:=hx;dsimp only at xs xb xp xo xn xt xz xw;obtain⟨c,hc,c0,c1⟩:∃c,(xB site M).getD 0=c∧0≤c∧c≤m:=by
  cases hg:xB site M with
  | none=>exact⟨0,rfl,by omega,hm.1⟩
  | some v=>exact⟨v,rfl,hM site v hg⟩
 have wc:IntKind.i64.wrap (c+1)=c+1:=CA _ (by omega) (by omega)
 have hM':=hM.upd site (c:=c+1) (by omega) (by omega)
 have gu:xB site (LC site (c+1) M)=some (c+1):=by rw[KO,if_pos rfl]
 have lk:=fun(hp:aA) (M:List (List UInt8×Int)) (e:hp[h.length+1]?=some (vA PV.str oC M))=>BH (kk:=(none,[2])) (k:=site) AH e NE (ok:=false) (z:=oC 0)
 have up:=fun(hp:aA) (e:hp[h.length+1]?=some (vA PV.str oC M))=>yM (kk:=(none,[2])) (k:=site) AH e NE (v:=c+1) rfl
 have gt:∀(R:Obj) (M:List (List UInt8×Int)) (t:aA),(h.set id (IA L a)++R::vA PV.str oC M::t)[h.length+1]?=some (vA PV.str oC M):=fun R M t=>by
  rw[List.getElem?_append_right (by simp)];simp
 have l1:=fun R t=>lk (h.set id (IA L a)++R::vA PV.str oC M::t) M (gt R M t)
 have l2:=fun R t=>lk (h.set id (IA L a)++R::vA PV.str oC (LC site (c+1) M)::t) _ (gt R _ t)
 have u1:=fun R t=>up (h.set id (IA L a)++R::vA PV.str oC M::t) (gt R M t)
 have eo:(Option.map oC (xB site M)).getD (oC 0)=AI c:=by
  rw[←hc];cases xB site M <;> rfl
 have es0:∀(R:Obj) (t:aA) (o:Obj),(h.set id (IA L a)++R::vA PV.str oC M::t).set (h.length+1) o=h.set id (IA L a)++R::o::t:=fun R t o=>by
  rw[List.set_append_right _ _ (by simp)];simp
 simp only[cond_false,eo]at l1;simp only[cond_false,gu,Option.map_some,Option.getD_some,oC,YB,AV.top,Nat.not_lt_zero,if_false,es0]at l1 l2 u1;unfold EH Ent.box;dsimp only;by_cases k7:kind=7
 ·have p1:(NB [[115,97],[115,98]] L a).length≤1000:=dJ (by simp) (by simp) 1000 (fun s hs=>by simp only[List.mem_cons,List.not_mem_nil,or_false]at hs;rcases hs with e|e <;> rw[e] <;> simp)
  simp only[DJ,go_sem,hid,P,eq_true k7,l1,l2,u1,wc];rw[eL];refine bZ hid (UB hp (by omega) (by omega)) es hes ⟨site,c+1,time,kind,board,step,NB [[115,97],[115,98]] L a,KC 1 8 L (a+1)⟩ ⟨xs,xb,xp,p1,by dsimp only;omega,xt,xz,xw⟩ (vA PV.str oC (LC site (c+1) M)) v6 v11 v12 K (fun x' a' J h1 h2 h3=>hK x' a' _ J h1 (by omega) (by omega) hM')
 ·obtain⟨bb,gb,lb,wb⟩:∃bb:List UInt8,([.str [98,49],.str [98,50],.str [98,51]]:List PV)[k%3]?=some (.str bb)∧bb.length≤1000∧bb∈LD:=by
   have h3:k%3<3:=Nat.mod_lt _ (by omega)
   generalize k%3=j at h3;match j,h3 with
   | 0,_=>exact⟨_,rfl,by simp,by simp [LD]⟩
   | 1,_=>exact⟨_,rfl,by simp,by simp [LD]⟩
   | 2,_=>exact⟨_,rfl,by simp,by simp [LD]⟩
  have tm:(k:Int).tmod 3=((k%3:Nat):Int):=by
   rw[Int.tmod_eq_emod_of_nonneg (by omega)];omega
  have hk3:k%3<3:=Nat.mod_lt _ (by omega)
  have cw:∀v:List UInt8,VA none 0 (PV.str v)=some (PV.str v):=fun _=>rfl
  by_cases k3:(3:Int)≤(k:Int)
  ·have p1:(NB [[98,49],[98,49],[98,50],[98,51],[98,52]] L a).length≤1000:=dJ (by simp) (by simp) 1000 (fun s hs=>by simp only[List.mem_cons,List.not_mem_nil,or_false]at hs;rcases hs with e|e|e|e|e <;> rw[e] <;> simp)
   have pw:NB [[98,49],[98,49],[98,50],[98,51],[98,52]] L a∈LD:=by
    have:=sK (l:=[[98,49],[98,49],[98,50],[98,51],[98,52]]) (L:=L) (a:=a) (by simp) (by simp)
    simp only[List.mem_cons,List.not_mem_nil,or_false]at this;rcases this with e|e|e|e|e <;> rw[e] <;> simp [LD]
   simp only[DJ,go_sem,hid,P,k7,l1,l2,u1,wc,tm,gb,hk3,cw,k3];exact z6k hid (UB hp (by omega) (by omega)) es hes ⟨site,c+1,time,kind,NB [[98,49],[98,49],[98,50],[98,51],[98,52]] L a,step,of,other⟩ ⟨xs,p1,xp,xo,by dsimp only;omega,xt,xz,pw⟩ (LC site (c+1) M) v6 v11 v12 K (fun x' a' J h1 h2 h3=>hK x' a' _ J h1 (by omega) (by omega) hM')
  ·simp only[DJ,go_sem,hid,P,k7,l1,l2,u1,wc,tm,gb,hk3,cw,k3]
   exact z6k hid (UB hp (by omega) (by omega)) es hes ⟨site,c+1,time,kind,bb,step,of,other⟩ ⟨xs,lb,xp,xo,by dsimp only;omega,xt,xz,wb⟩ (LC site (c+1) M) v6 v11 v12 K (fun x' a' J h1 h2 h3=>hK x' a' _ J h1 (by omega) (by omega) hM')
end Go.Am
end
section
/- Entries drawn: all,right ones,texts. -/
open Go
set_option linter.all false
set_option maxRecDepth 100000
namespace Go.Am
variable {L:List Int} {a:Int} {h l:aA} {id:Nat} {K:lA}
attribute [-go_sem] nB QA oB uG eL UY VY
theorem z6o {P:Ent→Prop}:∀{xs:List PV},(∀x∈xs,∃r,P r∧x=Ent.pv r)→∃rs:List Ent,(∀r∈rs,P r)∧xs=rs.map Ent.pv
 | [],_=>⟨[],by simp,rfl⟩
 | x::xs,h=>by
  obtain⟨r,h1,h2⟩:=h x (by simp)
  obtain⟨rs,h3,h4⟩:=z6o (xs:=xs) (fun y hy=>h y (List.mem_cons_of_mem _ hy))
  refine⟨r::rs,fun z hz=>?_,by rw[h2,h4];rfl⟩
  rcases List.mem_cons.1 hz with rfl|hz
  ·exact h1
  ·exact h3 z hz
set_option maxHeartbeats 4000000 in
theorem zlj (hp:XA 4000 a)(n:Nat)(hn:n≤20) :
 XE rL [AI n] L a (fun v a2=>a≤a2∧a2≤a+1000∧∃rs:List Ent,rs.length≤n∧(∀r∈rs,EntV r)∧v=eB rs):=by
 refine XE.of fun h id hid=>?_
 rw[zew rfl];simp only[oR,go_sem,hid];refine UA (fun t:List Ent×Int×Int×List (List UInt8×Int)=>⟨[(0,.ref id 0),(5,.own h.length t.1.length 0 t.1.length),(6,AI t.2.1),(7,.mp (h.length+1)),(11,AI n),(12,AI t.1.length)],h.set id (IA L t.2.2.1)++[.row (some 8) (t.1.map Ent.pv) 0,vA PV.str oC t.2.2.2],[]⟩)
  (fun t=>t.1.length≤n∧(∀r∈t.1,EntV r)∧(a≤t.2.2.1∧t.2.2.1≤a+40*t.1.length)∧(0≤t.2.1∧t.2.1≤10*t.1.length)∧MB t.1.length t.2.2.2) (fun t=>n-t.1.length) ([],0,a,[]) rfl ⟨by simp,by simp,by simp,by simp,fun s v h=>by simp [xB]at h⟩ ?_
 rintro⟨es,t,b,M⟩ ⟨q1,q2,⟨q3,q4⟩,⟨q5,q6⟩,q7⟩
 dsimp only at q1 q2 q3 q4 q5 q6 q7;rcases Nat.lt_or_ge es.length n with hlt|hge
 ·have P:=JH (UB hp q3 (show b+14≤a+4000 by omega))
  have w1:IntKind.i64.wrap ((es.length:Int)+1)=((es.length+1:Nat):Int):=CA _ (by omega) (by omega)
  have m1:=z0z (L:=L) (a:=b) (l:=[0,1,1,3,10]) (by simp) (by simp)
  have b1:0≤rD [0,1,1,3,10] L b∧rD [0,1,1,3,10] L b≤10:=by
   simp only[List.mem_cons,List.not_mem_nil,or_false]at m1;omega
  have w2:IntKind.i64.wrap (t+rD [0,1,1,3,10] L b)=t+rD [0,1,1,3,10] L b:=CA _ (by omega) (by omega)
  have ps:(NB [[115,97],[115,97],[115,98]] L (b+1)).length≤1000:=dJ (by simp) (by simp) 1000 (fun s hs=>by simp only[List.mem_cons,List.not_mem_nil,or_false]at hs;rcases hs with e|e|e <;> rw[e] <;> simp)
  have pz:NB [[115,97],[115,97],[115,98]] L (b+1)≠[122,122]:=fun e=>by
   have:=sK (l:=[[115,97],[115,97],[115,98]]) (L:=L) (a:=b+1) (by simp) (by simp)
   rw[e]at this;revert this;decide
  obtain⟨t',ht'⟩:∃t',t+rD [0,1,1,3,10] L b=t':=⟨_,rfl⟩;have ht2:0≤t'∧t'≤10*(es.length+1):=by omega
  rw[ht']at w2;have fin:∀(kd:Int),NW (cA X) X.gl vT ⟨[(0,.ref id 0),(5,.own h.length es.length 0 es.length),(6,AI t'),(7,.mp (h.length+1)),(8,AI es.length),(9,.ref (h.length+2) 0),(11,AI n),(12,AI es.length)],EH h id L (b+1+1+1) es M ⟨NB [[115,97],[115,97],[115,98]] L (b+1),0,t',kd,[],[],[],0⟩,[]⟩
   (yA 1 (NA (cA X) X.gl wT (z0F (h.length+2) [] (WO
    (fun t:List Ent×Int×Int×List (List UInt8×Int)=>⟨[(0,.ref id 0),(5,.own h.length t.1.length 0 t.1.length),(6,AI t.2.1),(7,.mp (h.length+1)),(11,AI n),(12,AI t.1.length)],h.set id (IA L t.2.2.1)++[.row (some 8) (t.1.map Ent.pv) 0,vA PV.str oC t.2.2.2],[]⟩)
    (fun t=>t.1.length≤n∧(∀r∈t.1,EntV r)∧(a≤t.2.2.1∧t.2.2.1≤a+40*t.1.length)∧(0≤t.2.1∧t.2.1≤10*t.1.length)∧MB t.1.length t.2.2.2) (fun t=>n-t.1.length)
    (yA 0 (NA (cA X) X.gl rP (qA [.t 4] false h.length (fun v1 h1 x1=>∃a2,(a≤a2∧a2≤a+1000∧∃rs:List Ent,rs.length≤n∧(∀r∈rs,EntV r)∧v1=eB rs)∧h1=h.set id (IA L a2)∧x1=[])))) (es,t,b,M))))):=by
   intro kd;rw[VY];refine zk5 hid (UB hp (by omega) (by omega)) es (by omega) ⟨NB [[115,97],[115,97],[115,98]] L (b+1),0,t',kd,[],[],[],0⟩ ⟨ps,by simp,by simp,by simp,by dsimp only;omega,by dsimp only;omega,⟨pz,by dsimp only;omega⟩,by simp [LD]⟩ M es.length ⟨by omega,by omega⟩ q7 es.length (AI t') (AI n) (AI es.length) _ (fun x' a' M' J r1 r2 r3 r4=>?_)
   have f1:id+1≤h.length+2:=by omega
   have f2:h.length+1≤h.length+2:=by omega
   have f3:h.length+1+1≤h.length+2:=by omega
   simp only[go_sem,w1,f1,f2,f3];refine⟨(es++[x'],t',a',M'),?_,⟨by simp;omega,fun r hr=>?_,⟨by dsimp only;omega,by simp;omega⟩,⟨by dsimp only;omega,by simp;omega⟩,by simpa using r4⟩,by simp;omega⟩
   ·simp only[List.length_append,List.length_cons,List.length_nil,List.map_append,List.map_cons,List.map_nil]
   ·rcases List.mem_append.1 hr with hr|hr
    ·exact q2 r hr
    ·rw[List.mem_singleton]at hr;rw[hr];exact r1
  unfold EH Ent.box at fin;dsimp only at fin;by_cases k3:(es.length:Int)<3
  ·have:=fin 1
   simp only[go_sem,hid,P,hlt,w2,ht',k3,splice];exact this
  ·have:=fin (rD [2,2,2,3,3,4,4,5,5,6,7,1] L (b+1+1))
   simp only[go_sem,hid,P,hlt,w2,ht',k3,splice];exact this
 ·have en:es.length=n:=by omega
  have hb2:¬(es.length<n):=by omega
  have hh:(h.set id (IA L b)++[Obj.row (some 8) (es.map Ent.pv) 0,vA PV.str oC M])[h.length]?=some (.row (some 8) (es.map Ent.pv) 0):=by rw[List.getElem?_append_right (by simp)];simp
  have st:=fun K=>zpO (h:=h.set id (IA L b)++[Obj.row (some 8) (es.map Ent.pv) 0,vA PV.str oC M]) (K:=K) h.length (es.map Ent.pv) z6j (by simp;omega) hh (g:=AG) (caps:=[]) (c:=fun x y=>eC (AK x) (AK y))
   (fun o x hx y hy K=>by
    obtain⟨p,hp,rfl⟩:=List.mem_map.1 hx;obtain⟨q,hq,rfl⟩:=List.mem_map.1 hy;dsimp only;rw[z0R,z0R];exact zov p q (q2 p hp) (q2 q hq))
  have hsm:∀x∈kB (ltC fun x y=>eC (AK x) (AK y)) (es.map Ent.pv),∃r,EntV r∧x=Ent.pv r:=fun x hx=>by
   obtain⟨r,hr,rfl⟩:=List.mem_map.1 (PI.1 hx);exact⟨r,q2 r hr,rfl⟩
  obtain⟨ss,s1,s2⟩:=z6o hsm;have hsl:ss.length=es.length:=by have:=congrArg List.length s2;simp [pM]at this;omega
  simp only[List.length_map,s2]at st;have e0:∀o,(h.set id (IA L b)++[Obj.row (some 8) (es.map Ent.pv) 0,vA PV.str oC M]).set h.length o=h.set id (IA L b)++[o,vA PV.str oC M]:=fun o=>by rw[List.set_append_right _ _ (by simp)];simp
  simp only[e0]at st;have hw:win (ss.map Ent.pv) 0 es.length=ss.map Ent.pv:=pF (by simp [hsl])
  have hcr:es.length≤es.length:=Nat.le_refl _
  have hll:(ss.map Ent.pv).length=es.length:=by simp [hsl]
  simp only[go_sem,hb2,↓st,st,hll,hw,hsl];exact⟨b,⟨q3,by omega,ss,by omega,s1,rfl⟩,rfl⟩
end Go.Am
end
section
/- The floor: its state;a board leaves its site. -/
open Go
set_option linter.all false
set_option maxRecDepth 100000
namespace Go.Am
variable {h:aA} {K:lA}
attribute [-go_sem] nB QA oB splice
attribute [local go_sem] YC nE uD vD rF tF VE WE HE uF vF wF xF yF zF BF
structure Flo where
 bs:bB
 sm:RC
 ck:Nat
 ends:List EndP
 runs:List RunP
 ref:List Int
 why:List Int
def Flo.P (S:Flo):FlP:=⟨asA S.bs,asS S.sm,S.ends,S.runs⟩
def EndP.pv (e:EndP):PV:=.agg [.str e.board,.str e.step,eI e.frm,eI e.til,.bool e.pass]
def RunP.pv (r:RunP):PV:=.agg [.str r.site,eI r.frm,eI r.til]
def wbx (h:aA)(steps:List Nm)(tries:Int)(a b c d:Nat):Obj:=.box [TA steps,AI tries,.mp (h.length+1),.mp (h.length+2),.own (h.length+3) a 0 a,.own (h.length+4) b 0 b,.own (h.length+5) c 0 c,.own (h.length+6) d 0 d]
def FS (h:aA)(fb:Obj)(steps:List Nm)(tries:Int)(S:Flo)(l:aA):aA:=
 FH h fb (vA PV.str VB (tB (h.length+8) S.bs)) (dC S.sm S.ck) (.row (some 5) (S.ends.map EndP.pv) 0) (.row (some 3) (S.runs.map RunP.pv) 0) (.row none (S.ref.map eI) 0) (.row none (S.why.map eI) 0)
  (wbx h steps tries S.ends.length S.runs.length S.ref.length S.why.length) (BA S.bs) l
def KF (site:Nm)(at_:Int)(r:RunP):RunP:=if r.site=site∧r.til<0 then { r with til:=at_ } else r
def PD (l:List RunP)(site:Nm)(at_:Int)(k:Nat):List RunP:=(l.take k).map (KF site at_)++l.drop k
theorem zfR (l:List RunP)(site:Nm)(at_:Int):PD l site at_ 0=l:=by simp [PD]
theorem z4a (l:List RunP)(site:Nm)(at_:Int)(k:Nat):(PD l site at_ k).length=l.length:=by simp [PD];omega
theorem zfS (l:List RunP)(site:Nm)(at_:Int):PD l site at_ l.length=bD l site at_:=by
 unfold PD bD;rw[List.take_length,List.drop_length,List.append_nil];rfl
theorem z3Z {l:List RunP}{site:Nm}{at_:Int}{k:Nat}(hk:k<l.length):(PD l site at_ k)[k]?=some l[k]:=by
 unfold PD;rw[List.getElem?_append_right (by simp;omega)]
 have:k-((l.take k).map (KF site at_)).length=0:=by simp;omega
 rw[this,List.getElem?_drop];simp [hk]
theorem z4b {l:List RunP}{site:Nm}{at_:Int}{k:Nat}(hk:k<l.length):PD l site at_ (k+1)=(PD l site at_ k).set k (KF site at_ l[k]):=by
 unfold PD;rw[List.take_succ_eq_append_getElem hk,List.map_append,List.set_append_right _ _ (by simp;omega)]
 have:k-((l.take k).map (KF site at_)).length=0:=by simp;omega
 rw[this,List.drop_eq_getElem_cons (i:=k) hk,List.append_assoc];rfl
theorem zfT {l:List RunP}{site:Nm}{at_:Int}{k:Nat}(hk:k<l.length)(e:KF site at_ l[k]=l[k]):PD l site at_ (k+1)=PD l site at_ k:=by
 rw[z4b hk,e];apply List.ext_getElem?
 intro i;rw[List.getElem?_set];split
 ·rename_i hi;subst hi
  rw[z4a,if_pos hk,z3Z hk]
 ·rfl
def bF (m:RC)(k:Nm):RC:=match CD k m with
 | some i=>m.eraseIdx i
 | none=>m
theorem z5X {m:RC}{k:Nm}(hu:(m.map fun e=>e.1.1).Nodup):asS (bF m k)=mH (asS m) k∧((bF m k).map fun e=>e.1.1).Nodup:=by
 have main:bF m k=m.filter fun e=>!decide (e.1.1=k):=by
  unfold bF;induction m with
  | nil=>rfl
  | cons y r ih=>
   rw[List.map_cons,List.nodup_cons]at hu;have q:=ih hu.2
   unfold CD;rw[List.filter_cons];by_cases h:k=y.1.1
   ·rw[if_pos h]
    have:r.filter (fun e=>!decide (e.1.1=k))=r:=by
     rw[List.filter_eq_self];intro z hz;have:¬z.1.1=k:=fun e=>hu.1 (by rw[←h,←e];exact List.mem_map_of_mem hz)
     simp [this]
    rw[if_neg (by simp [h.symm]),this]
    rfl
   ·have hn:¬y.1.1=k:=fun z=>h z.symm
    rw[if_neg h,if_pos (by simp [hn]),←q]
    cases CD k r with
    | none=>rfl
    | some i=>rfl
 rw[main];constructor
 ·unfold asS mH
  rw[List.filter_map];rfl
 ·exact List.Nodup.sublist (List.Sublist.map _ List.filter_sublist) hu
theorem znc {id:Nat}{hp:aA}{m:RC}{c:Nat}{k:Nm}(hh:hp[id]?=some (dC m c)) :
 TB (none,[2]) (.mp id) (AS k) hp=some (.und,hp.set id (dC (bF m k) c),[]):=by
 have e1:pC (none,[2]) (AS k)=some (.str k):=NE
 have e2:IB hp (.mp id)=some (id,m.map fun e=>(⟨.str e.1.1,AS e.1.2,e.2⟩:ME),c):=by simp only[IB,hh,dC]
 simp only[TB,e1,e2,bP];unfold bF;cases hf:CD k m with
 | none=>
  have:hp.set id (dC m c)=hp:=zp0 hh
  rw[this]
 | some i=>
  simp only[dC];have e3:∀(m:RC) (i:Nat),(m.map fun e=>(⟨.str e.1.1,AS e.1.2,e.2⟩:ME)).eraseIdx i=(m.eraseIdx i).map fun e=>(⟨.str e.1.1,AS e.1.2,e.2⟩:ME):=by
   intro m;induction m with
   | nil=>intro i;rfl
   | cons y r ih=>
    intro i;cases i with
    | zero=>rfl
    | succ i=>simp only[List.map_cons,List.eraseIdx_cons_succ,ih i]
  rw[e3]
attribute [-go_sem] TB
set_option maxHeartbeats 4000000 in
theorem z92 (fb:Obj)(steps:List Nm)(tries:Int)(S:Flo)(l:aA)(i:Nat)(e:Ent × Sta)(hi:S.bs[i]?=some e)(hr:S.runs.length≤1000000)(at_:Int) :
 cA X uH [.ref (h.length+7) 0,.ref (qB h i) 0,AI at_] (FS h fb steps tries S l) K=K (.tup []) (FS h fb steps tries { S with bs:=S.bs.set i (e.1,{ e.2 with site:=[] }),sm:=bF S.sm e.2.site,runs:=bD S.runs e.2.site at_ } l) []:=by
 refine uA ?_;rw[zf7 rfl];obtain⟨bs,sm,ck,ends,runs,ref,why⟩:=S;obtain⟨x,st,si,sp,ss,sf⟩:=e;dsimp only at hi hr ⊢;have gq:=fun(o0 o1 o2 o3 o4 o5 o6 o7:Obj) (l:aA)=>kJ (h:=h) (o0:=o0) (o1:=o1) (o2:=o2) (o3:=o3) (o4:=o4) (o5:=o5) (o6:=o6) (o7:=o7) (l:=l) hi
 have sq:=fun(o0 o1 o2 o3 o4 o5 o6 o7:Obj) (l:aA)=>z1k (h:=h) (o0:=o0) (o1:=o1) (o2:=o2) (o3:=o3) (o4:=o4) (o5:=o5) (o6:=o6) (o7:=o7) (l:=l) hi ⟨st,si,sp,[],sf⟩
 unfold Sta.bx at gq sq;dsimp only at gq sq;unfold FS wbx;dsimp only;simp only[bS,go_sem];refine UA (fun k:Nat=>⟨[(0,.ref (h.length+7) 0),(1,.ref (qB h i) 0),(2,AI at_),(11,AI runs.length),(12,AI k)],
  FH h fb (vA PV.str VB (tB (h.length+8) bs)) (dC sm ck) (.row (some 5) (ends.map EndP.pv) 0) (.row (some 3) ((PD runs ss at_ k).map RunP.pv) 0) (.row none (ref.map eI) 0) (.row none (why.map eI) 0)
   (.box [TA steps,AI tries,.mp (h.length+1),.mp (h.length+2),.own (h.length+3) ends.length 0 ends.length,.own (h.length+4) runs.length 0 runs.length,.own (h.length+5) ref.length 0 ref.length,.own (h.length+6) why.length 0 why.length]) (BA bs) l,[]⟩) (fun k=>k≤runs.length) (fun k=>runs.length-k) 0 (by rw[zfR];rfl) (by omega) ?_
 intro k hk;rcases Nat.lt_or_ge k runs.length with hlt|hge
 ·have w1:IntKind.i64.wrap ((k:Int)+1)=((k+1:Nat):Int):=CA _ (by omega) (by omega)
  have hl:=z4a runs ss at_ k
  have hg:((PD runs ss at_ k).map RunP.pv)[k]?=some (RunP.pv runs[k]):=by rw[List.getElem?_map,z3Z hlt];rfl
  have c0:VA none 0 (RunP.pv runs[k])=some (.str runs[k].site):=rfl
  have c2:VA none 2 (RunP.pv runs[k])=some (eI runs[k].til):=rfl
  have hs1:=z4b (l:=runs) (site:=ss) (at_:=at_) hlt
  have hs2:=fun e=>zfT (l:=runs) (site:=ss) (at_:=at_) hlt e
  by_cases h1:runs[k].site=ss
  ·by_cases h2:runs[k].til<0
   ·have e1:KF ss at_ runs[k]=⟨runs[k].site,runs[k].frm,at_⟩:=by unfold KF;rw[if_pos ⟨h1,h2⟩]
    rw[e1]at hs1;have fp:RunP.pv runs[k] = .agg [.str runs[k].site,eI runs[k].frm,eI runs[k].til]:=rfl
    rw[fp]at hg c0 c2;simp only[go_sem,hlt,gq,hl,hg,c0,c2,h1,h2,w1,splice];refine⟨k+1,?_,by omega,by omega⟩
    rw[hs1,List.map_set,←h1];rfl
   ·have e1:KF ss at_ runs[k]=runs[k]:=by unfold KF;rw[if_neg (by intro z;exact h2 z.2)]
    simp only[go_sem,hlt,gq,hl,hg,c0,c2,h1,h2,w1];exact⟨k+1,by rw[hs2 e1],by omega,by omega⟩
  ·have e1:KF ss at_ runs[k]=runs[k]:=by unfold KF;rw[if_neg (by intro z;exact h1 z.1)]
   simp only[go_sem,hlt,gq,hl,hg,c0,c2,h1,w1];exact⟨k+1,by rw[hs2 e1],by omega,by omega⟩
 ·have ek:k=runs.length:=by omega
  subst ek;rw[zfS];have md:=fun(o0 o1 o3 o4 o5 o6 o7:Obj) (B l:aA)=>znc (id:=h.length+2) (hp:=FH h o0 o1 (dC sm ck) o3 o4 o5 o6 o7 B l) (m:=sm) (c:=ck) (k:=ss) vD
  have s3:∀v:AV,splice [AI st,AI si,AS sp,AS ss,AI sf] 3 [v]=[AI st,AI si,AS sp,v,AI sf]:=fun _=>rfl
  have cl:(bD runs ss at_).length=runs.length:=by simp [bD]
  have ml:=YO (h.length+8) bs i _ ⟨st,si,sp,[],sf⟩ hi
  have bl:(BA (bs.set i (x,⟨st,si,sp,[],sf⟩))).length=(BA bs).length:=by rw[nD,nD,List.length_set]
  simp only[go_sem,Nat.lt_irrefl,gq,md,s3,sq,cl,ml];exact List.take_of_length_le (by rw[YC,bl];exact Nat.le_refl _)
end Go.Am
end
section
/- The floor: a start,a finish. -/
open Go
set_option linter.all false
set_option maxRecDepth 100000
namespace Go.Am
variable {h:aA} {K:lA}
attribute [-go_sem] nB QA oB TB
attribute [local go_sem] YC nE uD vD rF tF VE WE HE uF vF wF xF yF zF BF
theorem znn {id:Nat}{hp:aA}{m:RC}{c:Nat}{k v:Nm}(hh:hp[id]?=some (dC m c))(hn:nA (asS m) k=none) :
 oB (none,[2]) (.mp id) (AS k) (AS v) hp=some (.und,hp.set id (dC (m++[((k,v),c)]) (c+1)),[]):=by
 have e1:pC (none,[2]) (AS k)=some (.str k):=NE
 have e2:IB hp (.mp id)=some (id,m.map fun e=>(⟨.str e.1.1,AS e.1.2,e.2⟩:ME),c):=by simp only[IB,hh,dC]
 have e3:HH (AS v)=true:=rfl
 have e4:CD k m=none:=by
  cases hf:CD k m with
  | none=>rfl
  | some i=>
   exfalso;have h1:=yS k m
   rw[hf,Option.bind_some]at h1;obtain⟨y,hy⟩:=Option.isSome_iff_exists.1 (zS k m i hf);rw[hy]at h1;have h2:(m.find? fun e=>decide (e.1.1=k))=some y:=h1.symm
   unfold nA asS at hn;rw[List.find?_map,Option.map_map,Option.map_eq_none_iff]at hn;have h3:(m.find? fun e=>decide (e.1.1=k))=none:=hn
   rw[h3]at h2;cases h2
 simp only[oB,e1,e2,e3,bP,e4];simp [dC,YB,AV.top]
theorem gX {bs:bB}{i:Nat}{x0:Ent}{st:Sta}(hi:bs[i]?=some (x0,st)):∃Bx:Sta→aA,BA bs=Bx st∧(∀s,BA (bs.set i (x0,s))=Bx s)∧(∀s,(Bx s).length=3*bs.length) ∧
 (∀a b c d e o0 o1 o2 o3 o4 o5 o6 o7 l,(FH h o0 o1 o2 o3 o4 o5 o6 o7 (Bx ⟨a,b,c,d,e⟩) l)[qB h i]?=some (.box [AI a,AI b,AS c,AS d,AI e])) ∧
 (∀s a b c d e o0 o1 o2 o3 o4 o5 o6 o7 l,(FH h o0 o1 o2 o3 o4 o5 o6 o7 (Bx s) l).set (qB h i) (.box [AI a,AI b,AS c,AS d,AI e])=FH h o0 o1 o2 o3 o4 o5 o6 o7 (Bx ⟨a,b,c,d,e⟩) l) ∧
 (∀s o o0 o1 o2 o3 o4 o5 o6 o7 l,(FH h o0 o1 o2 o3 o4 o5 o6 o7 (Bx s) (l++[o]))[h.length+(8+3*bs.length+l.length)]?=some o) ∧
 (∀s o0 o1 o2 o3 o4 o5 o6 o7 l l2,(FH h o0 o1 o2 o3 o4 o5 o6 o7 (Bx s) (l++l2)).take (h.length+(8+3*bs.length+l.length))=FH h o0 o1 o2 o3 o4 o5 o6 o7 (Bx s) l):=by
 have hl:i<bs.length:=by
  rcases Nat.lt_or_ge i bs.length with h|h
  ·exact h
  ·rw[List.getElem?_eq_none h]at hi;cases hi
 have hs:∀s,(bs.set i (x0,s))[i]?=some (x0,s):=fun s=>by rw[List.getElem?_set];simp [hl]
 have hlen:∀s,(BA (bs.set i (x0,s))).length=3*bs.length:=fun s=>by rw[nD,List.length_set]
 refine⟨fun s=>BA (bs.set i (x0,s)),?_,fun s=>rfl,hlen,fun a b c d e o0 o1 o2 o3 o4 o5 o6 o7 l=>?_,fun s a b c d e o0 o1 o2 o3 o4 o5 o6 o7 l=>?_,fun s o o0 o1 o2 o3 o4 o5 o6 o7 l=>?_,fun s o0 o1 o2 o3 o4 o5 o6 o7 l l2=>?_⟩
 ·have:bs.set i (x0,st)=bs:=by
   apply List.ext_getElem?
   intro j;rw[List.getElem?_set];split
   ·rename_i e;subst e;rw[hi]
   ·rfl
  dsimp only;rw[this]
 ·exact kJ (hs ⟨a,b,c,d,e⟩)
 ·have:=z1k (h:=h) (o0:=o0) (o1:=o1) (o2:=o2) (o3:=o3) (o4:=o4) (o5:=o5) (o6:=o6) (o7:=o7) (l:=l) (hs s) ⟨a,b,c,d,e⟩
  rw[List.set_set]at this;exact this
 ·have:=TG (h:=h) (o0:=o0) (o1:=o1) (o2:=o2) (o3:=o3) (o4:=o4) (o5:=o5) (o6:=o6) (o7:=o7) (B:=BA (bs.set i (x0,s))) (l:=l++[o]) l.length
  rw[hlen s]at this;rw[this];simp
 ·have:=VG (h:=h) (o0:=o0) (o1:=o1) (o2:=o2) (o3:=o3) (o4:=o4) (o5:=o5) (o6:=o6) (o7:=o7) (B:=BA (bs.set i (x0,s))) (l:=l++l2) l.length
  rw[hlen s]at this;rw[this];simp
def Flo.start (S:Flo)(i:Nat)(x0:Ent)(st:Sta)(x:Ent):Flo:=
 { S with bs:=S.bs.set i (x0,⟨2,x.time,st.step,x.site,st.failed⟩),sm:=S.sm++[((x.site,x.board),S.ck)],ck:=S.ck+1,runs:=S.runs++[⟨x.site,x.time,-1⟩] }
def Flo.startR (S:Flo)(i:Nat)(x0:Ent)(st:Sta)(x:Ent):Int×Flo:=
 if st.state≠1 then(11,S) else if x.step≠st.step then(3,S) else if(nA (asS S.sm) x.site).isSome=true then(12,S) else(0,S.start i x0 st x)
theorem esc7 (h:aA):∀k n o m,k<7→YB (h.length+7) (.own (h.length+k) n o m)=[]:=fun k n o m hk=>by unfold YB;rw[z0M,if_neg (by omega)]
set_option maxHeartbeats 4000000 in
theorem zoW (fb:Obj)(steps:List Nm)(tries:Int)(S:Flo)(l:aA)(i:Nat)(x0:Ent)(st:Sta)(hi:S.bs[i]?=some (x0,st))(hr:S.runs.length≤1000000)(x:Ent) :
 cA X WJ [.ref (h.length+7) 0,.ref (qB h i) 0,.p x.pv] (FS h fb steps tries S l) K =
  K (AI (S.startR i x0 st x).1) (FS h fb steps tries (S.startR i x0 st x).2 l) []:=by
 refine uA ?_;rw[zf8 rfl];obtain⟨Bx,b1,b2,b3,G,Sq,T,Tk⟩:=gX (h:=h) hi;obtain⟨bs,sm,ck,ends,runs,ref,why⟩:=S;obtain⟨s1,s2,s3,s4,s5⟩:=st;obtain⟨site,no,time,kind,board,step,of,other⟩:=x;unfold Flo.startR FS wbx Flo.start;dsimp only at hi hr b1 b2 b3 T Tk ⊢;have ml:=fun s=>YO (h.length+8) bs i _ s hi
 rw[b1];have lk:=fun(o0 o1 o3 o4 o5 o6 o7:Obj) (B l:aA)=>zmX (id:=h.length+2) (hp:=FH h o0 o1 (dC sm ck) o3 o4 o5 o6 o7 B l) (m:=sm) (c:=ck) (k:=site) vD
 have m1:runs.length+1≤cB:=by unfold cB;omega
 have e5:=fun n o m=>esc7 h 4 n o m (by decide)
 by_cases h1:s1=1
 ·subst h1
  rw[if_neg (by simp)]
  by_cases h2:step=s3
  ·subst h2
   rw[if_neg (by simp)]
   cases hg:nA (asS sm) site with
   | some v=>
    rw[if_pos (show(some v).isSome=true from rfl)]
    rw[hg]at lk;simp only[Option.isSome_some,Option.getD_some]at lk;simp only[ZK,Ent.pv,go_sem,b3,T,G,lk];rw[b1];exact Tk _ _ _ _ _ _ _ _ _ _ _
   | none=>
    rw[if_neg (show ¬(none:Option Nm).isSome=true by simp)]
    rw[hg]at lk;have up:=fun(o0 o1 o3 o4 o5 o6 o7:Obj) (B l:aA)=>znn (id:=h.length+2) (hp:=FH h o0 o1 (dC sm ck) o3 o4 o5 o6 o7 B l) (m:=sm) (c:=ck) (k:=site) (v:=board) vD hg
    simp only[Option.isSome_none,Option.getD_none]at lk;simp only[ZK,Ent.pv,go_sem,b3,T,G,lk,up,Sq,splice,m1,e5];rw[Tk,b2,ml,List.map_append];rfl
  ·rw[if_pos h2]
   simp only[ZK,Ent.pv,go_sem,b3,T,G,lk,h2];rw[b1];exact Tk _ _ _ _ _ _ _ _ _ _ _
 ·rw[if_pos h1]
  simp only[ZK,Ent.pv,go_sem,b3,T,G,lk,h1];rw[b1];exact Tk _ _ _ _ _ _ _ _ _ _ _
end Go.Am
end
section
/- The floor: a run that ends. -/
open Go
set_option linter.all false
set_option maxRecDepth 100000
namespace Go.Am
variable {h:aA} {K:lA}
attribute [-go_sem] nB QA oB TB
attribute [local go_sem] YC nE uD vD rF tF VE WE HE uF vF wF xF yF zF BF
theorem zoK (fb:Obj)(steps:List Nm)(tries:Int)(hst:steps.length≤1000)(k:Nm)(o1 o2 o3 o4 o5 o6:Obj)(r1 r2 r3 r4 r5 r6:AV)(B l:aA) :
 cA X UJ [.ref (h.length+7) 0,AS k] (FH h fb o1 o2 o3 o4 o5 o6 (.box [TA steps,AI tries,r1,r2,r3,r4,r5,r6]) B l) K=K (AI (if steps.findIdx (fun y=>decide (y=k))<steps.length then(steps.findIdx (fun y=>decide (y=k)):Int) else -1)) (FH h fb o1 o2 o3 o4 o5 o6 (.box [TA steps,AI tries,r1,r2,r3,r4,r5,r6]) B l) []:=by
 refine uA ?_;rw[zf5 rfl];have q:=fun h K=>eV (h:=h) (K:=K) steps (KN _) k (by omega)
 simp only[LY,go_sem,q];exact List.take_of_length_le (by rw[YC];exact Nat.le_refl _)
def Flo.finish (S:Flo)(steps:List Nm)(tries:Int)(i:Nat)(x0:Ent)(st:Sta)(x:Ent):Flo:=
 { S with bs:=S.bs.set i (x0,sC steps tries st x.time (decide (x.kind=3))),sm:=bF S.sm st.site,ends:=S.ends++[⟨x.board,st.step,st.since,x.time,decide (x.kind=3)⟩],runs:=bD S.runs st.site x.time }
def Flo.finishR (S:Flo)(steps:List Nm)(tries:Int)(i:Nat)(x0:Ent)(st:Sta)(x:Ent):Int×Flo:=
 if st.state≠2 then(11,S) else if st.site≠x.site then(13,S) else(0,S.finish steps tries i x0 st x)
set_option maxHeartbeats 8000000 in
theorem zoJ (fb:Obj)(steps:List Nm)(tries:Int)(hst:steps.length≤1000)(S:Flo)(l:aA)(i:Nat)(x0:Ent)(st:Sta)(hi:S.bs[i]?=some (x0,st))(hr:S.runs.length≤1000000)(he:S.ends.length≤1000000)(hs:st.state=2→st.step∈steps)(hf:0≤st.failed∧st.failed≤1000000)(x:Ent) :
 cA X VJ [.ref (h.length+7) 0,.ref (qB h i) 0,.p x.pv] (FS h fb steps tries S l) K =
  K (AI (S.finishR steps tries i x0 st x).1) (FS h fb steps tries (S.finishR steps tries i x0 st x).2 l) []:=by
 refine uA ?_;rw[zf6 rfl];obtain⟨Bx,b1,b2,b3,G,Sq,T,Tk⟩:=gX (h:=h) hi;obtain⟨bs,sm,ck,ends,runs,ref,why⟩:=S;obtain⟨s1,s2,s3,s4,s5⟩:=st;have lv:=fun K=>z92 (h:=h) (K:=K) fb steps tries ⟨bs,sm,ck,ends++[⟨x.board,s3,s2,x.time,decide (x.kind=3)⟩],runs,ref,why⟩ (l++[x.bx]) i _ hi hr x.time
 have ml:=fun s=>YO (h.length+8) bs i _ s hi
 obtain⟨site,no,time,kind,board,step,of,other⟩:=x;unfold FS wbx at lv;unfold Flo.finishR FS wbx Flo.finish;dsimp only at hi hr he hs hf b1 b2 b3 T Tk ml lv ⊢;rw[b1,b2,ml]at lv;rw[b1];have m1:ends.length+1≤cB:=by unfold cB;omega
 have e3:=fun n o m=>esc7 h 3 n o m (by decide)
 have ev:∀e:EndP,EndP.pv e = .agg [.str e.board,.str e.step,eI e.frm,eI e.til,.bool e.pass]:=fun _=>rfl
 have cl:(bD runs s4 time).length=runs.length:=by simp [bD]
 simp only[List.map_append,List.map_cons,List.map_nil,List.length_append,List.length_cons,List.length_nil,Nat.zero_add,ev,cl,Ent.bx]at lv;by_cases h1:s1=2
 ·subst h1
  rw[if_neg (by simp)]
  by_cases h2:s4=site
  ·subst h2
   rw[if_neg (by simp)]
   by_cases k3:kind=3
   ·subst k3
    have hin:=hs rfl
    obtain⟨j,hj⟩:∃j,steps.findIdx (fun y=>decide (y=s3))=j:=⟨_,rfl⟩
    have jl:j<steps.length:=by rw[←hj];exact List.findIdx_lt_length_of_exists ⟨s3,hin,by simp⟩
    have at1:=fun(o1 o2 o3 o4 o5 o6:Obj) (r1 r2 r3 r4 r5 r6:AV) (B l:aA) K=>zoK (h:=h) (K:=K) fb steps tries hst s3 o1 o2 o3 o4 o5 o6 r1 r2 r3 r4 r5 r6 B l
    rw[hj,if_pos jl]at at1;have w1:IntKind.i64.wrap ((j:Int)+1)=((j+1:Nat):Int):=CA _ (by omega) (by omega)
    unfold sC;rw[if_pos (by simp),hj]
    simp only[decide_true]at lv;by_cases hl:j+1=steps.length
    ·rw[if_pos hl]
     have hl':((j+1:Nat):Int)=(steps.length:Int):=by omega
     simp only[lH,Ent.pv,go_sem,b3,T,G,Sq,splice,m1,e3,↓lv,lv,↓at1,at1,w1,eq_true hl'];rw[Tk,b2,ml,List.map_append,cl];rfl
    ·rw[if_neg hl]
     have hl':¬((j+1:Nat):Int)=(steps.length:Int):=by omega
     have hlt:j+1<steps.length:=by omega
     have gs:=GB PV.str hlt
     have cw:∀v:List UInt8,VA none 0 (PV.str v)=some (PV.str v):=fun _=>rfl
     have gd:(steps[j+1]?).getD []=steps[j+1]:=by rw[List.getElem?_eq_getElem hlt];rfl
     rw[gd];simp only[lH,Ent.pv,go_sem,b3,T,G,Sq,splice,m1,e3,↓lv,lv,↓at1,at1,w1,hl',gs,cw,hlt];rw[Tk,b2,ml,List.map_append,cl];rfl
   ·have w1:IntKind.i64.wrap (s5+1)=s5+1:=CA _ (by omega) (by omega)
    unfold sC;rw[if_neg (by simp [k3])]
    rw[decide_eq_false k3]at lv ⊢;by_cases ht:s5+1=tries
    ·rw[if_pos ht]
     simp only[lH,Ent.pv,go_sem,b3,T,G,Sq,splice,m1,e3,↓lv,lv,k3,w1,eq_true ht];rw[Tk,b2,ml,List.map_append,cl];rfl
    ·rw[if_neg ht]
     simp only[lH,Ent.pv,go_sem,b3,T,G,Sq,splice,m1,e3,↓lv,lv,k3,w1,ht];rw[Tk,b2,ml,List.map_append,cl];rfl
  ·rw[if_pos h2]
   simp only[lH,Ent.pv,go_sem,b3,T,G,h2];rw[b1];exact Tk _ _ _ _ _ _ _ _ _ _ _
 ·rw[if_pos h1]
  simp only[lH,Ent.pv,go_sem,b3,T,G,h1];rw[b1];exact Tk _ _ _ _ _ _ _ _ _ _ _
end Go.Am
end
section
/- The floor: an entry taken. -/
open Go
set_option linter.all false
set_option maxRecDepth 100000
namespace Go.Am
variable {h:aA} {K:lA}
attribute [-go_sem] nB QA oB TB
attribute [local go_sem] YC nE uD vD rF tF VE WE HE uF vF wF xF yF zF BF
def Flo.put (S:Flo)(i:Nat)(x0:Ent)(st:Sta):Flo:={ S with bs:=S.bs.set i (x0,st) }
def Flo.old (S:Flo)(steps:List Nm)(tries:Int)(x:Ent)(i:Nat)(x0:Ent)(st:Sta):Int×Flo:=
 if x.kind=2 then S.startR i x0 st x
 else if x.kind=3∨x.kind=4 then S.finishR steps tries i x0 st x
 else if x.kind=5 then(if st.state≠3 then(11,S) else(0,S.put i x0 ⟨1,x.time,st.step,st.site,st.failed⟩))
 else if st.state=4∨st.state=5 then(11,S)
 else if st.state=2 then(0,{ S with bs:=S.bs.set i (x0,⟨5,x.time,st.step,[],st.failed⟩),sm:=bF S.sm st.site,runs:=bD S.runs st.site x.time })
 else(0,S.put i x0 ⟨5,x.time,st.step,st.site,st.failed⟩)
theorem zlI {k:Nm}:∀{bs:bB} {i:Nat},ixB k bs=some i→∃e,bs[i]?=some e:=fun {bs i} h=>by
 obtain⟨e,h1,_⟩:=(rM k bs).2 i h;exact⟨e,h1⟩
theorem z8P (h:aA)(i:Nat):VB (h.length+8+(3*i+2)) = .ref (qB h i) 0:=by unfold VB qB;rw[Nat.add_assoc]
set_option maxHeartbeats 8000000 in
theorem zpe (fb:Obj)(steps:List Nm)(tries:Int)(hst:steps.length≤1000)(S:Flo)(l:aA)(i:Nat)(x0:Ent)(st:Sta)(x:Ent)(hx:ixB x.board S.bs=some i)(hi:S.bs[i]?=some (x0,st))(hr:S.runs.length≤1000000)(he:S.ends.length≤1000000)(hs:st.state=2→st.step∈steps)(hf:0≤st.failed∧st.failed≤1000000)(hk:x.kind≠1) :
 cA X XF [.ref (h.length+7) 0,.p x.pv] (FS h fb steps tries S l) K=K (AI (S.old steps tries x i x0 st).1) (FS h fb steps tries (S.old steps tries x i x0 st).2 l) []:=by
 refine uA ?_;rw[QQ rfl];have sS:=fun K=>zoW (h:=h) (K:=K) fb steps tries S (l++[x.bx]) i x0 st hi hr x
 have sF:=fun K=>zoJ (h:=h) (K:=K) fb steps tries hst S (l++[x.bx]) i x0 st hi hr he hs hf x
 have lv:=fun K=>z92 (h:=h) (K:=K) fb steps tries S (l++[x.bx]) i _ hi hr x.time
 have tkS:∀S',S'.bs.length=S.bs.length→(FS h fb steps tries S' (l++[x.bx])).take (h.length+(8+3*S.bs.length+l.length))=FS h fb steps tries S' l:=fun S' hl=>by
  unfold FS;have:=VG (h:=h) (B:=BA S'.bs) (l:=l++[x.bx]) (o0:=fb) (o1:=vA PV.str VB (tB (h.length+8) S'.bs)) (o2:=dC S'.sm S'.ck) (o3:=.row (some 5) (S'.ends.map EndP.pv) 0) (o4:=.row (some 3) (S'.runs.map RunP.pv) 0) (o5:=.row none (S'.ref.map eI) 0) (o6:=.row none (S'.why.map eI) 0) (o7:=wbx h steps tries S'.ends.length S'.runs.length S'.ref.length S'.why.length) l.length;rw[nD,hl]at this;rw[this];simp
 have lenS:∀r,(S.startR i x0 st x)=r→r.2.bs.length=S.bs.length:=fun r hr=>by
  subst hr;unfold Flo.startR Flo.start
  split
  ·rfl
  split
  ·rfl
  split
  ·rfl
  ·simp
 have lenF:∀r,(S.finishR steps tries i x0 st x)=r→r.2.bs.length=S.bs.length:=fun r hr=>by
  subst hr;unfold Flo.finishR Flo.finish
  split
  ·rfl
  split
  ·rfl
  ·simp
 have lk:=fun(o0 o2 o3 o4 o5 o6 o7:Obj) (B l:aA)=>BH (kk:=(none,[2])) (k:=x.board) (h:=FH h o0 (vA PV.str VB (tB (h.length+8) S.bs)) o2 o3 o4 o5 o6 o7 B l) (id:=h.length+1) AH uD NE (ok:=false) (z:=.nilp)
 rw[aT,hx]at lk;simp only[Option.map_some,Option.getD_some,z8P,cond_false]at lk;generalize hR:S.startR i x0 st x=R1 at *;generalize hF:S.finishR steps tries i x0 st x=R2 at *;have tk1:=tkS R1.2 (lenS R1 rfl)
 have tk2:=tkS R2.2 (lenF R2 rfl)
 obtain⟨Bx,b1,b2,b3,G,Sq,T,Tk⟩:=gX (h:=h) hi;obtain⟨H1,hH1⟩:∃H,FS h fb steps tries R1.2 (l++[x.bx])=H:=⟨_,rfl⟩;obtain⟨H2,hH2⟩:∃H,FS h fb steps tries R2.2 (l++[x.bx])=H:=⟨_,rfl⟩;rw[hH1]at sS tk1;rw[hH2]at sF tk2;have ml:=fun s=>YO (h.length+8) S.bs i _ s hi
 have cl:(bD S.runs st.site x.time).length=S.runs.length:=by simp [bD]
 unfold FS wbx Ent.bx at sS sF lv;dsimp only at lv ml;rw[b1]at sS sF;rw[b1,b2,ml,cl]at lv;simp only[Ent.pv]at sS sF;have e1:∀v:AV,splice [AI st.state,AI st.since,AS st.step,AS st.site,AI st.failed] 0 [v]=[v,AI st.since,AS st.step,AS st.site,AI st.failed]:=fun _=>rfl
 have G':=G st.state st.since st.step st.site st.failed
 have est:(⟨st.state,st.since,st.step,st.site,st.failed⟩:Sta)=st:=rfl
 rw[est]at G';by_cases k2:x.kind=2
 ·have e:S.old steps tries x i x0 st=R1:=by unfold Flo.old;rw[if_pos k2,hR]
  rw[e];obtain⟨G1,hG1⟩:∃H,FS h fb steps tries R1.2 l=H:=⟨_,rfl⟩;rw[hG1]at tk1 ⊢;unfold FS wbx;rw[b1];simp only[TD,Ent.pv,go_sem,b3,T,lk,hk,eq_true k2,↓sS,sS];exact tk1
 by_cases k34:x.kind=3∨x.kind=4
 ·have e:S.old steps tries x i x0 st=R2:=by unfold Flo.old;rw[if_neg k2,if_pos k34,hF]
  rw[e];obtain⟨G1,hG1⟩:∃H,FS h fb steps tries R2.2 l=H:=⟨_,rfl⟩;rw[hG1]at tk2 ⊢;unfold FS wbx;rw[b1];rcases k34 with k3|k4
  ·simp only[TD,Ent.pv,go_sem,b3,T,lk,hk,k2,eq_true k3,↓sF,sF]
   exact tk2
  ·have k3:¬x.kind=3:=by omega
   simp only[TD,Ent.pv,go_sem,b3,T,lk,hk,k2,k3,eq_true k4,↓sF,sF];exact tk2
 have k3:¬x.kind=3:=fun z=>k34 (.inl z)
 have k4:¬x.kind=4:=fun z=>k34 (.inr z)
 by_cases k5:x.kind=5
 ·by_cases h3:st.state=3
  ·have e:S.old steps tries x i x0 st=(0,S.put i x0 ⟨1,x.time,st.step,st.site,st.failed⟩):=by unfold Flo.old;rw[if_neg k2,if_neg k34,if_pos k5,if_neg (by simp [h3])]
   rw[e];unfold Flo.put FS wbx;dsimp only;rw[b1];simp only[TD,Ent.pv,go_sem,b3,T,lk,hk,k2,k3,k4,eq_true k5,G',G,Sq,splice,eq_true h3];rw[Tk,b2,ml]
  ·have e:S.old steps tries x i x0 st=(11,S):=by unfold Flo.old;rw[if_neg k2,if_neg k34,if_pos k5,if_pos h3]
   rw[e];unfold FS wbx;dsimp only;rw[b1];simp only[TD,Ent.pv,go_sem,b3,T,lk,hk,k2,k3,k4,eq_true k5,G',h3];exact Tk _ _ _ _ _ _ _ _ _ _ _
 by_cases h45:st.state=4∨st.state=5
 ·have e:S.old steps tries x i x0 st=(11,S):=by unfold Flo.old;rw[if_neg k2,if_neg k34,if_neg k5,if_pos h45]
  rw[e];unfold FS wbx;dsimp only;rw[b1];rcases h45 with h4|h5
  ·simp only[TD,Ent.pv,go_sem,b3,T,lk,hk,k2,k3,k4,k5,G',eq_true h4]
   exact Tk _ _ _ _ _ _ _ _ _ _ _
  ·have h4:¬st.state=4:=by omega
   simp only[TD,Ent.pv,go_sem,b3,T,lk,hk,k2,k3,k4,k5,G',h4,eq_true h5];exact Tk _ _ _ _ _ _ _ _ _ _ _
 have h4:¬st.state=4:=fun z=>h45 (.inl z)
 have h5:¬st.state=5:=fun z=>h45 (.inr z)
 by_cases h2:st.state=2
 ·have e:S.old steps tries x i x0 st=(0,{ S with bs:=S.bs.set i (x0,⟨5,x.time,st.step,[],st.failed⟩),sm:=bF S.sm st.site,runs:=bD S.runs st.site x.time }):=by unfold Flo.old;rw[if_neg k2,if_neg k34,if_neg k5,if_neg h45,if_pos h2]
  rw[e];unfold FS wbx;dsimp only;rw[b1];simp only[TD,Ent.pv,go_sem,b3,T,lk,hk,k2,k3,k4,k5,G',G,Sq,splice,h4,h5,eq_true h2,↓lv,lv];rw[Tk,b2,ml,cl]
 ·have e:S.old steps tries x i x0 st=(0,S.put i x0 ⟨5,x.time,st.step,st.site,st.failed⟩):=by unfold Flo.old;rw[if_neg k2,if_neg k34,if_neg k5,if_neg h45,if_neg h2]
  rw[e];unfold Flo.put FS wbx;dsimp only;rw[b1];simp only[TD,Ent.pv,go_sem,b3,T,lk,hk,k2,k3,k4,k5,G',G,Sq,splice,h4,h5,h2];rw[Tk,b2,ml]
end Go.Am
end
section
/- The floor: a board that oS;what an entry does,plainly. -/
open Go
set_option linter.all false
set_option maxRecDepth 100000
namespace Go.Am
variable {h:aA} {K:lA}
attribute [-go_sem] nB QA oB TB
attribute [local go_sem] YC nE uD vD rF tF VE WE HE uF vF wF xF yF zF BF
theorem RN (fb:Obj)(steps:List Nm)(tries:Int)(S:Flo)(l l2:aA):(FS h fb steps tries S (l++l2)).take (h.length+(8+3*S.bs.length+l.length))=FS h fb steps tries S l:=by
 unfold FS;have:=VG (h:=h) (B:=BA S.bs) (l:=l++l2) (o0:=fb) (o1:=vA PV.str VB (tB (h.length+8) S.bs)) (o2:=dC S.sm S.ck) (o3:=.row (some 5) (S.ends.map EndP.pv) 0) (o4:=.row (some 3) (S.runs.map RunP.pv) 0) (o5:=.row none (S.ref.map eI) 0) (o6:=.row none (S.why.map eI) 0) (o7:=wbx h steps tries S.ends.length S.runs.length S.ref.length S.why.length) l.length;rw[nD]at this;rw[this];simp
theorem uM (S:Flo)(k:Nm)(o0 o2 o3 o4 o5 o6 o7:Obj)(B l:aA):QA (none,[2]) false .nilp (.mp (h.length+1)) (AS k) (FH h o0 (vA PV.str VB (tB (h.length+8) S.bs)) o2 o3 o4 o5 o6 o7 B l)=some (match ixB k S.bs with|some i=>.ref (qB h i) 0|none=>.nilp):=by
 have lk:=BH (kk:=(none,[2])) (k:=k) (h:=FH h o0 (vA PV.str VB (tB (h.length+8) S.bs)) o2 o3 o4 o5 o6 o7 B l) (id:=h.length+1) AH uD NE (ok:=false) (z:=.nilp)
 rw[aT]at lk;rw[lk];cases ixB k S.bs with
 | none=>rfl
 | some i=>simp only[Option.map_some,Option.getD_some,z8P,cond_false]
theorem tl1 {o0 o1 o2 o3 o4 o5 o6 o7 o:Obj}{bs:bB}{l:aA}:(FH h o0 o1 o2 o3 o4 o5 o6 o7 (BA bs) (l++[o]))[h.length+(8+3*bs.length+l.length)]?=some o:=by
 have:=TG (h:=h) (o0:=o0) (o1:=o1) (o2:=o2) (o3:=o3) (o4:=o4) (o5:=o5) (o6:=o6) (o7:=o7) (B:=BA bs) (l:=l++[o]) l.length;rw[nD]at this;rw[this];simp
theorem zpd (fb:Obj)(steps:List Nm)(tries:Int)(S:Flo)(l:aA)(x:Ent)(hx:ixB x.board S.bs=none)(hk:x.kind≠1) :
 cA X XF [.ref (h.length+7) 0,.p x.pv] (FS h fb steps tries S l) K=K (AI 8) (FS h fb steps tries S l) []:=by
 refine uA ?_;rw[QQ rfl];have lk:=fun(o0 o2 o3 o4 o5 o6 o7:Obj) (B l:aA)=>uM (h:=h) S x.board o0 o2 o3 o4 o5 o6 o7 B l
 rw[hx]at lk;have tk:=RN (h:=h) fb steps tries S l [x.bx]
 obtain⟨G1,hG1⟩:∃H,FS h fb steps tries S l=H:=⟨_,rfl⟩;rw[hG1]at tk ⊢;rw[←hG1];unfold Ent.bx at tk;unfold FS wbx at tk ⊢;dsimp only at lk;simp only[TD,Ent.pv,go_sem,nD,tl1,lk,hk];unfold FS wbx at hG1;rw[hG1];exact tk
theorem zpg (fb:Obj)(steps:List Nm)(tries:Int)(S:Flo)(l:aA)(x:Ent)(i:Nat)(hx:ixB x.board S.bs=some i)(hk:x.kind=1) :
 cA X XF [.ref (h.length+7) 0,.p x.pv] (FS h fb steps tries S l) K=K (AI 6) (FS h fb steps tries S l) []:=by
 refine uA ?_;rw[QQ rfl];have lk:=fun(o0 o2 o3 o4 o5 o6 o7:Obj) (B l:aA)=>uM (h:=h) S x.board o0 o2 o3 o4 o5 o6 o7 B l
 rw[hx]at lk;have tk:=RN (h:=h) fb steps tries S l [x.bx]
 obtain⟨G1,hG1⟩:∃H,FS h fb steps tries S l=H:=⟨_,rfl⟩;rw[hG1]at tk ⊢;rw[←hG1];unfold Ent.bx at tk;unfold FS wbx at tk ⊢;dsimp only at lk;simp only[TD,Ent.pv,go_sem,nD,tl1,lk,eq_true hk];unfold FS wbx at hG1;rw[hG1];exact tk
def Flo.enter (S:Flo)(steps:List Nm)(x:Ent):Flo:={ S with bs:=S.bs++[(x,⟨1,x.time,steps.headD [],[],0⟩)] }
theorem znY {b i t:Nat}{n:Int}{P:lA}{H:aA}(hi:i<b)(ht:b≤t)(k:P (AI n) (H.take t) [(i,t)]):CC false b P (some [AI n]) H [(i,t)]:=by
 have e1:∀m,MA m H (AI n)=some (AI n):=fun m=>by simp [MA]
 have e2:AV.top (AI n)=0:=by simp [AV.top]
 have e3:close 1 [(i,t)] b=t:=by simp [close,HF,hi];omega
 have e4:FB [(i,t)] t=true:=by simp [FB]
 have e5:[(i,t)].filter (fun y=>decide (y.1<t))=[(i,t)]:=by simp;omega
 have e6:dB [AI n]=AI n:=rfl
 simp only[CC,e6,e1,e2,Nat.max_zero,List.length_cons,List.length_nil,Nat.zero_add,e3,e4,if_true,e5];exact⟨Nat.zero_le _,k⟩
set_option maxHeartbeats 4000000 in
theorem zpc (fb:Obj)(steps:List Nm)(tries:Int)(hst:steps≠[])(S:Flo)(x:Ent)(hx:ixB x.board S.bs=none)(hk:x.kind=1) :
 cA X XF [.ref (h.length+7) 0,.p x.pv] (FS h fb steps tries S [x.bx]) K=K (AI 0) (FS h fb steps tries (S.enter steps x) []) [(h.length+1,h.length+(8+3*(S.bs.length+1)))]:=by
 refine uA ?_;rw[QQ rfl];have lk:=fun(o0 o2 o3 o4 o5 o6 o7:Obj) (B l:aA)=>uM (h:=h) S x.board o0 o2 o3 o4 o5 o6 o7 B l
 rw[hx]at lk;obtain⟨s0,sr,rfl⟩:∃a r,steps=a::r:=by
  cases steps with
  | nil=>exact absurd rfl hst
  | cons a r=>exact⟨a,r,rfl⟩
 have wn:yC x.board (tB (h.length+8) S.bs)=none:=by
  have:=zaf (k:=x.board) (l:=tB (h.length+8) S.bs);rw[aT,hx]at this;simpa using this
 have q0:h.length+8+3*S.bs.length+2=h.length+(8+3*S.bs.length+2):=by omega
 have up:=fun(o0 o2 o3 o4 o5 o6 o7:Obj) (B l:aA)=>yM (kk:=(none,[2])) (k:=x.board) (h:=FH h o0 (vA PV.str VB (tB (h.length+8) S.bs)) o2 o3 o4 o5 o6 o7 B l) (id:=h.length+1) AH uD NE (v:=h.length+(8+3*S.bs.length+2)) (val:=VB) rfl
 rw[MU wn]at up;have ms:=z8m (h.length+8) S.bs (x,⟨1,x.time,s0,[],0⟩)
 rw[q0]at ms;dsimp only at ms;rw[←ms]at up;have es:YB (h.length+1) (VB (h.length+(8+3*S.bs.length+2)))=[(h.length+1,h.length+(8+3*(S.bs.length+1)))]:=by
  unfold YB VB;have e9:h.length+(8+3*S.bs.length+2)+1=h.length+(8+3*(S.bs.length+1)):=by omega
  simp only[AV.top,e9];rw[if_pos (by omega)]
 rw[es]at up;simp only[VB]at up;unfold Flo.enter;obtain⟨bs,sm,ck,ends,runs,ref,why⟩:=S;unfold FS wbx Ent.bx;dsimp only at lk hx up ms ⊢;have t1:∀(o0 o1 o2 o3 o4 o5 o6 o7 a b:Obj),(FH h o0 o1 o2 o3 o4 o5 o6 o7 (BA bs) [a,b])[h.length+(8+3*bs.length+1)]?=some b:=fun o0 o1 o2 o3 o4 o5 o6 o7 a b=>tl1 (l:=[a])
 have t2:∀(o0 o1 o2 o3 o4 o5 o6 o7 a b c:Obj),(FH h o0 o1 o2 o3 o4 o5 o6 o7 (BA bs) [a,b,c])[h.length+(8+3*bs.length+1)]?=some b:=fun o0 o1 o2 o3 o4 o5 o6 o7 a b c=>by
  have:=TG (h:=h) (o0:=o0) (o1:=o1) (o2:=o2) (o3:=o3) (o4:=o4) (o5:=o5) (o6:=o6) (o7:=o7) (B:=BA bs) (l:=[a,b,c]) 1;rw[nD]at this;rw[this];rfl
 have cw:∀v:List UInt8,VA none 0 (PV.str v)=some (PV.str v):=fun _=>rfl
 simp only[TD,Ent.pv,go_sem,nD,t1,t2,lk,eq_true hk,cw,up];refine znY (by omega) (by omega) ⟨rfl,?_,rfl⟩
 rw[List.take_of_length_le (by rw[YC,nD];simp;omega)]
 have sh:∀(o0 o1 o2 o3 o4 o5 o6 o7:Obj) (B l:aA),FH h o0 o1 o2 o3 o4 o5 o6 o7 B l=FH h o0 o1 o2 o3 o4 o5 o6 o7 (B++l) []:=fun _ _ _ _ _ _ _ _ _ _=>by unfold FH;simp
 rw[sh,z3F];rfl
end Go.Am
end
section
/- Entries that count;entries up tov a moment. -/
open Go
set_option linter.all false
set_option maxRecDepth 100000
namespace Go.Am
variable {h:aA} {K:lA}
attribute [-go_sem] nB QA oB TB
theorem zgg {l:List Ent}{k:Nat}(hk:k<l.length):ZA (l.drop k)=(!decide ((l[k].site,l[k].no)∈DC (l.drop (k+1))))::ZA (l.drop (k+1)):=by
 rw[List.drop_eq_getElem_cons hk,zfY]
theorem zq2 {l:List Ent}{k:Nat}(hk:k<l.length):DC (l.drop k)=if decide ((l[k].site,l[k].no)∈DC (l.drop (k+1)))=false∧l[k].kind=7 then(l[k].of,l[k].other)::DC (l.drop (k+1)) else DC (l.drop (k+1)):=by
 rw[List.drop_eq_getElem_cons hk,DC]
abbrev SB (b:Bool):PV:=.bool b
def UndM (m:List ((List UInt8 × Int) × Bool))(u:List (Nm × Int)):Prop:=∀k,xB k m=if k∈u then some true else none
set_option maxHeartbeats 4000000 in
theorem zoG (l:List Ent)(hl:l.length≤100000):cA X SJ [eB l] h K=K (.p (.sl none ((ZA l).map SB))) h []:=by
 refine uA ?_;rw[zf2 rfl];have mx:l.length≤cB:=by unfold cB;omega
 have w0:IntKind.i64.wrap ((l.length:Int)-1)=(l.length:Int)-1:=CA _ (by omega) (by omega)
 simp only[aS,go_sem,mx,w0];refine UA (fun t:Nat×List ((List UInt8×Int)×Bool)=>⟨[(0,eB l),(3,.mp h.length),(4,.own (h.length+1) l.length 0 l.length),(5,AI ((t.1:Int)-1))],h++[vA FD aD t.2,.row none (List.replicate t.1 (SB false)++(ZA (l.drop t.1)).map SB) 0],[]⟩)
  (fun t=>t.1≤l.length∧UndM t.2 (DC (l.drop t.1))) (fun t=>t.1) (l.length,[]) ?_ ⟨Nat.le_refl _,fun k=>by simp [DC,xB]⟩ ?_
 ·simp only[List.drop_length,ZA,List.map_nil,List.append_nil]
  rfl
 rintro⟨k,m⟩ ⟨hk,hm⟩
 dsimp only at hk hm ⊢;cases k with
 | zero=>
  have c0:¬(0:Int)≤((0:Nat):Int)-1:=by omega
  have cl:=aF l
  simp only[go_sem,c0,List.drop_zero,List.replicate_zero,List.nil_append];have hw:win ((ZA l).map SB) 0 l.length=(ZA l).map SB:=pF (by simp [cl])
  simp only[List.length_map,cl,hw,if_true];rw[if_pos ⟨trivial,Nat.le_refl _⟩];simp [AV.top]
 | succ k=>
  have hlt:k<l.length:=by omega
  have c0:(0:Int)≤((k+1:Nat):Int)-1:=by omega
  have ek:(((k+1:Nat):Int)-1)=(k:Int):=by omega
  have w1:IntKind.i64.wrap ((k:Int)-1)=(k:Int)-1:=CA _ (by omega) (by omega)
  have hk0:(0:Int)≤(k:Int):=by omega
  have hg:=GB Ent.pv hlt
  have cx:=oH (x:=l[k])
  have cs:=zgg hlt
  have us:=zq2 hlt
  have lrow:(List.replicate (k+1) (SB false)++(ZA (l.drop (k+1))).map SB).length=l.length:=by
   rw[List.length_append,List.length_replicate,List.length_map,aF,List.length_drop];omega
  have grow:(List.replicate (k+1) (SB false)++(ZA (l.drop (k+1))).map SB)[k]?=some (SB false):=by
   rw[List.getElem?_append_left (by simp),List.getElem?_replicate];simp
  have srow:∀b:Bool,(List.replicate (k+1) (SB false)++(ZA (l.drop (k+1))).map SB).set k (SB b)=List.replicate k (SB false)++(b::ZA (l.drop (k+1))).map SB:=fun b=>by
   rw[List.replicate_succ',List.append_assoc,List.set_append_right _ _ (by simp)]
   simp
  have grow2:∀b:Bool,(List.replicate k (SB false)++(b::ZA (l.drop (k+1))).map SB)[k]?=some (SB b):=fun b=>by
   rw[List.getElem?_append_right (by simp)];simp
  have lrow2:∀b:Bool,(List.replicate k (SB false)++(b::ZA (l.drop (k+1))).map SB).length=l.length:=fun b=>by
   rw[List.length_append,List.length_replicate,List.length_map,List.length_cons,aF,List.length_drop];omega
  obtain⟨R2,hR2⟩:∃R2:Bool→List PV,∀b,List.replicate k (SB false)++(b::ZA (l.drop (k+1))).map SB=R2 b:=⟨_,fun _=>rfl⟩
  simp only[hR2]at srow grow2 lrow2;have cb:∀b:Bool,VA none 0 (SB b)=some (SB b):=fun _=>rfl
  generalize hx:l[k]=x at *;have lk:=fun(hp:aA) (e:hp[h.length]?=some (vA FD aD m))=>BH (kk:=(some 2,[2,0])) (k:=(x.site,x.no)) RS e TS (ok:=false) (z:=aD false)
  have up:=fun(hp:aA) (e:hp[h.length]?=some (vA FD aD m))=>yM (kk:=(some 2,[2,0])) (k:=(x.of,x.other)) RS e TS (v:=true) rfl
  have l1:=fun t=>lk (h++vA FD aD m::t) (by simp)
  have u1:=fun t=>up (h++vA FD aD m::t) (by simp)
  have es:(Option.map aD (xB (x.site,x.no) m)).getD (aD false)=AB (decide ((x.site,x.no)∈DC (l.drop (k+1)))):=by
   rw[hm];by_cases e:(x.site,x.no)∈DC (l.drop (k+1)) <;> simp [e,aD]
  simp only[cond_false,es]at l1;have nl0:¬h.length<0:=by omega
  simp only[aD,FD,YB,AV.top,nl0,if_false]at l1 u1;generalize hb:decide ((x.site,x.no)∈DC (l.drop (k+1)))=b at *;generalize hrow:List.replicate (k+1) (SB false)++(ZA (l.drop (k+1))).map SB=row at *;cases b with
  | true=>
   rw[if_neg (by simp)]at us
   simp only[go_sem,c0,ek,hk0,hlt,hg,cx,Ent.pv,splice,l1,lrow,grow,srow,grow2,lrow2,cb,w1];refine⟨(k,m),?_,⟨by dsimp only;omega,by rw[us];exact hm⟩,by dsimp only;omega⟩
   dsimp only;rw[cs,hR2];rfl
  | false=>
   by_cases k7:x.kind=7
   ·rw[if_pos ⟨rfl,k7⟩]at us
    simp only[go_sem,c0,ek,hk0,hlt,hg,cx,Ent.pv,splice,l1,u1,lrow,grow,srow,grow2,lrow2,cb,w1,eq_true k7];refine⟨(k,LC (x.of,x.other) true m),?_,⟨by dsimp only;omega,?_⟩,by dsimp only;omega⟩
    ·dsimp only
     rw[cs,hR2];rfl
    ·rw[us]
     intro j;rw[KO,hm j];by_cases e:j=(x.of,x.other)
     ·simp [e]
     ·rw[if_neg e];simp [e]
   ·rw[if_neg (by simp [k7])]at us
    simp only[go_sem,c0,ek,hk0,hlt,hg,cx,Ent.pv,splice,l1,lrow,grow,srow,grow2,lrow2,cb,w1,k7];refine⟨(k,m),?_,⟨by dsimp only;omega,by rw[us];exact hm⟩,by dsimp only;omega⟩
    dsimp only;rw[cs,hR2];rfl
end Go.Am
end
section
/- Entries followed. -/
open Go
set_option linter.all false
set_option maxRecDepth 100000
namespace Go.Am
variable {h:aA} {K:lA}
attribute [-go_sem] nB QA oB TB
attribute [local go_sem] YC nE uD vD rF tF VE WE HE uF vF wF xF yF zF BF
def Flo.act (S:Flo)(steps:List Nm)(tries:Int)(x:Ent):Int×Flo:=match ixB x.board S.bs with
 | none=>if x.kind=1 then(0,S.enter steps x) else(8,S)
 | some i=>match S.bs[i]? with
  | none=>(8,S)
  | some e=>if x.kind=1 then(6,S) else S.old steps tries x i e.1 e.2
structure FlI (S:Flo) (steps:List Nm) (n:Nat):Prop where
 st:∀e∈S.bs,(e.2.state=1∨e.2.state=2∨e.2.state=3)→e.2.step∈steps
 fl:∀e∈S.bs,0≤e.2.failed∧e.2.failed≤n
 nb:(S.bs.map fun e=>e.1.board).Nodup
 ns:(S.sm.map fun e=>e.1.1).Nodup
 bl:S.bs.length≤n
 rl:S.runs.length≤n
 el:S.ends.length≤n
 fr:S.ref.length≤n
 fw:S.why.length≤n
theorem bT {α:Type}{l:List α}{i:Nat}{a y:α}(h:y∈l.set i a):y∈l∨y=a:=by
 rw[List.mem_iff_getElem?]at h;obtain⟨j,hj⟩:=h;rw[List.getElem?_set]at hj;split at hj
 ·split at hj
  ·right;exact(Option.some.inj hj).symm
  ·cases hj
 ·left;exact List.mem_of_getElem? hj
theorem zp1 {bs:bB}{i:Nat}{e:Ent × Sta}(he:bs[i]?=some e)(s:Sta):(bs.set i (e.1,s)).map (fun e=>e.1.board)=bs.map fun e=>e.1.board:=by
 rw[List.map_set];apply List.ext_getElem?
 intro j;rw[List.getElem?_set];split
 ·rename_i h;subst h
  rw[List.getElem?_map,he];have:i<(bs.map fun e=>e.1.board).length:=by
   rw[List.length_map];rcases Nat.lt_or_ge i bs.length with h|h
   ·exact h
   ·rw[List.getElem?_eq_none h]at he;cases he
  rw[if_pos this];rfl
 ·rfl
theorem FlI.set {S:Flo}{steps:List Nm}{n:Nat}(I:FlI S steps n){i:Nat}{e:Ent × Sta}(he:S.bs[i]?=some e)(s:Sta)(h1:(s.state=1∨s.state=2∨s.state=3)→s.step∈steps)(h2:0≤s.failed∧s.failed≤n+1)
 (S':Flo) (hb:S'.bs=S.bs.set i (e.1,s)) (hn:(S'.sm.map fun e=>e.1.1).Nodup) (hr:S'.runs.length≤n+1) (hl:S'.ends.length≤n+1) (hf:S'.ref=S.ref) (hw:S'.why=S.why):FlI S' steps (n+1) where
 st y hy:=by
  rw[hb]at hy;rcases bT hy with h|h
  ·exact I.st y h
  ·rw[h];exact h1
 fl y hy:=by
  rw[hb]at hy;rcases bT hy with h|h
  ·have:=I.fl y h;omega
  ·rw[h];dsimp only;omega
 nb:=by rw[hb,zp1 he];exact I.nb
 ns:=hn
 bl:=by rw[hb,List.length_set];have:=I.bl;omega
 rl:=hr
 el:=hl
 fr:=by rw[hf];have:=I.fr;omega
 fw:=by rw[hw];have:=I.fw;omega
theorem FlI.up {S:Flo}{steps:List Nm}{n:Nat}(I:FlI S steps n):FlI S steps (n+1):=
 ⟨I.st,fun e he=>by have:=I.fl e he;omega,I.nb,I.ns,by have:=I.bl;omega,by have:=I.rl;omega,by have:=I.el;omega,by have:=I.fr;omega,by have:=I.fw;omega⟩
theorem zd7 {m:RC}{k v:Nm}{c:Nat}(hn:nA (asS m) k=none):asS (m++[((k,v),c)])=JA (asS m) k v∧((m.map fun e=>e.1.1).Nodup→((m++[((k,v),c)]).map fun e=>e.1.1).Nodup):=by
 have ha:(asS m).any (fun e=>decide (e.1=k))=false:=by
  cases h:(asS m).any (fun e=>decide (e.1=k)) with
  | false=>rfl
  | true=>
   exfalso;obtain⟨e,he,hk⟩:=List.any_eq_true.1 h;unfold nA at hn;rw[Option.map_eq_none_iff,List.find?_eq_none]at hn;exact hn e he hk
 constructor
 ·unfold JA
  rw[if_neg (by simp [ha])]
  unfold asS;simp
 ·intro hu
  rw[List.map_append,List.nodup_append];refine⟨hu,by simp,fun a ha2 b hb2 e=>?_⟩
  have hb3:b=k:=by simpa using hb2
  subst hb3;subst e;obtain⟨y,hy,e2⟩:=List.mem_map.1 ha2;have:(asS m).any (fun e=>decide (e.1=a))=true:=List.any_eq_true.2 ⟨y.1,List.mem_map_of_mem hy,by simpa using e2⟩
  rw[ha]at this;cases this
theorem z7T {k:Nm}:∀{bs:bB},ixB k bs=none→k∉bs.map fun e=>e.1.board
 | [],_=>by simp
 | e::r,h=>by
  unfold ixB at h;by_cases hk:k=e.1.board
  ·rw[if_pos hk]at h;cases h
  ·rw[if_neg hk]at h
   have:=z7T (bs:=r) (by simpa using h)
   simp only[List.map_cons,List.mem_cons,not_or];exact⟨hk,this⟩
theorem z3p {S:Flo}{steps:List Nm}{tries:Int}{n:Nat}(I:FlI S steps n)(hst:steps≠[])(x:Ent) :
 (S.act steps tries x).1=(mD steps tries S.P x).2∧(S.act steps tries x).2.P=(mD steps tries S.P x).1∧FlI (S.act steps tries x).2 steps (n+1)∧(S.act steps tries x).2.ref=S.ref∧(S.act steps tries x).2.why=S.why:=by
 obtain⟨g1,g2⟩:=rM x.board S.bs;unfold Flo.act;cases hx:ixB x.board S.bs with
 | none=>
  have hg:nA S.P.bs x.board=none:=g1 hx
  dsimp only;by_cases k1:x.kind=1
  ·rw[if_pos k1]
   unfold mD;rw[if_pos k1,hg];refine⟨rfl,?_,?_,rfl,rfl⟩
   ·unfold Flo.enter Flo.P
    dsimp only;rw[zd5 hx x rfl]
   ·obtain⟨a,r,rfl⟩:∃a r,steps=a::r:=by
     cases steps with
     | nil=>exact absurd rfl hst
     | cons a r=>exact⟨a,r,rfl⟩
    unfold Flo.enter;refine⟨fun e he=>?_,fun e he=>?_,?_,I.ns,?_,by have:=I.rl;dsimp only;omega,by have:=I.el;dsimp only;omega,by have:=I.fr;dsimp only;omega,by have:=I.fw;dsimp only;omega⟩
    ·rcases List.mem_append.1 he with h|h
     ·exact I.st e h
     ·rw[List.mem_singleton.1 h];intro _;simp
    ·rcases List.mem_append.1 he with h|h
     ·have:=I.fl e h;omega
     ·rw[List.mem_singleton.1 h];dsimp only;omega
    ·dsimp only
     rw[List.map_append,List.nodup_append];refine⟨I.nb,by simp,fun a ha b hb e=>?_⟩
     have hb2:b=x.board:=by simpa using hb
     subst hb2;subst e
     exact z7T hx ha
    ·dsimp only;rw[List.length_append];have:=I.bl;simp;omega
  ·rw[if_neg k1]
   unfold mD;rw[if_neg k1,hg];exact⟨rfl,rfl,I.up,rfl,rfl⟩
 | some i=>
  obtain⟨e,he,hk,hg⟩:=g2 i hx;have hg':nA S.P.bs x.board=some e.2:=hg
  have pu:=fun s=>zd6 hx he I.nb s
  have hm:e∈S.bs:=List.mem_of_getElem? he
  have hfl:=I.fl e hm
  have hse:=I.st e hm
  dsimp only;rw[he];dsimp only;unfold mD;by_cases k1:x.kind=1
  ·rw[if_pos k1,if_pos k1,hg']
   exact⟨rfl,rfl,I.up,rfl,rfl⟩
  rw[if_neg k1,if_neg k1,hg'];dsimp only;unfold Flo.old;have rl:=I.rl
  have el:=I.el
  by_cases k2:x.kind=2
  ·rw[if_pos k2,if_pos k2]
   unfold Flo.startR;by_cases h1:e.2.state≠1
   ·rw[if_pos h1,if_pos h1];exact⟨rfl,rfl,I.up,rfl,rfl⟩
   rw[if_neg h1,if_neg h1];by_cases h2:x.step≠e.2.step
   ·rw[if_pos h2,if_pos h2];exact⟨rfl,rfl,I.up,rfl,rfl⟩
   rw[if_neg h2,if_neg h2];have hb:S.P.sites=asS S.sm:=rfl
   rw[hb];by_cases h3:(nA (asS S.sm) x.site).isSome=true
   ·rw[if_pos h3,if_pos h3];exact⟨rfl,rfl,I.up,rfl,rfl⟩
   rw[if_neg h3,if_neg h3];have hn:nA (asS S.sm) x.site=none:=by simpa using h3
   obtain⟨q1,q2⟩:=zd7 (v:=x.board) (c:=S.ck) hn;refine⟨rfl,?_,?_,rfl,rfl⟩
   ·unfold Flo.start Flo.P
    dsimp only;rw[pu,q1]
   ·have hs1:e.2.state=1:=by simpa using h1
    exact I.set he ⟨2,x.time,e.2.step,x.site,e.2.failed⟩ (fun _=>hse (.inl hs1)) (by dsimp only;omega) _ rfl (q2 I.ns) (by unfold Flo.start;dsimp only;rw[List.length_append];simp;omega) (by unfold Flo.start;dsimp only;omega) rfl rfl
  rw[if_neg k2,if_neg k2];by_cases k34:x.kind=3∨x.kind=4
  ·rw[if_pos k34,if_pos k34]
   unfold Flo.finishR;by_cases h1:e.2.state≠2
   ·rw[if_pos h1,if_pos h1];exact⟨rfl,rfl,I.up,rfl,rfl⟩
   rw[if_neg h1,if_neg h1];by_cases h2:e.2.site≠x.site
   ·rw[if_pos h2,if_pos h2];exact⟨rfl,rfl,I.up,rfl,rfl⟩
   rw[if_neg h2,if_neg h2];have hs2:e.2.state=2:=by simpa using h1
   have hin:=hse (.inr (.inl hs2))
   obtain⟨q1,q2⟩:=z5X (m:=S.sm) (k:=e.2.site) I.ns;refine⟨rfl,?_,?_,rfl,rfl⟩
   ·unfold Flo.finish Flo.P
    dsimp only;rw[pu,q1]
   ·refine I.set he (sC steps tries e.2 x.time (decide (x.kind=3))) (fun h=>?_) ?_ _ rfl q2 (by unfold Flo.finish bD;dsimp only;rw[List.length_map];omega) (by unfold Flo.finish;dsimp only;rw[List.length_append];simp;omega) rfl rfl
    ·unfold sC at h ⊢
     by_cases k3:x.kind=3
     ·rw[if_pos (by simp [k3])]at h ⊢
      by_cases hj:steps.findIdx (fun y=>decide (y=e.2.step))+1=steps.length
      ·rw[if_pos hj]at h;dsimp only at h;omega
      ·rw[if_neg hj]
       have jl:steps.findIdx (fun y=>decide (y=e.2.step))<steps.length:=List.findIdx_lt_length_of_exists ⟨e.2.step,hin,by simp⟩
       have jl2:steps.findIdx (fun y=>decide (y=e.2.step))+1<steps.length:=by omega
       dsimp only;rw[List.getElem?_eq_getElem jl2];exact List.getElem_mem jl2
     ·rw[if_neg (by simp [k3])];exact hin
    ·unfold sC
     split
     ·split <;> (dsimp only;omega)
     ·dsimp only;omega
  rw[if_neg k34,if_neg k34];by_cases k5:x.kind=5
  ·rw[if_pos k5,if_pos k5]
   by_cases h1:e.2.state≠3
   ·rw[if_pos h1,if_pos h1];exact⟨rfl,rfl,I.up,rfl,rfl⟩
   rw[if_neg h1,if_neg h1];have hs3:e.2.state=3:=by simpa using h1
   refine⟨rfl,?_,?_,rfl,rfl⟩
   ·unfold Flo.put Flo.P
    dsimp only;rw[pu]
   ·exact I.set he ⟨1,x.time,e.2.step,e.2.site,e.2.failed⟩ (fun _=>hse (.inr (.inr hs3))) (by dsimp only;omega) _ rfl I.ns (by unfold Flo.put;dsimp only;omega) (by unfold Flo.put;dsimp only;omega) rfl rfl
  rw[if_neg k5,if_neg k5];by_cases h45:e.2.state=4∨e.2.state=5
  ·rw[if_pos h45,if_pos h45];exact⟨rfl,rfl,I.up,rfl,rfl⟩
  rw[if_neg h45,if_neg h45];have no5:∀(a:Int) (b c:Nm) (f:Int),((⟨5,a,b,c,f⟩:Sta).state=1∨(⟨5,a,b,c,f⟩:Sta).state=2∨(⟨5,a,b,c,f⟩:Sta).state=3)→b∈steps:=fun a b c f h=>by dsimp only at h;omega
  by_cases h2:e.2.state=2
  ·rw[if_pos h2,if_pos h2]
   obtain⟨q1,q2⟩:=z5X (m:=S.sm) (k:=e.2.site) I.ns;refine⟨rfl,?_,?_,rfl,rfl⟩
   ·unfold Flo.P
    dsimp only;rw[pu,q1]
   ·exact I.set he ⟨5,x.time,e.2.step,[],e.2.failed⟩ (no5 _ _ _ _) (by dsimp only;omega) _ rfl q2 (by unfold bD;dsimp only;rw[List.length_map];omega) (by dsimp only;omega) rfl rfl
  ·rw[if_neg h2,if_neg h2]
   refine⟨rfl,?_,?_,rfl,rfl⟩
   ·unfold Flo.put Flo.P
    dsimp only;rw[pu]
   ·exact I.set he ⟨5,x.time,e.2.step,e.2.site,e.2.failed⟩ (no5 _ _ _ _) (by dsimp only;omega) _ rfl I.ns (by unfold Flo.put;dsimp only;omega) (by unfold Flo.put;dsimp only;omega) rfl rfl
end Go.Am
end
section
/- Entries followed: the walk. -/
open Go
set_option linter.all false
set_option maxRecDepth 100000
namespace Go.Am
variable {h:aA} {K:lA}
attribute [-go_sem] nB QA oB TB
attribute [local go_sem] YC nE uD vD rF tF VE WE HE uF vF wF xF yF zF BF
def upK (l:List Ent)(at_:Int):Nat→Nat
 | 0=>0
 | k+1=>if at_<((l[k]?).map Ent.time).getD 0 then upK l at_ k else k+1
def upL (l:List Ent)(at_:Int):List Ent:=l.take (upK l at_ l.length)
theorem TP (l:List Ent)(at_:Int)(hl:l.length≤1000000):cA X XD [eB l,AI at_] h K=K (eB (upL l at_)) h []:=by
 refine uA ?_;rw[zfG rfl];simp only[jS,go_sem];refine UA (fun k:Nat=>⟨[(0,eB l),(1,AI at_),(5,AI k)],h,[]⟩) (fun k=>k≤l.length∧upK l at_ k=upK l at_ l.length) (fun k=>k) l.length rfl ⟨Nat.le_refl _,rfl⟩ ?_
 rintro k ⟨hk,hp⟩
 have fin:upK l at_ l.length=k→(∀P:Prop,True)→eB (upL l at_)=eB (l.take k):=fun e _=>by unfold upL;rw[e]
 have hw:∀k,win (l.map Ent.pv) 0 k=(l.take k).map Ent.pv:=fun k=>by simp [win,List.map_take]
 cases k with
 | zero=>
  have c0:¬(0:Int)<((0:Nat):Int):=by omega
  have e:=fin hp.symm (fun _=>trivial)
  simp only[go_sem,Int.lt_irrefl,hw,Nat.zero_le,e,c0];first|done|rfl
 | succ k=>
  have hlt:k<l.length:=by omega
  have c0:(0:Int)<((k+1:Nat):Int):=by omega
  have w1:IntKind.i64.wrap (((k+1:Nat):Int)-1)=(k:Int):=by rw[CA _ (by omega) (by omega)];omega
  have hg:=GB Ent.pv hlt
  have ct:VA none 2 (Ent.pv l[k])=some (eI l[k].time):=rfl
  rw[upK,List.getElem?_eq_getElem hlt]at hp;have e0:(Option.map Ent.time (some l[k])).getD 0=l[k].time:=rfl
  rw[e0]at hp;by_cases h1:at_<l[k].time
  ·rw[if_pos h1]at hp
   simp only[go_sem,c0,w1,hlt,hg,ct,h1];exact⟨k,rfl,⟨by omega,hp⟩,by omega⟩
  ·rw[if_neg h1]at hp
   have e:=fin hp.symm (fun _=>trivial)
   have hk':k+1≤l.length:=hk
   simp only[go_sem,c0,w1,hlt,hg,ct,h1,hw,hk',e];first|done|rfl
def eK (S:Flo)(x:Ent):Bool:=(ixB x.board S.bs).isNone&&decide (x.kind=1)
theorem zpf (fb:Obj)(steps:List Nm)(tries:Int)(hst:steps.length≤1000){n:Nat}(hn:n≤1000000)(S:Flo)(I:FlI S steps n)(l:aA)(x:Ent)(hx:eK S x=false) :
 cA X XF [.ref (h.length+7) 0,.p x.pv] (FS h fb steps tries S l) K=K (AI (S.act steps tries x).1) (FS h fb steps tries (S.act steps tries x).2 l) []:=by
 unfold Flo.act;cases hi:ixB x.board S.bs with
 | none=>
  have k1:x.kind≠1:=by
   intro e;unfold eK at hx;rw[hi,e]at hx;simp at hx
  dsimp only;rw[if_neg k1];exact zpd fb steps tries S l x hi k1
 | some i=>
  obtain⟨e,he⟩:=zlI hi;have hm:e∈S.bs:=List.mem_of_getElem? he
  dsimp only;rw[he];dsimp only;by_cases k1:x.kind=1
  ·rw[if_pos k1]
   exact zpg fb steps tries S l x i hi k1
  ·rw[if_neg k1]
   have:=I.fl e hm;have:=I.rl;have:=I.el;exact zpe fb steps tries hst S l i e.1 e.2 x hi he (by omega) (by omega) (fun h2=>I.st e hm (.inr (.inl h2))) (by omega) k1
def Flo.step (S:Flo)(steps:List Nm)(tries:Int)(i:Nat)(x:Ent):Flo:=
 if(S.act steps tries x).1≠0 then { (S.act steps tries x).2 with ref:=(S.act steps tries x).2.ref++[(i:Int)],why:=(S.act steps tries x).2.why++[(S.act steps tries x).1] } else(S.act steps tries x).2
def Flo.go (steps:List Nm)(tries:Int):Flo→Nat→List (Ent×Bool)→Flo
 | S,_,[]=>S
 | S,i,(x,c)::r=>if c=false∨x.kind=7 then Flo.go steps tries S (i+1) r else Flo.go steps tries (S.step steps tries i x) (i+1) r
def yH:Flo:=⟨[],[],0,[],[],[],[]⟩
theorem flI0 (steps:List Nm):FlI yH steps 0:=
 ⟨fun e he=>(by cases he),fun e he=>(by cases he),List.nodup_nil,List.nodup_nil,Nat.le_refl _,Nat.le_refl _,Nat.le_refl _,Nat.le_refl _,Nat.le_refl _⟩
theorem z0J {S:Flo}{steps:List Nm}{tries:Int}{n:Nat}(I:FlI S steps n)(hst:steps≠[])(i:Nat)(x:Ent) :
 FlI (S.step steps tries i x) steps (n+1)∧(S.step steps tries i x).P=(mD steps tries S.P x).1∧(S.step steps tries i x).ref=(if(mD steps tries S.P x).2≠0 then S.ref++[(i:Int)] else S.ref)∧(S.step steps tries i x).why=(if(mD steps tries S.P x).2≠0 then S.why++[(mD steps tries S.P x).2] else S.why):=by
 obtain⟨a1,a2,a3,a4,a5⟩:=z3p (tries:=tries) I hst x;unfold Flo.step;rw[←a1];by_cases h0:(S.act steps tries x).1≠0
 ·rw[if_pos h0,if_pos h0,if_pos h0]
  refine⟨⟨a3.st,a3.fl,a3.nb,a3.ns,a3.bl,a3.rl,a3.el,?_,?_⟩,a2,by dsimp only;rw[a4],by dsimp only;rw[a5]⟩
  ·dsimp only;rw[List.length_append,a4];have:=I.fr;simp;omega
  ·dsimp only;rw[List.length_append,a5];have:=I.fw;simp;omega
 ·rw[if_neg h0,if_neg h0,if_neg h0]
  exact⟨a3,a2,a4,a5⟩
def XB (h:aA):Nat→Esc
 | 0=>[]
 | n+1=>(h.length+1,h.length+(8+3*(n+1)))::XB h n
theorem pH {h:aA}:∀{n:Nat} {y:Nat×Nat},y∈XB h n→y.1=h.length+1∧y.2≤h.length+(8+3*n)
 | 0,y,hy=>by cases hy
 | n+1,y,hy=>by
  rcases List.mem_cons.1 hy with e|e
  ·rw[e];exact⟨rfl,Nat.le_refl _⟩
  ·have:=pH e;omega
theorem z6v (h:aA):∀(n m:Nat),h.length+8≤m→m≤h.length+(8+3*n)→HF (XB h n) m=h.length+(8+3*n)
 | 0,m,h1,h2=>by simp [XB,HF];omega
 | n+1,m,h1,h2=>by
  unfold XB HF;rw[List.foldl_cons,if_pos (by dsimp only;omega)]
  have e:max m (h.length+(8+3*(n+1)))=h.length+(8+3*(n+1)):=by omega
  dsimp only;rw[e];have:∀(x:Esc) (m:Nat),(∀y∈x,y.2≤m)→x.foldl (fun m y=>if y.1<m then max m y.2 else m) m=m:=by
   intro x;induction x with
   | nil=>intro m _;rfl
   | cons y r ih=>
    intro m hm;rw[List.foldl_cons];have h1:=hm y (List.mem_cons_self ..)
    have:(if y.1<m then max m y.2 else m)=m:=by split <;> omega
    rw[this];exact ih m fun z hz=>hm z (List.mem_cons_of_mem _ hz)
  exact this _ _ fun y hy=>by have:=(pH hy).2;omega
theorem znZ {b q n:Nat}{P:lA}{H:aA}(hq:q=b+7)(hH:H.length=b+(8+3*n))(x:Esc)(hx:∃ h:aA,h.length=b∧x=XB h n)(k:P (.ref q 0) H x):CC false b P (some [.ref q 0]) H x:=by
 obtain⟨h,rfl,rfl⟩:=hx;subst hq;have e1:∀m,MA m H (.ref (h.length+7) 0)=some (.ref (h.length+7) 0):=fun m=>by simp [MA]
 have e2:AV.top (.ref (h.length+7) 0)=h.length+8:=by simp [AV.top]
 have e6:dB [AV.ref (h.length+7) 0] = .ref (h.length+7) 0:=rfl
 have e7:max h.length (h.length+8)=h.length+8:=by omega
 have e3:∀c,HF (XB h n) c=h.length+(8+3*n)→close (XB h n).length (XB h n) (h.length+8)=h.length+(8+3*n):=by
  intro c _;have hb:=fun m h1 h2=>z6v h n m h1 h2
  have:∀k m,h.length+8≤m→m≤h.length+(8+3*n)→(m=h.length+(8+3*n)∨1≤k)→close k (XB h n) m=h.length+(8+3*n):=by
   intro k;induction k with
   | zero=>intro m h1 h2 h3;unfold close;omega
   | succ k ih=>
    intro m h1 h2 _;unfold close;rw[hb m h1 h2];exact ih _ (by omega) (Nat.le_refl _) (.inl rfl)
  refine this _ _ (Nat.le_refl _) (by omega) ?_
  cases n with
  | zero=>left;omega
  | succ n=>right;simp [XB]
 have e3':=e3 _ (z6v h n _ (Nat.le_refl _) (by omega))
 have e4:FB (XB h n) (h.length+(8+3*n))=true:=by
  unfold FB;rw[List.all_eq_true];intro y hy;have:=(pH hy).2;simp [this]
 have e5:(XB h n).filter (fun y=>decide (y.1<h.length+(8+3*n)))=XB h n:=by
  rw[List.filter_eq_self];intro y hy;have:=(pH hy).1;simp;omega
 have e8:H.take (h.length+(8+3*n))=H:=List.take_of_length_le (by omega)
 simp only[CC,e6,e1,e2,e7,e3',e4,e5,e8,if_true];exact⟨by omega,k⟩
theorem ZU (fb:Obj)(steps:List Nm)(tries:Int)(S:Flo)(l:aA):(FS h fb steps tries S l).length=h.length+(8+3*S.bs.length+l.length):=by unfold FS;rw[YC,nD]
end Go.Am
end
section
/- Entries followed: the walk,all. -/
open Go
set_option linter.all false
set_option maxRecDepth 100000
namespace Go.Am
variable {h:aA} {K:lA}
attribute [-go_sem] nB QA oB TB
attribute [local go_sem] YC nE uD vD rF tF VE WE HE uF vF wF xF yF zF BF
abbrev EB (steps:List Nm)(tries:Int):AV:=.p (.agg [.sl none (steps.map .str),eI tries])
def flB (steps:List Nm)(tries:Int):Obj:=.box [TA steps,AI tries]
def WC (l:List Ent):List (Ent×Bool):=l.zip (ZA l)
theorem gJ (l:List Ent):(WC l).length=l.length:=by unfold WC;rw[List.length_zip,aF];simp
theorem TU {l:List Ent}{k:Nat}(hk:k<l.length):(WC l)[k]'(by rw[gJ];exact hk)=(l[k],(ZA l)[k]'(by rw[aF];exact hk)):=by unfold WC;rw[List.getElem_zip]
theorem zdr {S:Flo}{steps:List Nm}{tries:Int}{x:Ent}(hx:eK S x=false):(S.act steps tries x).2.bs.length=S.bs.length:=by
 unfold Flo.act;cases hi:ixB x.board S.bs with
 | none=>
  have k1:x.kind≠1:=by
   intro e;unfold eK at hx;rw[hi,e]at hx;simp at hx
  dsimp only;rw[if_neg k1]
 | some i=>
  dsimp only;cases S.bs[i]? with
  | none=>rfl
  | some e=>
   dsimp only;split
   ·rfl
   ·unfold Flo.old Flo.startR Flo.start Flo.finishR Flo.finish Flo.put
    split
    ·split
     ·rfl
     split
     ·rfl
     split
     ·rfl
     ·simp
    split
    ·split
     ·rfl
     split
     ·rfl
     ·simp
    split
    ·split
     ·rfl
     ·simp
    split
    ·rfl
    split
    ·simp
    ·simp
abbrev lB (steps:List Nm)(tries:Int)(l:List Ent):Flo:=Flo.go steps tries yH 0 (WC l)
set_option maxHeartbeats 8000000 in
theorem OP (steps:List Nm)(tries:Int)(h1:steps.length≤1000)(h0:steps≠[])(l:List Ent)(hl:l.length≤1000) :
 cA X FC [EB steps tries,eB l] h K=K (.ref (h.length+7) 0) (FS h (flB steps tries) steps tries (lB steps tries l) []) (XB h (lB steps tries l).bs.length):=by
 refine uA ?_;rw[zfB rfl];have cnt:=fun h K=>zoG (h:=h) (K:=K) l (by omega)
 simp only[fS,go_sem,↓cnt,cnt];have hF0:Flo.go steps tries yH 0 ((WC l).drop 0)=lB steps tries l:=rfl
 generalize lB steps tries l=F at *;refine UA (fun t:Nat×Flo=>⟨[(5,.ref (h.length+7) 0),(6,.p (.sl none ((ZA l).map SB))),(17,eB l),(18,AI l.length),(19,AI t.1)],FS h (flB steps tries) steps tries t.2 [],XB h t.2.bs.length⟩)
  (fun t=>t.1≤l.length∧Flo.go steps tries t.2 t.1 ((WC l).drop t.1)=F∧FlI t.2 steps t.1) (fun t=>l.length-t.1) (0,yH) ?_ ⟨Nat.zero_le _,hF0,flI0 steps⟩ ?_
 ·rfl
 rintro⟨k,S⟩ ⟨hk,hp,I⟩
 dsimp only at hk hp I ⊢;rcases Nat.lt_or_ge k l.length with hlt|hge
 ·have w1:IntKind.i64.wrap ((k:Int)+1)=((k+1:Nat):Int):=CA _ (by omega) (by omega)
  have hkc:k<(ZA l).length:=by rw[aF];exact hlt
  have hg:=GB Ent.pv hlt
  have hc:=GB SB hkc
  have cx:=oH (x:=l[k])
  have cc:∀b:Bool,VA none 0 (SB b)=some (SB b):=fun _=>rfl
  have hzl:k<(WC l).length:=by rw[gJ];exact hlt
  rw[List.drop_eq_getElem_cons hzl,TU hlt]at hp;unfold Flo.go at hp;generalize (ZA l)[k]=c at *;generalize hx:l[k]=x at *;have lenS:=ZU (h:=h) (flB steps tries) steps tries S []
  simp only[List.length_nil,Nat.add_zero]at lenS;have app0:∀(S:Flo) (l2:aA),FS h (flB steps tries) steps tries S []++l2=FS h (flB steps tries) steps tries S l2:=fun S l2=>by unfold FS;rw[nE];rfl
  have gt:∀(o:Obj),(FS h (flB steps tries) steps tries S [o])[h.length+(8+3*S.bs.length)]?=some o:=fun o=>by unfold FS;exact tl1 (l:=[])
  have st:∀(o o':Obj),(FS h (flB steps tries) steps tries S [o]).set (h.length+(8+3*S.bs.length)) o'=FS h (flB steps tries) steps tries S [o']:=fun o o'=>by
   unfold FS;have:=fQ (h:=h) (B:=BA S.bs) (l:=[o]) (o:=o') (o0:=flB steps tries) (o1:=vA PV.str VB (tB (h.length+8) S.bs)) (o2:=dC S.sm S.ck) (o3:=.row (some 5) (S.ends.map EndP.pv) 0) (o4:=.row (some 3) (S.runs.map RunP.pv) 0) (o5:=.row none (S.ref.map eI) 0) (o6:=.row none (S.why.map eI) 0) (o7:=wbx h steps tries S.ends.length S.runs.length S.ref.length S.why.length) 0;rw[nD]at this;exact this
  have tk0:∀(o:Obj),(FS h (flB steps tries) steps tries S [o]).take (h.length+(8+3*S.bs.length))=FS h (flB steps tries) steps tries S []:=fun o=>RN (h:=h) (flB steps tries) steps tries S [] [o]
  have f1:h.length+7+1≤h.length+(8+3*S.bs.length):=by omega
  by_cases hskip:c=false∨x.kind=7
  ·rw[if_pos hskip]at hp
   rcases hskip with e|e
   ·subst e
    simp only[go_sem,hlt,hg,hc,cx,cc,Ent.pv,lenS,app0,gt,st,splice,w1,tk0,f1];exact⟨(k+1,S),rfl,⟨by dsimp only;omega,hp,I.up⟩,by dsimp only;omega⟩
   ·cases c with
    | false=>
     simp only[go_sem,hlt,hg,hc,cx,cc,Ent.pv,lenS,app0,gt,st,splice,w1,tk0,f1];exact⟨(k+1,S),rfl,⟨by dsimp only;omega,hp,I.up⟩,by dsimp only;omega⟩
    | true=>
     simp only[go_sem,hlt,hg,hc,cx,cc,Ent.pv,lenS,app0,gt,st,splice,w1,tk0,f1,eq_true e];exact⟨(k+1,S),rfl,⟨by dsimp only;omega,hp,I.up⟩,by dsimp only;omega⟩
  ·rw[if_neg hskip]at hp
   rw[not_or]at hskip;have c1:c=true:=by simpa using hskip.1
   have k7:=hskip.2
   subst c1;obtain⟨I2,_⟩:=z0J (tries:=tries) I h0 k x;by_cases hnew:eK S x=true
   ·unfold eK at hnew
    rw[Bool.and_eq_true,Option.isNone_iff_eq_none]at hnew;obtain⟨n1,n2⟩:=hnew;have n2:x.kind=1:=by simpa using n2
    have ea:S.act steps tries x=(0,S.enter steps x):=by unfold Flo.act;rw[n1];dsimp only;rw[if_pos n2]
    have es:S.step steps tries k x=S.enter steps x:=by unfold Flo.step;rw[ea];exact if_neg (by simp)
    rw[es]at hp I2;have tkN:=fun K=>zpc (h:=h) (K:=K) (flB steps tries) steps tries h0 S x n1 n2
    simp only[Ent.pv,Ent.bx]at tkN;have lenE:(S.enter steps x).bs.length=S.bs.length+1:=by unfold Flo.enter;simp
    have tkE:(FS h (flB steps tries) steps tries (S.enter steps x) []).take (h.length+(8+3*(S.bs.length+1)))=FS h (flB steps tries) steps tries (S.enter steps x) []:=by
     have:=RN (h:=h) (flB steps tries) steps tries (S.enter steps x) [] [];rw[lenE]at this;exact this
    have mx:max (h.length+(8+3*S.bs.length)) (h.length+(8+3*(S.bs.length+1)))=h.length+(8+3*(S.bs.length+1)):=by omega
    have tr:∀(x0:Esc) (e:List (Nat×AV)) (H:aA),gE (h.length+(8+3*S.bs.length)) x0 ⟨e,H,[(h.length+1,h.length+(8+3*(S.bs.length+1)))]⟩=⟨JF (h.length+(8+3*(S.bs.length+1))) e,H.take (h.length+(8+3*(S.bs.length+1))),(h.length+1,h.length+(8+3*(S.bs.length+1)))::x0⟩:=fun x0 e H=>by rw[zqx (by omega),mx]
    have f2:h.length+7+1≤h.length+(8+3*(S.bs.length+1)):=by omega
    simp only[go_sem,hlt,hg,hc,cx,cc,Ent.pv,lenS,app0,gt,st,splice,w1,k7,↓tkN,tkN,tr,tkE,f2];exact⟨(k+1,S.enter steps x),by dsimp only;rw[lenE];rfl,⟨by dsimp only;omega,hp,I2⟩,by dsimp only;omega⟩
   ·have hnew:eK S x=false:=by simpa using hnew
    have tkO:=fun K=>zpf (h:=h) (K:=K) (flB steps tries) steps tries h1 (n:=k) (by omega) S I [x.bx] x hnew
    have lenA:(S.act steps tries x).2.bs.length=S.bs.length:=zdr hnew
    simp only[Ent.pv,Ent.bx]at tkO;obtain⟨_,_,I3,a4,a5⟩:=z3p (tries:=tries) I h0 x;have fr:=I3.fr
    have fw:=I3.fw
    unfold Flo.step at hp I2;generalize S.act steps tries x=R at *;obtain⟨e,S2⟩:=R;dsimp only at *;have tk2:∀(o:Obj),(FS h (flB steps tries) steps tries S2 [o]).take (h.length+(8+3*S.bs.length))=FS h (flB steps tries) steps tries S2 []:=fun o=>by
     have:=RN (h:=h) (flB steps tries) steps tries S2 [] [o];rw[lenA]at this;exact this
    by_cases e0:e=0
    ·rw[if_neg (by simp [e0])]at hp I2
     simp only[go_sem,hlt,hg,hc,cx,cc,Ent.pv,lenS,app0,gt,st,splice,w1,k7,↓tkO,tkO,eq_true e0,tk2,f1];exact⟨(k+1,S2),by dsimp only;rw[lenA],⟨by dsimp only;omega,hp,I2⟩,by dsimp only;omega⟩
    ·rw[if_pos e0]at hp I2
     obtain⟨bs2,sm2,ck2,ends2,runs2,ref2,why2⟩:=S2;dsimp only at *;have m1:ref2.length+1≤cB:=by unfold cB;omega
     have m2:why2.length+1≤cB:=by unfold cB;omega
     have e5:=fun n o m=>esc7 h 5 n o m (by decide)
     have e6:=fun n o m=>esc7 h 6 n o m (by decide)
     have tkF:∀(o0 o1 o2 o3 o4 o5 o6 o7 b:Obj),(FH h o0 o1 o2 o3 o4 o5 o6 o7 (BA bs2) [b]).take (h.length+(8+3*S.bs.length))=FH h o0 o1 o2 o3 o4 o5 o6 o7 (BA bs2) []:=fun o0 o1 o2 o3 o4 o5 o6 o7 b=>by
      have:=VG (h:=h) (o0:=o0) (o1:=o1) (o2:=o2) (o3:=o3) (o4:=o4) (o5:=o5) (o6:=o6) (o7:=o7) (B:=BA bs2) (l:=[b]) 0;rw[nD,lenA]at this;exact this
     have eS:∀l,FS h (flB steps tries) steps tries ⟨bs2,sm2,ck2,ends2,runs2,ref2,why2⟩ l=FH h (flB steps tries) (vA PV.str VB (tB (h.length+8) bs2)) (dC sm2 ck2) (.row (some 5) (ends2.map EndP.pv) 0) (.row (some 3) (runs2.map RunP.pv) 0) (.row none (ref2.map eI) 0) (.row none (why2.map eI) 0)
      (.box [TA steps,AI tries,.mp (h.length+1),.mp (h.length+2),.own (h.length+3) ends2.length 0 ends2.length,.own (h.length+4) runs2.length 0 runs2.length,.own (h.length+5) ref2.length 0 ref2.length,.own (h.length+6) why2.length 0 why2.length]) (BA bs2) l:=fun l=>rfl
     simp only[eS]at tkO;simp only[go_sem,hlt,hg,hc,cx,cc,Ent.pv,lenS,app0,gt,st,splice,w1,k7,↓tkO,tkO,e0,tkF,f1,m1,m2,e5,e6];refine⟨(k+1,⟨bs2,sm2,ck2,ends2,runs2,ref2++[(k:Int)],why2++[e]⟩),?_,⟨by dsimp only;omega,hp,I2⟩,by dsimp only;omega⟩
     dsimp only;rw[lenA];unfold FS wbx;simp only[List.map_append,List.length_append,List.map_cons,List.map_nil,List.length_cons,List.length_nil,Nat.zero_add]
 ·have ek:k=l.length:=by omega
  subst ek;rw[show(WC l).drop l.length=[] from List.drop_of_length_le (by rw[gJ];exact Nat.le_refl _)]at hp
  unfold Flo.go at hp;subst hp;have fl:h.length+7+1≤(FS h (flB steps tries) steps tries S []).length:=by rw[ZU];omega
  simp only[go_sem,Nat.lt_irrefl,fl];refine znZ (n:=S.bs.length) (H:=FS h (flB steps tries) steps tries S []) rfl (ZU (flB steps tries) steps tries S []) _ ⟨h,rfl,rfl⟩ ?_;exact⟨rfl,rfl,rfl⟩
end Go.Am
end
section
/- Flows;what is refused;the status of a board: the program. -/
open Go
set_option linter.all false
set_option maxRecDepth 100000
namespace Go.Am
variable {h:aA} {K:lA}
attribute [-go_sem] nB QA oB TB
attribute [local go_sem] YC nE uD vD rF tF VE WE HE uF vF wF xF yF zF BF
def YF:List Nm→List Nm→Int
 | _,[]=>0
 | pre,s::r=>if mB s=false then 5 else if pre.contains s=true then 6 else YF (pre++[s]) r
def gF (steps:List Nm)(tries:Int):Int:=if steps.length=0 then 8 else if(20:Int)<steps.length then 2 else if YF [] steps≠0 then YF [] steps else if inB 1 tries 10=false then 1 else 0
attribute [-go_sem] ZY
theorem zon (steps:List Nm)(tries:Int)(hl:steps.length≤1000)(hk:∀ s∈steps,s.length≤1000000):cA X QJ [EB steps tries] h K=K (AI (gF steps tries)) h []:=by
 refine uA ?_;rw[zfv rfl];unfold gF;by_cases h0:steps.length=0
 ·have h0':(steps.length:Int)=0:=by omega
  simp only[XK,go_sem,eq_true h0',h0]
 have h0':¬(steps.length:Int)=0:=by omega
 by_cases h1:(20:Int)<steps.length
 ·simp only[XK,go_sem,h0',h0,h1]
 simp only[XK,go_sem,h0',h0,h1];refine UA (fun k:Nat=>⟨[(1,.ref h.length 0),(16,TA steps),(17,AI steps.length),(18,AI k)],h++[.box [TA steps,AI tries]],[]⟩) (fun k=>k≤steps.length∧YF (steps.take k) (steps.drop k)=YF [] steps) (fun k=>steps.length-k) 0 rfl ⟨by omega,rfl⟩ ?_
 rintro k ⟨hkl,hp⟩
 rcases Nat.lt_or_ge k steps.length with hlt|hge
 ·have hg:=GB PV.str hlt
  have cw:∀v:List UInt8,VA none 0 (PV.str v)=some (PV.str v):=fun _=>rfl
  have w2:IntKind.i64.wrap ((k:Int)+1)=((k+1:Nat):Int):=CA _ (by omega) (by omega)
  have ky:=fun h K=>CN (h:=h) (K:=K) steps[k] (by have:=hk _ (List.getElem_mem hlt);omega)
  have ct:=fun h K=>eQ (h:=h) (K:=K) (steps.take k) (fun h' _=>KN _) steps[k] (by simp;omega)
  have hw:win (steps.map PV.str) 0 k=(steps.take k).map PV.str:=by simp [win,List.map_take]
  have hk2:k≤steps.length:=by omega
  rw[List.drop_eq_getElem_cons hlt,YF]at hp;cases h2:mB steps[k]with
  | false=>
   rw[if_pos h2]at hp;simp only[go_sem,hlt,hg,cw,↓ky,ky,h2];rw[←hp];first|done|rfl
  | true=>
   rw[if_neg (by simp [h2])]at hp
   cases h3:(steps.take k).contains steps[k]with
   | true=>
    rw[if_pos h3]at hp;rw[h3]at ct;simp only[go_sem,hlt,hg,cw,↓ky,ky,h2,hw,hk2,↓ct,ct];rw[←hp];first|done|rfl
   | false=>
    rw[if_neg (by rw[h3];simp),←List.take_succ_eq_append_getElem hlt]at hp
    rw[h3]at ct;simp only[go_sem,hlt,hg,cw,↓ky,ky,h2,hw,hk2,↓ct,ct,w2];exact⟨k+1,rfl,⟨by omega,hp⟩,by omega⟩
 ·have ek:k=steps.length:=by omega
  subst ek;rw[List.drop_length]at hp;have hz:YF [] steps=0:=by rw[←hp];rfl
  rw[if_neg (by simp [hz])]
  simp only[go_sem,Nat.lt_irrefl];rw[ZY];cases h4:inB 1 tries 10 with
  | false=>simp only[WR,go_sem,AE,h4];first|done|rfl
  | true=>simp only[WR,go_sem,AE,h4];first|done|rfl
def TI (n:Int):Int:=if OE n=true then 0 else 1
theorem zoQ (n:Int):cA X YJ [AI n] h K=K (AI (TI n)) h []:=by
 refine uA ?_;rw[zfC rfl];unfold TI;cases h1:OE n with
 | false=>simp only[gS,go_sem,MH,h1,Bool.false_eq_true]
 | true=>simp only[gS,go_sem,MH,h1]
def OB (steps:List Nm)(tries:Int)(l:List Ent)(at_:Int):Int:=orL [gF steps tries,oD l,TI at_]
structure StOk (steps:List Nm) (l:List Ent):Prop where
 n:steps.length≤1000
 k:∀s∈steps,s.length≤1000000
 e:∀x∈l,EntOk x
 l:l.length≤1000
theorem NP (steps:List Nm)(tries:Int)(l:List Ent)(O:StOk steps l)(at_:Int):cA X WD [EB steps tries,eB l,AI at_] h K=K (AI (OB steps tries l at_)) h []:=by
 refine uA ?_;rw[zf4 rfl];have q1:=fun h K=>zon (h:=h) (K:=K) steps tries O.n O.k
 have q2:=fun h K=>zom (h:=h) (K:=K) l O.e (by have:=O.l;omega)
 have q3:=fun h K=>zoQ (h:=h) (K:=K) at_
 have q4:=fun h K=>zoz (h:=h) (K:=K) [gF steps tries,oD l,TI at_] (by simp)
 simp only[AL,List.map_cons,List.map_nil]at q4;simp only[KY,go_sem,↓q1,q1,↓q2,q2,↓q3,q3,↓q4,q4];rfl
def fE:Sta:=⟨0,0,[],[],0⟩
def ofP (steps:List Nm)(tries:Int)(l:List Ent)(board:Nm)(at_:Int):Sta×Int:=
 if OB steps tries l at_≠0 then(fE,OB steps tries l at_) else if mB board=false then(fE,5) else match nA (asA (lB steps tries (upL l at_)).bs) board with
 | none=>(fE,8)
 | some s=>(s,0)
theorem EE {steps:List Nm}{l:List Ent}(O:StOk steps l)(at_:Int):StOk steps (upL l at_):=
 ⟨O.n,O.k,fun x hx=>O.e x (List.mem_of_mem_take hx),by unfold upL;rw[List.length_take];have:=O.l;omega⟩
theorem II {steps:List Nm}{tries:Int}{l:List Ent}{at_:Int}(h:OB steps tries l at_=0):steps≠[]:=by
 intro e;subst e;unfold OB at h;have:gF [] tries=8:=rfl
 rw[this]at h;simp [orL]at h
set_option maxHeartbeats 4000000 in
theorem s_Of (steps:List Nm)(tries:Int)(l:List Ent)(O:StOk steps l)(board:Nm)(hb:board.length≤1000000)(at_:Int) :
 cA X GI [EB steps tries,eB l,AS board,AI at_] h K=K (.tup [.p (ofP steps tries l board at_).1.pv,AI (ofP steps tries l board at_).2]) h []:=by
 refine uA ?_;rw[zfx rfl];have q1:=fun h K=>NP (h:=h) (K:=K) steps tries l O at_
 have q2:=fun h K=>CN (h:=h) (K:=K) board (by omega)
 have q3:=fun h K=>TP (h:=h) (K:=K) l at_ (by have:=O.l;omega)
 unfold ofP;by_cases h0:OB steps tries l at_=0
 case neg=>
  rw[if_pos h0];simp only[YK,go_sem,↓q1,q1,h0,splice];first|done|rfl
 rw[if_neg (by simp [h0])]
 cases h1:mB board with
 | false=>
  rw[if_pos rfl];simp only[YK,go_sem,↓q1,q1,h0,↓q2,q2,h1,splice];first|done|rfl
 | true=>
  rw[if_neg (by simp)]
  have q4:=fun h K=>OP (h:=h) (K:=K) steps tries O.n (II h0) (upL l at_) (EE O at_).l
  have lk:=fun(h:aA) (o0 o2 o3 o4 o5 o6 o7:Obj) (B l2:aA)=>uM (h:=h) (lB steps tries (upL l at_)) board o0 o2 o3 o4 o5 o6 o7 B l2
  obtain⟨g1,g2⟩:=rM board (lB steps tries (upL l at_)).bs;generalize lB steps tries (upL l at_)=F at *;obtain⟨g,hg⟩:∃g,h++[Obj.box [TA steps,AI tries],.box [AI 0,AI 0,AS [],AS [],AI 0]]=g:=⟨_,rfl⟩;have gl:g.length=h.length+2:=by rw[←hg];simp
  have q5:=fun K=>q4 (h++[Obj.box [TA steps,AI tries],.box [AI 0,AI 0,AS [],AS [],AI 0]]) K
  have q6:∀K,cA X FC [EB steps tries,eB (upL l at_)] (h++[Obj.box [TA steps,AI tries],.box [AI 0,AI 0,AS [],AS [],AI 0]]) K=K (.ref (g.length+7) 0) (FS g (flB steps tries) steps tries F []) (XB g F.bs.length):=fun K=>by rw[q5,hg]
  have ex:∀y∈XB g F.bs.length,h.length≤y.1:=fun y hy=>by have:=(pH hy).1;omega
  have sp:∀(o0 o1 o2 o3 o4 o5 o6 o7 o:Obj) (B l2:aA),(FH g o0 o1 o2 o3 o4 o5 o6 o7 B l2).set (h.length+1) o=h++Obj.box [TA steps,AI tries]::o::o0::o1::o2::o3::o4::o5::o6::o7::(B++l2):=fun o0 o1 o2 o3 o4 o5 o6 o7 o B l2=>by
   rw[←hg];unfold FH
   rw[List.append_assoc,List.set_append_right _ _ (by omega)]
   simp
  have gp:∀(o0 o1 o2 o3 o4 o5 o6 o7:Obj) (B l2:aA),(FH g o0 o1 o2 o3 o4 o5 o6 o7 B l2)[h.length+1]?=some (.box [AI 0,AI 0,AS [],AS [],AI 0]):=fun o0 o1 o2 o3 o4 o5 o6 o7 B l2=>by
   rw[←hg];unfold FH
   rw[List.append_assoc,List.getElem?_append_right (by omega)]
   simp
  unfold FS wbx at q6;cases hi:ixB board F.bs with
  | none=>
   rw[g1 hi];rw[hi]at lk;dsimp only at lk ⊢;simp only[YK,go_sem,↓q1,q1,h0,↓q2,q2,h1,↓q3,q3,↓q6,q6,splice,lk,sp,gp];rw[tK (v:=.tup [.p fE.pv,AI 8]) ex (by simp [MA,fD,dB,Sta.pv,fE]) (by simp [AV.top,AV.tops])]
   exact⟨rfl,by simp,rfl⟩
  | some i=>
   obtain⟨e,he,_,hq⟩:=g2 i hi;rw[hq];rw[hi]at lk;have gq:=fun(o0 o1 o2 o3 o4 o5 o6 o7:Obj) (l2:aA)=>kJ (h:=g) (o0:=o0) (o1:=o1) (o2:=o2) (o3:=o3) (o4:=o4) (o5:=o5) (o6:=o6) (o7:=o7) (l:=l2) he
   unfold Sta.bx at gq;dsimp only at lk ⊢;simp only[YK,go_sem,↓q1,q1,h0,↓q2,q2,h1,↓q3,q3,↓q6,q6,splice,lk,sp,gp,gq];rw[tK (v:=.tup [.p e.2.pv,AI 0]) ex (by simp [MA,fD,dB,Sta.pv]) (by simp [AV.top,AV.tops])]
   exact⟨rfl,by simp,rfl⟩
theorem zob {b i j n m:Nat}{e:Int}{P:lA}{H:aA}{x:Esc}{xs ys:List PV}(hx:∀ y∈x,b≤y.1)(hi:b≤i)(hj:b≤j)(gi:H[i]?=some (.row none xs 0))(gj:H[j]?=some (.row none ys 0))(hn:n=xs.length)(hm:m=ys.length)
 (k:P (.tup [.p (.sl none xs),.p (.sl none ys),AI e]) (H.take b) []):CC false b P (some [.own i n 0 n,.own j m 0 m,AI e]) H x:=by
 subst hn hm;have w1:win xs 0 xs.length=xs:=pF rfl
 have w2:win ys 0 ys.length=ys:=pF rfl
 have r1:rd H (.own i xs.length 0 xs.length)=some (none,xs):=by simp [rd,gi,w1]
 have r2:rd H (.own j ys.length 0 ys.length)=some (none,ys):=by simp [rd,gj,w2]
 rw[tK (v:=.tup [.p (.sl none xs),.p (.sl none ys),AI e]) hx (by simp [MA,fD,dB,hi,hj,r1,r2]) (by simp [AV.top,AV.tops])]
 exact k
def ZI (steps:List Nm)(tries:Int)(l:List Ent)(at_:Int):List Int×List Int×Int:=
 if OB steps tries l at_≠0 then([],[],OB steps tries l at_) else((lB steps tries (upL l at_)).ref,(lB steps tries (upL l at_)).why,0)
set_option maxHeartbeats 4000000 in
theorem zo4 (steps:List Nm)(tries:Int)(l:List Ent)(O:StOk steps l)(at_:Int) :
 cA X eM [EB steps tries,eB l,AI at_] h K=K (.tup [AL (ZI steps tries l at_).1,AL (ZI steps tries l at_).2.1,AI (ZI steps tries l at_).2.2]) h []:=by
 refine uA ?_;rw[zfy rfl];have q1:=fun h K=>NP (h:=h) (K:=K) steps tries l O at_
 have q3:=fun h K=>TP (h:=h) (K:=K) l at_ (by have:=O.l;omega)
 unfold ZI;by_cases h0:OB steps tries l at_=0
 case neg=>
  rw[if_pos h0];simp only[YR,go_sem,↓q1,q1,h0];first|done|rfl
 rw[if_neg (by simp [h0])]
 have q4:=fun h K=>OP (h:=h) (K:=K) steps tries O.n (II h0) (upL l at_) (EE O at_).l
 generalize lB steps tries (upL l at_)=F at *;obtain⟨g,hg⟩:∃g,h++[Obj.box [TA steps,AI tries]]=g:=⟨_,rfl⟩;have gl:g.length=h.length+1:=by rw[←hg];simp
 have q5:=fun K=>q4 (h++[Obj.box [TA steps,AI tries]]) K
 have q6:∀K,cA X FC [EB steps tries,eB (upL l at_)] (h++[Obj.box [TA steps,AI tries]]) K=K (.ref (g.length+7) 0) (FS g (flB steps tries) steps tries F []) (XB g F.bs.length):=fun K=>by rw[q5,hg]
 have ex:∀y∈XB g F.bs.length,h.length≤y.1:=fun y hy=>by have:=(pH hy).1;omega
 unfold FS wbx at q6;simp only[YR,go_sem,↓q1,q1,h0,↓q3,q3,↓q6,q6];refine zob ex (by omega) (by omega) VE WE (by simp) (by simp) ⟨rfl,?_,rfl⟩
 rw[←hg];unfold FH
 rw[List.append_assoc,List.take_left]
end Go.Am
end
section
/- Which boards run,by site: the program. -/
open Go
set_option linter.all false
set_option maxRecDepth 100000
namespace Go.Am
variable {h:aA} {K:lA}
structure SmI (S:Flo) (n:Nat):Prop where
 bn:(S.sm.map (·.2)).Nodup
 bl:∀e∈S.sm,e.2<S.ck
 ln:S.sm.length≤n
 kl:∀e∈S.sm,e.1.1.length≤1000000
theorem smI0:SmI yH 0:=⟨List.nodup_nil,fun e he=>(by cases he),Nat.le_refl _,fun e he=>(by cases he)⟩
theorem SmI.sub {S S':Flo}{n:Nat}(I:SmI S n)(h:S'.sm.Sublist S.sm)(hc:S'.ck=S.ck):SmI S' (n+1):=
 ⟨I.bn.sublist (h.map _),fun e he=>by rw[hc];exact I.bl e (h.subset he),by have:=h.length_le;have:=I.ln;omega,fun e he=>I.kl e (h.subset he)⟩
theorem zgt (m:RC)(k:Nm):(bF m k).Sublist m:=by
 unfold bF;split
 ·exact List.eraseIdx_sublist ..
 ·exact List.Sublist.refl _
theorem zpA {S:Flo}{n:Nat}(I:SmI S n)(steps:List Nm)(tries:Int){x:Ent}(hx:x.site.length≤1000000):SmI (S.act steps tries x).2 (n+1):=by
 have hs:∀i x0 st,SmI (S.start i x0 st x) (n+1):=fun i x0 st=>by
  refine⟨?_,fun e he=>?_,?_,fun e he=>?_⟩
  ·show((S.sm++[((x.site,x.board),S.ck)]).map (·.2)).Nodup
   rw[List.map_append,List.nodup_append];refine⟨I.bn,by simp,fun a ha b hb=>?_⟩
   obtain⟨e,he,rfl⟩:=List.mem_map.1 ha;have:=I.bl e he;simp at hb;omega
  ·show e.2<S.ck+1
   rcases List.mem_append.1 he with he|he
   ·have:=I.bl e he;omega
   ·simp at he;subst he;exact Nat.lt_succ_self _
  ·show(S.sm++_).length≤n+1
   have:=I.ln;simp;omega
  ·rcases List.mem_append.1 he with he|he
   ·exact I.kl e he
   ·simp at he;subst he;exact hx
 unfold Flo.act Flo.old Flo.startR Flo.finishR;repeat' split
 all_goals first|exact hs _ _ _|exact I.sub (List.Sublist.refl _) rfl|exact I.sub (zgt _ _) rfl
theorem zpB {S:Flo}{n:Nat}(I:SmI S n)(steps:List Nm)(tries:Int)(i:Nat){x:Ent}(hx:x.site.length≤1000000):SmI (S.step steps tries i x) (n+1):=by
 have J:=zpA I steps tries hx
 unfold Flo.step;split
 ·exact⟨J.bn,J.bl,J.ln,J.kl⟩
 ·exact J
theorem SmI.up {S:Flo}{n:Nat}(I:SmI S n):SmI S (n+1):=I.sub (List.Sublist.refl _) rfl
theorem z0I (steps:List Nm)(tries:Int)(h0:steps≠[]):∀(l:List (Ent×Bool)) (S:Flo) (i n:Nat),FlI S steps n→SmI S n→(∀y∈l,y.1.site.length≤1000000) →
 FlI (Flo.go steps tries S i l) steps (n+l.length)∧SmI (Flo.go steps tries S i l) (n+l.length)
 | [],S,i,n,I,J,_=>⟨I,J⟩
 | (x,c)::r,S,i,n,I,J,hx=>by
  have e1:Flo.go steps tries S i ((x,c)::r)=if c=false∨x.kind=7 then Flo.go steps tries S (i+1) r else Flo.go steps tries (S.step steps tries i x) (i+1) r:=rfl
  rw[e1,List.length_cons,show n+(r.length+1)=(n+1)+r.length by omega]
  have hr:=fun y hy=>hx y (List.mem_cons_of_mem (x,c) hy)
  by_cases hs:c=false∨x.kind=7
  ·rw[if_pos hs]
   exact z0I steps tries h0 r S (i+1) (n+1) I.up J.up hr
  ·rw[if_neg hs]
   exact z0I steps tries h0 r _ (i+1) (n+1) (z0J (tries:=tries) I h0 i x).1 (zpB J steps tries i (hx (x,c) (List.mem_cons_self ..))) hr
theorem bK {steps:List Nm}(tries:Int)(h0:steps≠[]){l:List Ent}(hl:∀ x∈l,x.site.length≤1000000):FlI (lB steps tries l) steps l.length∧SmI (lB steps tries l) l.length:=by
 have:=z0I steps tries h0 (WC l) yH 0 0 (flI0 steps) smI0 (fun y hy=>hl y.1 (List.of_mem_zip hy).1)
 rw[gJ,Nat.zero_add]at this;exact this
def aP (m:RC):List ME:=m.map fun e=>⟨.str e.1.1,AS e.1.2,e.2⟩
theorem z7W:∀ m:RC,sM (aP m)=some (m.map fun e=>e.1.1)
 | []=>rfl
 | e::r=>by
  have ih:=z7W r
  unfold aP at ih ⊢;simp only[List.map_cons,sM,ih,Option.map_some]
theorem zlK {S:Flo}{steps:List Nm}{n:Nat}(hn:n≤1000)(I:FlI S steps n)(J:SmI S n):fK (aP S.sm)=some (SH (S.sm.map fun e=>e.1.1)):=by
 unfold fK;rw[z7W];have e:(aP S.sm).map (·.born)=S.sm.map (·.2):=by unfold aP;rw[List.map_map];rfl
 dsimp only;rw[if_pos];refine⟨I.ns,by rw[e];exact J.bn,by have:=J.ln;simp;omega,fun s hs=>?_⟩
 obtain⟨y,hy,rfl⟩:=List.mem_map.1 hs;have:=J.kl y hy;unfold maxLen;omega
theorem zo9 {q id c:Nat}{es:List ME}{ss:List Nm}(h1:h[q]?=some (.box [.mp id]))(h2:h[id]?=some (.amap es c))(h3:fK es=some ss) :
 cA X vS [.fn BO [.ref q 0]] h K=K (TA ss) h []:=
 WS (X:=X) (by kernel_rfl) (zmT (by kernel_rfl) h1 h2 h3)
theorem zoP {id:Nat}(hid:id<h.length):cA X lL [.mp id] h K=K (.fn BO [.ref h.length 0]) (h++[.box [.mp id]]) []:=by
 refine uA ?_;rw[zel rfl];simp only[CX,go_sem];have e:max h.length (h.length+1)=h.length+1:=by omega
 rw[e];exact⟨Nat.le_refl _,List.take_of_length_le (by simp)⟩
def CB (e:Nm × Nm):PV:=.agg [.str e.1,.str e.2]
abbrev tD (l:List (Nm × Nm)):AV:=.p (.sl (some 2) (l.map CB))
attribute [-go_sem] nB QA oB TB
attribute [local go_sem] YC nE uD vD rF tF VE WE HE uF vF wF xF yF zF BF
def SE (F:Flo):List (Nm×Nm):=(SH (F.sm.map fun e=>e.1.1)).map fun s=>(s,(nA (asS F.sm) s).getD [])
def vK (steps:List Nm)(tries:Int)(l:List Ent)(at_:Int):List (Nm×Nm)×Int:=
 if OB steps tries l at_≠0 then([],OB steps tries l at_) else(SE (lB steps tries (upL l at_)),0)
theorem zmY {id:Nat}{hp:aA}{m:RC}{c:Nat}{k:Nm}(hh:hp[id]?=some (dC m c)) :
 QA (none,[2]) false (AS []) (.mp id) (AS k) hp=some (AS ((nA (asS m) k).getD [])):=by
 have e1:pC (none,[2]) (AS k)=some (.str k):=NE
 have e2:IB hp (.mp id)=some (id,m.map fun e=>(⟨.str e.1.1,AS e.1.2,e.2⟩:ME),c):=by simp only[IB,hh,dC]
 have e3:nA (asS m) k=(m.find? fun e=>decide (e.1.1=k)).map (fun e=>e.1.2):=by
  unfold nA asS;rw[List.find?_map];cases h:m.find? (fun e=>decide (e.1.1=k)) with
  | none=>rw[show(List.find? ((fun e=>decide (e.1=k)) ∘ fun x=>x.1) m)=m.find? (fun e=>decide (e.1.1=k)) from rfl,h];rfl
  | some x=>rw[show(List.find? ((fun e=>decide (e.1=k)) ∘ fun x=>x.1) m)=m.find? (fun e=>decide (e.1.1=k)) from rfl,h];rfl
 simp only[QA,e1,e2,Option.map_some,bP];have e4:=yS k m
 rw[e3,←e4];cases hf:CD k m with
 | none=>rfl
 | some i=>
  simp only[Option.bind_some,List.getElem?_map];have hs:(m[i]?).isSome=true:=zS k m i hf
  obtain⟨y,hy⟩:=Option.isSome_iff_exists.1 hs;rw[hy];rfl
theorem z9I (l:List Nm):(SH l).length=l.length:=List.length_mergeSort _
theorem z8T {b i n:Nat}{e:Int}{sh:Sh}{P:lA}{H:aA}{x:Esc}{xs:List PV}(hx:∀ y∈x,b≤y.1)(hi:b≤i)(gi:H[i]?=some (.row sh xs 0))(hn:n=xs.length)
 (k:P (.tup [.p (.sl sh xs),AI e]) (H.take b) []):CC false b P (some [.own i n 0 n,AI e]) H x:=by
 subst hn;have w1:win xs 0 xs.length=xs:=pF rfl
 have r1:rd H (.own i xs.length 0 xs.length)=some (sh,xs):=by simp [rd,gi,w1]
 rw[tK (v:=.tup [.p (.sl sh xs),AI e]) hx (by simp [MA,fD,dB,hi,r1]) (by simp [AV.top,AV.tops])]
 exact k
set_option maxHeartbeats 4000000 in
theorem zo6 (steps:List Nm)(tries:Int)(l:List Ent)(O:StOk steps l)(at_:Int) :
 cA X fM [EB steps tries,eB l,AI at_] h K=K (.tup [tD (vK steps tries l at_).1,AI (vK steps tries l at_).2]) h []:=by
 refine uA ?_;rw[zfz rfl];have q1:=fun h K=>NP (h:=h) (K:=K) steps tries l O at_
 have q3:=fun h K=>TP (h:=h) (K:=K) l at_ (by have:=O.l;omega)
 unfold vK;by_cases h0:OB steps tries l at_=0
 case neg=>
  rw[if_pos h0];simp only[tO,go_sem,↓q1,q1,h0];first|done|rfl
 rw[if_neg (by simp [h0])]
 have q4:=fun h K=>OP (h:=h) (K:=K) steps tries O.n (II h0) (upL l at_) (EE O at_).l
 obtain⟨I,J⟩:=bK tries (II h0) (fun x hx=>((EE O at_).e x hx).s)
 have hn:=(EE O at_).l
 generalize (upL l at_).length=n at I J hn;generalize lB steps tries (upL l at_)=F at *;obtain⟨g,hg⟩:∃g,h++[Obj.box [TA steps,AI tries]]=g:=⟨_,rfl⟩;have gl:g.length=h.length+1:=by rw[←hg];simp
 have q5:=fun K=>q4 (h++[Obj.box [TA steps,AI tries]]) K
 have q6:∀K,cA X FC [EB steps tries,eB (upL l at_)] (h++[Obj.box [TA steps,AI tries]]) K=K (.ref (g.length+7) 0) (FS g (flB steps tries) steps tries F []) (XB g F.bs.length):=fun K=>by rw[q5,hg]
 have ex:∀y∈XB g F.bs.length,h.length≤y.1:=fun y hy=>by have:=(pH hy).1;omega
 have q7:=fun(o0 o1 o2 o3 o4 o5 o6 o7:Obj) (B:aA) (l2:aA) (K:lA)=>zoP (h:=FH g o0 o1 o2 o3 o4 o5 o6 o7 B l2) (K:=K) (id:=g.length+2) (by rw[YC];omega)
 have q8:=fun(o0 o1 o3 o4 o5 o6 o7 r:Obj) (B:aA) (K:lA)=>zo9 (h:=FH g o0 o1 (dC F.sm F.ck) o3 o4 o5 o6 o7 B [r,.box [.mp (g.length+2)]]) (K:=K) (q:=g.length+(8+B.length+1)) (id:=g.length+2) (by rw[TG];rfl) vD (zlK hn I J)
 have lk:=fun(o0 o1 o3 o4 o5 o6 o7:Obj) (B l2:aA) (k:Nm)=>zmY (hp:=FH g o0 o1 (dC F.sm F.ck) o3 o4 o5 o6 o7 B l2) (m:=F.sm) (c:=F.ck) (k:=k) (id:=g.length+2) vD
 unfold FS wbx at q6;simp only[tO,go_sem,↓q1,q1,h0,↓q3,q3,↓q6,q6,↓q7,q7,↓q8,q8];unfold SE;have hks:(SH (F.sm.map fun e=>e.1.1)).length≤1000:=by rw[z9I];have:=J.ln;simp;omega
 generalize SH (F.sm.map fun e=>e.1.1)=ks at *
 refine UA (fun k:Nat=>⟨[(9,.ref (g.length+7) 0),(10,.own (g.length+(8+(BA F.bs).length)) k 0 k),(30,TA ks),(31,AI ks.length),(32,AI k)],
  FH g (flB steps tries) (vA PV.str VB (tB (g.length+8) F.bs)) (dC F.sm F.ck) (.row (some 5) (F.ends.map EndP.pv) 0) (.row (some 3) (F.runs.map RunP.pv) 0) (.row none (F.ref.map eI) 0) (.row none (F.why.map eI) 0)
   (.box [TA steps,AI tries,.mp (g.length+1),.mp (g.length+2),.own (g.length+3) F.ends.length 0 F.ends.length,.own (g.length+4) F.runs.length 0 F.runs.length,.own (g.length+5) F.ref.length 0 F.ref.length,.own (g.length+6) F.why.length 0 F.why.length])
   (BA F.bs) [.row (some 2) (((ks.take k).map fun s=>(s,(nA (asS F.sm) s).getD [])).map CB) 0,.box [.mp (g.length+2)]],XB g F.bs.length⟩)
  (fun k=>k≤ks.length) (fun k=>ks.length-k) 0 ?_ (Nat.zero_le _) ?_
 ·simp
 intro k hk;rcases Nat.lt_or_ge k ks.length with hlt|hge
 ·have hg2:=GB PV.str hlt
  have cw:∀v:List UInt8,VA none 0 (PV.str v)=some (PV.str v):=fun _=>rfl
  have w2:IntKind.i64.wrap ((k:Int)+1)=((k+1:Nat):Int):=CA _ (by omega) (by omega)
  have m1:k+1≤cB:=by unfold cB;omega
  have gt:=fun(o0 o1 o2 o3 o4 o5 o6 o7:Obj) (B:aA) (l2:aA)=>(TG (h:=g) (o0:=o0) (o1:=o1) (o2:=o2) (o3:=o3) (o4:=o4) (o5:=o5) (o6:=o6) (o7:=o7) (B:=B) (l:=l2) 0)
  have st:=fun(o0 o1 o2 o3 o4 o5 o6 o7 o:Obj) (B:aA) (l2:aA)=>(fQ (h:=g) (o0:=o0) (o1:=o1) (o2:=o2) (o3:=o3) (o4:=o4) (o5:=o5) (o6:=o6) (o7:=o7) (o:=o) (B:=B) (l:=l2) 0)
  have tk:=fun(o0 o1 o2 o3 o4 o5 o6 o7:Obj) (B:aA) (l2:aA)=>(VG (h:=g) (o0:=o0) (o1:=o1) (o2:=o2) (o3:=o3) (o4:=o4) (o5:=o5) (o6:=o6) (o7:=o7) (B:=B) (l:=l2) 2)
  simp only[Nat.add_zero]at gt st;have l1:(((ks.take k).map fun s=>(s,(nA (asS F.sm) s).getD [])).map CB).length=k:=by simp;omega
  have f1:g.length+7+1≤g.length+(8+(BA F.bs).length+2):=by omega
  have f2:g.length+(8+(BA F.bs).length)+1≤g.length+(8+(BA F.bs).length+2):=by omega
  have e9:((ks.take k).map fun s=>(s,(nA (asS F.sm) s).getD [])).map CB++[.agg [.str ks[k],.str ((nA (asS F.sm) ks[k]).getD [])]]=((ks.take (k+1)).map fun s=>(s,(nA (asS F.sm) s).getD [])).map CB:=by
   rw[List.take_succ_eq_append_getElem hlt,List.map_append,List.map_append];rfl
  generalize ((ks.take k).map fun s=>(s,(nA (asS F.sm) s).getD [])).map CB=rw0 at *
  simp only[go_sem,hlt,hg2,cw,lk,m1,w2,gt,st,tk,l1,aQ,f1,f2,List.getElem?_cons_zero,List.set_cons_zero,Nat.zero_le,true_and];exact⟨k+1,by rw[←e9],by omega,by omega⟩
 ·have ek:k=ks.length:=by omega
  subst ek;rw[List.take_length];have gt:=fun(o0 o1 o2 o3 o4 o5 o6 o7:Obj) (B:aA) (l2:aA)=>(TG (h:=g) (o0:=o0) (o1:=o1) (o2:=o2) (o3:=o3) (o4:=o4) (o5:=o5) (o6:=o6) (o7:=o7) (B:=B) (l:=l2) 0)
  simp only[Nat.add_zero]at gt;simp only[go_sem,Nat.lt_irrefl];rw[if_pos (by omega),VG]
  refine z8T ex (by omega) ((gt _ _ _ _ _ _ _ _ _ _).trans rfl) (by simp) ⟨rfl,?_,rfl⟩
  rw[←hg];unfold FH
  rw[List.append_assoc,List.take_left]
end Go.Am
end
section
/- What the laws of boards followed ask besides: flows drawn,faults,equal lists. -/
open Go
set_option linter.all false
set_option maxRecDepth 100000
namespace Go.Am
variable {h:aA} {K:lA} {L:List Int} {a:Int}
attribute [-go_sem] nB
theorem z9n (l:List (Nm × Nm))(hl:l.length≤1000000):cA X FI [tD l,tD l] h K=K (AB true) h []:=by
 refine uA ?_;rw[zfb rfl];simp only[HR,go_sem];refine UA (fun k:Nat=>⟨[(0,tD l),(1,tD l),(12,AI l.length),(13,AI k)],h,[]⟩) (fun k=>k≤l.length) (fun k=>l.length-k) 0 rfl (by simp) ?_
 intro k hk;rcases Nat.lt_or_ge k l.length with hlt|hge
 ·have hg:(l.map CB)[k]?=some (.agg [.str (l[k]).1,.str (l[k]).2]):=GB CB hlt
  have w2:IntKind.i64.wrap ((k:Int)+1)=((k+1:Nat):Int):=CA _ (by omega) (by omega)
  have eq2:∀a b:Nm,nB [2,2] true (.p (.agg [.str a,.str b])) (.p (.agg [.str a,.str b]))=some (AB false):=fun a b=>by simp [nB,eqs,PV.kind,PV.eq1,pbool]
  simp only[go_sem,hlt,hg,w2,eq2];exact⟨k+1,rfl,by omega,by omega⟩
 ·have e1:k=l.length:=by omega
  subst e1;simp only[go_sem,Nat.lt_irrefl]
theorem zox (l:List Nm)(hl:l.length≤1000000):cA X SL [TA l,TA l] h K=K (AB true) h []:=by
 refine uA ?_;rw[zfd rfl];simp only[IR,go_sem];refine UA (fun k:Nat=>⟨[(0,TA l),(1,TA l),(12,AI l.length),(13,AI k)],h,[]⟩) (fun k=>k≤l.length) (fun k=>l.length-k) 0 rfl (by simp) ?_
 intro k hk;rcases Nat.lt_or_ge k l.length with hlt|hge
 ·have hg:=GB PV.str hlt
  have w2:IntKind.i64.wrap ((k:Int)+1)=((k+1:Nat):Int):=CA _ (by omega) (by omega)
  simp only[go_sem,hlt,hg,w2];exact⟨k+1,rfl,by omega,by omega⟩
 ·have e1:k=l.length:=by omega
  subst e1;simp only[go_sem,Nat.lt_irrefl]
theorem zow (l:List Int)(hl:l.length≤1000000):cA X PL [AL l,AL l] h K=K (AB true) h []:=by
 refine uA ?_;rw[zfa rfl];simp only[GR,go_sem];refine UA (fun k:Nat=>⟨[(0,AL l),(1,AL l),(12,AI l.length),(13,AI k)],h,[]⟩) (fun k=>k≤l.length) (fun k=>l.length-k) 0 rfl (by simp) ?_
 intro k hk;rcases Nat.lt_or_ge k l.length with hlt|hge
 ·have hg:=GB eI hlt
  have w2:IntKind.i64.wrap ((k:Int)+1)=((k+1:Nat):Int):=CA _ (by omega) (by omega)
  simp only[go_sem,hlt,hg,w2];exact⟨k+1,rfl,by omega,by omega⟩
 ·have e1:k=l.length:=by omega
  subst e1;simp only[go_sem,Nat.lt_irrefl]
attribute [-go_sem] XY
theorem zo0 (steps:List Nm)(tries:Int)(hl:steps.length≤1000)(hk:∀ s∈steps,s.length≤1000000):cA X xL [EB steps tries] h K=K (AI (gF steps tries)) h []:=by
 refine uA ?_;rw[ze8 rfl];unfold gF;by_cases h0:steps.length=0
 ·have h0':(steps.length:Int)=0:=by omega
  simp only[VK,go_sem,eq_true h0',h0]
 have h0':¬(steps.length:Int)=0:=by omega
 by_cases h1:(20:Int)<steps.length
 ·simp only[VK,go_sem,h0',h0,h1]
 simp only[VK,go_sem,h0',h0,h1];refine UA (fun k:Nat=>⟨[(1,.ref h.length 0),(16,TA steps),(17,AI steps.length),(18,AI k)],h++[.box [TA steps,AI tries]],[]⟩) (fun k=>k≤steps.length∧YF (steps.take k) (steps.drop k)=YF [] steps) (fun k=>steps.length-k) 0 rfl ⟨by omega,rfl⟩ ?_
 rintro k ⟨hkl,hp⟩
 rcases Nat.lt_or_ge k steps.length with hlt|hge
 ·have hg:=GB PV.str hlt
  have cw:∀v:List UInt8,VA none 0 (PV.str v)=some (PV.str v):=fun _=>rfl
  have w2:IntKind.i64.wrap ((k:Int)+1)=((k+1:Nat):Int):=CA _ (by omega) (by omega)
  have ky:=fun h K=>FN (h:=h) (K:=K) steps[k] (by have:=hk _ (List.getElem_mem hlt);omega)
  have ct:=fun h K=>eQ (h:=h) (K:=K) (steps.take k) (fun h' _=>KN _) steps[k] (by simp;omega)
  have hw:win (steps.map PV.str) 0 k=(steps.take k).map PV.str:=by simp [win,List.map_take]
  have hk2:k≤steps.length:=by omega
  rw[List.drop_eq_getElem_cons hlt,YF]at hp;cases h2:mB steps[k]with
  | false=>
   rw[if_pos h2]at hp;simp only[go_sem,hlt,hg,cw,↓ky,ky,h2];rw[←hp];first|done|rfl
  | true=>
   rw[if_neg (by simp [h2])]at hp
   cases h3:(steps.take k).contains steps[k]with
   | true=>
    rw[if_pos h3]at hp;rw[h3]at ct;simp only[go_sem,hlt,hg,cw,↓ky,ky,h2,hw,hk2,↓ct,ct];rw[←hp];first|done|rfl
   | false=>
    rw[if_neg (by rw[h3];simp),←List.take_succ_eq_append_getElem hlt]at hp
    rw[h3]at ct;simp only[go_sem,hlt,hg,cw,↓ky,ky,h2,hw,hk2,↓ct,ct,w2];exact⟨k+1,rfl,⟨by omega,hp⟩,by omega⟩
 ·have ek:k=steps.length:=by omega
  subst ek;rw[List.drop_length]at hp;have hz:YF [] steps=0:=by rw[←hp];rfl
  rw[if_neg (by simp [hz])]
  simp only[go_sem,Nat.lt_irrefl];rw[XY];cases h4:inB 1 tries 10 with
  | false=>simp only[tR,go_sem,nF,h4];first|done|rfl
  | true=>simp only[tR,go_sem,nF,h4];first|done|rfl
theorem z95 (b:Bool)(e:Int):cA X yI [AB b,AI e] h K=K (AI (if b then e else 0)) h []:=by
 refine uA ?_;rw[zet rfl];cases b <;> simp only[JX,go_sem]
theorem zoM (steps:List Nm)(tries:Int)(l:List Ent)(O:StOk steps l):cA X nL [EB steps tries,eB l] h K=K (AI (DD [gF steps tries,oD l])) h []:=by
 refine uA ?_;rw[zeq rfl];have q1:=fun h K=>zo0 (h:=h) (K:=K) steps tries O.n O.k
 have q2:=fun h K=>zos (h:=h) (K:=K) l O.e (by have:=O.l;omega)
 have q3:=fun h K=>EU (h:=h) (K:=K) [gF steps tries,oD l] (by simp)
 simp only[AL,List.map_cons,List.map_nil]at q3;simp only[IX,go_sem,↓q1,q1,↓q2,q2,↓q3,q3]
theorem zoR (s:Nm)(hl:s.length≤1000000000):cA X oL [AS s] h K=K (AI (if mB s=true then 0 else 5)) h []:=by
 refine uA ?_;rw[zer rfl];have q1:=fun h K=>FN (h:=h) (K:=K) s hl
 have q2:=fun b h K=>z95 (h:=h) (K:=K) b 5
 cases hk:mB s with
 | true=>simp only[kR,go_sem,↓q1,q1,hk,↓q2,q2];first|done|rfl
 | false=>simp only[kR,go_sem,↓q1,q1,hk,↓q2,q2];first|done|rfl
theorem zpb (steps:List Nm)(tries:Int)(hl:steps.length≤1000)(s:Nm):cA X pL [EB steps tries,AS s] h K=K (AI (if steps.contains s=true then 0 else 8)) h []:=by
 refine uA ?_;rw[zes rfl];have q1:=fun h K=>eQ (h:=h) (K:=K) steps (fun h' _=>KN _) s (by omega)
 have q2:=fun b h K=>z95 (h:=h) (K:=K) b 8
 cases hk:steps.contains s with
 | true=>rw[hk]at q1;simp only[lR,go_sem,↓q1,q1,↓q2,q2];first|done|rfl
 | false=>rw[hk]at q1;simp only[lR,go_sem,↓q1,q1,↓q2,q2];first|done|rfl
theorem zo3 (n:Int):cA X yL [AI n] h K=K (AI (TI n)) h []:=by
 refine uA ?_;rw[zeB rfl];unfold TI;cases h1:OE n with
 | false=>simp only[uR,go_sem,NG,h1,Bool.false_eq_true]
 | true=>simp only[uR,go_sem,NG,h1]
theorem zo1 (n:Nat)(hn:n≤1048576):cA X EO [.sl0 none,AI n] h K=K (.own h.length 0 0 0) (h++[.row none [] 0]) []:=by
 refine WS (X:=X) (by kernel_rfl) ?_
 show IG GRL PRL EO [.sl0 none,AI n] h=_
 exact zmQ (by kernel_rfl) (by omega) (by omega)
def lsn (xs:List PV):PV:=.sl none xs
theorem zoo (ls:List (List PV))(hs:∀ l∈ls,VC none l)(hl:ls.length≤1000)(hn:ls.flatten.length≤1000000) :
 cA X ML [.p (.sl none (ls.map lsn))] h K=K (.own h.length ls.flatten.length 0 ls.flatten.length) (h++[.row none ls.flatten 0]) []:=by
 refine uA ?_;rw[zeW rfl];simp only[ER,go_sem];refine UA (fun k:Nat=>⟨[(0,.p (.sl none (ls.map lsn))),(3,AI (ls.take k).flatten.length),(9,.p (.sl none (ls.map lsn))),(10,AI ls.length),(11,AI k)],h,[]⟩) (fun k=>k≤ls.length) (fun k=>ls.length-k) 0 rfl (by omega) ?_
 intro k hk;rcases Nat.lt_or_ge k ls.length with hlt|hge
 ·have g2:=GB lsn hlt
  have f1:=z7e hlt
  have f2:=kZ ls (k+1)
  have w2:IntKind.i64.wrap ((k:Int)+1)=((k+1:Nat):Int):=CA _ (by omega) (by omega)
  have w3:IntKind.i64.wrap (((ls.take k).flatten.length:Int)+(ls[k].length:Int))=((ls.take (k+1)).flatten.length:Int):=by
   rw[f1,List.length_append];have:(ls.take k).flatten.length+ls[k].length≤1000000:=by rw[f1,List.length_append]at f2;omega
   rw[CA _ (by omega) (by omega)];omega
  have b1:¬(((ls.take (k+1)).flatten.length:Int)<0):=by omega
  simp only[go_sem,hlt,g2,lsn,w3,b1,w2];exact⟨k+1,rfl,by omega,by omega⟩
 ·have ek:k=ls.length:=by omega
  subst ek;have q:=fun h K=>zo1 (h:=h) (K:=K) ls.flatten.length (by omega)
  have tl:ls.take ls.length=ls:=List.take_length
  simp only[go_sem,Nat.lt_irrefl,tl,↓q,q];refine UA (fun k:Nat=>⟨[(6,.own h.length (ls.take k).flatten.length 0 (ls.take k).flatten.length),(25,.p (.sl none (ls.map lsn))),(26,AI ls.length),(27,AI k)],h++[.row none (ls.take k).flatten 0],[]⟩) (fun k=>k≤ls.length) (fun k=>ls.length-k) 0 rfl (by omega) ?_
  intro k hk;rcases Nat.lt_or_ge k ls.length with hlt|hge
  ·have g2:=GB lsn hlt
   have f1:=z7e hlt
   have f2:=kZ ls (k+1)
   have w2:IntKind.i64.wrap ((k:Int)+1)=((k+1:Nat):Int):=CA _ (by omega) (by omega)
   have hm:(ls.take k).flatten.length+ls[k].length≤cB:=by rw[f1,List.length_append]at f2;unfold cB;omega
   have hm0:ls[k].length≤cB:=by omega
   simp only[go_sem,hlt,g2,lsn,w2,hm,hm0];exact⟨k+1,by rw[f1];simp,by omega,by omega⟩
  ·have ek:k=ls.length:=by omega
   subst ek;simp only[go_sem,Nat.lt_irrefl,tl];rw[List.take_of_length_le (by simp)]
end Go.Am
end
section
/- What is DC at once is nothing;refused entries left out: plainly. -/
open Go
set_option linter.all false
set_option maxRecDepth 100000
namespace Go.Am
def gtE (a b:Ent):Prop:=0<eC b a
theorem qI {x y:Int}:0<sB x y↔y<x:=by unfold sB;split <;> (try split) <;> omega
theorem rI {x y:Int}:sB x y=0↔x=y:=by unfold sB;split <;> (try split) <;> omega
theorem zlq {a b c:Ent}(h1:gtE a b)(h2:gtE b c):gtE a c:=by
 unfold gtE eC at *;have lt1:∀{x y:List UInt8},0<EA x y↔EA y x<0:=fun {x y}=>by rw[gO y x];omega
 by_cases t1:sB b.time a.time=0
 ·rw[if_neg (by simp [t1])]at h1
  have e1:=rI.1 t1
  by_cases t2:sB c.time b.time=0
  ·rw[if_neg (by simp [t2])]at h2
   have e2:=rI.1 t2
   rw[if_neg (by rw[e2,e1];simp [rI])]
   by_cases s1:EA b.site a.site=0
   ·rw[if_neg (by simp [s1])]at h1
    have f1:=xD s1
    by_cases s2:EA c.site b.site=0
    ·rw[if_neg (by simp [s2])]at h2
     have f2:=xD s2
     rw[if_neg (by rw[f2,f1];simp [iO])]
     rw[qI]at *;omega
    ·rw[if_pos s2]at h2
     rw[f1]at s2 h2;rw[if_pos s2];exact h2
   ·rw[if_pos s1]at h1
    by_cases s2:EA c.site b.site=0
    ·have f2:=xD s2
     rw[f2,if_pos s1];exact h1
    ·rw[if_pos s2]at h2
     have q:=aR (lt1.1 h1) (lt1.1 h2)
     have q2:=lt1.2 q
     rw[if_pos (by omega)];exact q2
  ·rw[if_pos t2,qI]at h2
   have:¬sB c.time a.time=0:=fun z=>by have:=rI.1 z;omega
   rw[if_pos this,qI];omega
 ·rw[if_pos t1,qI]at h1
  by_cases t2:sB c.time b.time=0
  ·have e2:=rI.1 t2
   have:¬sB c.time a.time=0:=fun z=>by have:=rI.1 z;omega
   rw[if_pos this,qI];omega
  ·rw[if_pos t2,qI]at h2
   have:¬sB c.time a.time=0:=fun z=>by have:=rI.1 z;omega
   rw[if_pos this,qI];omega
theorem zk9 (p:Option Ent)(x:Ent)(r:List Ent):OC p (x::r)=(if WB x≠0 then WB x else if(p.elim false fun q=>decide (eC x q≤0))=true then 7 else OC (some x) r):=by cases p <;> rfl
theorem z6n:∀ (l:List Ent)(p:Option Ent),OC p l=0↔(∀x∈l,WB x=0)∧(p.toList++l).Pairwise gtE∨l=[]
 | [],p=>by simp [OC]
 | x::r,p=>by
  have ih:=z6n r (some x)
  rw[zk9];have ord:((p.elim false fun q=>decide (eC x q≤0))=true)↔¬ ∀q∈p.toList,gtE q x:=by
   cases p with
   | none=>simp
   | some q=>simp [gtE]
  constructor
  ·intro h
   left;by_cases h1:WB x=0
   ·rw[if_neg (by simp [h1])]at h
    by_cases h2:(p.elim false fun q=>decide (eC x q≤0))=true
    ·rw[if_pos h2]at h;exact absurd h (by decide)
    ·rw[if_neg h2]at h
     have h2':∀q∈p.toList,gtE q x:=by
      rw[ord]at h2;exact Classical.not_not.1 h2
     have hr:(x::r).Pairwise gtE:=by
      rcases ih.1 h with⟨_,q⟩|q
      ·exact q
      ·rw[q];exact List.pairwise_singleton ..
     refine⟨fun y hy=>?_,?_⟩
     ·rcases List.mem_cons.1 hy with e|e
      ·rw[e];exact h1
      ·rcases ih.1 h with⟨q,_⟩|q
       ·exact q y e
       ·rw[q]at e;cases e
     ·cases p with
      | none=>exact hr
      | some q=>
       refine List.pairwise_cons.2 ⟨fun y hy=>?_,hr⟩
       have hq:=h2' q (by simp)
       rcases List.mem_cons.1 hy with e|e
       ·rw[e];exact hq
       ·exact zlq hq ((List.pairwise_cons.1 hr).1 y e)
   ·rw[if_pos h1]at h;exact absurd h h1
  ·intro h
   rcases h with⟨h1,h2⟩|h
   ·have hx:=h1 x (List.mem_cons_self ..)
    rw[if_neg (by simp [hx])]
    have hr:(x::r).Pairwise gtE:=(List.pairwise_append.1 h2).2.1
    have hn:¬(p.elim false fun q=>decide (eC x q≤0))=true:=by
     rw[ord];exact Classical.not_not.2 fun q hq=>(List.pairwise_append.1 h2).2.2 q hq x (List.mem_cons_self ..)
    rw[if_neg hn];exact ih.2 (.inl ⟨fun y hy=>h1 y (List.mem_cons_of_mem _ hy),hr⟩)
   ·cases h
theorem z9S:∀ (l seen:List Ent),iE seen l=false↔(∀x∈l,∀o∈seen,PC o x=false)∧l.Pairwise fun o x=>PC o x=false
 | [],seen=>by simp [iE]
 | x::r,seen=>by
  have ih:=z9S r (seen++[x])
  unfold iE;by_cases h:seen.any (fun o=>PC o x)=true
  ·rw[if_pos h]
   constructor
   ·intro q;cases q
   ·rintro⟨q,_⟩
    obtain⟨o,ho,hs⟩:=List.any_eq_true.1 h;rw[q x (List.mem_cons_self ..) o ho]at hs;cases hs
  ·rw[if_neg h,ih,List.pairwise_cons]
   have hs:∀o∈seen,PC o x=false:=by simpa using h
   constructor
   ·rintro⟨q1,q2⟩
    refine⟨fun y hy o ho=>?_,fun y hy=>q1 y hy x (by simp),q2⟩
    rcases List.mem_cons.1 hy with e|e
    ·rw[e];exact hs o ho
    ·exact q1 y e o (by simp [ho])
   ·rintro⟨q1,q2,q3⟩
    refine⟨fun y hy o ho=>?_,q3⟩
    rcases List.mem_append.1 ho with e|e
    ·exact q1 y (List.mem_cons_of_mem _ hy) o e
    ·rw[List.mem_singleton.1 e];exact q2 y hy
theorem zk8 (l:List Ent):oD l=0↔l.length≤2000∧(∀x∈l,WB x=0)∧l.Pairwise gtE∧l.Pairwise fun o x=>PC o x=false:=by
 have e0:OC none l=0↔(∀x∈l,WB x=0)∧l.Pairwise gtE:=by
  rw[z6n];constructor
  ·rintro (h|h)
   ·exact h
   ·rw[h];simp
  ·intro h;exact .inl h
 have t0:=z9S l []
 unfold oD;constructor
 ·intro h
  split at h
  ·cases h
  rename_i h1;split at h
  ·rename_i h2;exact absurd h h2
  rename_i h2;split at h
  ·cases h
  rename_i h3;have h2':OC none l=0:=by simpa using h2
  have h3':iE [] l=false:=by simpa using h3
  exact⟨by omega,(e0.1 h2').1,(e0.1 h2').2,(t0.1 h3').2⟩
 ·rintro⟨h1,h2,h3,h4⟩
  rw[if_neg (by omega),if_neg (by simp [e0.2 ⟨h2,h3⟩]),if_neg (by rw[t0.2 ⟨fun _ _ _ h=>(by cases h),h4⟩];simp)]
theorem early {l:List Ent}(hv:∀ x∈l,EntV x)(hf:oD l=0):∀x∈l,x.time≤1000∧x.site≠[122,122]:=fun x hx=>by
 have:=(aZ (zk7 hf x hx)).t;have z:=(hv x hx).z
 exact⟨by omega,z.1⟩
end Go.Am
end
section
/- stationed: a FB call,computed. -/
open Go
set_option linter.all false
namespace Go.Am
def orc0 (f:Nat)(a:List AV):Option AV:=none
theorem zn2:∀ f a v,orc0 f a=some v→∀h (K:lA),K v h []→cA X0 f a h K:=by
 intro f a v hv;cases hv
theorem zpQ:yO X0 orc0 1000 60 JJ [] []=some (AB true,[],[]):=by kernel_rfl
theorem zs3:cA X0 JJ [] [] fun v h x=>v=AB true∧h=[]∧x=[]:=(zal zn2 1000 60 zpQ _).2 ⟨rfl,rfl,rfl⟩
theorem zoZ {h:aA}{K:lA}:cA X JJ [] h K=K (AB true) h []:=WS (by kernel_rfl) rfl
end Go.Am
end
section
/- EntryTexts returns true. -/
open Go
set_option linter.all false
set_option maxRecDepth 100000
namespace Go.Am
variable {L:List Int} {a:Int} {h l:aA} {id:Nat} {K:lA}
end Go.Am
end
section
/- The shortest way between two states of a test access port: a search PE a queue. -/
open Go
set_option linter.all false
namespace Go.Am
variable {h:aA} {K:lA}
attribute [-go_sem] QA oB IC JC
end Go.Am
end
section
/- ready: a FB call,computed. -/
open Go
set_option linter.all false
namespace Go.Am
end Go.Am
end
section
/- UndoneIsNothing returns true. -/
open Go
set_option linter.all false
set_option maxRecDepth 100000
namespace Go.Am
variable {L:List Int} {a:Int} {h:aA} {K:lA}
attribute [-go_sem] nB
def cK:List Nm:=[[115,99,97,110],[102,108,97,115,104],[98,117,114,110]]
end Go.Am
end
section
/- A flow drawn,right or not. -/
open Go
set_option linter.all false
set_option maxRecDepth 100000
namespace Go.Am
variable {h:aA} {K:lA} {L:List Int} {a:Int}
attribute [-go_sem] nB
theorem z6w {i:Nat}{v:AV}{y:Nat × Nat}(h:y∈YB i v):y.1=i:=by
 unfold YB at h;split at h
 ·rw[List.mem_singleton]at h;rw[h]
 ·cases h
theorem z3q {P:lA}{H0:aA}{o1 o2:Obj}{steps:List Nm}{tr:Int}{x:Esc}{m:Nat}(hm:m=steps.length)(hb:H0.length=h.length)(hx:∀ y∈x,h.length≤y.1)(hP:P (EB steps tr) H0 []) :
 CC false h.length P (some [AV.agg [.own (h.length+2) m 0 m,AI tr]]) (H0++[o1,o2,.row none (steps.map PV.str) 0]) x:=by
 subst hm;have g2:(H0++[o1,o2,Obj.row none (steps.map PV.str) 0])[h.length+2]?=some (.row none (steps.map PV.str) 0):=by rw[List.getElem?_append_right (by omega),hb];simp
 have w1:win (steps.map PV.str) 0 steps.length=steps.map PV.str:=pF (by simp)
 have r1:rd (H0++[o1,o2,Obj.row none (steps.map PV.str) 0]) (.own (h.length+2) steps.length 0 steps.length)=some (none,steps.map PV.str):=by simp [rd,g2,w1]
 rw[tK (v:=EB steps tr) hx (by simp [MA,fD,dB,r1];rfl) (by simp [AV.top,AV.tops])]
 rw[←hb,List.take_left];exact hP
attribute [-go_sem] dL
set_option maxHeartbeats 8000000 in
theorem af_k3 {id:Nat}{s0:List Nm}{tries:Int}{a:Int}(hid:id<h.length)(hp:XA 30 a)(s0l:1≤s0.length∧s0.length≤3)(s0k:∀ s∈s0,s.length≤10):∃(steps:List Nm) (tr a2:Int),a≤a2∧a2≤a+6∧1≤steps.length∧steps.length≤4∧(∀s∈steps,s.length≤10) ∧
 ∀P:lA,P (EB steps tr) (h.set id (IA L a2)) []→NW (cA X) X.gl oP ⟨[(0,.ref id 0),(2,.ref h.length 0),(3,.ref (h.length+1) 0)],h.set id (IA L a)++[.box [.sl0 none,AI 0],.box [TA s0,AI tries]],[]⟩ (qA [.cell 2 (some 2)] false h.length P):=by
 have p2:XA 0 a:=UB hp (by omega) (by omega)
 have p3:XA 0 (a+1):=UB hp (by omega) (by omega)
 have p4:XA 0 (a+1+1):=UB hp (by omega) (by omega)
 by_cases f1:QB L a 20=0
 ·have pm:=sK (L:=L) (a:=a+1) (l:=[[],[115,99,97,110],[122,122]]) (by simp) (by simp)
  generalize hz:NB [[],[115,99,97,110],[122,122]] L (a+1)=z at *;have CO:=fun h K=>zoo (h:=h) (K:=K) [s0.map PV.str,[PV.str z]] (by
   intro l hl;simp only[List.mem_cons,List.not_mem_nil,or_false]at hl;rcases hl with e|e <;> subst e
   ·exact LN
   ·exact LN (us:=[z])) (by simp) (by simp;omega)
  have e1:(s0.map PV.str++[PV.str z])=(s0++[z]).map PV.str:=by rw[List.map_append];rfl
  have zl:∀s∈s0++[z],s.length≤10:=fun s hs=>by
   rcases List.mem_append.1 hs with hs|hs
   ·exact s0k s hs
   ·rw[List.mem_singleton]at hs;subst hs
    simp only[List.mem_cons,List.not_mem_nil,or_false]at pm;rcases pm with e|e|e <;> rw[e] <;> simp
  simp only[List.map_cons,List.map_nil,lsn,List.flatten_cons,List.flatten_nil,List.append_nil,e1,List.length_map,List.length_append,Nat.zero_add]at CO;by_cases f2:QB L (a+1+1) 25=0
  ·obtain⟨k,a2,o1,o2,_,_,G⟩:=JO (L:=L) (a:=a+1+1+1) (UB hp (by omega) (by omega)) 1 10 (by omega) (by omega) (by omega)
   have OD:=fun(l:aA) K=>G.app (h:=h) (l:=l) (K:=K) hid
   refine⟨s0++[z],k,a2,by omega,by omega,by simp,by simp;omega,zl,fun P hP=>?_⟩
   rw[dL];simp only[CJ,go_sem,hid,p2,p3,p4,splice,f1,f2,hz,↓CO,CO,↓OD,OD];refine z3q (by simp) (by simp) (fun y hy=>?_) hP
   rcases List.mem_append.1 hy with hy|hy <;> (have:=z6w hy;omega)
  ·refine⟨s0++[z],tries,a+1+1+1,by omega,by omega,by simp,by simp;omega,zl,fun P hP=>?_⟩
   rw[dL];simp only[CJ,go_sem,hid,p2,p3,p4,splice,f1,f2,hz,↓CO,CO];refine z3q (by simp) (by simp) (fun y hy=>?_) hP
   rcases List.mem_append.1 hy with hy|hy <;> (have:=z6w hy;omega)
 ·by_cases f2:QB L (a+1) 25=0
  ·obtain⟨k,a2,o1,o2,_,_,G⟩:=JO (L:=L) (a:=a+1+1) (UB hp (by omega) (by omega)) 1 10 (by omega) (by omega) (by omega)
   have OD:=fun(l:aA) K=>G.app (h:=h) (l:=l) (K:=K) hid
   refine⟨s0,k,a2,by omega,by omega,by omega,by omega,s0k,fun P hP=>?_⟩
   rw[dL];simp only[CJ,go_sem,hid,p2,p3,p4,splice,f1,f2,↓OD,OD];exact hP
  ·refine⟨s0,tries,a+1+1,by omega,by omega,by omega,by omega,s0k,fun P hP=>?_⟩
   rw[dL];simp only[CJ,go_sem,hid,p2,p3,p4,splice,f1,f2];exact hP
set_option maxHeartbeats 8000000 in
theorem zli (hp:XA 40 a):XE qL [] L a (fun v a2=>a≤a2∧a2≤a+8∧∃(steps:List Nm) (tries:Int),1≤steps.length∧steps.length≤4∧(∀s∈steps,s.length≤10)∧v=EB steps tries):=by
 refine XE.of fun h id hid=>?_
 rw[zev rfl];have p0:XA 0 a:=UB hp (by omega) (by omega)
 have p1:XA 0 (a+1):=UB hp (by omega) (by omega)
 have r1:1≤KC 1 3 L a∧KC 1 3 L a≤3:=JP L a (by omega) (by omega)
 obtain⟨n,hn⟩:∃n:Nat,KC 1 3 L a=n:=⟨(KC 1 3 L a).toNat,by omega⟩
 generalize ht:KC 1 3 L (a+1)=tries at *;have n3:n≤3:=by omega
 have hw:win [PV.str [115,99,97,110],.str [102,108,97,115,104],.str [98,117,114,110]] 0 n=(cK.take n).map PV.str:=by simp [win,cK,List.map_take]
 have s0l:1≤(cK.take n).length∧(cK.take n).length≤3:=by rw[List.length_take];show 1≤min n 3∧min n 3≤3;omega
 have s0k:∀s∈cK.take n,s.length≤10:=fun s hs=>by
  have:=List.mem_of_mem_take hs;simp only[cK,List.mem_cons,List.not_mem_nil,or_false]at this;rcases this with e|e|e <;> rw[e] <;> simp
 generalize cK.take n=s0 at *;obtain⟨steps,tr,a2,k1,k2,k0,k3,k4,k5⟩:=af_k3 (h:=h) (L:=L) (id:=id) (s0:=s0) (tries:=tries) (a:=a+1+1) hid (UB hp (by omega) (by omega)) s0l s0k
 refine⟨EB steps tr,h.set id (IA L a2),[],⟨a2,⟨by omega,by omega,steps,tr,k0,k3,k4,rfl⟩,rfl,rfl⟩,?_⟩
 unfold nR;refine⟨⟨?_,?_⟩,?_⟩;all_goals
  simp only[go_sem,hid,p0,p1,hn,ht,n3,hw,splice];exact k5 _ ⟨rfl,rfl,rfl⟩
end Go.Am
end
section
/- How many boards are in each state: the program. -/
open Go
set_option linter.all false
set_option maxRecDepth 100000
namespace Go.Am
variable {h:aA} {K:lA}
abbrev kC:Int→PV:=fun n=>.int .i64 n
abbrev vC:Int→AV:=fun n=>AI n
theorem z8h {hp:aA}{id:Nat}{m:List (Int × Int)}{b:Int}(hh:hp[id]?=some (vA kC vC m)):QA (none,[0]) false (AI 0) (.mp id) (AI b) hp=some (AI ((xB b m).getD 0)):=by
 have:=BH (key:=kC) (val:=vC) (fun a b=>z7U a b) hh (kk:=(none,[0])) (k:=b) z7V (ok:=false) (z:=AI 0)
 rw[cond_false]at this;refine this.trans ?_;cases xB b m <;> rfl
theorem updC {hp:aA}{id:Nat}{m:List (Int × Int)}{b v:Int}(hh:hp[id]?=some (vA kC vC m)):oB (none,[0]) (.mp id) (AI b) (AI v) hp=some (.und,hp.set id (vA kC vC (LC b v m)),[]):=
 yM (key:=kC) (val:=vC) (fun a b=>z7U a b) hh (kk:=(none,[0])) (k:=b) z7V (v:=v) rfl
theorem xZ:∀ (bs:bB)(q i:Nat)(e:Ent × Sta),bs[i]?=some e→(tB q bs)[i]?=some (e.1.board,q+(3*i+2))
 | [],q,i,e,h=>by simp at h
 | y::r,q,0,e,h=>by simp at h;subst h;rfl
 | y::r,q,i+1,e,h=>by
  have:=xZ r (q+3) i e (by simpa using h)
  simp only[tB,List.getElem?_cons_succ,this];rw[show q+3+(3*i+2)=q+(3*(i+1)+2) by omega]
def QG (bs:bB)(i:Nat):Int:=match bs[i]? with
 | some e=>e.2.state
 | none=>0
def PF (bs:bB)(seen:List Nat)(s:Int):Nat:=(seen.filter fun i=>decide (QG bs i=s)).length
def sG (bs:bB)(s:Int):Nat:=(bs.filter fun e=>decide (e.2.state=s)).length
theorem zfZ {bs:bB}{seen:List Nat}(hd:seen.Nodup)(hb:∀ i∈seen,i<bs.length)(ha:∀ i,i<bs.length→i∈seen)(s:Int):PF bs seen s=sG bs s:=by
 have hp:=GU hd hb ha
 unfold PF sG;rw[(hp.filter _).length_eq];clear hp hd hb ha;have:∀(pre bs:bB),((List.range' pre.length bs.length).filter fun i=>decide (QG (pre++bs) i=s)).length=(bs.filter fun e=>decide (e.2.state=s)).length:=by
  intro pre bs;induction bs generalizing pre with
  | nil=>rfl
  | cons e r ih=>
   rw[List.length_cons,List.range'_succ,List.filter_cons,List.filter_cons];have h1:QG (pre++e::r) pre.length=e.2.state:=by unfold QG;simp
   have h2:=ih (pre++[e])
   rw[List.append_assoc,List.length_append]at h2;rw[h1];split
   ·rw[List.length_cons,List.length_cons];exact congrArg (· + 1) h2
   ·exact h2
 have:=this [] bs;rw[List.range_eq_range'];exact this
theorem zga (bs:bB)(seen:List Nat)(i:Nat)(s:Int):PF bs (seen++[i]) s=PF bs seen s+if s=QG bs i then 1 else 0:=by
 unfold PF;rw[List.filter_append,List.length_append];by_cases h:QG bs i=s
 ·simp [h]
 ·have h':¬s=QG bs i:=fun z=>h z.symm
  simp [h,h']
def kE:List Nm:=[[119,97,105,116,115],[114,117,110,115],[102,97,105,108,101,100],[100,111,110,101],[115,99,114,97,112,112,101,100]]
theorem zoY {k:Nat}(hk:k<5):cA X kM [AI ((k+1:Nat):Int)] h K=K (AS (kE.getD k [])) h []:=by
 refine uA ?_;rw[zfD rfl];have w0:IntKind.i64.wrap 0=0:=rfl
 have w1:IntKind.i64.wrap 1=1:=rfl
 have w2:IntKind.i64.wrap 2=2:=rfl
 have w3:IntKind.i64.wrap 3=3:=rfl
 have w4:IntKind.i64.wrap 4=4:=rfl
 have n0:uB (.p (.int .i64 0))=some 0:=rfl
 have n1:uB (.p (.int .i64 1))=some 1:=rfl
 have n2:uB (.p (.int .i64 2))=some 2:=rfl
 have n3:uB (.p (.int .i64 3))=some 3:=rfl
 have n4:uB (.p (.int .i64 4))=some 4:=rfl
 match k,hk with
 | 0,_=>simp [FJ,go_sem,w0,n0,kE,Int.add_sub_cancel,PV.sc,MA,AV.top]
 | 1,_=>simp [FJ,go_sem,w1,n1,kE,Int.add_sub_cancel,PV.sc,MA,AV.top]
 | 2,_=>simp [FJ,go_sem,w2,n2,kE,Int.add_sub_cancel,PV.sc,MA,AV.top]
 | 3,_=>simp [FJ,go_sem,w3,n3,kE,Int.add_sub_cancel,PV.sc,MA,AV.top]
 | 4,_=>simp [FJ,go_sem,w4,n4,kE,Int.add_sub_cancel,PV.sc,MA,AV.top]
def yD (bs:bB):List (Nm×Nm):=(List.range 5).map fun k=>(kE.getD k [],itoa (sG bs ((k+1:Nat):Int)))
def AJ (steps:List Nm)(tries:Int)(l:List Ent)(at_:Int):List (Nm×Nm)×Int:=
 if OB steps tries l at_≠0 then([],OB steps tries l at_) else(yD (lB steps tries (upL l at_)).bs,0)
attribute [-go_sem] nB QA oB TB IC JC
def GC (h:aA)(steps:List Nm)(tries:Int)(m:List (Int × Int)):aA:=h++[.box [TA steps,AI tries],vA kC vC m]
section
variable {steps:List Nm} {tries:Int} {m m':List (Int × Int)} {o0 o1 o2 o3 o4 o5 o6 o7 o:Obj} {B l l2:aA} {G:Nat}
theorem mG:(GC h steps tries m).length=h.length+2:=by unfold GC;simp
theorem zca:(FH (GC h steps tries m) o0 o1 o2 o3 o4 o5 o6 o7 B l)[h.length+1]?=some (vA kC vC m):=by
 unfold FH GC;rw[List.append_assoc,List.getElem?_append_right (by omega)]
 simp
theorem zcb:(FH (GC h steps tries m) o0 o1 o2 o3 o4 o5 o6 o7 B l).set (h.length+1) (vA kC vC m')=FH (GC h steps tries m') o0 o1 o2 o3 o4 o5 o6 o7 B l:=by
 unfold FH GC;rw[List.append_assoc,List.append_assoc,List.set_append_right _ _ (by omega)]
 simp
theorem GC_g1 (hG:h.length+2=G):(FH (GC h steps tries m) o0 o1 o2 o3 o4 o5 o6 o7 B l)[G+1]?=some o1:=by rw[←hG,←mG (steps:=steps) (tries:=tries) (m:=m)];exact uD
theorem GC_g7 (hG:h.length+2=G):(FH (GC h steps tries m) o0 o1 o2 o3 o4 o5 o6 o7 B l)[G+7]?=some o7:=by rw[←hG,←mG (steps:=steps) (tries:=tries) (m:=m)];exact HE
theorem z1n (hG:h.length+2=G)(n:Nat):(FH (GC h steps tries m) o0 o1 o2 o3 o4 o5 o6 o7 B l)[G+(8+B.length+n)]?=l[n]?:=by rw[←hG,←mG (steps:=steps) (tries:=tries) (m:=m)];exact TG n
theorem z1o (hG:h.length+2=G)(n:Nat):(FH (GC h steps tries m) o0 o1 o2 o3 o4 o5 o6 o7 B l).set (G+(8+B.length+n)) o=FH (GC h steps tries m) o0 o1 o2 o3 o4 o5 o6 o7 B (l.set n o):=by rw[←hG,←mG (steps:=steps) (tries:=tries) (m:=m)];exact fQ n
theorem GC_tk (hG:h.length+2=G)(n:Nat):(FH (GC h steps tries m) o0 o1 o2 o3 o4 o5 o6 o7 B l).take (G+(8+B.length+n))=FH (GC h steps tries m) o0 o1 o2 o3 o4 o5 o6 o7 B (l.take n):=by rw[←hG,←mG (steps:=steps) (tries:=tries) (m:=m)];exact VG n
theorem GC_tl (hG:h.length+2=G):(FH (GC h steps tries m) o0 o1 o2 o3 o4 o5 o6 o7 B l).length=G+(8+B.length+l.length):=by rw[YC,mG,hG]
theorem GC_gq (hG:h.length+2=G){bs:bB}{i:Nat}{e:Ent × Sta}(hi:bs[i]?=some e):(FH (GC h steps tries m) o0 o1 o2 o3 o4 o5 o6 o7 (BA bs) l)[G+8+(3*i+2)]?=some e.2.bx:=by
 have:=kJ (h:=GC h steps tries m) (o0:=o0) (o1:=o1) (o2:=o2) (o3:=o3) (o4:=o4) (o5:=o5) (o6:=o6) (o7:=o7) (l:=l) hi;unfold qB at this;rw[mG,hG,←Nat.add_assoc]at this;exact this
end
def HC (h:aA)(steps:List Nm)(tries:Int)(F:Flo)(G:Nat)(m:List (Int × Int))(l:aA):aA:=
 FH (GC h steps tries m) (flB steps tries) (vA PV.str VB (tB (G+8) F.bs)) (dC F.sm F.ck) (.row (some 5) (F.ends.map EndP.pv) 0) (.row (some 3) (F.runs.map RunP.pv) 0) (.row none (F.ref.map eI) 0) (.row none (F.why.map eI) 0)
  (.box [TA steps,AI tries,.mp (G+1),.mp (G+2),.own (G+3) F.ends.length 0 F.ends.length,.own (G+4) F.runs.length 0 F.runs.length,.own (G+5) F.ref.length 0 F.ref.length,.own (G+6) F.why.length 0 F.why.length]) (BA F.bs) l
section
variable {steps:List Nm} {tries:Int} {F:Flo} {m m':List (Int × Int)} {o:Obj} {l l2:aA} {G:Nat}
theorem dV:(HC h steps tries F G m l)[h.length+1]?=some (vA kC vC m):=zca
theorem zcc:(HC h steps tries F G m l).set (h.length+1) (vA kC vC m')=HC h steps tries F G m' l:=zcb
theorem cV (hG:h.length+2=G):(HC h steps tries F G m l)[G+1]?=some (vA PV.str VB (tB (G+8) F.bs)):=GC_g1 hG
theorem HC_g7 (hG:h.length+2=G):(HC h steps tries F G m l)[G+7]?=some (.box [TA steps,AI tries,.mp (G+1),.mp (G+2),.own (G+3) F.ends.length 0 F.ends.length,.own (G+4) F.runs.length 0 F.runs.length,.own (G+5) F.ref.length 0 F.ref.length,.own (G+6) F.why.length 0 F.why.length]):=GC_g7 hG
theorem z1p (hG:h.length+2=G):(HC h steps tries F G m l)[G+(8+(BA F.bs).length)]?=l[0]?:=z1n hG 0
theorem z1q (hG:h.length+2=G):(HC h steps tries F G m l)[G+(8+(BA F.bs).length+1)]?=l[1]?:=z1n hG 1
theorem z1r (hG:h.length+2=G):(HC h steps tries F G m l).set (G+(8+(BA F.bs).length)) o=HC h steps tries F G m (l.set 0 o):=z1o hG 0
theorem HC_s1 (hG:h.length+2=G):(HC h steps tries F G m l).set (G+(8+(BA F.bs).length+1)) o=HC h steps tries F G m (l.set 1 o):=z1o hG 1
theorem HC_tk (hG:h.length+2=G)(n:Nat):(HC h steps tries F G m l).take (G+(8+(BA F.bs).length+n))=HC h steps tries F G m (l.take n):=GC_tk hG n
theorem gQ (hG:h.length+2=G):(HC h steps tries F G m l).length=G+(8+(BA F.bs).length+l.length):=GC_tl hG
theorem bV:HC h steps tries F G m l++l2=HC h steps tries F G m (l++l2):=nE
theorem HC_gq (hG:h.length+2=G){i:Nat}{e:Ent × Sta}(hi:F.bs[i]?=some e):(HC h steps tries F G m l)[G+8+(3*i+2)]?=some e.2.bx:=GC_gq hG hi
theorem zcd:(HC h steps tries F G m l).take h.length=h:=by unfold HC FH GC;rw[List.append_assoc,List.take_left]
end
set_option maxHeartbeats 4000000 in
theorem zoq (steps:List Nm)(tries:Int)(l:List Ent)(O:StOk steps l)(at_:Int) :
 cA X dM [EB steps tries,eB l,AI at_] h K=K (.tup [tD (AJ steps tries l at_).1,AI (AJ steps tries l at_).2]) h []:=by
 refine uA ?_;rw[zfw rfl];have q1:=fun h K=>NP (h:=h) (K:=K) steps tries l O at_
 have q3:=fun h K=>TP (h:=h) (K:=K) l at_ (by have:=O.l;omega)
 unfold AJ;simp only[XR];refine⟨_,_,_,⟨rfl,rfl,rfl⟩,?_⟩;by_cases h0:OB steps tries l at_=0
 case neg=>
  rw[if_pos h0];simp only[go_sem,↓q1,q1,h0];first|done|rfl
 rw[if_neg (by simp [h0])]
 have q4:=fun h K=>OP (h:=h) (K:=K) steps tries O.n (II h0) (upL l at_) (EE O at_).l
 obtain⟨I,J⟩:=bK tries (II h0) (fun x hx=>((EE O at_).e x hx).s)
 have hn:=(EE O at_).l
 generalize (upL l at_).length=n at I J hn;generalize lB steps tries (upL l at_)=F at *;obtain⟨G,hG⟩:∃G,h.length+2=G:=⟨_,rfl⟩;have q6:∀K,cA X FC [EB steps tries,eB (upL l at_)] (h++[Obj.box [TA steps,AI tries],vA kC vC []]) K=K (.ref (G+7) 0) (FS (GC h steps tries []) (flB steps tries) steps tries F []) (XB (GC h steps tries []) F.bs.length):=fun K=>by
  have:=q4 (GC h steps tries []) K;rw[mG,hG]at this;exact this
 have ex:∀y∈XB (GC h steps tries []) F.bs.length,h.length≤y.1:=fun y hy=>by have:=(pH hy).1;rw[mG]at this;omega
 generalize XB (GC h steps tries []) F.bs.length=ES at *;have em:Obj.amap [] 0=vA kC vC []:=rfl
 unfold FS wbx at q6;rw[mG,hG]at q6;have q7:∀K,cA X FC [EB steps tries,eB (upL l at_)] (h++[Obj.box [TA steps,AI tries],vA kC vC []]) K=K (.ref (G+7) 0) (HC h steps tries F G [] []) ES:=q6
 have mr:=fP (h:=HC h steps tries F G [] []) (id:=G+1) (key:=PV.str) (val:=VB) (l:=tB (G+8) F.bs) (cV hG)
 rw[gQ hG,bV,XO]at mr;simp only[List.length_nil,Nat.add_zero,List.nil_append]at mr;simp only[go_sem,↓q1,q1,h0,em,↓q3,q3,↓q7,q7,HC_g7 hG,mr];have hbl:F.bs.length≤1000:=by have:=I.bl;omega
 refine UA (fun t:List Nat×List (Int×Int)=>⟨[(9,.mp (h.length+1)),(30,.it (G+(8+(BA F.bs).length)))],HC h steps tries F G t.2 [.iter (some (G+1)) F.bs.length t.1 F.bs.length],ES⟩)
  (fun t=>(t.1.Nodup∧∀i∈t.1,i<F.bs.length)∧∀s,(xB s t.2).getD 0=(PF F.bs t.1 s:Int)) (fun t=>F.bs.length-t.1.length) ([],[]) rfl ⟨⟨List.nodup_nil,by simp⟩,fun s=>rfl⟩ ?_
 rintro⟨seen,m⟩ ⟨⟨hd,hb⟩,hc⟩
 dsimp only at hd hb hc ⊢;simp only[go_sem];have ml:(tB (G+8) F.bs).length=F.bs.length:=XO _ _
 have hi0:(HC h steps tries F G m [.iter (some (G+1)) F.bs.length seen F.bs.length])[G+(8+(BA F.bs).length)]?=some (.iter (some (G+1)) (tB (G+8) F.bs).length seen (tB (G+8) F.bs).length):=by rw[z1p hG,ml];rfl
 refine kP (key:=PV.str) (val:=VB) (l:=tB (G+8) F.bs) (m:=G+1) (seen:=seen) hi0 (cV hG) ?_ ?_
 ·intro hall
  rw[ml]at hall;have hcs:∀s,(xB s m).getD 0=(sG F.bs s:Int):=fun s=>by rw[hc,zfZ hd hb hall]
  simp only[z1r hG];simp only[go_sem];rw[gQ hG,bV];simp only[List.length_cons,List.length_nil,Nat.zero_add,List.cons_append,List.nil_append];have cl:(yD F.bs).length=5:=rfl
  refine UA (fun k:Nat=>⟨[(9,.mp (h.length+1)),(12,.own (G+(8+(BA F.bs).length+1)) k 0 k),(13,AI ((k+1:Nat):Int))],HC h steps tries F G m [.iter none 1 [] 0,.row (some 2) (((yD F.bs).take k).map CB) 0],ES⟩)
   (fun k=>k≤5) (fun k=>5-k) 0 rfl (Nat.zero_le _) ?_
  intro k hk;rcases Nat.lt_or_ge k 5 with hlt|hge
  ·have sw:=fun h K=>zoY (h:=h) (K:=K) hlt
   have lk:=fun(l2:aA) (b:Int)=>z8h (hp:=HC h steps tries F G m l2) (b:=b) dV
   have cle:sG F.bs ((k+1:Nat):Int)≤1000:=by unfold sG;exact Nat.le_trans (List.length_filter_le _ _) hbl
   have it:=fun h K=>z9r (h:=h) (K:=K) (sG F.bs ((k+1:Nat):Int)) (by omega) (by omega)
   have c5:((k+1:Nat):Int)≤5:=by omega
   have w2:IntKind.i64.wrap (((k+1:Nat):Int)+1)=((k+1+1:Nat):Int):=CA _ (by omega) (by omega)
   have m1:k+1≤cB:=by unfold cB;omega
   have l1:(((yD F.bs).take k).map CB).length=k:=by simp;omega
   have e9:((yD F.bs).take k).map CB++[.agg [.str (kE.getD k []),.str (itoa (sG F.bs ((k+1:Nat):Int)))]]=((yD F.bs).take (k+1)).map CB:=by
    rw[List.take_succ_eq_append_getElem (by omega),List.map_append]
    unfold yD;simp only[List.map_cons,List.map_nil,List.getElem_map,List.getElem_range,CB]
   generalize ((yD F.bs).take k).map CB=rw0 at *;have f1:h.length+1+1≤G+(8+(BA F.bs).length+2):=by omega
   have f2:G+(8+(BA F.bs).length+1)+1≤G+(8+(BA F.bs).length+2):=by omega
   simp only[go_sem,c5,↓sw,sw,lk,hcs,↓it,it,m1,w2,z1q hG,HC_s1 hG,HC_tk hG,gQ hG,bV,l1,aQ,f1,f2,List.length_cons,List.length_nil,Nat.zero_add,List.getElem?_cons_zero,List.getElem?_cons_succ,List.set_cons_zero,List.set_cons_succ,Nat.zero_le,true_and];exact⟨k+1,by rw[←e9],by omega,by omega⟩
  ·have ek:k=5:=by omega
   subst ek;have c6:¬((5+1:Nat):Int)≤5:=by decide
   have tc:(yD F.bs).take 5=yD F.bs:=rfl
   simp only[go_sem,c6,tc];rw[if_pos (by rw[gQ hG];simp only[List.length_cons,List.length_nil];omega)]
   exact z8T ex (by omega) ((z1q hG).trans rfl) rfl ⟨rfl,zcd,rfl⟩
 ·intro i hi hni
  rw[ml]at hi;have he:=List.getElem?_eq_getElem hi
  have hst:QG F.bs i=F.bs[i].2.state:=by unfold QG;rw[he]
  have hmi:(tB (G+8) F.bs)[i]'(by omega)=(F.bs[i].1.board,G+8+(3*i+2)):=by
   have:=xZ F.bs (G+8) i F.bs[i] he;rw[List.getElem?_eq_getElem (by omega)]at this
   exact Option.some.inj this
  have hnn:(seen++[i]).Nodup:=by rw[List.nodup_append];exact⟨hd,by simp,fun a ha b hb=>by rw[List.mem_singleton]at hb;subst hb;intro e;subst e;exact hni ha⟩
  have hbb:∀x∈seen++[i],x<F.bs.length:=fun x hx=>by
   rcases List.mem_append.1 hx with hx|hx
   ·exact hb x hx
   ·rw[List.mem_singleton]at hx;rw[hx];exact hi
  have hlen:seen.length<F.bs.length:=by
   have h2:=hnn.length_le_of_subset (l₂:=List.range F.bs.length) (fun x hx=>by rw[List.mem_range];exact hbb x hx)
   simp at h2;omega
  rw[hmi,ml,z1r hG];have me:=ZO (h:=HC h steps tries F G m [.iter (some (G+1)) F.bs.length (seen++[i]) F.bs.length]) (j:=G+(8+(BA F.bs).length)) (m:=G+1) (key:=PV.str) (val:=VB) (l:=tB (G+8) F.bs) (seen:=seen) (i:=i) (by rw[z1p hG,ml];rfl) (cV hG) (by omega)
  rw[hmi]at me;have lk:=fun(l2:aA) (b:Int)=>z8h (hp:=HC h steps tries F G m l2) (b:=b) dV
  have up:=fun(l2:aA) (b v:Int)=>updC (hp:=HC h steps tries F G m l2) (b:=b) (v:=v) dV
  have gq:=fun(l2:aA)=>HC_gq (h:=h) (steps:=steps) (tries:=tries) (m:=m) (l:=l2) hG he
  unfold Sta.bx at gq;unfold VB at me ⊢;have cle:PF F.bs seen F.bs[i].2.state≤1000:=by unfold PF;have:=List.length_filter_le (fun j=>decide (QG F.bs j=F.bs[i].2.state)) seen;omega
  have w2:IntKind.i64.wrap ((PF F.bs seen F.bs[i].2.state:Int)+1)=(PF F.bs seen F.bs[i].2.state:Int)+1:=CA _ (by omega) (by omega)
  simp only[go_sem,List.set_cons_zero,me,gq,lk,hc,w2,up,zcc];refine⟨(seen++[i],LC F.bs[i].2.state ((PF F.bs seen F.bs[i].2.state:Int)+1) m),rfl,⟨⟨hnn,hbb⟩,fun s=>?_⟩,by dsimp only;rw[List.length_append];simp;omega⟩
  dsimp only;rw[KO,zga,hst];by_cases e:s=F.bs[i].2.state
  ·rw[if_pos e,if_pos e,e];simp
  ·rw[if_neg e,if_neg e,hc];simp
end Go.Am
end
