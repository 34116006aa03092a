/- Texts of the proof, laid together: SpWords, SpJoin, SpBld, PBits, SpFlt3, SpFlt4, SpFlt5, SpArg, SpFlt6, SpFltT, SpSortO, SpGenF, SpChg, SpEnt6, SpEach, SpFltR, SpFltR2, SpFltR3, SpGenA2, SpDelF, SpGenF2, SpInts, SpFltE, SpEnt7, SpEnt8, SpEnt9, PRecT, SpRecT, SpRecT2, SpRecT3, SpRecT4, SpRecT5, SpEnt10, SpEnt11, SpEnt12, SpEnt13, SpFlo2, SpFlo3, SpFlo4, SpFlo5, SpFlo6, SpFlo7, SpFlo8, SpFlo9, SpFlo10, SpFlo11, PUnd, PBusy, SpBusy, SpStnd, SpLawET. -/
import Derived.KernelRfl
import Derived.Test.YtipnhkhacbdlkaaGreatDoorlawBZ7
set_option linter.all false
section
/- Where a string stands among strings;words. -/
open Go
set_option linter.all false
namespace Go.Am
variable {h:Heap} {K:Post}
theorem zrQ {v:AV} (l:List (List UInt8)) (hv:Shows none v (l.map PV.str) h) (x:List UInt8) (hl:l.length≤1000000):z0d X z4Q [v,AS x] h K=K (AI (if l.findIdx (fun y=>decide (y=x))<l.length then (l.findIdx (fun y=>decide (y=x)):Int) else -1)) h []:=by
 refine rule ?_
 rw[c_q05z]
 have vl:=hv.len
 rw[List.length_map] at vl
 simp only[zeV,go_sem,vl]
 refine z0U (fun k:Nat=>⟨[(0,v),(1,AS x),(7,AI l.length),(8,AI k)],h,[]⟩) (fun k=>k≤l.length∧∀ y∈l.take k,decide (y=x)=false) (fun k=>l.length-k) 0 rfl (by simp) ?_
 rintro k ⟨hk,hn⟩
 rcases Nat.lt_or_ge k l.length with hlt | hge
 ·obtain⟨a,ha,hb⟩:=hv.get k (by simpa using hlt)
  rw[List.getElem_map] at hb
  have w2:IntKind.i64.wrap ((k:Int)+1)=((k+1:Nat):Int):=z0k _ (by omega) (by omega)
  by_cases hpk:x=l[k]
  ·have hf:l.findIdx (fun y=>decide (y=x))=k:=by
    rw[List.findIdx_eq hlt]
    refine⟨by simp [hpk],fun j hj=>?_⟩
    have:=hn l[j] (by rw[List.mem_take_iff_getElem];exact⟨j,by omega,rfl⟩)
    simpa using this
   simp only[go_sem,hlt,ha,hb,hpk.symm,w2]
   simp only[hf,hlt,if_true]
  ·simp only[go_sem,hlt,ha,hb,hpk,w2]
   refine⟨k+1,rfl,⟨by omega,fun y hy=>?_⟩,by omega⟩
   rw[List.take_succ_eq_append_getElem hlt,List.mem_append,List.mem_singleton] at hy
   rcases hy with hy | hy
   ·exact hn y hy
   ·rw[hy];simp;exact fun e=>hpk e.symm
 ·have e1:k=l.length:=by omega
  subst e1
  simp only[go_sem,Nat.lt_irrefl]
  rw[List.take_length] at hn
  have:¬ l.findIdx (fun y=>decide (y=x))<l.length:=by
   rw[Nat.not_lt,Nat.le_iff_lt_or_eq];right
   exact (List.findIdx_eq_length.2 (fun y hy=>by simp [hn y hy])).symm
  rw[if_neg this]
theorem za6 {v:AV} (l:List (List UInt8)) (hv:∀ h':Heap,h'=h→Shows none v (l.map PV.str) h') (x:List UInt8) (hl:l.length≤1000000):z0d X z4j [v,AS x] h K=K (AB (l.contains x)) h []:=by
 refine rule ?_
 rw[c_q05k]
 have e:=fun K=>zrQ (h:=h) (K:=K) l (hv h rfl) x hl
 have hd:decide (0≤(if l.findIdx (fun y=>decide (y=x))<l.length then (l.findIdx (fun y=>decide (y=x)):Int) else -1))=l.contains x:=by
  rw[Bool.eq_iff_iff,decide_eq_true_eq,List.contains_iff_mem]
  constructor
  ·intro hq
   split at hq
   ·rename_i hlt
    have:=List.findIdx_getElem (w:=hlt)
    simp only[decide_eq_true_eq] at this
    exact this ▸ List.getElem_mem hlt
   ·omega
  ·intro hm
   rw[if_pos (List.findIdx_lt_length_of_exists ⟨x,hm,by simp⟩)];omega
 simp only[zjW,go_sem,e,hd]
theorem strS (ws:List (List UInt8)) {h:Heap}:Shows none (AStr ws) (ws.map PV.str) h:=zay zrB
end Go.Am
end
section
/- Numbers written,joined. -/
open Go
set_option linter.all false
namespace Go.Am
variable {h:Heap} {K:Post}
end Go.Am
end
section
/- A builder of strings. -/
open Go
set_option linter.all false
namespace Go.Am
variable {h:Heap} {K:Post}
theorem zo9 {b:Nat}:reif b h .nili=some .nili:=by simp only[reif]
attribute [local go_sem] zo9
theorem set_id {o:Obj} {id:Nat} (hh:h[id]?=some o):h.set id o=h:=by
 apply List.ext_getElem?
 intro j
 by_cases e:id=j
 ·subst e;rw[List.getElem?_set_self (z7C hh),hh]
 ·rw[List.getElem?_set_ne e]
end Go.Am
end
section
/- Numbers asv sets of bits;rows of a test asv numbers. -/
set_option linter.all false
namespace Go.Am
end Go.Am
end
section
/- Lists of faults: what is wrong with them,both ways. -/
open Go
set_option linter.all false
namespace Go.Am
variable {h:Heap} {K:Post}
end Go.Am
end
section
/- Rows of a test asv numbers. -/
open Go
set_option linter.all false
namespace Go.Am
variable {h:Heap} {K:Post}
end Go.Am
end
section
/- Faults on rows: what the program makes of them. -/
open Go
set_option linter.all false
namespace Go.Am
variable {h:Heap} {K:Post}
end Go.Am
end
section
/- Rows that are handed tov a function: it sees their values. -/
open Go
namespace Go.Am
end Go.Am
end
section
/- Responses,asv the program computes them. -/
open Go
set_option linter.all false
namespace Go.Am
variable {h:Heap} {K:Post}
end Go.Am
end
section
/- Faults written. -/
open Go
set_option linter.all false
namespace Go.Am
variable {h:Heap} {K:Post}
end Go.Am
end
section
/- Sorting the middle of a row: printed by program. -/
open Go
set_option linter.unusedSimpArgs false
namespace Go.Am
attribute [-go_sem] PV.cells splice
variable {h:Heap} {K:Post}
end Go.Am
end
section
/- What is drawn: orders,tests. -/
open Go
set_option linter.all false
namespace Go.Am
variable {L:List Int} {a:Int} {h l:Heap} {id:Nat} {K:Post}
def GenK (f:Nat) (args:List AV) (L:List Int) (a:Int) (sh:Sh) (Q:List PV→Int→Prop):Prop:=∀ (h:Heap) (id:Nat),h[id]?=some (strm L a)→∃ xs a2,Q xs a2∧∀ K:Post,z0d X f (.ref id 0::args) h K=K (.own h.length xs.length 0 xs.length) (h.set id (strm L a2)++[.row sh xs 0]) []
theorem GenK.of {f:Nat} {args:List AV} {L:List Int} {a:Int} {sh:Sh} {Q:List PV→Int→Prop} (H:∀ (h:Heap) (id:Nat),id<h.length→z0d X f (.ref id 0::args) (h.set id (strm L a)) fun v1 h1 x1=>∃ xs a2,Q xs a2∧v1 = .own h.length xs.length 0 xs.length∧h1=h.set id (strm L a2)++[.row sh xs 0]∧x1=[]):GenK f args L a sh Q:=by
 intro h id hh
 have hid:=z7C hh
 have k:=H h id hid
 rw[zga hh] at k
 obtain⟨v,h',x,⟨xs,a2,q,e0,e1,e2⟩,r⟩:=z0d.one zdZ k
 subst e0;subst e1;subst e2
 exact⟨xs,a2,q,r⟩
end Go.Am
end
section
/- A text changed at random. -/
open Go
set_option linter.all false
namespace Go.Am
variable {L:List Int} {a:Int} {h l:Heap} {id:Nat} {K:Post}
end Go.Am
end
section
/- Entries written. -/
open Go
set_option linter.all false
set_option maxRecDepth 100000
namespace Go.Am
variable {h:Heap} {K:Post}
theorem z6l:∀ {rs:List Ent} {p:Option Ent},z0A p rs=0→∀ r∈rs,entF r=0
 | [],p,_,r,hr=>by cases hr
 | x::rs,p,hf,r,hr=>by
  have e:z0A p (x::rs)=(if entF x≠0 then entF x else if (p.elim false fun q=>decide (z0W x q≤0))=true then 7 else z0A (some x) rs):=by cases p <;> rfl
  have hf':=hf
  rw[e] at hf'
  by_cases h1:entF x=0
  ·rw[if_neg (by simp [h1])] at hf'
   by_cases h2:(p.elim false fun q=>decide (z0W x q≤0))=true
   ·rw[if_pos h2] at hf';exact absurd hf' (by decide)
   ·rw[if_neg h2] at hf'
    rcases List.mem_cons.1 hr with e | e
    ·rw[e];exact h1
    ·exact z6l hf' r e
  ·rw[if_pos h1] at hf';exact absurd hf' h1
theorem zl5 {rs:List Ent} (hf:z2y rs=0):∀ r∈rs,entF r=0:=by
 unfold z2y at hf
 split at hf
 ·cases hf
 split at hf
 ·rename_i h;exact absurd hf h
 ·rename_i h
  exact z6l (by simpa using h)
end Go.Am
end
section
/- A text taken line by line: base.Each,scanref2.Lines. -/
open Go
set_option linter.all false
namespace Go.Am
variable {h:Heap} {K:Post}
end Go.Am
end
section
/- Faults read. -/
open Go
set_option linter.all false
namespace Go.Am
variable {h:Heap} {K:Post}
end Go.Am
end
section
/- Lists of faults read. -/
open Go
set_option linter.all false
namespace Go.Am
variable {h:Heap} {K:Post}
end Go.Am
end
section
/- fault.Read,scanref2.FaultsRead. -/
open Go
set_option linter.all false
namespace Go.Am
variable {h:Heap} {K:Post}
end Go.Am
end
section
/- What is drawn: faults. -/
open Go
set_option linter.all false
namespace Go.Am
variable {L:List Int} {a:Int} {h l:Heap} {id:Nat} {K:Post}
end Go.Am
end
section
/- Deleting faults: printed by program. -/
open Go
set_option linter.unusedSimpArgs false
namespace Go.Am
attribute [-go_sem] PV.cells splice
variable {h:Heap} {K:Post}
attribute [-go_sem] AV.cells cut
attribute [go_sem] AV.cells cut
end Go.Am
end
section
/- What is drawn: lists of faults. -/
open Go
set_option linter.all false
namespace Go.Am
variable {L:List Int} {a:Int} {h l:Heap} {id:Nat} {K:Post}
end Go.Am
end
section
/- Stable sorts of numbers: printed by program. -/
open Go
set_option linter.unusedSimpArgs false
namespace Go.Am
attribute [-go_sem] PV.cells splice
variable {h:Heap} {K:Post}
end Go.Am
end
section
/- Faults compared;texts of faults drawn. -/
open Go
set_option linter.all false
namespace Go.Am
variable {L:List Int} {a:Int} {h:Heap} {K:Post}
end Go.Am
end
section
/- Entries written,the reference;kinds read. -/
open Go
set_option linter.all false
set_option maxRecDepth 100000
namespace Go.Am
variable {h:Heap} {K:Post}
end Go.Am
end
section
/- A line of an entry read: the program. -/
open Go
set_option linter.all false
set_option maxRecDepth 100000
namespace Go.Am
variable {h:Heap} {K:Post}
end Go.Am
end
section
/- A line of an entry read: the reference. -/
open Go
set_option linter.all false
set_option maxRecDepth 100000
namespace Go.Am
variable {h:Heap} {K:Post}
end Go.Am
end
section
/- Records asv texts,plainly: read both ways. -/
set_option linter.all false
namespace Go.Am
end Go.Am
end
section
/- Records read: a line,both ways. -/
open Go
set_option linter.all false
set_option maxRecDepth 100000
namespace Go.Am
variable {h:Heap} {K:Post}
end Go.Am
end
section
/- Records read: the program's line. -/
open Go
set_option linter.all false
set_option maxRecDepth 100000
namespace Go.Am
variable {h:Heap} {K:Post}
end Go.Am
end
section
/- Records read: all lines. -/
open Go
set_option linter.all false
set_option maxRecDepth 100000
namespace Go.Am
variable {h:Heap} {K:Post}
end Go.Am
end
section
/- lot.Read,scanref2.RecordsRead. -/
open Go
set_option linter.all false
set_option maxRecDepth 100000
namespace Go.Am
variable {h:Heap} {K:Post}
end Go.Am
end
section
/- scanref2.RecordsRead. -/
open Go
set_option linter.all false
set_option maxRecDepth 100000
namespace Go.Am
variable {h:Heap} {K:Post}
end Go.Am
end
section
/- Entries read,both ways. -/
open Go
set_option linter.all false
set_option maxRecDepth 100000
namespace Go.Am
variable {h:Heap} {K:Post}
end Go.Am
end
section
/- Entries drawn: their pieces. -/
open Go
set_option linter.all false
set_option maxRecDepth 100000
namespace Go.Am
variable {L:List Int} {a:Int} {h l:Heap} {id:Nat} {K:Post}
attribute [-go_sem] oEqa
structure EntV (x:Ent):Prop where
 s:x.site.length≤1000
 b:x.board.length≤1000
 p:x.step.length≤1000
 o:x.of.length≤1000
 n : -100000000000000000≤x.no∧x.no≤100000000000000000
 t : -100000000000000000≤x.time∧x.time≤100000000000000000
 z:x.site≠[122,122]∧(x.time≤1000∨345686399999<x.time)
theorem g_OddZ (hp:posN 14 a) (u v:Int) (huv:u≤v) (hu : -1000000000000≤u) (hv:v≤1000000000000):∃ k a2:Int,a≤a2∧a2≤a+2 ∧ -1099511627776≤k∧k≤1099511627776∧(k≤v+1∨k=1099511627776) ∧
 Gen z26 [AI u,AI v] L a a2 (AI k):=by
 have w1:IntKind.i64.wrap (u-1)=u-1:=z0k _ (by omega) (by omega)
 have w2:IntKind.i64.wrap (v+1)=v+1:=z0k _ (by omega) (by omega)
 by_cases hf:z14 L a 12=0
 ·have hm:=z7Z (L:=L) (a:=a+1) (l:=[u-1,v+1,u,v,-1099511627776,1099511627776]) (by simp) (by simp)
  simp only[List.mem_cons,List.not_mem_nil,or_false] at hm
  refine⟨z4d [u-1,v+1,u,v,-1099511627776,1099511627776] L (a+1),a+1+1,by omega,by omega,by omega,by omega,by omega,Gen.of fun h id hid=>?_⟩
  rw[zeB rfl]
  simp only[z8H,go_sem,hid,z57 hp,hf,w1,w2]
 ·have hm:=z1O L (a+1) huv (by omega)
  refine⟨z0Q u v L (a+1),a+1+1,by omega,by omega,by omega,by omega,by omega,Gen.of fun h id hid=>?_⟩
  rw[zeB rfl]
  simp only[z8H,go_sem,hid,z57 hp,hf,w1,w2,huv,show -1152921504606846976≤u by omega,show v≤1152921504606846976 by omega]
theorem EntV.ok {x:Ent} (v:EntV x):EntOk x:=⟨by have:=v.s;omega,by have:=v.b;omega,by have:=v.p;omega,by have:=v.o;omega⟩
theorem zav (a b:Ent) (ha:EntV a) (hb:EntV b):z0d X z4i [.p a.pv,.p b.pv] h K=K (AI (z0W a b)) h []:=by
 refine rule ?_
 rw[zsx rfl]
 have a1:=ha.t
 have a2:=hb.t
 have a3:=ha.n
 have a4:=hb.n
 have w:IntKind.i64.wrap (a.time-b.time)=a.time-b.time:=z0k _ (by omega) (by omega)
 have w2:IntKind.i64.wrap (a.no-b.no)=a.no-b.no:=z0k _ (by omega) (by omega)
 unfold z0W
 by_cases he:a.time=b.time
 ·have:cmp3 a.time b.time=0:=by rw[he];unfold cmp3;simp
  rw[if_neg (by simp [this])]
  by_cases hs:a.site=b.site
  ·have hc:cmpL a.site b.site=0:=by rw[hs];exact z4C _
   rw[if_neg (by simp [hc]),z4B]
   simp only[z6i,Ent.pv,go_sem,he,hs,w2,zfU]
  ·have hc:cmpL a.site b.site≠0:=fun e=>hs (z5M e)
   rw[if_pos hc]
   simp only[z6i,Ent.pv,go_sem,he,hs,z3H]
 ·have hc:cmp3 a.time b.time≠0:=by unfold cmp3;split <;> (try split) <;> omega
  rw[if_pos hc]
  rw[z4B]
  simp only[z6i,Ent.pv,go_sem,he,w,zfU]
theorem z12 {l:List (List UInt8)} (hl:0<l.length) (hl2:l.length<100) (m:Nat) (h:∀ s∈l,s.length≤m):(z1A l L a).length≤m:=h _ (z7Y hl (by omega))
set_option maxHeartbeats 4000000 in
theorem zl2 (hid:id<h.length) (hp:posN 60 a) (es:List Ent) (hes:es.length≤1000) (x:Ent) (hx:EntV x) (M:Obj) (v6 v11 v12:AV) (K:Ex→St→Prop)
 (hK:∀ (x':Ent) (a':Int) (J:Heap),EntV x'→a≤a'→a'≤a+10 →
  K .normal ⟨[(0,.ref id 0),(5,.own h.length (es.length+1) 0 (es.length+1)),(6,v6),(7,.mp (h.length+1)),(11,v11),(12,v12)],h.set id (strm L a') ++ .row (some 8) (es.map Ent.pv++[x'.pv]) 0::M::J,[]⟩) :
 z1v (z0d X) X.gl z5h (.ref id 0) (.own h.length es.length 0 es.length) v6 (.mp (h.length+1)) (.ref (h.length+2) 0) v11 v12
  (h.set id (strm L a)++[.row (some 8) (es.map Ent.pv) 0,M,x.box]) [] K:=by
 have P:=z57 (z0J hp (Int.le_refl a) (by omega))
 have hmx:es.length+1≤z1f:=by unfold z1f;omega
 have e1:h.length+1<h.length+3+1:=by omega
 obtain⟨site,no,time,kind,board,step,of,other⟩:=x
 obtain⟨xs,xb,xp,xo,xn,xt,xz⟩:=hx
 dsimp only at xs xb xp xo xn xt xz
 unfold Ent.box
 dsimp only
 by_cases hf:z14 L a 100=0
 ·by_cases h0:z14 L (a+1) 3=0
  ·obtain⟨kv,a3,c1,c2,c3,c4,O⟩:=zu4 (L:=L) (a:=a+1+1+1) (z0J hp (by omega) (by omega)) 1 9 (by omega) (by omega) (by omega)
   have O':=fun l K=>O.app (h:=h) (id:=id) (l:=l) (K:=K) hid
   obtain⟨kv2,a4,d1,d2,d3,d4,d5,O2⟩:=g_OddZ (L:=L) (a:=a3) (z0J hp (by omega) (by omega)) 0 100 (by omega) (by omega) (by omega)
   have O2':=fun l K=>O2.app (h:=h) (id:=id) (l:=l) (K:=K) hid
   have p1:(z1A [[],site] L (a+1+1)).length≤1000:=z12 (by simp) (by simp) 1000 (fun s hs=>by simp only[List.mem_cons,List.not_mem_nil,or_false] at hs;rcases hs with e | e <;> rw[e] <;> first | omega | simp)
   have p9:z1A [[],site] L (a+1+1)≠[122,122]:=fun e=>by
    have:=z7Y (l:=[[],site]) (L:=L) (a:=a+1+1) (by simp) (by simp)
    simp only[List.mem_cons,List.not_mem_nil,or_false] at this
    rw[e] at this
    rcases this with h | h
    ·cases h
    ·exact xz.1 h.symm
   simp only[z1v,go_sem,hid,P,hf,h0,↓O',O',↓O2',O2',hmx]
   exact hK ⟨z1A [[],site] L (a+1+1),kv,kv2,kind,board,step,of,other⟩ a4 _ ⟨p1,xb,xp,xo,by dsimp only;omega,by dsimp only;omega,p9,by dsimp only;omega⟩ (by omega) (by omega)
  ·by_cases h1:z14 L (a+1) 3=1
   ·obtain⟨kv,a3,c1,c2,c3,c4,O⟩:=zu4 (L:=L) (a:=a+1+1) (z0J hp (by omega) (by omega)) 1 7 (by omega) (by omega) (by omega)
    have O':=fun l K=>O.app (h:=h) (id:=id) (l:=l) (K:=K) hid
    have P2:=z57 (z0J hp (show a≤a3 by omega) (show a3+14≤a+60 by omega))
    have p1:(z1A [[],[65],board] L a3).length≤1000:=z12 (by simp) (by simp) 1000 (fun s hs=>by simp only[List.mem_cons,List.not_mem_nil,or_false] at hs;rcases hs with e | e | e <;> rw[e] <;> first | omega | simp)
    have p2:(z1A [[],[115,99,97,110]] L (a3+1)).length≤1000:=z12 (by simp) (by simp) 1000 (fun s hs=>by simp only[List.mem_cons,List.not_mem_nil,or_false] at hs;rcases hs with e | e <;> rw[e] <;> simp)
    simp only[z1v,go_sem,hid,P,P2,hf,h0,h1,↓O',O',hmx]
    exact hK ⟨site,no,time,kv,z1A [[],[65],board] L a3,z1A [[],[115,99,97,110]] L (a3+1),of,other⟩ (a3+1+1) _ ⟨xs,p1,p2,xo,xn,xt,xz⟩ (by omega) (by omega)
   ·obtain⟨kv,a3,c1,c2,c3,c4,O⟩:=zu4 (L:=L) (a:=a+1+1+1) (z0J hp (by omega) (by omega)) 0 5 (by omega) (by omega) (by omega)
    have O':=fun l K=>O.app (h:=h) (id:=id) (l:=l) (K:=K) hid
    have p1:(z1A [[],[115,97]] L (a+1+1)).length≤1000:=z12 (by simp) (by simp) 1000 (fun s hs=>by simp only[List.mem_cons,List.not_mem_nil,or_false] at hs;rcases hs with e | e <;> rw[e] <;> simp)
    simp only[z1v,go_sem,hid,P,hf,h0,h1,↓O',O',hmx]
    exact hK ⟨site,no,time,kind,board,step,z1A [[],[115,97]] L (a+1+1),kv⟩ a3 _ ⟨xs,xb,xp,p1,xn,xt,xz⟩ (by omega) (by omega)
 ·simp only[z1v,go_sem,hid,P,hf,hmx]
  exact hK ⟨site,no,time,kind,board,step,of,other⟩ (a+1) _ ⟨xs,xb,xp,xo,xn,xt,xz⟩ (by omega) (by omega)
end Go.Am
end
section
/- Entries drawn. -/
open Go
set_option linter.all false
set_option maxRecDepth 100000
namespace Go.Am
variable {L:List Int} {a:Int} {h l:Heap} {id:Nat} {K:Post}
attribute [-go_sem] oEqa z1p z17 z1v z25
def intA (n:Int):AV:=.p (.int .i64 n)
def MB (m:Int) (l:List (List UInt8 × Int)):Prop:=∀ s v,getM s l=some v→0≤v∧v≤m
theorem MB.upd {m:Int} {l:List (List UInt8 × Int)} (H:MB m l) (s:List UInt8) {c:Int} (h0:0≤c) (h1:c≤m+1):MB (m+1) (updM s c l):=fun s' v hv=>by
 rw[zak] at hv
 split at hv
 ·cases hv;exact⟨h0,h1⟩
 ·have:=H s' v hv;omega
abbrev EH (h:Heap) (id:Nat) (L:List Int) (a:Int) (es:List Ent) (M:List (List UInt8 × Int)) (x:Ent):Heap:=h.set id (strm L a)++[.row (some 8) (es.map Ent.pv) 0,mobj PV.str intA M,x.box]
set_option maxHeartbeats 4000000 in
theorem zl3 (hid:id<h.length) (hp:posN 80 a) (es:List Ent) (hes:es.length≤1000) (x:Ent) (hx:EntV x) (M:List (List UInt8 × Int)) (v6 v11 v12:AV) (K:Ex→St→Prop)
 (hK:∀ (x':Ent) (a':Int) (J:Heap),EntV x'→a≤a'→a'≤a+12 →
  K .normal ⟨[(0,.ref id 0),(5,.own h.length (es.length+1) 0 (es.length+1)),(6,v6),(7,.mp (h.length+1)),(11,v11),(12,v12)],h.set id (strm L a') ++ .row (some 8) (es.map Ent.pv++[x'.pv]) 0::mobj PV.str intA M::J,[]⟩) :
 NW (z0d X) X.gl z36 ⟨[(0,.ref id 0),(5,.own h.length es.length 0 es.length),(6,v6),(7,.mp (h.length+1)),(9,.ref (h.length+2) 0),(11,v11),(12,v12)],EH h id L a es M x,[]⟩ (z0v 2 (seqN (z0d X) X.gl z37 K)):=by
 have P:=z57 (z0J hp (Int.le_refl a) (by omega))
 obtain⟨site,no,time,kind,board,step,of,other⟩:=x
 obtain⟨xs,xb,xp,xo,xn,xt,xz⟩:=hx
 dsimp only at xs xb xp xo xn xt xz
 unfold EH Ent.box
 dsimp only
 by_cases k2:kind=2
 ·have p1:(z1A [[115,99,97,110],[115,99,97,110],[102,108,97,115,104],[98,117,114,110]] L a).length≤1000:=z12 (by simp) (by simp) 1000 (fun s hs=>by simp only[List.mem_cons,List.not_mem_nil,or_false] at hs;rcases hs with e | e | e | e <;> rw[e] <;> simp)
  simp only[go_sem,hid,P,eq_true k2]
  rw[z25]
  refine zl2 hid (z0J hp (by omega) (by omega)) es hes ⟨site,no,time,kind,board,z1A [[115,99,97,110],[115,99,97,110],[102,108,97,115,104],[98,117,114,110]] L a,of,other⟩ ⟨xs,xb,p1,xo,xn,xt,xz⟩ (mobj PV.str intA M) v6 v11 v12 K (fun x' a' J h1 h2 h3=>hK x' a' J h1 (by omega) (by omega))
 ·simp only[go_sem,hid,P,k2]
  rw[z25]
  refine zl2 hid (z0J hp (by omega) (by omega)) es hes ⟨site,no,time,kind,board,step,of,other⟩ ⟨xs,xb,xp,xo,xn,xt,xz⟩ (mobj PV.str intA M) v6 v11 v12 K (fun x' a' J h1 h2 h3=>hK x' a' J h1 (by omega) (by omega))
attribute [-go_sem] z7o
set_option maxHeartbeats 4000000 in
theorem ent_k4 (hid:id<h.length) (hp:posN 120 a) (es:List Ent) (hes:es.length≤1000) (x:Ent) (hx:EntV x) (M:List (List UInt8 × Int)) (m:Int) (hm:0≤m∧m≤1000) (hM:MB m M) (k:Nat) (v6 v11 v12:AV) (K:Ex→St→Prop)
 (hK:∀ (x':Ent) (a':Int) (M':List (List UInt8 × Int)) (J:Heap),EntV x'→a≤a'→a'≤a+15→MB (m+1) M' →
  K .normal ⟨[(0,.ref id 0),(5,.own h.length (es.length+1) 0 (es.length+1)),(6,v6),(7,.mp (h.length+1)),(11,v11),(12,v12)],h.set id (strm L a') ++ .row (some 8) (es.map Ent.pv++[x'.pv]) 0::mobj PV.str intA M'::J,[]⟩) :
 z2d (z0d X) X.gl z36 z37 (.ref id 0) (.own h.length es.length 0 es.length) v6 (.mp (h.length+1)) (AI k) (.ref (h.length+2) 0) v11 v12 (EH h id L a es M x) [] K:=by
 have P:=z57 (z0J hp (Int.le_refl a) (by omega))
 obtain⟨site,no,time,kind,board,step,of,other⟩:=x
 obtain⟨xs,xb,xp,xo,xn,xt,xz⟩:=hx
 dsimp only at xs xb xp xo xn xt xz
 obtain⟨c,hc,c0,c1⟩:∃ c,(getM site M).getD 0=c∧0≤c∧c≤m:=by
  cases hg:getM site M with
  | none=>exact⟨0,rfl,by omega,hm.1⟩
  | some v=>exact⟨v,rfl,hM site v hg⟩
 have wc:IntKind.i64.wrap (c+1)=c+1:=z0k _ (by omega) (by omega)
 have hM':=hM.upd site (c:=c+1) (by omega) (by omega)
 have gu:getM site (updM site (c+1) M)=some (c+1):=by rw[zak,if_pos rfl]
 have lk:=fun (hp:Heap) (M:List (List UInt8 × Int)) (e:hp[h.length+1]?=some (mobj PV.str intA M))=>z3g (kk:=(none,[2])) (k:=site) z4W e z1N (ok:=false) (z:=intA 0)
 have up:=fun (hp:Heap) (e:hp[h.length+1]?=some (mobj PV.str intA M))=>z5a (kk:=(none,[2])) (k:=site) z4W e z1N (v:=c+1) rfl
 have gt:∀ (R:Obj) (M:List (List UInt8 × Int)) (t:Heap),(h.set id (strm L a)++R::mobj PV.str intA M::t)[h.length+1]?=some (mobj PV.str intA M):=fun R M t=>by
  rw[List.getElem?_append_right (by simp)];simp
 have l1:=fun R t=>lk (h.set id (strm L a)++R::mobj PV.str intA M::t) M (gt R M t)
 have l2:=fun R t=>lk (h.set id (strm L a)++R::mobj PV.str intA (updM site (c+1) M)::t) _ (gt R _ t)
 have u1:=fun R t=>up (h.set id (strm L a)++R::mobj PV.str intA M::t) (gt R M t)
 have eo:(Option.map intA (getM site M)).getD (intA 0)=AI c:=by
  rw[← hc];cases getM site M <;> rfl
 have es0:∀ (R:Obj) (t:Heap) (o:Obj),(h.set id (strm L a)++R::mobj PV.str intA M::t).set (h.length+1) o=h.set id (strm L a)++R::o::t:=fun R t o=>by
  rw[List.set_append_right _ _ (by simp)];simp
 simp only[cond_false,eo] at l1
 simp only[cond_false,gu,Option.map_some,Option.getD_some,intA,z1X,AV.top,Nat.not_lt_zero,if_false,es0] at l1 l2 u1
 unfold EH Ent.box
 dsimp only
 by_cases k7:kind=7
 ·have p1:(z1A [[115,97],[115,98]] L a).length≤1000:=z12 (by simp) (by simp) 1000 (fun s hs=>by simp only[List.mem_cons,List.not_mem_nil,or_false] at hs;rcases hs with e | e <;> rw[e] <;> simp)
  simp only[z2d,go_sem,hid,P,eq_true k7,l1,l2,u1,wc]
  rw[z25]
  refine zl2 hid (z0J hp (by omega) (by omega)) es hes ⟨site,c+1,time,kind,board,step,z1A [[115,97],[115,98]] L a,z0Q 1 8 L (a+1)⟩ ⟨xs,xb,xp,p1,by dsimp only;omega,xt,xz⟩ (mobj PV.str intA (updM site (c+1) M)) v6 v11 v12 K (fun x' a' J h1 h2 h3=>hK x' a' _ J h1 (by omega) (by omega) hM')
 ·obtain⟨bb,gb,lb⟩:∃ bb:List UInt8,([.str [98,49],.str [98,50],.str [98,51]]:List PV)[k%3]?=some (.str bb)∧bb.length≤1000:=by
   have h3:k%3<3:=Nat.mod_lt _ (by omega)
   generalize k%3=j at h3
   match j,h3 with
   | 0,_=>exact⟨_,rfl,by simp⟩
   | 1,_=>exact⟨_,rfl,by simp⟩
   | 2,_=>exact⟨_,rfl,by simp⟩
  have tm:(k:Int).tmod 3=((k%3:Nat):Int):=by
   rw[Int.tmod_eq_emod_of_nonneg (by omega)];omega
  have hk3:k%3<3:=Nat.mod_lt _ (by omega)
  have cw:∀ v:List UInt8,cutP none 0 (PV.str v)=some (PV.str v):=fun _=>rfl
  by_cases k3:(3:Int)≤(k:Int)
  ·have p1:(z1A [[98,49],[98,49],[98,50],[98,51],[98,52]] L a).length≤1000:=z12 (by simp) (by simp) 1000 (fun s hs=>by simp only[List.mem_cons,List.not_mem_nil,or_false] at hs;rcases hs with e | e | e | e | e <;> rw[e] <;> simp)
   simp only[z2d,go_sem,hid,P,k7,l1,l2,u1,wc,tm,gb,hk3,cw,k3]
   exact zl3 hid (z0J hp (by omega) (by omega)) es hes ⟨site,c+1,time,kind,z1A [[98,49],[98,49],[98,50],[98,51],[98,52]] L a,step,of,other⟩ ⟨xs,p1,xp,xo,by dsimp only;omega,xt,xz⟩ (updM site (c+1) M) v6 v11 v12 K (fun x' a' J h1 h2 h3=>hK x' a' _ J h1 (by omega) (by omega) hM')
  ·simp only[z2d,go_sem,hid,P,k7,l1,l2,u1,wc,tm,gb,hk3,cw,k3]
   exact zl3 hid (z0J hp (by omega) (by omega)) es hes ⟨site,c+1,time,kind,bb,step,of,other⟩ ⟨xs,lb,xp,xo,by dsimp only;omega,xt,xz⟩ (updM site (c+1) M) v6 v11 v12 K (fun x' a' J h1 h2 h3=>hK x' a' _ J h1 (by omega) (by omega) hM')
end Go.Am
end
section
/- Entries drawn: all,right ones,texts. -/
open Go
set_option linter.all false
set_option maxRecDepth 100000
namespace Go.Am
variable {L:List Int} {a:Int} {h l:Heap} {id:Nat} {K:Post}
attribute [-go_sem] oEqa z1p z17 z1v z25 z7o z7p
theorem zl7 {P:Ent→Prop}:∀ {xs:List PV},(∀ x∈xs,∃ r,P r∧x=Ent.pv r)→∃ rs:List Ent,(∀ r∈rs,P r)∧xs=rs.map Ent.pv
 | [],_=>⟨[],by simp,rfl⟩
 | x::xs,h=>by
  obtain⟨r,h1,h2⟩:=h x (by simp)
  obtain⟨rs,h3,h4⟩:=zl7 (xs:=xs) (fun y hy=>h y (List.mem_cons_of_mem _ hy))
  refine⟨r::rs,fun z hz=>?_,by rw[h2,h4];rfl⟩
  rcases List.mem_cons.1 hz with rfl | hz
  ·exact h1
  ·exact h3 z hz
set_option maxHeartbeats 4000000 in
theorem zlR (hp:posN 4000 a) (n:Nat) (hn:n≤19) :
 GenE z8Q [AI n] L a (fun v a2=>a≤a2∧a2≤a+1000∧∃ rs:List Ent,rs.length≤n∧(∀ r∈rs,EntV r)∧v=z19 rs):=by
 refine GenE.of fun h id hid=>?_
 rw[c_q03c rfl]
 simp only[zeO,go_sem,hid]
 refine z0U (fun t:List Ent × Int × Int × List (List UInt8 × Int)=>⟨[(0,.ref id 0),(5,.own h.length t.1.length 0 t.1.length),(6,AI t.2.1),(7,.mp (h.length+1)),(11,AI n),(12,AI t.1.length)],h.set id (strm L t.2.2.1)++[.row (some 8) (t.1.map Ent.pv) 0,mobj PV.str intA t.2.2.2],[]⟩)
  (fun t=>t.1.length≤n∧(∀ r∈t.1,EntV r)∧(a≤t.2.2.1∧t.2.2.1≤a+40*t.1.length)∧(0≤t.2.1∧t.2.1≤10*t.1.length)∧MB t.1.length t.2.2.2) (fun t=>n-t.1.length) ([],0,a,[]) rfl ⟨by simp,by simp,by simp,by simp,fun s v h=>by simp [getM] at h⟩ ?_
 rintro⟨es,t,b,M⟩ ⟨q1,q2,⟨q3,q4⟩,⟨q5,q6⟩,q7⟩
 dsimp only at q1 q2 q3 q4 q5 q6 q7
 rcases Nat.lt_or_ge es.length n with hlt | hge
 ·have P:=z57 (z0J hp q3 (show b+14≤a+4000 by omega))
  have w1:IntKind.i64.wrap ((es.length:Int)+1)=((es.length+1:Nat):Int):=z0k _ (by omega) (by omega)
  have m1:=z7Z (L:=L) (a:=b) (l:=[0,1,1,3,10]) (by simp) (by simp)
  have b1:0≤z4d [0,1,1,3,10] L b∧z4d [0,1,1,3,10] L b≤10:=by
   simp only[List.mem_cons,List.not_mem_nil,or_false] at m1
   omega
  have w2:IntKind.i64.wrap (t+z4d [0,1,1,3,10] L b)=t+z4d [0,1,1,3,10] L b:=z0k _ (by omega) (by omega)
  have ps:(z1A [[115,97],[115,97],[115,98]] L (b+1)).length≤1000:=z12 (by simp) (by simp) 1000 (fun s hs=>by simp only[List.mem_cons,List.not_mem_nil,or_false] at hs;rcases hs with e | e | e <;> rw[e] <;> simp)
  have pz:z1A [[115,97],[115,97],[115,98]] L (b+1)≠[122,122]:=fun e=>by
   have:=z7Y (l:=[[115,97],[115,97],[115,98]]) (L:=L) (a:=b+1) (by simp) (by simp)
   rw[e] at this
   revert this;decide
  obtain⟨t',ht'⟩:∃ t',t+z4d [0,1,1,3,10] L b=t':=⟨_,rfl⟩
  have ht2:0≤t'∧t'≤10*(es.length+1):=by omega
  rw[ht'] at w2
  have fin:∀ (kd:Int),NW (z0d X) X.gl z5i ⟨[(0,.ref id 0),(5,.own h.length es.length 0 es.length),(6,AI t'),(7,.mp (h.length+1)),(8,AI es.length),(9,.ref (h.length+2) 0),(11,AI n),(12,AI es.length)],EH h id L (b+1+1+1) es M ⟨z1A [[115,97],[115,97],[115,98]] L (b+1),0,t',kd,[],[],[],0⟩,[]⟩
   (z0v 1 (seqN (z0d X) X.gl z5j (z90 (h.length+2) [] (zd6
    (fun t:List Ent × Int × Int × List (List UInt8 × Int)=>⟨[(0,.ref id 0),(5,.own h.length t.1.length 0 t.1.length),(6,AI t.2.1),(7,.mp (h.length+1)),(11,AI n),(12,AI t.1.length)],h.set id (strm L t.2.2.1)++[.row (some 8) (t.1.map Ent.pv) 0,mobj PV.str intA t.2.2.2],[]⟩)
    (fun t=>t.1.length≤n∧(∀ r∈t.1,EntV r)∧(a≤t.2.2.1∧t.2.2.1≤a+40*t.1.length)∧(0≤t.2.1∧t.2.1≤10*t.1.length)∧MB t.1.length t.2.2.2) (fun t=>n-t.1.length)
    (z0v 0 (seqN (z0d X) X.gl z38 (finR [.t 4] false h.length (fun v1 h1 x1=>∃ a2,(a≤a2∧a2≤a+1000∧∃ rs:List Ent,rs.length≤n∧(∀ r∈rs,EntV r)∧v1=z19 rs)∧h1=h.set id (strm L a2)∧x1=[])))) (es,t,b,M))))):=by
   intro kd
   rw[z7p]
   refine ent_k4 hid (z0J hp (by omega) (by omega)) es (by omega) ⟨z1A [[115,97],[115,97],[115,98]] L (b+1),0,t',kd,[],[],[],0⟩ ⟨ps,by simp,by simp,by simp,by dsimp only;omega,by dsimp only;omega,pz,by dsimp only;omega⟩ M es.length ⟨by omega,by omega⟩ q7 es.length (AI t') (AI n) (AI es.length) _ (fun x' a' M' J r1 r2 r3 r4=>?_)
   have f1:id+1≤h.length+2:=by omega
   have f2:h.length+1≤h.length+2:=by omega
   have f3:h.length+1+1≤h.length+2:=by omega
   simp only[go_sem,w1,f1,f2,f3]
   refine⟨(es++[x'],t',a',M'),?_,⟨by simp;omega,fun r hr=>?_,⟨by dsimp only;omega,by simp;omega⟩,⟨by dsimp only;omega,by simp;omega⟩,by simpa using r4⟩,by simp;omega⟩
   ·simp only[List.length_append,List.length_cons,List.length_nil,List.map_append,List.map_cons,List.map_nil]
   ·rcases List.mem_append.1 hr with hr | hr
    ·exact q2 r hr
    ·rw[List.mem_singleton] at hr;rw[hr];exact r1
  unfold EH Ent.box at fin
  dsimp only at fin
  by_cases k3:(es.length:Int)<3
  ·have:=fin 1
   simp only[go_sem,hid,P,hlt,w2,ht',k3,splice]
   exact this
  ·have:=fin (z4d [2,2,2,3,3,4,4,5,5,6,7,1] L (b+1+1))
   simp only[go_sem,hid,P,hlt,w2,ht',k3,splice]
   exact this
 ·have en:es.length=n:=by omega
  have hb2:¬ (es.length<n):=by omega
  have hh:(h.set id (strm L b)++[Obj.row (some 8) (es.map Ent.pv) 0,mobj PV.str intA M])[h.length]?=some (.row (some 8) (es.map Ent.pv) 0):=by rw[List.getElem?_append_right (by simp)];simp
  have st:=fun K=>z66 (h:=h.set id (strm L b)++[Obj.row (some 8) (es.map Ent.pv) 0,mobj PV.str intA M]) (K:=K) h.length (es.map Ent.pv) zfi (by simp;omega) hh (g:=z4i) (caps:=[]) (c:=fun x y=>z0W (zdR x) (zdR y))
   (fun o x hx y hy K=>by
    obtain⟨p,hp,rfl⟩:=List.mem_map.1 hx
    obtain⟨q,hq,rfl⟩:=List.mem_map.1 hy
    dsimp only
    rw[za0,za0]
    exact zav p q (q2 p hp) (q2 q hq))
  have hsm:∀ x∈zcv (ltC fun x y=>z0W (zdR x) (zdR y)) (es.map Ent.pv),∃ r,EntV r∧x=Ent.pv r:=fun x hx=>by
   obtain⟨r,hr,rfl⟩:=List.mem_map.1 (zmh.1 hx)
   exact⟨r,q2 r hr,rfl⟩
  obtain⟨ss,s1,s2⟩:=zl7 hsm
  have hsl:ss.length=es.length:=by have:=congrArg List.length s2;simp [zmg] at this;omega
  simp only[List.length_map,s2] at st
  have e0:∀ o,(h.set id (strm L b)++[Obj.row (some 8) (es.map Ent.pv) 0,mobj PV.str intA M]).set h.length o=h.set id (strm L b)++[o,mobj PV.str intA M]:=fun o=>by rw[List.set_append_right _ _ (by simp)];simp
  simp only[e0] at st
  have hw:win (ss.map Ent.pv) 0 es.length=ss.map Ent.pv:=za1 (by simp [hsl])
  have hcr:es.length≤es.length:=Nat.le_refl _
  have hll:(ss.map Ent.pv).length=es.length:=by simp [hsl]
  simp only[go_sem,hb2,↓st,st,hll,hw,hsl]
  exact⟨b,⟨q3,by omega,ss,by omega,s1,rfl⟩,rfl⟩
end Go.Am
end
section
/- The floor: its state;a board leaves its site. -/
open Go
set_option linter.all false
set_option maxRecDepth 100000
namespace Go.Am
variable {h:Heap} {K:Post}
attribute [-go_sem] oEqa z1p z17 splice
attribute [local go_sem] z2q z3m z6z z60 z8s z8t z9A z9B z8u z9D z9E z9F z9G z9H z9I z9J
structure Flo where
 bs:Brds
 sm:SMap
 ck:Nat
 ends:List EndP
 runs:List RunP
 ref:List Int
 why:List Int
def Flo.P (S:Flo):FlP:=⟨asA S.bs,asS S.sm,S.ends,S.runs⟩
def EndP.pv (e:EndP):PV:=.agg [.str e.board,.str e.step,eI e.frm,eI e.til,.bool e.pass]
def RunP.pv (r:RunP):PV:=.agg [.str r.site,eI r.frm,eI r.til]
def wbx (h:Heap) (steps:List Nm) (tries:Int) (a b c d:Nat):Obj:=.box [AStr steps,AI tries,.mp (h.length+1),.mp (h.length+2),.own (h.length+3) a 0 a,.own (h.length+4) b 0 b,.own (h.length+5) c 0 c,.own (h.length+6) d 0 d]
def FS (h:Heap) (fb:Obj) (steps:List Nm) (tries:Int) (S:Flo) (l:Heap):Heap:=
 FH h fb (mobj PV.str refA (mapB (h.length+8) S.bs)) (dobj S.sm S.ck) (.row (some 5) (S.ends.map EndP.pv) 0) (.row (some 3) (S.runs.map RunP.pv) 0) (.row none (S.ref.map eI) 0) (.row none (S.why.map eI) 0)
  (wbx h steps tries S.ends.length S.runs.length S.ref.length S.why.length) (boxB S.bs) l
def clo1 (site:Nm) (at_:Int) (r:RunP):RunP:=if r.site=site∧r.til<0 then { r with til:=at_ } else r
def cloK (l:List RunP) (site:Nm) (at_:Int) (k:Nat):List RunP:=(l.take k).map (clo1 site at_)++l.drop k
theorem cloK_0 (l:List RunP) (site:Nm) (at_:Int):cloK l site at_ 0=l:=by simp [cloK]
theorem zeG (l:List RunP) (site:Nm) (at_:Int) (k:Nat):(cloK l site at_ k).length=l.length:=by simp [cloK];omega
theorem zpX (l:List RunP) (site:Nm) (at_:Int):cloK l site at_ l.length=z1i l site at_:=by
 unfold cloK z1i
 rw[List.take_length,List.drop_length,List.append_nil]
 rfl
theorem zeF {l:List RunP} {site:Nm} {at_:Int} {k:Nat} (hk:k<l.length):(cloK l site at_ k)[k]?=some l[k]:=by
 unfold cloK
 rw[List.getElem?_append_right (by simp;omega)]
 have:k-((l.take k).map (clo1 site at_)).length=0:=by simp;omega
 rw[this,List.getElem?_drop]
 simp [hk]
theorem zbb {l:List RunP} {site:Nm} {at_:Int} {k:Nat} (hk:k<l.length):cloK l site at_ (k+1)=(cloK l site at_ k).set k (clo1 site at_ l[k]):=by
 unfold cloK
 rw[List.take_succ_eq_append_getElem hk,List.map_append,List.set_append_right _ _ (by simp;omega)]
 have:k-((l.take k).map (clo1 site at_)).length=0:=by simp;omega
 rw[this,List.drop_eq_getElem_cons (i:=k) hk,List.append_assoc]
 rfl
theorem zj5 {l:List RunP} {site:Nm} {at_:Int} {k:Nat} (hk:k<l.length) (e:clo1 site at_ l[k]=l[k]):cloK l site at_ (k+1)=cloK l site at_ k:=by
 rw[zbb hk,e]
 apply List.ext_getElem?
 intro i
 rw[List.getElem?_set]
 split
 ·rename_i hi;subst hi
  rw[zeG,if_pos hk,zeF hk]
 ·rfl
def delS (m:SMap) (k:Nm):SMap:=match z4u k m with
 | some i=>m.eraseIdx i
 | none=>m
theorem zke {m:SMap} {k:Nm} (hu:(m.map fun e=>e.1.1).Nodup):asS (delS m k)=delA (asS m) k∧((delS m k).map fun e=>e.1.1).Nodup:=by
 have main:delS m k=m.filter fun e=>!decide (e.1.1=k):=by
  unfold delS
  induction m with
  | nil=>rfl
  | cons y r ih=>
   rw[List.map_cons,List.nodup_cons] at hu
   have q:=ih hu.2
   unfold z4u
   rw[List.filter_cons]
   by_cases h:k=y.1.1
   ·rw[if_pos h]
    have:r.filter (fun e=>!decide (e.1.1=k))=r:=by
     rw[List.filter_eq_self]
     intro z hz
     have:¬ z.1.1=k:=fun e=>hu.1 (by rw[← h,← e];exact List.mem_map_of_mem hz)
     simp [this]
    rw[if_neg (by simp [h.symm]),this]
    rfl
   ·have hn:¬ y.1.1=k:=fun z=>h z.symm
    rw[if_neg h,if_pos (by simp [hn]),← q]
    cases z4u k r with
    | none=>rfl
    | some i=>rfl
 rw[main]
 constructor
 ·unfold asS delA
  rw[List.filter_map]
  rfl
 ·exact List.Nodup.sublist (List.Sublist.map _ List.filter_sublist) hu
theorem mdel_d {id:Nat} {hp:Heap} {m:SMap} {c:Nat} {k:Nm} (hh:hp[id]?=some (dobj m c)) :
 z4c (none,[2]) (.mp id) (AS k) hp=some (.und,hp.set id (dobj (delS m k) c),[]):=by
 have e1:z2i (none,[2]) (AS k)=some (.str k):=z1N
 have e2:mget hp (.mp id)=some (id,m.map fun e=>(⟨.str e.1.1,AS e.1.2,e.2⟩:ME),c):=by simp only[mget,hh,dobj]
 simp only[z4c,e1,e2,zap]
 unfold delS
 cases hf:z4u k m with
 | none=>
  have:hp.set id (dobj m c)=hp:=set_id hh
  rw[this]
 | some i=>
  simp only[dobj]
  have e3:∀ (m:SMap) (i:Nat),(m.map fun e=>(⟨.str e.1.1,AS e.1.2,e.2⟩:ME)).eraseIdx i=(m.eraseIdx i).map fun e=>(⟨.str e.1.1,AS e.1.2,e.2⟩:ME):=by
   intro m
   induction m with
   | nil=>intro i;rfl
   | cons y r ih=>
    intro i
    cases i with
    | zero=>rfl
    | succ i=>simp only[List.map_cons,List.eraseIdx_cons_succ,ih i]
  rw[e3]
attribute [-go_sem] z4c
set_option maxHeartbeats 4000000 in
theorem zoP (fb:Obj) (steps:List Nm) (tries:Int) (S:Flo) (l:Heap) (i:Nat) (e:Ent × Sta) (hi:S.bs[i]?=some e) (hr:S.runs.length≤1000000) (at_:Int) :
 z0d X z4T [.ref (h.length+7) 0,.ref (qB h i) 0,AI at_] (FS h fb steps tries S l) K=K (.tup []) (FS h fb steps tries { S with bs:=S.bs.set i (e.1,{ e.2 with site:=[] }),sm:=delS S.sm e.2.site,runs:=z1i S.runs e.2.site at_ } l) []:=by
 refine rule ?_
 rw[c_q088 rfl]
 obtain⟨bs,sm,ck,ends,runs,ref,why⟩:=S
 obtain⟨x,st,si,sp,ss,sf⟩:=e
 dsimp only at hi hr ⊢
 have gq:=fun (o0 o1 o2 o3 o4 o5 o6 o7:Obj) (l:Heap)=>FH_gq (h:=h) (o0:=o0) (o1:=o1) (o2:=o2) (o3:=o3) (o4:=o4) (o5:=o5) (o6:=o6) (o7:=o7) (l:=l) hi
 have sq:=fun (o0 o1 o2 o3 o4 o5 o6 o7:Obj) (l:Heap)=>FH_sq (h:=h) (o0:=o0) (o1:=o1) (o2:=o2) (o3:=o3) (o4:=o4) (o5:=o5) (o6:=o6) (o7:=o7) (l:=l) hi ⟨st,si,sp,[],sf⟩
 unfold Sta.bx at gq sq
 dsimp only at gq sq
 unfold FS wbx
 dsimp only
 simp only[zeZ,go_sem]
 refine z0U (fun k:Nat=>⟨[(0,.ref (h.length+7) 0),(1,.ref (qB h i) 0),(2,AI at_),(11,AI runs.length),(12,AI k)],
  FH h fb (mobj PV.str refA (mapB (h.length+8) bs)) (dobj sm ck) (.row (some 5) (ends.map EndP.pv) 0) (.row (some 3) ((cloK runs ss at_ k).map RunP.pv) 0) (.row none (ref.map eI) 0) (.row none (why.map eI) 0)
   (.box [AStr steps,AI tries,.mp (h.length+1),.mp (h.length+2),.own (h.length+3) ends.length 0 ends.length,.own (h.length+4) runs.length 0 runs.length,.own (h.length+5) ref.length 0 ref.length,.own (h.length+6) why.length 0 why.length]) (boxB bs) l,[]⟩) (fun k=>k≤runs.length) (fun k=>runs.length-k) 0 (by rw[cloK_0];rfl) (by omega) ?_
 intro k hk
 rcases Nat.lt_or_ge k runs.length with hlt | hge
 ·have w1:IntKind.i64.wrap ((k:Int)+1)=((k+1:Nat):Int):=z0k _ (by omega) (by omega)
  have hl:=zeG runs ss at_ k
  have hg:((cloK runs ss at_ k).map RunP.pv)[k]?=some (RunP.pv runs[k]):=by rw[List.getElem?_map,zeF hlt];rfl
  have c0:cutP none 0 (RunP.pv runs[k])=some (.str runs[k].site):=rfl
  have c2:cutP none 2 (RunP.pv runs[k])=some (eI runs[k].til):=rfl
  have hs1:=zbb (l:=runs) (site:=ss) (at_:=at_) hlt
  have hs2:=fun e=>zj5 (l:=runs) (site:=ss) (at_:=at_) hlt e
  by_cases h1:runs[k].site=ss
  ·by_cases h2:runs[k].til<0
   ·have e1:clo1 ss at_ runs[k]=⟨runs[k].site,runs[k].frm,at_⟩:=by unfold clo1;rw[if_pos ⟨h1,h2⟩]
    rw[e1] at hs1
    have fp:RunP.pv runs[k] = .agg [.str runs[k].site,eI runs[k].frm,eI runs[k].til]:=rfl
    rw[fp] at hg c0 c2
    simp only[go_sem,hlt,gq,hl,hg,c0,c2,h1,h2,w1,splice]
    refine⟨k+1,?_,by omega,by omega⟩
    rw[hs1,List.map_set,← h1]
    rfl
   ·have e1:clo1 ss at_ runs[k]=runs[k]:=by unfold clo1;rw[if_neg (by intro z;exact h2 z.2)]
    simp only[go_sem,hlt,gq,hl,hg,c0,c2,h1,h2,w1]
    exact⟨k+1,by rw[hs2 e1],by omega,by omega⟩
  ·have e1:clo1 ss at_ runs[k]=runs[k]:=by unfold clo1;rw[if_neg (by intro z;exact h1 z.1)]
   simp only[go_sem,hlt,gq,hl,hg,c0,c2,h1,w1]
   exact⟨k+1,by rw[hs2 e1],by omega,by omega⟩
 ·have ek:k=runs.length:=by omega
  subst ek
  rw[zpX]
  have md:=fun (o0 o1 o3 o4 o5 o6 o7:Obj) (B l:Heap)=>mdel_d (id:=h.length+2) (hp:=FH h o0 o1 (dobj sm ck) o3 o4 o5 o6 o7 B l) (m:=sm) (c:=ck) (k:=ss) z60
  have s3:∀ v:AV,splice [AI st,AI si,AS sp,AS ss,AI sf] 3 [v]=[AI st,AI si,AS sp,v,AI sf]:=fun _=>rfl
  have cl:(z1i runs ss at_).length=runs.length:=by simp [z1i]
  have ml:=z4Z (h.length+8) bs i _ ⟨st,si,sp,[],sf⟩ hi
  have bl:(boxB (bs.set i (x,⟨st,si,sp,[],sf⟩))).length=(boxB bs).length:=by rw[z05,z05,List.length_set]
  simp only[go_sem,Nat.lt_irrefl,gq,md,s3,sq,cl,ml]
  exact List.take_of_length_le (by rw[z2q,bl];exact Nat.le_refl _)
end Go.Am
end
section
/- The floor: a start,a finish. -/
open Go
set_option linter.all false
set_option maxRecDepth 100000
namespace Go.Am
variable {h:Heap} {K:Post}
attribute [-go_sem] oEqa z1p z17 z4c
attribute [local go_sem] z2q z3m z6z z60 z8s z8t z9A z9B z8u z9D z9E z9F z9G z9H z9I z9J
theorem mupd_d {id:Nat} {hp:Heap} {m:SMap} {c:Nat} {k v:Nm} (hh:hp[id]?=some (dobj m c)) (hn:getA (asS m) k=none) :
 z17 (none,[2]) (.mp id) (AS k) (AS v) hp=some (.und,hp.set id (dobj (m++[((k,v),c)]) (c+1)),[]):=by
 have e1:z2i (none,[2]) (AS k)=some (.str k):=z1N
 have e2:mget hp (.mp id)=some (id,m.map fun e=>(⟨.str e.1.1,AS e.1.2,e.2⟩:ME),c):=by simp only[mget,hh,dobj]
 have e3:okIn (AS v)=true:=rfl
 have e4:z4u k m=none:=by
  cases hf:z4u k m with
  | none=>rfl
  | some i=>
   exfalso
   have h1:=z7A k m
   rw[hf,Option.bind_some] at h1
   obtain⟨y,hy⟩:=Option.isSome_iff_exists.1 (zaf k m i hf)
   rw[hy] at h1
   have h2:(m.find? fun e=>decide (e.1.1=k))=some y:=h1.symm
   unfold getA asS at hn
   rw[List.find?_map,Option.map_map,Option.map_eq_none_iff] at hn
   have h3:(m.find? fun e=>decide (e.1.1=k))=none:=hn
   rw[h3] at h2;cases h2
 simp only[z17,e1,e2,e3,zap,e4]
 simp [dobj,z1X,AV.top]
theorem z6N {bs:Brds} {i:Nat} {x0:Ent} {st:Sta} (hi:bs[i]?=some (x0,st)):∃ Bx:Sta→Heap,boxB bs=Bx st∧(∀ s,boxB (bs.set i (x0,s))=Bx s)∧(∀ s,(Bx s).length=3*bs.length) ∧
 (∀ a b c d e o0 o1 o2 o3 o4 o5 o6 o7 l,(FH h o0 o1 o2 o3 o4 o5 o6 o7 (Bx ⟨a,b,c,d,e⟩) l)[qB h i]?=some (.box [AI a,AI b,AS c,AS d,AI e])) ∧
 (∀ s a b c d e o0 o1 o2 o3 o4 o5 o6 o7 l,(FH h o0 o1 o2 o3 o4 o5 o6 o7 (Bx s) l).set (qB h i) (.box [AI a,AI b,AS c,AS d,AI e])=FH h o0 o1 o2 o3 o4 o5 o6 o7 (Bx ⟨a,b,c,d,e⟩) l) ∧
 (∀ s o o0 o1 o2 o3 o4 o5 o6 o7 l,(FH h o0 o1 o2 o3 o4 o5 o6 o7 (Bx s) (l++[o]))[h.length+(8+3*bs.length+l.length)]?=some o) ∧
 (∀ s o0 o1 o2 o3 o4 o5 o6 o7 l l2,(FH h o0 o1 o2 o3 o4 o5 o6 o7 (Bx s) (l++l2)).take (h.length+(8+3*bs.length+l.length))=FH h o0 o1 o2 o3 o4 o5 o6 o7 (Bx s) l):=by
 have hl:i<bs.length:=by
  rcases Nat.lt_or_ge i bs.length with h | h
  ·exact h
  ·rw[List.getElem?_eq_none h] at hi;cases hi
 have hs:∀ s,(bs.set i (x0,s))[i]?=some (x0,s):=fun s=>by rw[List.getElem?_set];simp [hl]
 have hlen:∀ s,(boxB (bs.set i (x0,s))).length=3*bs.length:=fun s=>by rw[z05,List.length_set]
 refine⟨fun s=>boxB (bs.set i (x0,s)),?_,fun s=>rfl,hlen,fun a b c d e o0 o1 o2 o3 o4 o5 o6 o7 l=>?_,fun s a b c d e o0 o1 o2 o3 o4 o5 o6 o7 l=>?_,fun s o o0 o1 o2 o3 o4 o5 o6 o7 l=>?_,fun s o0 o1 o2 o3 o4 o5 o6 o7 l l2=>?_⟩
 ·have:bs.set i (x0,st)=bs:=by
   apply List.ext_getElem?
   intro j
   rw[List.getElem?_set]
   split
   ·rename_i e;subst e;rw[hi]
   ·rfl
  dsimp only
  rw[this]
 ·exact FH_gq (hs ⟨a,b,c,d,e⟩)
 ·have:=FH_sq (h:=h) (o0:=o0) (o1:=o1) (o2:=o2) (o3:=o3) (o4:=o4) (o5:=o5) (o6:=o6) (o7:=o7) (l:=l) (hs s) ⟨a,b,c,d,e⟩
  rw[List.set_set] at this
  exact this
 ·have:=zp8 (h:=h) (o0:=o0) (o1:=o1) (o2:=o2) (o3:=o3) (o4:=o4) (o5:=o5) (o6:=o6) (o7:=o7) (B:=boxB (bs.set i (x0,s))) (l:=l++[o]) l.length
  rw[hlen s] at this
  rw[this];simp
 ·have:=zig (h:=h) (o0:=o0) (o1:=o1) (o2:=o2) (o3:=o3) (o4:=o4) (o5:=o5) (o6:=o6) (o7:=o7) (B:=boxB (bs.set i (x0,s))) (l:=l++l2) l.length
  rw[hlen s] at this
  rw[this];simp
def Flo.start (S:Flo) (i:Nat) (x0:Ent) (st:Sta) (x:Ent):Flo:=
 { S with bs:=S.bs.set i (x0,⟨2,x.time,st.step,x.site,st.failed⟩),sm:=S.sm++[((x.site,x.board),S.ck)],ck:=S.ck+1,runs:=S.runs++[⟨x.site,x.time,-1⟩] }
def Flo.startR (S:Flo) (i:Nat) (x0:Ent) (st:Sta) (x:Ent):Int × Flo:=
 if st.state≠1 then (11,S) else if x.step≠st.step then (3,S) else if (getA (asS S.sm) x.site).isSome=true then (12,S) else (0,S.start i x0 st x)
theorem esc7 (h:Heap):∀ k n o m,k<7→z1X (h.length+7) (.own (h.length+k) n o m)=[]:=fun k n o m hk=>by unfold z1X;rw[zph,if_neg (by omega)]
set_option maxHeartbeats 4000000 in
theorem zvz (fb:Obj) (steps:List Nm) (tries:Int) (S:Flo) (l:Heap) (i:Nat) (x0:Ent) (st:Sta) (hi:S.bs[i]?=some (x0,st)) (hr:S.runs.length≤1000000) (x:Ent) :
 z0d X z74 [.ref (h.length+7) 0,.ref (qB h i) 0,.p x.pv] (FS h fb steps tries S l) K =
  K (AI (S.startR i x0 st x).1) (FS h fb steps tries (S.startR i x0 st x).2 l) []:=by
 refine rule ?_
 rw[c_q089 rfl]
 obtain⟨Bx,b1,b2,b3,G,Sq,T,Tk⟩:=z6N (h:=h) hi
 obtain⟨bs,sm,ck,ends,runs,ref,why⟩:=S
 obtain⟨s1,s2,s3,s4,s5⟩:=st
 obtain⟨site,no,time,kind,board,step,of,other⟩:=x
 unfold Flo.startR FS wbx Flo.start
 dsimp only at hi hr b1 b2 b3 T Tk ⊢
 have ml:=fun s=>z4Z (h.length+8) bs i _ s hi
 rw[b1]
 have lk:=fun (o0 o1 o3 o4 o5 o6 o7:Obj) (B l:Heap)=>look_d (id:=h.length+2) (hp:=FH h o0 o1 (dobj sm ck) o3 o4 o5 o6 o7 B l) (m:=sm) (c:=ck) (k:=site) z60
 have m1:runs.length+1≤z1f:=by unfold z1f;omega
 have e5:=fun n o m=>esc7 h 4 n o m (by decide)
 by_cases h1:s1=1
 ·subst h1
  rw[if_neg (by simp)]
  by_cases h2:step=s3
  ·subst h2
   rw[if_neg (by simp)]
   cases hg:getA (asS sm) site with
   | some v=>
    rw[if_pos (show (some v).isSome=true from rfl)]
    rw[hg] at lk
    simp only[Option.isSome_some,Option.getD_some] at lk
    simp only[z8L,Ent.pv,go_sem,b3,T,G,lk]
    rw[b1];exact Tk _ _ _ _ _ _ _ _ _ _ _
   | none=>
    rw[if_neg (show ¬ (none:Option Nm).isSome=true by simp)]
    rw[hg] at lk
    have up:=fun (o0 o1 o3 o4 o5 o6 o7:Obj) (B l:Heap)=>mupd_d (id:=h.length+2) (hp:=FH h o0 o1 (dobj sm ck) o3 o4 o5 o6 o7 B l) (m:=sm) (c:=ck) (k:=site) (v:=board) z60 hg
    simp only[Option.isSome_none,Option.getD_none] at lk
    simp only[z8L,Ent.pv,go_sem,b3,T,G,lk,up,Sq,splice,m1,e5]
    rw[Tk,b2,ml,List.map_append]
    rfl
  ·rw[if_pos h2]
   simp only[z8L,Ent.pv,go_sem,b3,T,G,lk,h2]
   rw[b1];exact Tk _ _ _ _ _ _ _ _ _ _ _
 ·rw[if_pos h1]
  simp only[z8L,Ent.pv,go_sem,b3,T,G,lk,h1]
  rw[b1];exact Tk _ _ _ _ _ _ _ _ _ _ _
end Go.Am
end
section
/- The floor: a run that ends. -/
open Go
set_option linter.all false
set_option maxRecDepth 100000
namespace Go.Am
variable {h:Heap} {K:Post}
attribute [-go_sem] oEqa z1p z17 z4c
attribute [local go_sem] z2q z3m z6z z60 z8s z8t z9A z9B z8u z9D z9E z9F z9G z9H z9I z9J
theorem s_flAt (fb:Obj) (steps:List Nm) (tries:Int) (hst:steps.length≤1000) (k:Nm) (o1 o2 o3 o4 o5 o6:Obj) (r1 r2 r3 r4 r5 r6:AV) (B l:Heap) :
 z0d X z72 [.ref (h.length+7) 0,AS k] (FH h fb o1 o2 o3 o4 o5 o6 (.box [AStr steps,AI tries,r1,r2,r3,r4,r5,r6]) B l) K=K (AI (if steps.findIdx (fun y=>decide (y=k))<steps.length then (steps.findIdx (fun y=>decide (y=k)):Int) else -1)) (FH h fb o1 o2 o3 o4 o5 o6 (.box [AStr steps,AI tries,r1,r2,r3,r4,r5,r6]) B l) []:=by
 refine rule ?_
 rw[c_q086 rfl]
 have q:=fun h K=>zrQ (h:=h) (K:=K) steps (strS _) k (by omega)
 simp only[zka,go_sem,q]
 exact List.take_of_length_le (by rw[z2q];exact Nat.le_refl _)
def Flo.finish (S:Flo) (steps:List Nm) (tries:Int) (i:Nat) (x0:Ent) (st:Sta) (x:Ent):Flo:=
 { S with bs:=S.bs.set i (x0,z0B steps tries st x.time (decide (x.kind=3))),sm:=delS S.sm st.site,ends:=S.ends++[⟨x.board,st.step,st.since,x.time,decide (x.kind=3)⟩],runs:=z1i S.runs st.site x.time }
def Flo.finishR (S:Flo) (steps:List Nm) (tries:Int) (i:Nat) (x0:Ent) (st:Sta) (x:Ent):Int × Flo:=
 if st.state≠2 then (11,S) else if st.site≠x.site then (13,S) else (0,S.finish steps tries i x0 st x)
set_option maxHeartbeats 8000000 in
theorem zrx (fb:Obj) (steps:List Nm) (tries:Int) (hst:steps.length≤1000) (S:Flo) (l:Heap) (i:Nat) (x0:Ent) (st:Sta) (hi:S.bs[i]?=some (x0,st)) (hr:S.runs.length≤1000000) (he:S.ends.length≤1000000) (hs:st.state=2→st.step∈steps) (hf:0≤st.failed∧st.failed≤1000000) (x:Ent) :
 z0d X z73 [.ref (h.length+7) 0,.ref (qB h i) 0,.p x.pv] (FS h fb steps tries S l) K =
  K (AI (S.finishR steps tries i x0 st x).1) (FS h fb steps tries (S.finishR steps tries i x0 st x).2 l) []:=by
 refine rule ?_
 rw[c_q087 rfl]
 obtain⟨Bx,b1,b2,b3,G,Sq,T,Tk⟩:=z6N (h:=h) hi
 obtain⟨bs,sm,ck,ends,runs,ref,why⟩:=S
 obtain⟨s1,s2,s3,s4,s5⟩:=st
 have lv:=fun K=>zoP (h:=h) (K:=K) fb steps tries ⟨bs,sm,ck,ends++[⟨x.board,s3,s2,x.time,decide (x.kind=3)⟩],runs,ref,why⟩ (l++[x.bx]) i _ hi hr x.time
 have ml:=fun s=>z4Z (h.length+8) bs i _ s hi
 obtain⟨site,no,time,kind,board,step,of,other⟩:=x
 unfold FS wbx at lv
 unfold Flo.finishR FS wbx Flo.finish
 dsimp only at hi hr he hs hf b1 b2 b3 T Tk ml lv ⊢
 rw[b1,b2,ml] at lv
 rw[b1]
 have m1:ends.length+1≤z1f:=by unfold z1f;omega
 have e3:=fun n o m=>esc7 h 3 n o m (by decide)
 have ev:∀ e:EndP,EndP.pv e = .agg [.str e.board,.str e.step,eI e.frm,eI e.til,.bool e.pass]:=fun _=>rfl
 have cl:(z1i runs s4 time).length=runs.length:=by simp [z1i]
 simp only[List.map_append,List.map_cons,List.map_nil,List.length_append,List.length_cons,List.length_nil,Nat.zero_add,ev,cl,Ent.bx] at lv
 by_cases h1:s1=2
 ·subst h1
  rw[if_neg (by simp)]
  by_cases h2:s4=site
  ·subst h2
   rw[if_neg (by simp)]
   by_cases k3:kind=3
   ·subst k3
    have hin:=hs rfl
    obtain⟨j,hj⟩:∃ j,steps.findIdx (fun y=>decide (y=s3))=j:=⟨_,rfl⟩
    have jl:j<steps.length:=by rw[← hj];exact List.findIdx_lt_length_of_exists ⟨s3,hin,by simp⟩
    have at1:=fun (o1 o2 o3 o4 o5 o6:Obj) (r1 r2 r3 r4 r5 r6:AV) (B l:Heap) K=>s_flAt (h:=h) (K:=K) fb steps tries hst s3 o1 o2 o3 o4 o5 o6 r1 r2 r3 r4 r5 r6 B l
    rw[hj,if_pos jl] at at1
    have w1:IntKind.i64.wrap ((j:Int)+1)=((j+1:Nat):Int):=z0k _ (by omega) (by omega)
    unfold z0B
    rw[if_pos (by simp),hj]
    simp only[decide_true] at lv
    by_cases hl:j+1=steps.length
    ·rw[if_pos hl]
     have hl':((j+1:Nat):Int)=(steps.length:Int):=by omega
     simp only[z4I,Ent.pv,go_sem,b3,T,G,Sq,splice,m1,e3,↓lv,lv,↓at1,at1,w1,eq_true hl']
     rw[Tk,b2,ml,List.map_append,cl]
     rfl
    ·rw[if_neg hl]
     have hl':¬ ((j+1:Nat):Int)=(steps.length:Int):=by omega
     have hlt:j+1<steps.length:=by omega
     have gs:=z0X PV.str hlt
     have cw:∀ v:List UInt8,cutP none 0 (PV.str v)=some (PV.str v):=fun _=>rfl
     have gd:(steps[j+1]?).getD []=steps[j+1]:=by rw[List.getElem?_eq_getElem hlt];rfl
     rw[gd]
     simp only[z4I,Ent.pv,go_sem,b3,T,G,Sq,splice,m1,e3,↓lv,lv,↓at1,at1,w1,hl',gs,cw,hlt]
     rw[Tk,b2,ml,List.map_append,cl]
     rfl
   ·have w1:IntKind.i64.wrap (s5+1)=s5+1:=z0k _ (by omega) (by omega)
    unfold z0B
    rw[if_neg (by simp [k3])]
    rw[decide_eq_false k3] at lv ⊢
    by_cases ht:s5+1=tries
    ·rw[if_pos ht]
     simp only[z4I,Ent.pv,go_sem,b3,T,G,Sq,splice,m1,e3,↓lv,lv,k3,w1,eq_true ht]
     rw[Tk,b2,ml,List.map_append,cl]
     rfl
    ·rw[if_neg ht]
     simp only[z4I,Ent.pv,go_sem,b3,T,G,Sq,splice,m1,e3,↓lv,lv,k3,w1,ht]
     rw[Tk,b2,ml,List.map_append,cl]
     rfl
  ·rw[if_pos h2]
   simp only[z4I,Ent.pv,go_sem,b3,T,G,h2]
   rw[b1];exact Tk _ _ _ _ _ _ _ _ _ _ _
 ·rw[if_pos h1]
  simp only[z4I,Ent.pv,go_sem,b3,T,G,h1]
  rw[b1];exact Tk _ _ _ _ _ _ _ _ _ _ _
end Go.Am
end
section
/- The floor: an entry taken. -/
open Go
set_option linter.all false
set_option maxRecDepth 100000
namespace Go.Am
variable {h:Heap} {K:Post}
attribute [-go_sem] oEqa z1p z17 z4c
attribute [local go_sem] z2q z3m z6z z60 z8s z8t z9A z9B z8u z9D z9E z9F z9G z9H z9I z9J
def Flo.put (S:Flo) (i:Nat) (x0:Ent) (st:Sta):Flo:={ S with bs:=S.bs.set i (x0,st) }
def Flo.old (S:Flo) (steps:List Nm) (tries:Int) (x:Ent) (i:Nat) (x0:Ent) (st:Sta):Int × Flo:=
 if x.kind=2 then S.startR i x0 st x
 else if x.kind=3∨x.kind=4 then S.finishR steps tries i x0 st x
 else if x.kind=5 then (if st.state≠3 then (11,S) else (0,S.put i x0 ⟨1,x.time,st.step,st.site,st.failed⟩))
 else if st.state=4∨st.state=5 then (11,S)
 else if st.state=2 then (0,{ S with bs:=S.bs.set i (x0,⟨5,x.time,st.step,[],st.failed⟩),sm:=delS S.sm st.site,runs:=z1i S.runs st.site x.time })
 else (0,S.put i x0 ⟨5,x.time,st.step,st.site,st.failed⟩)
theorem ixB_lt {k:Nm}:∀ {bs:Brds} {i:Nat},ixB k bs=some i→∃ e,bs[i]?=some e:=fun {bs i} h=>by
 obtain⟨e,h1,_⟩:=(zd3 k bs).2 i h
 exact⟨e,h1⟩
theorem zo8 (h:Heap) (i:Nat):refA (h.length+8+(3*i+2)) = .ref (qB h i) 0:=by unfold refA qB;rw[Nat.add_assoc]
set_option maxHeartbeats 8000000 in
theorem zoR (fb:Obj) (steps:List Nm) (tries:Int) (hst:steps.length≤1000) (S:Flo) (l:Heap) (i:Nat) (x0:Ent) (st:Sta) (x:Ent) (hx:ixB x.board S.bs=some i) (hi:S.bs[i]?=some (x0,st)) (hr:S.runs.length≤1000000) (he:S.ends.length≤1000000) (hs:st.state=2→st.step∈steps) (hf:0≤st.failed∧st.failed≤1000000) (hk:x.kind≠1) :
 z0d X z3y [.ref (h.length+7) 0,.p x.pv] (FS h fb steps tries S l) K=K (AI (S.old steps tries x i x0 st).1) (FS h fb steps tries (S.old steps tries x i x0 st).2 l) []:=by
 refine rule ?_
 rw[zeC rfl]
 have sS:=fun K=>zvz (h:=h) (K:=K) fb steps tries S (l++[x.bx]) i x0 st hi hr x
 have sF:=fun K=>zrx (h:=h) (K:=K) fb steps tries hst S (l++[x.bx]) i x0 st hi hr he hs hf x
 have lv:=fun K=>zoP (h:=h) (K:=K) fb steps tries S (l++[x.bx]) i _ hi hr x.time
 have tkS:∀ S',S'.bs.length=S.bs.length→(FS h fb steps tries S' (l++[x.bx])).take (h.length+(8+3*S.bs.length+l.length))=FS h fb steps tries S' l:=fun S' hl=>by
  unfold FS
  have:=zig (h:=h) (B:=boxB S'.bs) (l:=l++[x.bx]) (o0:=fb) (o1:=mobj PV.str refA (mapB (h.length+8) S'.bs)) (o2:=dobj S'.sm S'.ck) (o3:=.row (some 5) (S'.ends.map EndP.pv) 0) (o4:=.row (some 3) (S'.runs.map RunP.pv) 0) (o5:=.row none (S'.ref.map eI) 0) (o6:=.row none (S'.why.map eI) 0) (o7:=wbx h steps tries S'.ends.length S'.runs.length S'.ref.length S'.why.length) l.length
  rw[z05,hl] at this
  rw[this]
  simp
 have lenS:∀ r,(S.startR i x0 st x)=r→r.2.bs.length=S.bs.length:=fun r hr=>by
  subst hr;unfold Flo.startR Flo.start
  split
  ·rfl
  split
  ·rfl
  split
  ·rfl
  ·simp
 have lenF:∀ r,(S.finishR steps tries i x0 st x)=r→r.2.bs.length=S.bs.length:=fun r hr=>by
  subst hr;unfold Flo.finishR Flo.finish
  split
  ·rfl
  split
  ·rfl
  ·simp
 have lk:=fun (o0 o2 o3 o4 o5 o6 o7:Obj) (B l:Heap)=>z3g (kk:=(none,[2])) (k:=x.board) (h:=FH h o0 (mobj PV.str refA (mapB (h.length+8) S.bs)) o2 o3 o4 o5 o6 o7 B l) (id:=h.length+1) z4W z6z z1N (ok:=false) (z:=.nilp)
 rw[z4Y,hx] at lk
 simp only[Option.map_some,Option.getD_some,zo8,cond_false] at lk
 generalize hR:S.startR i x0 st x=R1 at *
 generalize hF:S.finishR steps tries i x0 st x=R2 at *
 have tk1:=tkS R1.2 (lenS R1 rfl)
 have tk2:=tkS R2.2 (lenF R2 rfl)
 obtain⟨Bx,b1,b2,b3,G,Sq,T,Tk⟩:=z6N (h:=h) hi
 obtain⟨H1,hH1⟩:∃ H,FS h fb steps tries R1.2 (l++[x.bx])=H:=⟨_,rfl⟩
 obtain⟨H2,hH2⟩:∃ H,FS h fb steps tries R2.2 (l++[x.bx])=H:=⟨_,rfl⟩
 rw[hH1] at sS tk1
 rw[hH2] at sF tk2
 have ml:=fun s=>z4Z (h.length+8) S.bs i _ s hi
 have cl:(z1i S.runs st.site x.time).length=S.runs.length:=by simp [z1i]
 unfold FS wbx Ent.bx at sS sF lv
 dsimp only at lv ml
 rw[b1] at sS sF
 rw[b1,b2,ml,cl] at lv
 simp only[Ent.pv] at sS sF
 have e1:∀ v:AV,splice [AI st.state,AI st.since,AS st.step,AS st.site,AI st.failed] 0 [v]=[v,AI st.since,AS st.step,AS st.site,AI st.failed]:=fun _=>rfl
 have G':=G st.state st.since st.step st.site st.failed
 have est:(⟨st.state,st.since,st.step,st.site,st.failed⟩:Sta)=st:=rfl
 rw[est] at G'
 by_cases k2:x.kind=2
 ·have e:S.old steps tries x i x0 st=R1:=by unfold Flo.old;rw[if_pos k2,hR]
  rw[e]
  obtain⟨G1,hG1⟩:∃ H,FS h fb steps tries R1.2 l=H:=⟨_,rfl⟩
  rw[hG1] at tk1 ⊢
  unfold FS wbx
  rw[b1]
  simp only[z2e,Ent.pv,go_sem,b3,T,lk,hk,eq_true k2,↓sS,sS]
  exact tk1
 by_cases k34:x.kind=3∨x.kind=4
 ·have e:S.old steps tries x i x0 st=R2:=by unfold Flo.old;rw[if_neg k2,if_pos k34,hF]
  rw[e]
  obtain⟨G1,hG1⟩:∃ H,FS h fb steps tries R2.2 l=H:=⟨_,rfl⟩
  rw[hG1] at tk2 ⊢
  unfold FS wbx
  rw[b1]
  rcases k34 with k3 | k4
  ·simp only[z2e,Ent.pv,go_sem,b3,T,lk,hk,k2,eq_true k3,↓sF,sF]
   exact tk2
  ·have k3:¬ x.kind=3:=by omega
   simp only[z2e,Ent.pv,go_sem,b3,T,lk,hk,k2,k3,eq_true k4,↓sF,sF]
   exact tk2
 have k3:¬ x.kind=3:=fun z=>k34 (.inl z)
 have k4:¬ x.kind=4:=fun z=>k34 (.inr z)
 by_cases k5:x.kind=5
 ·by_cases h3:st.state=3
  ·have e:S.old steps tries x i x0 st=(0,S.put i x0 ⟨1,x.time,st.step,st.site,st.failed⟩):=by unfold Flo.old;rw[if_neg k2,if_neg k34,if_pos k5,if_neg (by simp [h3])]
   rw[e]
   unfold Flo.put FS wbx
   dsimp only
   rw[b1]
   simp only[z2e,Ent.pv,go_sem,b3,T,lk,hk,k2,k3,k4,eq_true k5,G',G,Sq,splice,eq_true h3]
   rw[Tk,b2,ml]
  ·have e:S.old steps tries x i x0 st=(11,S):=by unfold Flo.old;rw[if_neg k2,if_neg k34,if_pos k5,if_pos h3]
   rw[e]
   unfold FS wbx
   dsimp only
   rw[b1]
   simp only[z2e,Ent.pv,go_sem,b3,T,lk,hk,k2,k3,k4,eq_true k5,G',h3]
   exact Tk _ _ _ _ _ _ _ _ _ _ _
 by_cases h45:st.state=4∨st.state=5
 ·have e:S.old steps tries x i x0 st=(11,S):=by unfold Flo.old;rw[if_neg k2,if_neg k34,if_neg k5,if_pos h45]
  rw[e]
  unfold FS wbx
  dsimp only
  rw[b1]
  rcases h45 with h4 | h5
  ·simp only[z2e,Ent.pv,go_sem,b3,T,lk,hk,k2,k3,k4,k5,G',eq_true h4]
   exact Tk _ _ _ _ _ _ _ _ _ _ _
  ·have h4:¬ st.state=4:=by omega
   simp only[z2e,Ent.pv,go_sem,b3,T,lk,hk,k2,k3,k4,k5,G',h4,eq_true h5]
   exact Tk _ _ _ _ _ _ _ _ _ _ _
 have h4:¬ st.state=4:=fun z=>h45 (.inl z)
 have h5:¬ st.state=5:=fun z=>h45 (.inr z)
 by_cases h2:st.state=2
 ·have e:S.old steps tries x i x0 st=(0,{ S with bs:=S.bs.set i (x0,⟨5,x.time,st.step,[],st.failed⟩),sm:=delS S.sm st.site,runs:=z1i S.runs st.site x.time }):=by unfold Flo.old;rw[if_neg k2,if_neg k34,if_neg k5,if_neg h45,if_pos h2]
  rw[e]
  unfold FS wbx
  dsimp only
  rw[b1]
  simp only[z2e,Ent.pv,go_sem,b3,T,lk,hk,k2,k3,k4,k5,G',G,Sq,splice,h4,h5,eq_true h2,↓lv,lv]
  rw[Tk,b2,ml,cl]
 ·have e:S.old steps tries x i x0 st=(0,S.put i x0 ⟨5,x.time,st.step,st.site,st.failed⟩):=by unfold Flo.old;rw[if_neg k2,if_neg k34,if_neg k5,if_neg h45,if_neg h2]
  rw[e]
  unfold Flo.put FS wbx
  dsimp only
  rw[b1]
  simp only[z2e,Ent.pv,go_sem,b3,T,lk,hk,k2,k3,k4,k5,G',G,Sq,splice,h4,h5,h2]
  rw[Tk,b2,ml]
end Go.Am
end
section
/- The floor: a board that zfj;what an entry does,plainly. -/
open Go
set_option linter.all false
set_option maxRecDepth 100000
namespace Go.Am
variable {h:Heap} {K:Post}
attribute [-go_sem] oEqa z1p z17 z4c
attribute [local go_sem] z2q z3m z6z z60 z8s z8t z9A z9B z8u z9D z9E z9F z9G z9H z9I z9J
theorem z5J (fb:Obj) (steps:List Nm) (tries:Int) (S:Flo) (l l2:Heap):(FS h fb steps tries S (l++l2)).take (h.length+(8+3*S.bs.length+l.length))=FS h fb steps tries S l:=by
 unfold FS
 have:=zig (h:=h) (B:=boxB S.bs) (l:=l++l2) (o0:=fb) (o1:=mobj PV.str refA (mapB (h.length+8) S.bs)) (o2:=dobj S.sm S.ck) (o3:=.row (some 5) (S.ends.map EndP.pv) 0) (o4:=.row (some 3) (S.runs.map RunP.pv) 0) (o5:=.row none (S.ref.map eI) 0) (o6:=.row none (S.why.map eI) 0) (o7:=wbx h steps tries S.ends.length S.runs.length S.ref.length S.why.length) l.length
 rw[z05] at this
 rw[this]
 simp
theorem zan (S:Flo) (k:Nm) (o0 o2 o3 o4 o5 o6 o7:Obj) (B l:Heap):z1p (none,[2]) false .nilp (.mp (h.length+1)) (AS k) (FH h o0 (mobj PV.str refA (mapB (h.length+8) S.bs)) o2 o3 o4 o5 o6 o7 B l)=some (match ixB k S.bs with | some i=>.ref (qB h i) 0 | none=>.nilp):=by
 have lk:=z3g (kk:=(none,[2])) (k:=k) (h:=FH h o0 (mobj PV.str refA (mapB (h.length+8) S.bs)) o2 o3 o4 o5 o6 o7 B l) (id:=h.length+1) z4W z6z z1N (ok:=false) (z:=.nilp)
 rw[z4Y] at lk
 rw[lk]
 cases ixB k S.bs with
 | none=>rfl
 | some i=>simp only[Option.map_some,Option.getD_some,zo8,cond_false]
theorem tl1 {o0 o1 o2 o3 o4 o5 o6 o7 o:Obj} {bs:Brds} {l:Heap}:(FH h o0 o1 o2 o3 o4 o5 o6 o7 (boxB bs) (l++[o]))[h.length+(8+3*bs.length+l.length)]?=some o:=by
 have:=zp8 (h:=h) (o0:=o0) (o1:=o1) (o2:=o2) (o3:=o3) (o4:=o4) (o5:=o5) (o6:=o6) (o7:=o7) (B:=boxB bs) (l:=l++[o]) l.length
 rw[z05] at this
 rw[this];simp
theorem zhm (fb:Obj) (steps:List Nm) (tries:Int) (S:Flo) (l:Heap) (x:Ent) (hx:ixB x.board S.bs=none) (hk:x.kind≠1) :
 z0d X z3y [.ref (h.length+7) 0,.p x.pv] (FS h fb steps tries S l) K=K (AI 8) (FS h fb steps tries S l) []:=by
 refine rule ?_
 rw[zeC rfl]
 have lk:=fun (o0 o2 o3 o4 o5 o6 o7:Obj) (B l:Heap)=>zan (h:=h) S x.board o0 o2 o3 o4 o5 o6 o7 B l
 rw[hx] at lk
 have tk:=z5J (h:=h) fb steps tries S l [x.bx]
 obtain⟨G1,hG1⟩:∃ H,FS h fb steps tries S l=H:=⟨_,rfl⟩
 rw[hG1] at tk ⊢
 rw[← hG1]
 unfold Ent.bx at tk
 unfold FS wbx at tk ⊢
 dsimp only at lk
 simp only[z2e,Ent.pv,go_sem,z05,tl1,lk,hk]
 unfold FS wbx at hG1
 rw[hG1]
 exact tk
theorem zdJ (fb:Obj) (steps:List Nm) (tries:Int) (S:Flo) (l:Heap) (x:Ent) (i:Nat) (hx:ixB x.board S.bs=some i) (hk:x.kind=1) :
 z0d X z3y [.ref (h.length+7) 0,.p x.pv] (FS h fb steps tries S l) K=K (AI 6) (FS h fb steps tries S l) []:=by
 refine rule ?_
 rw[zeC rfl]
 have lk:=fun (o0 o2 o3 o4 o5 o6 o7:Obj) (B l:Heap)=>zan (h:=h) S x.board o0 o2 o3 o4 o5 o6 o7 B l
 rw[hx] at lk
 have tk:=z5J (h:=h) fb steps tries S l [x.bx]
 obtain⟨G1,hG1⟩:∃ H,FS h fb steps tries S l=H:=⟨_,rfl⟩
 rw[hG1] at tk ⊢
 rw[← hG1]
 unfold Ent.bx at tk
 unfold FS wbx at tk ⊢
 dsimp only at lk
 simp only[z2e,Ent.pv,go_sem,z05,tl1,lk,eq_true hk]
 unfold FS wbx at hG1
 rw[hG1]
 exact tk
def Flo.enter (S:Flo) (steps:List Nm) (x:Ent):Flo:={ S with bs:=S.bs++[(x,⟨1,x.time,steps.headD [],[],0⟩)] }
theorem zvq {b i t:Nat} {n:Int} {P:Post} {H:Heap} (hi:i<b) (ht:b≤t) (k:P (AI n) (H.take t) [(i,t)]):retK false b P (some [AI n]) H [(i,t)]:=by
 have e1:∀ m,reif m H (AI n)=some (AI n):=fun m=>by simp [reif]
 have e2:AV.top (AI n)=0:=by simp [AV.top]
 have e3:close 1 [(i,t)] b=t:=by simp [close,bump,hi];omega
 have e4:z0L [(i,t)] t=true:=by simp [z0L]
 have e5:[(i,t)].filter (fun y=>decide (y.1<t))=[(i,t)]:=by simp;omega
 have e6:z0D [AI n]=AI n:=rfl
 simp only[retK,e6,e1,e2,Nat.max_zero,List.length_cons,List.length_nil,Nat.zero_add,e3,e4,if_true,e5]
 exact⟨Nat.zero_le _,k⟩
set_option maxHeartbeats 4000000 in
theorem zoQ (fb:Obj) (steps:List Nm) (tries:Int) (hst:steps≠[]) (S:Flo) (x:Ent) (hx:ixB x.board S.bs=none) (hk:x.kind=1) :
 z0d X z3y [.ref (h.length+7) 0,.p x.pv] (FS h fb steps tries S [x.bx]) K=K (AI 0) (FS h fb steps tries (S.enter steps x) []) [(h.length+1,h.length+(8+3*(S.bs.length+1)))]:=by
 refine rule ?_
 rw[zeC rfl]
 have lk:=fun (o0 o2 o3 o4 o5 o6 o7:Obj) (B l:Heap)=>zan (h:=h) S x.board o0 o2 o3 o4 o5 o6 o7 B l
 rw[hx] at lk
 obtain⟨s0,sr,rfl⟩:∃ a r,steps=a::r:=by
  cases steps with
  | nil=>exact absurd rfl hst
  | cons a r=>exact⟨a,r,rfl⟩
 have wn:z1n x.board (mapB (h.length+8) S.bs)=none:=by
  have:=z6x (k:=x.board) (l:=mapB (h.length+8) S.bs)
  rw[z4Y,hx] at this
  simpa using this
 have q0:h.length+8+3*S.bs.length+2=h.length+(8+3*S.bs.length+2):=by omega
 have up:=fun (o0 o2 o3 o4 o5 o6 o7:Obj) (B l:Heap)=>z5a (kk:=(none,[2])) (k:=x.board) (h:=FH h o0 (mobj PV.str refA (mapB (h.length+8) S.bs)) o2 o3 o4 o5 o6 o7 B l) (id:=h.length+1) z4W z6z z1N (v:=h.length+(8+3*S.bs.length+2)) (val:=refA) rfl
 rw[z6D wn] at up
 have ms:=zcy (h.length+8) S.bs (x,⟨1,x.time,s0,[],0⟩)
 rw[q0] at ms
 dsimp only at ms
 rw[← ms] at up
 have es:z1X (h.length+1) (refA (h.length+(8+3*S.bs.length+2)))=[(h.length+1,h.length+(8+3*(S.bs.length+1)))]:=by
  unfold z1X refA
  have e9:h.length+(8+3*S.bs.length+2)+1=h.length+(8+3*(S.bs.length+1)):=by omega
  simp only[AV.top,e9]
  rw[if_pos (by omega)]
 rw[es] at up
 simp only[refA] at up
 unfold Flo.enter
 obtain⟨bs,sm,ck,ends,runs,ref,why⟩:=S
 unfold FS wbx Ent.bx
 dsimp only at lk hx up ms ⊢
 have t1:∀ (o0 o1 o2 o3 o4 o5 o6 o7 a b:Obj),(FH h o0 o1 o2 o3 o4 o5 o6 o7 (boxB bs) [a,b])[h.length+(8+3*bs.length+1)]?=some b:=fun o0 o1 o2 o3 o4 o5 o6 o7 a b=>tl1 (l:=[a])
 have t2:∀ (o0 o1 o2 o3 o4 o5 o6 o7 a b c:Obj),(FH h o0 o1 o2 o3 o4 o5 o6 o7 (boxB bs) [a,b,c])[h.length+(8+3*bs.length+1)]?=some b:=fun o0 o1 o2 o3 o4 o5 o6 o7 a b c=>by
  have:=zp8 (h:=h) (o0:=o0) (o1:=o1) (o2:=o2) (o3:=o3) (o4:=o4) (o5:=o5) (o6:=o6) (o7:=o7) (B:=boxB bs) (l:=[a,b,c]) 1
  rw[z05] at this
  rw[this];rfl
 have cw:∀ v:List UInt8,cutP none 0 (PV.str v)=some (PV.str v):=fun _=>rfl
 simp only[z2e,Ent.pv,go_sem,z05,t1,t2,lk,eq_true hk,cw,up]
 refine zvq (by omega) (by omega) ⟨rfl,?_,rfl⟩
 rw[List.take_of_length_le (by rw[z2q,z05];simp;omega)]
 have sh:∀ (o0 o1 o2 o3 o4 o5 o6 o7:Obj) (B l:Heap),FH h o0 o1 o2 o3 o4 o5 o6 o7 B l=FH h o0 o1 o2 o3 o4 o5 o6 o7 (B++l) []:=fun _ _ _ _ _ _ _ _ _ _=>by unfold FH;simp
 rw[sh,ze8]
 rfl
end Go.Am
end
section
/- Entries that count;entries up tov a moment. -/
open Go
set_option linter.all false
set_option maxRecDepth 100000
namespace Go.Am
variable {h:Heap} {K:Post}
attribute [-go_sem] oEqa z1p z17 z4c
theorem zpZ {l:List Ent} {k:Nat} (hk:k<l.length):cntB (l.drop k)=(!decide ((l[k].site,l[k].no)∈z1s (l.drop (k+1))))::cntB (l.drop (k+1)):=by
 rw[List.drop_eq_getElem_cons hk,zj7]
theorem zrL {l:List Ent} {k:Nat} (hk:k<l.length):z1s (l.drop k)=if decide ((l[k].site,l[k].no)∈z1s (l.drop (k+1)))=false∧l[k].kind=7 then (l[k].of,l[k].other)::z1s (l.drop (k+1)) else z1s (l.drop (k+1)):=by
 rw[List.drop_eq_getElem_cons hk,z1s]
abbrev z13 (b:Bool):PV:=.bool b
def UndM (m:List ((List UInt8 × Int) × Bool)) (u:List (Nm × Int)):Prop:=∀ k,getM k m=if k∈u then some true else none
set_option maxHeartbeats 4000000 in
theorem zhl (l:List Ent) (hl:l.length≤100000):z0d X z70 [z19 l] h K=K (.p (.sl none ((cntB l).map z13))) h []:=by
 refine rule ?_
 rw[c_q083 rfl]
 have mx:l.length≤z1f:=by unfold z1f;omega
 have w0:IntKind.i64.wrap ((l.length:Int)-1)=(l.length:Int)-1:=z0k _ (by omega) (by omega)
 simp only[zeY,go_sem,mx,w0]
 refine z0U (fun t:Nat × List ((List UInt8 × Int) × Bool)=>⟨[(0,z19 l),(3,.mp h.length),(4,.own (h.length+1) l.length 0 l.length),(5,AI ((t.1:Int)-1))],h++[mobj srcP z3s t.2,.row none (List.replicate t.1 (z13 false)++(cntB (l.drop t.1)).map z13) 0],[]⟩)
  (fun t=>t.1≤l.length∧UndM t.2 (z1s (l.drop t.1))) (fun t=>t.1) (l.length,[]) ?_ ⟨Nat.le_refl _,fun k=>by simp [z1s,getM]⟩ ?_
 ·simp only[List.drop_length,cntB,List.map_nil,List.append_nil]
  rfl
 rintro⟨k,m⟩ ⟨hk,hm⟩
 dsimp only at hk hm ⊢
 cases k with
 | zero=>
  have c0:¬ (0:Int)≤((0:Nat):Int)-1:=by omega
  have cl:=z1j l
  simp only[go_sem,c0,List.drop_zero,List.replicate_zero,List.nil_append]
  have hw:win ((cntB l).map z13) 0 l.length=(cntB l).map z13:=za1 (by simp [cl])
  simp only[List.length_map,cl,hw,if_true]
  rw[if_pos ⟨trivial,Nat.le_refl _⟩]
  simp [AV.top]
 | succ k=>
  have hlt:k<l.length:=by omega
  have c0:(0:Int)≤((k+1:Nat):Int)-1:=by omega
  have ek:(((k+1:Nat):Int)-1)=(k:Int):=by omega
  have w1:IntKind.i64.wrap ((k:Int)-1)=(k:Int)-1:=z0k _ (by omega) (by omega)
  have hk0:(0:Int)≤(k:Int):=by omega
  have hg:=z0X Ent.pv hlt
  have cx:=z3v (x:=l[k])
  have cs:=zpZ hlt
  have us:=zrL hlt
  have lrow:(List.replicate (k+1) (z13 false)++(cntB (l.drop (k+1))).map z13).length=l.length:=by
   rw[List.length_append,List.length_replicate,List.length_map,z1j,List.length_drop];omega
  have grow:(List.replicate (k+1) (z13 false)++(cntB (l.drop (k+1))).map z13)[k]?=some (z13 false):=by
   rw[List.getElem?_append_left (by simp),List.getElem?_replicate];simp
  have srow:∀ b:Bool,(List.replicate (k+1) (z13 false)++(cntB (l.drop (k+1))).map z13).set k (z13 b)=List.replicate k (z13 false)++(b::cntB (l.drop (k+1))).map z13:=fun b=>by
   rw[List.replicate_succ',List.append_assoc,List.set_append_right _ _ (by simp)]
   simp
  have grow2:∀ b:Bool,(List.replicate k (z13 false)++(b::cntB (l.drop (k+1))).map z13)[k]?=some (z13 b):=fun b=>by
   rw[List.getElem?_append_right (by simp)];simp
  have lrow2:∀ b:Bool,(List.replicate k (z13 false)++(b::cntB (l.drop (k+1))).map z13).length=l.length:=fun b=>by
   rw[List.length_append,List.length_replicate,List.length_map,List.length_cons,z1j,List.length_drop];omega
  obtain⟨R2,hR2⟩:∃ R2:Bool→List PV,∀ b,List.replicate k (z13 false)++(b::cntB (l.drop (k+1))).map z13=R2 b:=⟨_,fun _=>rfl⟩
  simp only[hR2] at srow grow2 lrow2
  have cb:∀ b:Bool,cutP none 0 (z13 b)=some (z13 b):=fun _=>rfl
  generalize hx:l[k]=x at *
  have lk:=fun (hp:Heap) (e:hp[h.length]?=some (mobj srcP z3s m))=>z3g (kk:=(some 2,[2,0])) (k:=(x.site,x.no)) z69 e z4X (ok:=false) (z:=z3s false)
  have up:=fun (hp:Heap) (e:hp[h.length]?=some (mobj srcP z3s m))=>z5a (kk:=(some 2,[2,0])) (k:=(x.of,x.other)) z69 e z4X (v:=true) rfl
  have l1:=fun t=>lk (h++mobj srcP z3s m::t) (by simp)
  have u1:=fun t=>up (h++mobj srcP z3s m::t) (by simp)
  have es:(Option.map z3s (getM (x.site,x.no) m)).getD (z3s false)=AB (decide ((x.site,x.no)∈z1s (l.drop (k+1)))):=by
   rw[hm]
   by_cases e:(x.site,x.no)∈z1s (l.drop (k+1)) <;> simp [e,z3s]
  simp only[cond_false,es] at l1
  have nl0:¬ h.length<0:=by omega
  simp only[z3s,srcP,z1X,AV.top,nl0,if_false] at l1 u1
  generalize hb:decide ((x.site,x.no)∈z1s (l.drop (k+1)))=b at *
  generalize hrow:List.replicate (k+1) (z13 false)++(cntB (l.drop (k+1))).map z13=row at *
  cases b with
  | true=>
   rw[if_neg (by simp)] at us
   simp only[go_sem,c0,ek,hk0,hlt,hg,cx,Ent.pv,splice,l1,lrow,grow,srow,grow2,lrow2,cb,w1]
   refine⟨(k,m),?_,⟨by dsimp only;omega,by rw[us];exact hm⟩,by dsimp only;omega⟩
   dsimp only
   rw[cs,hR2]
   rfl
  | false=>
   by_cases k7:x.kind=7
   ·rw[if_pos ⟨rfl,k7⟩] at us
    simp only[go_sem,c0,ek,hk0,hlt,hg,cx,Ent.pv,splice,l1,u1,lrow,grow,srow,grow2,lrow2,cb,w1,eq_true k7]
    refine⟨(k,updM (x.of,x.other) true m),?_,⟨by dsimp only;omega,?_⟩,by dsimp only;omega⟩
    ·dsimp only
     rw[cs,hR2]
     rfl
    ·rw[us]
     intro j
     rw[zak,hm j]
     by_cases e:j=(x.of,x.other)
     ·simp [e]
     ·rw[if_neg e];simp [e]
   ·rw[if_neg (by simp [k7])] at us
    simp only[go_sem,c0,ek,hk0,hlt,hg,cx,Ent.pv,splice,l1,lrow,grow,srow,grow2,lrow2,cb,w1,k7]
    refine⟨(k,m),?_,⟨by dsimp only;omega,by rw[us];exact hm⟩,by dsimp only;omega⟩
    dsimp only
    rw[cs,hR2]
    rfl
end Go.Am
end
section
/- Entries followed. -/
open Go
set_option linter.all false
set_option maxRecDepth 100000
namespace Go.Am
variable {h:Heap} {K:Post}
attribute [-go_sem] oEqa z1p z17 z4c
attribute [local go_sem] z2q z3m z6z z60 z8s z8t z9A z9B z8u z9D z9E z9F z9G z9H z9I z9J
def Flo.act (S:Flo) (steps:List Nm) (tries:Int) (x:Ent):Int × Flo:=match ixB x.board S.bs with
 | none=>if x.kind=1 then (0,S.enter steps x) else (8,S)
 | some i=>match S.bs[i]? with
  | none=>(8,S)
  | some e=>if x.kind=1 then (6,S) else S.old steps tries x i e.1 e.2
structure FlI (S:Flo) (steps:List Nm) (n:Nat):Prop where
 st:∀ e∈S.bs,(e.2.state=1∨e.2.state=2∨e.2.state=3)→e.2.step∈steps
 fl:∀ e∈S.bs,0≤e.2.failed∧e.2.failed≤n
 nb:(S.bs.map fun e=>e.1.board).Nodup
 ns:(S.sm.map fun e=>e.1.1).Nodup
 bl:S.bs.length≤n
 rl:S.runs.length≤n
 el:S.ends.length≤n
 fr:S.ref.length≤n
 fw:S.why.length≤n
theorem zmG {α:Type} {l:List α} {i:Nat} {a y:α} (h:y∈l.set i a):y∈l∨y=a:=by
 rw[List.mem_iff_getElem?] at h
 obtain⟨j,hj⟩:=h
 rw[List.getElem?_set] at hj
 split at hj
 ·split at hj
  ·right;exact (Option.some.inj hj).symm
  ·cases hj
 ·left;exact List.mem_of_getElem? hj
theorem zoZ {bs:Brds} {i:Nat} {e:Ent × Sta} (he:bs[i]?=some e) (s:Sta):(bs.set i (e.1,s)).map (fun e=>e.1.board)=bs.map fun e=>e.1.board:=by
 rw[List.map_set]
 apply List.ext_getElem?
 intro j
 rw[List.getElem?_set]
 split
 ·rename_i h;subst h
  rw[List.getElem?_map,he]
  have:i<(bs.map fun e=>e.1.board).length:=by
   rw[List.length_map]
   rcases Nat.lt_or_ge i bs.length with h | h
   ·exact h
   ·rw[List.getElem?_eq_none h] at he;cases he
  rw[if_pos this];rfl
 ·rfl
theorem FlI.set {S:Flo} {steps:List Nm} {n:Nat} (I:FlI S steps n) {i:Nat} {e:Ent × Sta} (he:S.bs[i]?=some e) (s:Sta) (h1:(s.state=1∨s.state=2∨s.state=3)→s.step∈steps) (h2:0≤s.failed∧s.failed≤n+1)
 (S':Flo) (hb:S'.bs=S.bs.set i (e.1,s)) (hn:(S'.sm.map fun e=>e.1.1).Nodup) (hr:S'.runs.length≤n+1) (hl:S'.ends.length≤n+1) (hf:S'.ref=S.ref) (hw:S'.why=S.why):FlI S' steps (n+1) where
 st y hy:=by
  rw[hb] at hy
  rcases zmG hy with h | h
  ·exact I.st y h
  ·rw[h];exact h1
 fl y hy:=by
  rw[hb] at hy
  rcases zmG hy with h | h
  ·have:=I.fl y h;omega
  ·rw[h];dsimp only;omega
 nb:=by rw[hb,zoZ he];exact I.nb
 ns:=hn
 bl:=by rw[hb,List.length_set];have:=I.bl;omega
 rl:=hr
 el:=hl
 fr:=by rw[hf];have:=I.fr;omega
 fw:=by rw[hw];have:=I.fw;omega
theorem FlI.up {S:Flo} {steps:List Nm} {n:Nat} (I:FlI S steps n):FlI S steps (n+1):=
 ⟨I.st,fun e he=>by have:=I.fl e he;omega,I.nb,I.ns,by have:=I.bl;omega,by have:=I.rl;omega,by have:=I.el;omega,by have:=I.fr;omega,by have:=I.fw;omega⟩
theorem zpP {m:SMap} {k v:Nm} {c:Nat} (hn:getA (asS m) k=none):asS (m++[((k,v),c)])=putA (asS m) k v∧((m.map fun e=>e.1.1).Nodup→((m++[((k,v),c)]).map fun e=>e.1.1).Nodup):=by
 have ha:(asS m).any (fun e=>decide (e.1=k))=false:=by
  cases h:(asS m).any (fun e=>decide (e.1=k)) with
  | false=>rfl
  | true=>
   exfalso
   obtain⟨e,he,hk⟩:=List.any_eq_true.1 h
   unfold getA at hn
   rw[Option.map_eq_none_iff,List.find?_eq_none] at hn
   exact hn e he hk
 constructor
 ·unfold putA
  rw[if_neg (by simp [ha])]
  unfold asS
  simp
 ·intro hu
  rw[List.map_append,List.nodup_append]
  refine⟨hu,by simp,fun a ha2 b hb2 e=>?_⟩
  have hb3:b=k:=by simpa using hb2
  subst hb3
  subst e
  obtain⟨y,hy,e2⟩:=List.mem_map.1 ha2
  have:(asS m).any (fun e=>decide (e.1=a))=true:=List.any_eq_true.2 ⟨y.1,List.mem_map_of_mem hy,by simpa using e2⟩
  rw[ha] at this;cases this
theorem zmi {k:Nm}:∀ {bs:Brds},ixB k bs=none→k∉bs.map fun e=>e.1.board
 | [],_=>by simp
 | e::r,h=>by
  unfold ixB at h
  by_cases hk:k=e.1.board
  ·rw[if_pos hk] at h;cases h
  ·rw[if_neg hk] at h
   have:=zmi (bs:=r) (by simpa using h)
   simp only[List.map_cons,List.mem_cons,not_or]
   exact⟨hk,this⟩
theorem act_P {S:Flo} {steps:List Nm} {tries:Int} {n:Nat} (I:FlI S steps n) (hst:steps≠[]) (x:Ent) :
 (S.act steps tries x).1=(actP steps tries S.P x).2∧(S.act steps tries x).2.P=(actP steps tries S.P x).1∧FlI (S.act steps tries x).2 steps (n+1)∧(S.act steps tries x).2.ref=S.ref∧(S.act steps tries x).2.why=S.why:=by
 obtain⟨g1,g2⟩:=zd3 x.board S.bs
 unfold Flo.act
 cases hx:ixB x.board S.bs with
 | none=>
  have hg:getA S.P.bs x.board=none:=g1 hx
  dsimp only
  by_cases k1:x.kind=1
  ·rw[if_pos k1]
   unfold actP
   rw[if_pos k1,hg]
   refine⟨rfl,?_,?_,rfl,rfl⟩
   ·unfold Flo.enter Flo.P
    dsimp only
    rw[ztM hx x rfl]
   ·obtain⟨a,r,rfl⟩:∃ a r,steps=a::r:=by
     cases steps with
     | nil=>exact absurd rfl hst
     | cons a r=>exact⟨a,r,rfl⟩
    unfold Flo.enter
    refine⟨fun e he=>?_,fun e he=>?_,?_,I.ns,?_,by have:=I.rl;dsimp only;omega,by have:=I.el;dsimp only;omega,by have:=I.fr;dsimp only;omega,by have:=I.fw;dsimp only;omega⟩
    ·rcases List.mem_append.1 he with h | h
     ·exact I.st e h
     ·rw[List.mem_singleton.1 h];intro _;simp
    ·rcases List.mem_append.1 he with h | h
     ·have:=I.fl e h;omega
     ·rw[List.mem_singleton.1 h];dsimp only;omega
    ·dsimp only
     rw[List.map_append,List.nodup_append]
     refine⟨I.nb,by simp,fun a ha b hb e=>?_⟩
     have hb2:b=x.board:=by simpa using hb
     subst hb2;subst e
     exact zmi hx ha
    ·dsimp only;rw[List.length_append];have:=I.bl;simp;omega
  ·rw[if_neg k1]
   unfold actP
   rw[if_neg k1,hg]
   exact⟨rfl,rfl,I.up,rfl,rfl⟩
 | some i=>
  obtain⟨e,he,hk,hg⟩:=g2 i hx
  have hg':getA S.P.bs x.board=some e.2:=hg
  have pu:=fun s=>ztN hx he I.nb s
  have hm:e∈S.bs:=List.mem_of_getElem? he
  have hfl:=I.fl e hm
  have hse:=I.st e hm
  dsimp only
  rw[he]
  dsimp only
  unfold actP
  by_cases k1:x.kind=1
  ·rw[if_pos k1,if_pos k1,hg']
   exact⟨rfl,rfl,I.up,rfl,rfl⟩
  rw[if_neg k1,if_neg k1,hg']
  dsimp only
  unfold Flo.old
  have rl:=I.rl
  have el:=I.el
  by_cases k2:x.kind=2
  ·rw[if_pos k2,if_pos k2]
   unfold Flo.startR
   by_cases h1:e.2.state≠1
   ·rw[if_pos h1,if_pos h1];exact⟨rfl,rfl,I.up,rfl,rfl⟩
   rw[if_neg h1,if_neg h1]
   by_cases h2:x.step≠e.2.step
   ·rw[if_pos h2,if_pos h2];exact⟨rfl,rfl,I.up,rfl,rfl⟩
   rw[if_neg h2,if_neg h2]
   have hb:S.P.sites=asS S.sm:=rfl
   rw[hb]
   by_cases h3:(getA (asS S.sm) x.site).isSome=true
   ·rw[if_pos h3,if_pos h3];exact⟨rfl,rfl,I.up,rfl,rfl⟩
   rw[if_neg h3,if_neg h3]
   have hn:getA (asS S.sm) x.site=none:=by simpa using h3
   obtain⟨q1,q2⟩:=zpP (v:=x.board) (c:=S.ck) hn
   refine⟨rfl,?_,?_,rfl,rfl⟩
   ·unfold Flo.start Flo.P
    dsimp only
    rw[pu,q1]
   ·have hs1:e.2.state=1:=by simpa using h1
    exact I.set he ⟨2,x.time,e.2.step,x.site,e.2.failed⟩ (fun _=>hse (.inl hs1)) (by dsimp only;omega) _ rfl (q2 I.ns) (by unfold Flo.start;dsimp only;rw[List.length_append];simp;omega) (by unfold Flo.start;dsimp only;omega) rfl rfl
  rw[if_neg k2,if_neg k2]
  by_cases k34:x.kind=3∨x.kind=4
  ·rw[if_pos k34,if_pos k34]
   unfold Flo.finishR
   by_cases h1:e.2.state≠2
   ·rw[if_pos h1,if_pos h1];exact⟨rfl,rfl,I.up,rfl,rfl⟩
   rw[if_neg h1,if_neg h1]
   by_cases h2:e.2.site≠x.site
   ·rw[if_pos h2,if_pos h2];exact⟨rfl,rfl,I.up,rfl,rfl⟩
   rw[if_neg h2,if_neg h2]
   have hs2:e.2.state=2:=by simpa using h1
   have hin:=hse (.inr (.inl hs2))
   obtain⟨q1,q2⟩:=zke (m:=S.sm) (k:=e.2.site) I.ns
   refine⟨rfl,?_,?_,rfl,rfl⟩
   ·unfold Flo.finish Flo.P
    dsimp only
    rw[pu,q1]
   ·refine I.set he (z0B steps tries e.2 x.time (decide (x.kind=3))) (fun h=>?_) ?_ _ rfl q2 (by unfold Flo.finish z1i;dsimp only;rw[List.length_map];omega) (by unfold Flo.finish;dsimp only;rw[List.length_append];simp;omega) rfl rfl
    ·unfold z0B at h ⊢
     by_cases k3:x.kind=3
     ·rw[if_pos (by simp [k3])] at h ⊢
      by_cases hj:steps.findIdx (fun y=>decide (y=e.2.step))+1=steps.length
      ·rw[if_pos hj] at h;dsimp only at h;omega
      ·rw[if_neg hj]
       have jl:steps.findIdx (fun y=>decide (y=e.2.step))<steps.length:=List.findIdx_lt_length_of_exists ⟨e.2.step,hin,by simp⟩
       have jl2:steps.findIdx (fun y=>decide (y=e.2.step))+1<steps.length:=by omega
       dsimp only
       rw[List.getElem?_eq_getElem jl2]
       exact List.getElem_mem jl2
     ·rw[if_neg (by simp [k3])];exact hin
    ·unfold z0B
     split
     ·split <;> (dsimp only;omega)
     ·dsimp only;omega
  rw[if_neg k34,if_neg k34]
  by_cases k5:x.kind=5
  ·rw[if_pos k5,if_pos k5]
   by_cases h1:e.2.state≠3
   ·rw[if_pos h1,if_pos h1];exact⟨rfl,rfl,I.up,rfl,rfl⟩
   rw[if_neg h1,if_neg h1]
   have hs3:e.2.state=3:=by simpa using h1
   refine⟨rfl,?_,?_,rfl,rfl⟩
   ·unfold Flo.put Flo.P
    dsimp only
    rw[pu]
   ·exact I.set he ⟨1,x.time,e.2.step,e.2.site,e.2.failed⟩ (fun _=>hse (.inr (.inr hs3))) (by dsimp only;omega) _ rfl I.ns (by unfold Flo.put;dsimp only;omega) (by unfold Flo.put;dsimp only;omega) rfl rfl
  rw[if_neg k5,if_neg k5]
  by_cases h45:e.2.state=4∨e.2.state=5
  ·rw[if_pos h45,if_pos h45];exact⟨rfl,rfl,I.up,rfl,rfl⟩
  rw[if_neg h45,if_neg h45]
  have no5:∀ (a:Int) (b c:Nm) (f:Int),((⟨5,a,b,c,f⟩:Sta).state=1∨(⟨5,a,b,c,f⟩:Sta).state=2∨(⟨5,a,b,c,f⟩:Sta).state=3)→b∈steps:=fun a b c f h=>by dsimp only at h;omega
  by_cases h2:e.2.state=2
  ·rw[if_pos h2,if_pos h2]
   obtain⟨q1,q2⟩:=zke (m:=S.sm) (k:=e.2.site) I.ns
   refine⟨rfl,?_,?_,rfl,rfl⟩
   ·unfold Flo.P
    dsimp only
    rw[pu,q1]
   ·exact I.set he ⟨5,x.time,e.2.step,[],e.2.failed⟩ (no5 _ _ _ _) (by dsimp only;omega) _ rfl q2 (by unfold z1i;dsimp only;rw[List.length_map];omega) (by dsimp only;omega) rfl rfl
  ·rw[if_neg h2,if_neg h2]
   refine⟨rfl,?_,?_,rfl,rfl⟩
   ·unfold Flo.put Flo.P
    dsimp only
    rw[pu]
   ·exact I.set he ⟨5,x.time,e.2.step,e.2.site,e.2.failed⟩ (no5 _ _ _ _) (by dsimp only;omega) _ rfl I.ns (by unfold Flo.put;dsimp only;omega) (by unfold Flo.put;dsimp only;omega) rfl rfl
end Go.Am
end
section
/- Entries followed: the walk. -/
open Go
set_option linter.all false
set_option maxRecDepth 100000
namespace Go.Am
variable {h:Heap} {K:Post}
attribute [-go_sem] oEqa z1p z17 z4c
attribute [local go_sem] z2q z3m z6z z60 z8s z8t z9A z9B z8u z9D z9E z9F z9G z9H z9I z9J
def upK (l:List Ent) (at_:Int):Nat→Nat
 | 0=>0
 | k+1=>if at_<((l[k]?).map Ent.time).getD 0 then upK l at_ k else k+1
def upL (l:List Ent) (at_:Int):List Ent:=l.take (upK l at_ l.length)
theorem zt0 (l:List Ent) (at_:Int) (hl:l.length≤1000000):z0d X z4k [z19 l,AI at_] h K=K (z19 (upL l at_)) h []:=by
 refine rule ?_
 rw[c_q08l rfl]
 simp only[zfd,go_sem]
 refine z0U (fun k:Nat=>⟨[(0,z19 l),(1,AI at_),(5,AI k)],h,[]⟩) (fun k=>k≤l.length∧upK l at_ k=upK l at_ l.length) (fun k=>k) l.length rfl ⟨Nat.le_refl _,rfl⟩ ?_
 rintro k ⟨hk,hp⟩
 have fin:upK l at_ l.length=k→(∀ P:Prop,True)→z19 (upL l at_)=z19 (l.take k):=fun e _=>by unfold upL;rw[e]
 have hw:∀ k,win (l.map Ent.pv) 0 k=(l.take k).map Ent.pv:=fun k=>by simp [win,List.map_take]
 cases k with
 | zero=>
  have c0:¬ (0:Int)<((0:Nat):Int):=by omega
  have e:=fin hp.symm (fun _=>trivial)
  simp only[go_sem,Int.lt_irrefl,hw,Nat.zero_le,e,c0]
  first | done | rfl
 | succ k=>
  have hlt:k<l.length:=by omega
  have c0:(0:Int)<((k+1:Nat):Int):=by omega
  have w1:IntKind.i64.wrap (((k+1:Nat):Int)-1)=(k:Int):=by rw[z0k _ (by omega) (by omega)];omega
  have hg:=z0X Ent.pv hlt
  have ct:cutP none 2 (Ent.pv l[k])=some (eI l[k].time):=rfl
  rw[upK,List.getElem?_eq_getElem hlt] at hp
  have e0:(Option.map Ent.time (some l[k])).getD 0=l[k].time:=rfl
  rw[e0] at hp
  by_cases h1:at_<l[k].time
  ·rw[if_pos h1] at hp
   simp only[go_sem,c0,w1,hlt,hg,ct,h1]
   exact⟨k,rfl,⟨by omega,hp⟩,by omega⟩
  ·rw[if_neg h1] at hp
   have e:=fin hp.symm (fun _=>trivial)
   have hk':k+1≤l.length:=hk
   simp only[go_sem,c0,w1,hlt,hg,ct,h1,hw,hk',e]
   first | done | rfl
def zd1 (S:Flo) (x:Ent):Bool:=(ixB x.board S.bs).isNone&&decide (x.kind=1)
theorem zdI (fb:Obj) (steps:List Nm) (tries:Int) (hst:steps.length≤1000) {n:Nat} (hn:n≤1000000) (S:Flo) (I:FlI S steps n) (l:Heap) (x:Ent) (hx:zd1 S x=false) :
 z0d X z3y [.ref (h.length+7) 0,.p x.pv] (FS h fb steps tries S l) K=K (AI (S.act steps tries x).1) (FS h fb steps tries (S.act steps tries x).2 l) []:=by
 unfold Flo.act
 cases hi:ixB x.board S.bs with
 | none=>
  have k1:x.kind≠1:=by
   intro e
   unfold zd1 at hx
   rw[hi,e] at hx
   simp at hx
  dsimp only
  rw[if_neg k1]
  exact zhm fb steps tries S l x hi k1
 | some i=>
  obtain⟨e,he⟩:=ixB_lt hi
  have hm:e∈S.bs:=List.mem_of_getElem? he
  dsimp only
  rw[he]
  dsimp only
  by_cases k1:x.kind=1
  ·rw[if_pos k1]
   exact zdJ fb steps tries S l x i hi k1
  ·rw[if_neg k1]
   have:=I.fl e hm
   have:=I.rl
   have:=I.el
   exact zoR fb steps tries hst S l i e.1 e.2 x hi he (by omega) (by omega) (fun h2=>I.st e hm (.inr (.inl h2))) (by omega) k1
def Flo.step (S:Flo) (steps:List Nm) (tries:Int) (i:Nat) (x:Ent):Flo:=
 if (S.act steps tries x).1≠0 then { (S.act steps tries x).2 with ref:=(S.act steps tries x).2.ref++[(i:Int)],why:=(S.act steps tries x).2.why++[(S.act steps tries x).1] } else (S.act steps tries x).2
def Flo.go (steps:List Nm) (tries:Int):Flo→Nat→List (Ent × Bool)→Flo
 | S,_,[]=>S
 | S,i,(x,c)::r=>if c=false∨x.kind=7 then Flo.go steps tries S (i+1) r else Flo.go steps tries (S.step steps tries i x) (i+1) r
def flo0:Flo:=⟨[],[],0,[],[],[],[]⟩
theorem flI0 (steps:List Nm):FlI flo0 steps 0:=
 ⟨fun e he=>(by cases he),fun e he=>(by cases he),List.nodup_nil,List.nodup_nil,Nat.le_refl _,Nat.le_refl _,Nat.le_refl _,Nat.le_refl _,Nat.le_refl _⟩
theorem zpd {S:Flo} {steps:List Nm} {tries:Int} {n:Nat} (I:FlI S steps n) (hst:steps≠[]) (i:Nat) (x:Ent) :
 FlI (S.step steps tries i x) steps (n+1)∧(S.step steps tries i x).P=(actP steps tries S.P x).1∧(S.step steps tries i x).ref=(if (actP steps tries S.P x).2≠0 then S.ref++[(i:Int)] else S.ref)∧(S.step steps tries i x).why=(if (actP steps tries S.P x).2≠0 then S.why++[(actP steps tries S.P x).2] else S.why):=by
 obtain⟨a1,a2,a3,a4,a5⟩:=act_P (tries:=tries) I hst x
 unfold Flo.step
 rw[← a1]
 by_cases h0:(S.act steps tries x).1≠0
 ·rw[if_pos h0,if_pos h0,if_pos h0]
  refine⟨⟨a3.st,a3.fl,a3.nb,a3.ns,a3.bl,a3.rl,a3.el,?_,?_⟩,a2,by dsimp only;rw[a4],by dsimp only;rw[a5]⟩
  ·dsimp only;rw[List.length_append,a4];have:=I.fr;simp;omega
  ·dsimp only;rw[List.length_append,a5];have:=I.fw;simp;omega
 ·rw[if_neg h0,if_neg h0,if_neg h0]
  exact⟨a3,a2,a4,a5⟩
def escE (h:Heap):Nat→Esc
 | 0=>[]
 | n+1=>(h.length+1,h.length+(8+3*(n+1)))::escE h n
theorem z3T {h:Heap}:∀ {n:Nat} {y:Nat × Nat},y∈escE h n→y.1=h.length+1∧y.2≤h.length+(8+3*n)
 | 0,y,hy=>by cases hy
 | n+1,y,hy=>by
  rcases List.mem_cons.1 hy with e | e
  ·rw[e];exact⟨rfl,Nat.le_refl _⟩
  ·have:=z3T e;omega
theorem zci (h:Heap):∀ (n m:Nat),h.length+8≤m→m≤h.length+(8+3*n)→bump (escE h n) m=h.length+(8+3*n)
 | 0,m,h1,h2=>by simp [escE,bump];omega
 | n+1,m,h1,h2=>by
  unfold escE bump
  rw[List.foldl_cons,if_pos (by dsimp only;omega)]
  have e:max m (h.length+(8+3*(n+1)))=h.length+(8+3*(n+1)):=by omega
  dsimp only
  rw[e]
  have:∀ (x:Esc) (m:Nat),(∀ y∈x,y.2≤m)→x.foldl (fun m y=>if y.1<m then max m y.2 else m) m=m:=by
   intro x
   induction x with
   | nil=>intro m _;rfl
   | cons y r ih=>
    intro m hm
    rw[List.foldl_cons]
    have h1:=hm y (List.mem_cons_self ..)
    have:(if y.1<m then max m y.2 else m)=m:=by split <;> omega
    rw[this]
    exact ih m fun z hz=>hm z (List.mem_cons_of_mem _ hz)
  exact this _ _ fun y hy=>by have:=(z3T hy).2;omega
theorem zvr {b q n:Nat} {P:Post} {H:Heap} (hq:q=b+7) (hH:H.length=b+(8+3*n)) (x:Esc) (hx:∃ h:Heap,h.length=b∧x=escE h n) (k:P (.ref q 0) H x):retK false b P (some [.ref q 0]) H x:=by
 obtain⟨h,rfl,rfl⟩:=hx
 subst hq
 have e1:∀ m,reif m H (.ref (h.length+7) 0)=some (.ref (h.length+7) 0):=fun m=>by simp [reif]
 have e2:AV.top (.ref (h.length+7) 0)=h.length+8:=by simp [AV.top]
 have e6:z0D [AV.ref (h.length+7) 0] = .ref (h.length+7) 0:=rfl
 have e7:max h.length (h.length+8)=h.length+8:=by omega
 have e3:∀ c,bump (escE h n) c=h.length+(8+3*n)→close (escE h n).length (escE h n) (h.length+8)=h.length+(8+3*n):=by
  intro c _
  have hb:=fun m h1 h2=>zci h n m h1 h2
  have:∀ k m,h.length+8≤m→m≤h.length+(8+3*n)→(m=h.length+(8+3*n)∨1≤k)→close k (escE h n) m=h.length+(8+3*n):=by
   intro k
   induction k with
   | zero=>intro m h1 h2 h3;unfold close;omega
   | succ k ih=>
    intro m h1 h2 _
    unfold close
    rw[hb m h1 h2]
    exact ih _ (by omega) (Nat.le_refl _) (.inl rfl)
  refine this _ _ (Nat.le_refl _) (by omega) ?_
  cases n with
  | zero=>left;omega
  | succ n=>right;simp [escE]
 have e3':=e3 _ (zci h n _ (Nat.le_refl _) (by omega))
 have e4:z0L (escE h n) (h.length+(8+3*n))=true:=by
  unfold z0L
  rw[List.all_eq_true]
  intro y hy
  have:=(z3T hy).2
  simp [this]
 have e5:(escE h n).filter (fun y=>decide (y.1<h.length+(8+3*n)))=escE h n:=by
  rw[List.filter_eq_self]
  intro y hy
  have:=(z3T hy).1
  simp;omega
 have e8:H.take (h.length+(8+3*n))=H:=List.take_of_length_le (by omega)
 simp only[retK,e6,e1,e2,e7,e3',e4,e5,e8,if_true]
 exact⟨by omega,k⟩
theorem zdX (fb:Obj) (steps:List Nm) (tries:Int) (S:Flo) (l:Heap):(FS h fb steps tries S l).length=h.length+(8+3*S.bs.length+l.length):=by unfold FS;rw[z2q,z05]
end Go.Am
end
section
/- Entries followed: the walk,all. -/
open Go
set_option linter.all false
set_option maxRecDepth 100000
namespace Go.Am
variable {h:Heap} {K:Post}
attribute [-go_sem] oEqa z1p z17 z4c
attribute [local go_sem] z2q z3m z6z z60 z8s z8t z9A z9B z8u z9D z9E z9F z9G z9H z9I z9J
abbrev z99 (steps:List Nm) (tries:Int):AV:=.p (.agg [.sl none (steps.map .str),eI tries])
def flB (steps:List Nm) (tries:Int):Obj:=.box [AStr steps,AI tries]
def zipC (l:List Ent):List (Ent × Bool):=l.zip (cntB l)
theorem z6E (l:List Ent):(zipC l).length=l.length:=by unfold zipC;rw[List.length_zip,z1j];simp
theorem zrO {l:List Ent} {k:Nat} (hk:k<l.length):(zipC l)[k]'(by rw[z6E];exact hk)=(l[k],(cntB l)[k]'(by rw[z1j];exact hk)):=by unfold zipC;rw[List.getElem_zip]
theorem ztH {S:Flo} {steps:List Nm} {tries:Int} {x:Ent} (hx:zd1 S x=false):(S.act steps tries x).2.bs.length=S.bs.length:=by
 unfold Flo.act
 cases hi:ixB x.board S.bs with
 | none=>
  have k1:x.kind≠1:=by
   intro e
   unfold zd1 at hx
   rw[hi,e] at hx
   simp at hx
  dsimp only
  rw[if_neg k1]
 | some i=>
  dsimp only
  cases S.bs[i]? with
  | none=>rfl
  | some e=>
   dsimp only
   split
   ·rfl
   ·unfold Flo.old Flo.startR Flo.start Flo.finishR Flo.finish Flo.put
    split
    ·split
     ·rfl
     split
     ·rfl
     split
     ·rfl
     ·simp
    split
    ·split
     ·rfl
     split
     ·rfl
     ·simp
    split
    ·split
     ·rfl
     ·simp
    split
    ·rfl
    split
    ·simp
    ·simp
abbrev z1d (steps:List Nm) (tries:Int) (l:List Ent):Flo:=Flo.go steps tries flo0 0 (zipC l)
set_option maxHeartbeats 8000000 in
theorem zfT (steps:List Nm) (tries:Int) (h1:steps.length≤1000) (h0:steps≠[]) (l:List Ent) (hl:l.length≤1000) :
 z0d X z3p [z99 steps tries,z19 l] h K=K (.ref (h.length+7) 0) (FS h (flB steps tries) steps tries (z1d steps tries l) []) (escE h (z1d steps tries l).bs.length):=by
 refine rule ?_
 rw[c_q08d rfl]
 have cnt:=fun h K=>zhl (h:=h) (K:=K) l (by omega)
 simp only[zfa,go_sem,↓cnt,cnt]
 have hF0:Flo.go steps tries flo0 0 ((zipC l).drop 0)=z1d steps tries l:=rfl
 generalize z1d steps tries l=F at *
 refine z0U (fun t:Nat × Flo=>⟨[(5,.ref (h.length+7) 0),(6,.p (.sl none ((cntB l).map z13))),(17,z19 l),(18,AI l.length),(19,AI t.1)],FS h (flB steps tries) steps tries t.2 [],escE h t.2.bs.length⟩)
  (fun t=>t.1≤l.length∧Flo.go steps tries t.2 t.1 ((zipC l).drop t.1)=F∧FlI t.2 steps t.1) (fun t=>l.length-t.1) (0,flo0) ?_ ⟨Nat.zero_le _,hF0,flI0 steps⟩ ?_
 ·rfl
 rintro⟨k,S⟩ ⟨hk,hp,I⟩
 dsimp only at hk hp I ⊢
 rcases Nat.lt_or_ge k l.length with hlt | hge
 ·have w1:IntKind.i64.wrap ((k:Int)+1)=((k+1:Nat):Int):=z0k _ (by omega) (by omega)
  have hkc:k<(cntB l).length:=by rw[z1j];exact hlt
  have hg:=z0X Ent.pv hlt
  have hc:=z0X z13 hkc
  have cx:=z3v (x:=l[k])
  have cc:∀ b:Bool,cutP none 0 (z13 b)=some (z13 b):=fun _=>rfl
  have hzl:k<(zipC l).length:=by rw[z6E];exact hlt
  rw[List.drop_eq_getElem_cons hzl,zrO hlt] at hp
  unfold Flo.go at hp
  generalize (cntB l)[k]=c at *
  generalize hx:l[k]=x at *
  have lenS:=zdX (h:=h) (flB steps tries) steps tries S []
  simp only[List.length_nil,Nat.add_zero] at lenS
  have app0:∀ (S:Flo) (l2:Heap),FS h (flB steps tries) steps tries S []++l2=FS h (flB steps tries) steps tries S l2:=fun S l2=>by unfold FS;rw[z3m];rfl
  have gt:∀ (o:Obj),(FS h (flB steps tries) steps tries S [o])[h.length+(8+3*S.bs.length)]?=some o:=fun o=>by unfold FS;exact tl1 (l:=[])
  have st:∀ (o o':Obj),(FS h (flB steps tries) steps tries S [o]).set (h.length+(8+3*S.bs.length)) o'=FS h (flB steps tries) steps tries S [o']:=fun o o'=>by
   unfold FS
   have:=ztG (h:=h) (B:=boxB S.bs) (l:=[o]) (o:=o') (o0:=flB steps tries) (o1:=mobj PV.str refA (mapB (h.length+8) S.bs)) (o2:=dobj S.sm S.ck) (o3:=.row (some 5) (S.ends.map EndP.pv) 0) (o4:=.row (some 3) (S.runs.map RunP.pv) 0) (o5:=.row none (S.ref.map eI) 0) (o6:=.row none (S.why.map eI) 0) (o7:=wbx h steps tries S.ends.length S.runs.length S.ref.length S.why.length) 0
   rw[z05] at this
   exact this
  have tk0:∀ (o:Obj),(FS h (flB steps tries) steps tries S [o]).take (h.length+(8+3*S.bs.length))=FS h (flB steps tries) steps tries S []:=fun o=>z5J (h:=h) (flB steps tries) steps tries S [] [o]
  have f1:h.length+7+1≤h.length+(8+3*S.bs.length):=by omega
  by_cases hskip:c=false∨x.kind=7
  ·rw[if_pos hskip] at hp
   rcases hskip with e | e
   ·subst e
    simp only[go_sem,hlt,hg,hc,cx,cc,Ent.pv,lenS,app0,gt,st,splice,w1,tk0,f1]
    exact⟨(k+1,S),rfl,⟨by dsimp only;omega,hp,I.up⟩,by dsimp only;omega⟩
   ·cases c with
    | false=>
     simp only[go_sem,hlt,hg,hc,cx,cc,Ent.pv,lenS,app0,gt,st,splice,w1,tk0,f1]
     exact⟨(k+1,S),rfl,⟨by dsimp only;omega,hp,I.up⟩,by dsimp only;omega⟩
    | true=>
     simp only[go_sem,hlt,hg,hc,cx,cc,Ent.pv,lenS,app0,gt,st,splice,w1,tk0,f1,eq_true e]
     exact⟨(k+1,S),rfl,⟨by dsimp only;omega,hp,I.up⟩,by dsimp only;omega⟩
  ·rw[if_neg hskip] at hp
   rw[not_or] at hskip
   have c1:c=true:=by simpa using hskip.1
   have k7:=hskip.2
   subst c1
   obtain⟨I2,_⟩:=zpd (tries:=tries) I h0 k x
   by_cases hnew:zd1 S x=true
   ·unfold zd1 at hnew
    rw[Bool.and_eq_true,Option.isNone_iff_eq_none] at hnew
    obtain⟨n1,n2⟩:=hnew
    have n2:x.kind=1:=by simpa using n2
    have ea:S.act steps tries x=(0,S.enter steps x):=by unfold Flo.act;rw[n1];dsimp only;rw[if_pos n2]
    have es:S.step steps tries k x=S.enter steps x:=by unfold Flo.step;rw[ea];exact if_neg (by simp)
    rw[es] at hp I2
    have tkN:=fun K=>zoQ (h:=h) (K:=K) (flB steps tries) steps tries h0 S x n1 n2
    simp only[Ent.pv,Ent.bx] at tkN
    have lenE:(S.enter steps x).bs.length=S.bs.length+1:=by unfold Flo.enter;simp
    have tkE:(FS h (flB steps tries) steps tries (S.enter steps x) []).take (h.length+(8+3*(S.bs.length+1)))=FS h (flB steps tries) steps tries (S.enter steps x) []:=by
     have:=z5J (h:=h) (flB steps tries) steps tries (S.enter steps x) [] []
     rw[lenE] at this
     exact this
    have mx:max (h.length+(8+3*S.bs.length)) (h.length+(8+3*(S.bs.length+1)))=h.length+(8+3*(S.bs.length+1)):=by omega
    have tr:∀ (x0:Esc) (e:List (Nat × AV)) (H:Heap),z5W (h.length+(8+3*S.bs.length)) x0 ⟨e,H,[(h.length+1,h.length+(8+3*(S.bs.length+1)))]⟩=⟨z8y (h.length+(8+3*(S.bs.length+1))) e,H.take (h.length+(8+3*(S.bs.length+1))),(h.length+1,h.length+(8+3*(S.bs.length+1)))::x0⟩:=fun x0 e H=>by rw[zpm (by omega),mx]
    have f2:h.length+7+1≤h.length+(8+3*(S.bs.length+1)):=by omega
    simp only[go_sem,hlt,hg,hc,cx,cc,Ent.pv,lenS,app0,gt,st,splice,w1,k7,↓tkN,tkN,tr,tkE,f2]
    exact⟨(k+1,S.enter steps x),by dsimp only;rw[lenE];rfl,⟨by dsimp only;omega,hp,I2⟩,by dsimp only;omega⟩
   ·have hnew:zd1 S x=false:=by simpa using hnew
    have tkO:=fun K=>zdI (h:=h) (K:=K) (flB steps tries) steps tries h1 (n:=k) (by omega) S I [x.bx] x hnew
    have lenA:(S.act steps tries x).2.bs.length=S.bs.length:=ztH hnew
    simp only[Ent.pv,Ent.bx] at tkO
    obtain⟨_,_,I3,a4,a5⟩:=act_P (tries:=tries) I h0 x
    have fr:=I3.fr
    have fw:=I3.fw
    unfold Flo.step at hp I2
    generalize S.act steps tries x=R at *
    obtain⟨e,S2⟩:=R
    dsimp only at *
    have tk2:∀ (o:Obj),(FS h (flB steps tries) steps tries S2 [o]).take (h.length+(8+3*S.bs.length))=FS h (flB steps tries) steps tries S2 []:=fun o=>by
     have:=z5J (h:=h) (flB steps tries) steps tries S2 [] [o]
     rw[lenA] at this
     exact this
    by_cases e0:e=0
    ·rw[if_neg (by simp [e0])] at hp I2
     simp only[go_sem,hlt,hg,hc,cx,cc,Ent.pv,lenS,app0,gt,st,splice,w1,k7,↓tkO,tkO,eq_true e0,tk2,f1]
     exact⟨(k+1,S2),by dsimp only;rw[lenA],⟨by dsimp only;omega,hp,I2⟩,by dsimp only;omega⟩
    ·rw[if_pos e0] at hp I2
     obtain⟨bs2,sm2,ck2,ends2,runs2,ref2,why2⟩:=S2
     dsimp only at *
     have m1:ref2.length+1≤z1f:=by unfold z1f;omega
     have m2:why2.length+1≤z1f:=by unfold z1f;omega
     have e5:=fun n o m=>esc7 h 5 n o m (by decide)
     have e6:=fun n o m=>esc7 h 6 n o m (by decide)
     have tkF:∀ (o0 o1 o2 o3 o4 o5 o6 o7 b:Obj),(FH h o0 o1 o2 o3 o4 o5 o6 o7 (boxB bs2) [b]).take (h.length+(8+3*S.bs.length))=FH h o0 o1 o2 o3 o4 o5 o6 o7 (boxB bs2) []:=fun o0 o1 o2 o3 o4 o5 o6 o7 b=>by
      have:=zig (h:=h) (o0:=o0) (o1:=o1) (o2:=o2) (o3:=o3) (o4:=o4) (o5:=o5) (o6:=o6) (o7:=o7) (B:=boxB bs2) (l:=[b]) 0
      rw[z05,lenA] at this
      exact this
     have eS:∀ l,FS h (flB steps tries) steps tries ⟨bs2,sm2,ck2,ends2,runs2,ref2,why2⟩ l=FH h (flB steps tries) (mobj PV.str refA (mapB (h.length+8) bs2)) (dobj sm2 ck2) (.row (some 5) (ends2.map EndP.pv) 0) (.row (some 3) (runs2.map RunP.pv) 0) (.row none (ref2.map eI) 0) (.row none (why2.map eI) 0)
      (.box [AStr steps,AI tries,.mp (h.length+1),.mp (h.length+2),.own (h.length+3) ends2.length 0 ends2.length,.own (h.length+4) runs2.length 0 runs2.length,.own (h.length+5) ref2.length 0 ref2.length,.own (h.length+6) why2.length 0 why2.length]) (boxB bs2) l:=fun l=>rfl
     simp only[eS] at tkO
     simp only[go_sem,hlt,hg,hc,cx,cc,Ent.pv,lenS,app0,gt,st,splice,w1,k7,↓tkO,tkO,e0,tkF,f1,m1,m2,e5,e6]
     refine⟨(k+1,⟨bs2,sm2,ck2,ends2,runs2,ref2++[(k:Int)],why2++[e]⟩),?_,⟨by dsimp only;omega,hp,I2⟩,by dsimp only;omega⟩
     dsimp only
     rw[lenA]
     unfold FS wbx
     simp only[List.map_append,List.length_append,List.map_cons,List.map_nil,List.length_cons,List.length_nil,Nat.zero_add]
 ·have ek:k=l.length:=by omega
  subst ek
  rw[show (zipC l).drop l.length=[] from List.drop_of_length_le (by rw[z6E];exact Nat.le_refl _)] at hp
  unfold Flo.go at hp
  subst hp
  have fl:h.length+7+1≤(FS h (flB steps tries) steps tries S []).length:=by rw[zdX];omega
  simp only[go_sem,Nat.lt_irrefl,fl]
  refine zvr (n:=S.bs.length) (H:=FS h (flB steps tries) steps tries S []) rfl (zdX (flB steps tries) steps tries S []) _ ⟨h,rfl,rfl⟩ ?_
  exact⟨rfl,rfl,rfl⟩
end Go.Am
end
section
/- Flows;what is refused;the status of a board: the program. -/
open Go
set_option linter.all false
set_option maxRecDepth 100000
namespace Go.Am
variable {h:Heap} {K:Post}
attribute [-go_sem] oEqa z1p z17 z4c
attribute [local go_sem] z2q z3m z6z z60 z8s z8t z9A z9B z8u z9D z9E z9F z9G z9H z9I z9J
def z3e:List Nm→List Nm→Int
 | _,[]=>0
 | pre,s::r=>if keyB s=false then 5 else if pre.contains s=true then 6 else z3e (pre++[s]) r
def z5Q (steps:List Nm) (tries:Int):Int:=if steps.length=0 then 8 else if (20:Int)<steps.length then 2 else if z3e [] steps≠0 then z3e [] steps else if inB 1 tries 10=false then 1 else 0
attribute [-go_sem] z7r
theorem z8f (steps:List Nm) (tries:Int) (hl:steps.length≤1000) (hk:∀ s∈steps,s.length≤1000000):z0d X z4S [z99 steps tries] h K=K (AI (z5Q steps tries)) h []:=by
 refine rule ?_
 rw[c_q07s rfl]
 unfold z5Q
 by_cases h0:steps.length=0
 ·have h0':(steps.length:Int)=0:=by omega
  simp only[z8K,go_sem,eq_true h0',h0]
 have h0':¬ (steps.length:Int)=0:=by omega
 by_cases h1:(20:Int)<steps.length
 ·simp only[z8K,go_sem,h0',h0,h1]
 simp only[z8K,go_sem,h0',h0,h1]
 refine z0U (fun k:Nat=>⟨[(1,.ref h.length 0),(16,AStr steps),(17,AI steps.length),(18,AI k)],h++[.box [AStr steps,AI tries]],[]⟩) (fun k=>k≤steps.length∧z3e (steps.take k) (steps.drop k)=z3e [] steps) (fun k=>steps.length-k) 0 rfl ⟨by omega,rfl⟩ ?_
 rintro k ⟨hkl,hp⟩
 rcases Nat.lt_or_ge k steps.length with hlt | hge
 ·have hg:=z0X PV.str hlt
  have cw:∀ v:List UInt8,cutP none 0 (PV.str v)=some (PV.str v):=fun _=>rfl
  have w2:IntKind.i64.wrap ((k:Int)+1)=((k+1:Nat):Int):=z0k _ (by omega) (by omega)
  have ky:=fun h K=>zhk (h:=h) (K:=K) steps[k] (by have:=hk _ (List.getElem_mem hlt);omega)
  have ct:=fun h K=>za6 (h:=h) (K:=K) (steps.take k) (fun h' _=>strS _) steps[k] (by simp;omega)
  have hw:win (steps.map PV.str) 0 k=(steps.take k).map PV.str:=by simp [win,List.map_take]
  have hk2:k≤steps.length:=by omega
  rw[List.drop_eq_getElem_cons hlt,z3e] at hp
  cases h2:keyB steps[k] with
  | false=>
   rw[if_pos h2] at hp
   simp only[go_sem,hlt,hg,cw,↓ky,ky,h2]
   rw[← hp]
   first | done | rfl
  | true=>
   rw[if_neg (by simp [h2])] at hp
   cases h3:(steps.take k).contains steps[k] with
   | true=>
    rw[if_pos h3] at hp
    rw[h3] at ct
    simp only[go_sem,hlt,hg,cw,↓ky,ky,h2,hw,hk2,↓ct,ct]
    rw[← hp]
    first | done | rfl
   | false=>
    rw[if_neg (by rw[h3];simp),← List.take_succ_eq_append_getElem hlt] at hp
    rw[h3] at ct
    simp only[go_sem,hlt,hg,cw,↓ky,ky,h2,hw,hk2,↓ct,ct,w2]
    exact⟨k+1,rfl,⟨by omega,hp⟩,by omega⟩
 ·have ek:k=steps.length:=by omega
  subst ek
  rw[List.drop_length] at hp
  have hz:z3e [] steps=0:=by rw[← hp];rfl
  rw[if_neg (by simp [hz])]
  simp only[go_sem,Nat.lt_irrefl]
  rw[z7r]
  cases h4:inB 1 tries 10 with
  | false=>simp only[z4G,go_sem,z1T,h4];first | done | rfl
  | true=>simp only[z4G,go_sem,z1T,h4];first | done | rfl
def momF (n:Int):Int:=if z1D n=true then 0 else 1
theorem zaw (n:Int):z0d X z75 [AI n] h K=K (AI (momF n)) h []:=by
 refine rule ?_
 rw[c_q08g rfl]
 unfold momF
 cases h1:z1D n with
 | false=>simp only[zfb,go_sem,z1Z,h1,Bool.false_eq_true]
 | true=>simp only[zfb,go_sem,z1Z,h1]
def zai (steps:List Nm) (tries:Int) (l:List Ent) (at_:Int):Int:=orL [z5Q steps tries,z2y l,momF at_]
structure StOk (steps:List Nm) (l:List Ent):Prop where
 n:steps.length≤1000
 k:∀ s∈steps,s.length≤1000000
 e:∀ x∈l,EntOk x
 l:l.length≤1000
theorem zvx (steps:List Nm) (tries:Int) (l:List Ent) (O:StOk steps l) (at_:Int):z0d X z6t [z99 steps tries,z19 l,AI at_] h K=K (AI (zai steps tries l at_)) h []:=by
 refine rule ?_
 rw[c_q085 rfl]
 have q1:=fun h K=>z8f (h:=h) (K:=K) steps tries O.n O.k
 have q2:=fun h K=>z4o (h:=h) (K:=K) l O.e (by have:=O.l;omega)
 have q3:=fun h K=>zaw (h:=h) (K:=K) at_
 have q4:=fun h K=>zoN (h:=h) (K:=K) [z5Q steps tries,z2y l,momF at_] (by simp)
 simp only[AL,List.map_cons,List.map_nil] at q4
 simp only[zjZ,go_sem,↓q1,q1,↓q2,q2,↓q3,q3,↓q4,q4]
 rfl
theorem zt4 {steps:List Nm} {l:List Ent} (O:StOk steps l) (at_:Int):StOk steps (upL l at_):=
 ⟨O.n,O.k,fun x hx=>O.e x (List.mem_of_mem_take hx),by unfold upL;rw[List.length_take];have:=O.l;omega⟩
theorem zcr {steps:List Nm} {tries:Int} {l:List Ent} {at_:Int} (h:zai steps tries l at_=0):steps≠[]:=by
 intro e
 subst e
 unfold zai at h
 have:z5Q [] tries=8:=rfl
 rw[this] at h
 simp [orL] at h
end Go.Am
end
section
/- What is z1s at once is nothing;refused entries left out: plainly. -/
open Go
set_option linter.all false
set_option maxRecDepth 100000
namespace Go.Am
def gtE (a b:Ent):Prop:=0<z0W b a
theorem z2r {x y:Int}:0<cmp3 x y↔y<x:=by unfold cmp3;split <;> (try split) <;> omega
theorem z6f {x y:Int}:cmp3 x y=0↔x=y:=by unfold cmp3;split <;> (try split) <;> omega
theorem zlZ {a b c:Ent} (h1:gtE a b) (h2:gtE b c):gtE a c:=by
 unfold gtE z0W at *
 have lt1:∀ {x y:List UInt8},0<cmpL x y↔cmpL y x<0:=fun {x y}=>by rw[z9V y x];omega
 by_cases t1:cmp3 b.time a.time=0
 ·rw[if_neg (by simp [t1])] at h1
  have e1:=z6f.1 t1
  by_cases t2:cmp3 c.time b.time=0
  ·rw[if_neg (by simp [t2])] at h2
   have e2:=z6f.1 t2
   rw[if_neg (by rw[e2,e1];simp [z6f])]
   by_cases s1:cmpL b.site a.site=0
   ·rw[if_neg (by simp [s1])] at h1
    have f1:=z5M s1
    by_cases s2:cmpL c.site b.site=0
    ·rw[if_neg (by simp [s2])] at h2
     have f2:=z5M s2
     rw[if_neg (by rw[f2,f1];simp [z4C])]
     rw[z2r] at *;omega
    ·rw[if_pos s2] at h2
     rw[f1] at s2 h2
     rw[if_pos s2];exact h2
   ·rw[if_pos s1] at h1
    by_cases s2:cmpL c.site b.site=0
    ·have f2:=z5M s2
     rw[f2,if_pos s1];exact h1
    ·rw[if_pos s2] at h2
     have q:=z8E (lt1.1 h1) (lt1.1 h2)
     have q2:=lt1.2 q
     rw[if_pos (by omega)];exact q2
  ·rw[if_pos t2,z2r] at h2
   have:¬ cmp3 c.time a.time=0:=fun z=>by have:=z6f.1 z;omega
   rw[if_pos this,z2r];omega
 ·rw[if_pos t1,z2r] at h1
  by_cases t2:cmp3 c.time b.time=0
  ·have e2:=z6f.1 t2
   have:¬ cmp3 c.time a.time=0:=fun z=>by have:=z6f.1 z;omega
   rw[if_pos this,z2r];omega
  ·rw[if_pos t2,z2r] at h2
   have:¬ cmp3 c.time a.time=0:=fun z=>by have:=z6f.1 z;omega
   rw[if_pos this,z2r];omega
theorem zcg (p:Option Ent) (x:Ent) (r:List Ent):z0A p (x::r)=(if entF x≠0 then entF x else if (p.elim false fun q=>decide (z0W x q≤0))=true then 7 else z0A (some x) r):=by cases p <;> rfl
theorem z6m:∀ (l:List Ent) (p:Option Ent),z0A p l=0↔(∀ x∈l,entF x=0)∧(p.toList++l).Pairwise gtE∨l=[]
 | [],p=>by simp [z0A]
 | x::r,p=>by
  have ih:=z6m r (some x)
  rw[zcg]
  have ord:((p.elim false fun q=>decide (z0W x q≤0))=true)↔¬ ∀ q∈p.toList,gtE q x:=by
   cases p with
   | none=>simp
   | some q=>simp [gtE]
  constructor
  ·intro h
   left
   by_cases h1:entF x=0
   ·rw[if_neg (by simp [h1])] at h
    by_cases h2:(p.elim false fun q=>decide (z0W x q≤0))=true
    ·rw[if_pos h2] at h;exact absurd h (by decide)
    ·rw[if_neg h2] at h
     have h2':∀ q∈p.toList,gtE q x:=by
      rw[ord] at h2
      exact Classical.not_not.1 h2
     have hr:(x::r).Pairwise gtE:=by
      rcases ih.1 h with ⟨_,q⟩ | q
      ·exact q
      ·rw[q];exact List.pairwise_singleton ..
     refine⟨fun y hy=>?_,?_⟩
     ·rcases List.mem_cons.1 hy with e | e
      ·rw[e];exact h1
      ·rcases ih.1 h with ⟨q,_⟩ | q
       ·exact q y e
       ·rw[q] at e;cases e
     ·cases p with
      | none=>exact hr
      | some q=>
       refine List.pairwise_cons.2 ⟨fun y hy=>?_,hr⟩
       have hq:=h2' q (by simp)
       rcases List.mem_cons.1 hy with e | e
       ·rw[e];exact hq
       ·exact zlZ hq ((List.pairwise_cons.1 hr).1 y e)
   ·rw[if_pos h1] at h;exact absurd h h1
  ·intro h
   rcases h with ⟨h1,h2⟩ | h
   ·have hx:=h1 x (List.mem_cons_self ..)
    rw[if_neg (by simp [hx])]
    have hr:(x::r).Pairwise gtE:=(List.pairwise_append.1 h2).2.1
    have hn:¬ (p.elim false fun q=>decide (z0W x q≤0))=true:=by
     rw[ord]
     exact Classical.not_not.2 fun q hq=>(List.pairwise_append.1 h2).2.2 q hq x (List.mem_cons_self ..)
    rw[if_neg hn]
    exact ih.2 (.inl ⟨fun y hy=>h1 y (List.mem_cons_of_mem _ hy),hr⟩)
   ·cases h
theorem z95:∀ (l seen:List Ent),z2m seen l=false↔(∀ x∈l,∀ o∈seen,z2X o x=false)∧l.Pairwise fun o x=>z2X o x=false
 | [],seen=>by simp [z2m]
 | x::r,seen=>by
  have ih:=z95 r (seen++[x])
  unfold z2m
  by_cases h:seen.any (fun o=>z2X o x)=true
  ·rw[if_pos h]
   constructor
   ·intro q;cases q
   ·rintro⟨q,_⟩
    obtain⟨o,ho,hs⟩:=List.any_eq_true.1 h
    rw[q x (List.mem_cons_self ..) o ho] at hs;cases hs
  ·rw[if_neg h,ih,List.pairwise_cons]
   have hs:∀ o∈seen,z2X o x=false:=by simpa using h
   constructor
   ·rintro⟨q1,q2⟩
    refine⟨fun y hy o ho=>?_,fun y hy=>q1 y hy x (by simp),q2⟩
    rcases List.mem_cons.1 hy with e | e
    ·rw[e];exact hs o ho
    ·exact q1 y e o (by simp [ho])
   ·rintro⟨q1,q2,q3⟩
    refine⟨fun y hy o ho=>?_,q3⟩
    rcases List.mem_append.1 ho with e | e
    ·exact q1 y (List.mem_cons_of_mem _ hy) o e
    ·rw[List.mem_singleton.1 e];exact q2 y hy
theorem zcf (l:List Ent):z2y l=0↔l.length≤2000∧(∀ x∈l,entF x=0)∧l.Pairwise gtE∧l.Pairwise fun o x=>z2X o x=false:=by
 have e0:z0A none l=0↔(∀ x∈l,entF x=0)∧l.Pairwise gtE:=by
  rw[z6m]
  constructor
  ·rintro (h | h)
   ·exact h
   ·rw[h];simp
  ·intro h;exact .inl h
 have t0:=z95 l []
 unfold z2y
 constructor
 ·intro h
  split at h
  ·cases h
  rename_i h1
  split at h
  ·rename_i h2;exact absurd h h2
  rename_i h2
  split at h
  ·cases h
  rename_i h3
  have h2':z0A none l=0:=by simpa using h2
  have h3':z2m [] l=false:=by simpa using h3
  exact⟨by omega,(e0.1 h2').1,(e0.1 h2').2,(t0.1 h3').2⟩
 ·rintro⟨h1,h2,h3,h4⟩
  rw[if_neg (by omega),if_neg (by simp [e0.2 ⟨h2,h3⟩]),if_neg (by rw[t0.2 ⟨fun _ _ _ h=>(by cases h),h4⟩];simp)]
theorem zl6 {l m:List Ent} (h:m.Sublist l) (hl:z2y l=0):z2y m=0:=by
 rw[zcf] at *
 obtain⟨a,b,c,d⟩:=hl
 exact⟨by have:=h.length_le;omega,fun x hx=>b x (h.subset hx),c.sublist h,d.sublist h⟩
theorem early {l:List Ent} (hv:∀ x∈l,EntV x) (hf:z2y l=0):∀ x∈l,x.time≤1000∧x.site≠[122,122]:=fun x hx=>by
 have:=(zfh (zl5 hf x hx)).t
 have z:=(hv x hx).z
 exact⟨by omega,z.1⟩
end Go.Am
end
section
/- For how long a site runs boards,plainly. -/
open Go
set_option linter.all false
set_option maxRecDepth 100000
namespace Go.Am
def CH:Int→Int→List RunP→Prop
 | lo,hi,[]=>lo≤hi
 | lo,hi,r::rest=>lo≤r.frm∧r.frm≤r.til∧0≤r.til∧CH r.til hi rest
theorem zhN:∀ {l:List RunP} {lo hi hi':Int},CH lo hi l→hi≤hi'→CH lo hi' l
 | [],lo,hi,hi',h,g=>by unfold CH at *;omega
 | r::rest,lo,hi,hi',h,g=>⟨h.1,h.2.1,h.2.2.1,zhN h.2.2.2 g⟩
theorem zhO:∀ {l:List RunP} {lo hi:Int} {r:RunP},CH lo hi l→hi≤r.frm→r.frm≤r.til→0≤r.til→CH lo r.til (l++[r])
 | [],lo,hi,r,h,a,b,c=>by unfold CH at h;exact⟨by omega,b,c,Int.le_refl _⟩
 | y::rest,lo,hi,r,h,a,b,c=>⟨h.1,h.2.1,h.2.2.1,zhO h.2.2.2 a b c⟩
theorem zrP:∀ {l:List RunP} {lo hi:Int},CH lo hi l→∀ r∈l,0≤r.til
 | [],_,_,_,r,hr=>by cases hr
 | y::rest,lo,hi,h,r,hr=>by
  rcases List.mem_cons.1 hr with e | e
  ·rw[e];exact h.2.2.1
  ·exact zrP h.2.2.2 r e
def over (frm_ til_:Int) (r:RunP):Int:=max 0 (min (if r.til<0 then til_ else r.til) til_-max r.frm frm_)
def z1u (frm_ til_:Int):List RunP→Int
 | []=>0
 | r::rest=>over frm_ til_ r+z1u frm_ til_ rest
theorem ztx (a b:Int) (r:RunP):0≤over a b r:=by unfold over;omega
theorem zdD (a b:Int):∀ l,0≤z1u a b l
 | []=>Int.le_refl _
 | r::rest=>by have:=ztx a b r;have:=zdD a b rest;unfold z1u;omega
theorem z7I (a b:Int):∀ l m,z1u a b (l++m)=z1u a b l+z1u a b m
 | [],m=>by simp [z1u]
 | r::rest,m=>by have:=z7I a b rest m;simp only[List.cons_append,z1u,this];omega
theorem zdg {a b:Int}:∀ {l:List RunP} {lo hi:Int},CH lo hi l→z1u a b l+max 0 (b-max hi a)≤max 0 (b-max lo a)
 | [],lo,hi,h=>by unfold CH at h;unfold z1u;omega
 | r::rest,lo,hi,h=>by
  obtain⟨h1,h2,h3,h4⟩:=h
  have ih:=zdg (a:=a) (b:=b) h4
  unfold z1u over
  rw[if_neg (by omega)]
  omega
def zcQ (rs:List RunP) (busy:Bool) (T:Int):Prop:=if busy then ∃ pre r,rs=pre++[r]∧CH 0 r.frm pre∧r.til<0∧0≤r.frm∧r.frm≤T else CH 0 T rs
theorem z91 {rs:List RunP} {busy:Bool} {T T':Int} (h:zcQ rs busy T) (g:T≤T'):zcQ rs busy T':=by
 unfold zcQ at *
 cases busy with
 | true=>
  obtain⟨pre,r,a,b,c,d,e⟩:=h
  exact⟨pre,r,a,b,c,d,by omega⟩
 | false=>exact zhN h g
theorem zhq {rs:List RunP} {busy:Bool} {T a b:Int} (h:zcQ rs busy T) (ha:0≤a) (hab:a≤b):z1u a b rs≤b-a:=by
 unfold zcQ at h
 cases busy with
 | true=>
  obtain⟨pre,r,e,h2,h3,h4,h5⟩:=h
  subst e
  have h6:=zdg (a:=a) (b:=b) h2
  have e2:z1u a b [r]=over a b r:=by unfold z1u z1u;omega
  have e3:over a b r=max 0 (b-max r.frm a):=by unfold over;rw[if_pos h3,Int.min_self]
  rw[z7I,e2,e3]
  omega
 | false=>
  have:=zdg (a:=a) (b:=b) h
  omega
def ofS (s:Nm) (l:List RunP):List RunP:=l.filter fun r=>decide (r.site=s)
theorem z35 {s site:Nm} (h:s≠site) (t:Int):∀ l,ofS s (z1i l site t)=ofS s l
 | []=>rfl
 | r::rest=>by
  have ih:=z35 h t rest
  unfold ofS z1i at *
  simp only[List.map_cons,List.filter_cons]
  rw[ih]
  by_cases e:r.site=site∧r.til<0
  ·rw[if_pos e]
   have:¬ r.site=s:=fun z=>h (z ▸ e.1)
   simp [this]
  ·rw[if_neg e]
theorem zc5 {site:Nm} (t:Int):∀ l,ofS site (z1i l site t)=(ofS site l).map fun r=>if r.til<0 then { r with til:=t } else r
 | []=>rfl
 | r::rest=>by
  have ih:=zc5 (site:=site) t rest
  unfold ofS z1i at *
  simp only[List.map_cons,List.filter_cons]
  by_cases e:r.site=site
  ·by_cases g:r.til<0
   ·simp [e,g,ih]
   ·simp [e,g,ih]
  ·simp [e,ih]
theorem zgV {pre:List RunP} {t:Int} (h:∀ r∈pre,0≤r.til):(pre.map fun r=>if r.til<0 then { r with til:=t } else r)=pre:=by
 conv=>rhs;rw[← List.map_id pre]
 apply List.map_congr_left
 intro r hr
 have:=h r hr
 rw[if_neg (by omega)]
 rfl
structure BI (p:FlP) (T:Int):Prop where
 inv:∃ q,Inv p q
 st:∀ s,zcQ (ofS s p.runs) (getA p.sites s).isSome T
 si:∀ b st,getA p.bs b=some st→0≤st.since∧st.since≤T
 en:∀ e∈p.ends,0≤e.frm∧e.frm≤e.til∧e.til≤T
theorem BI.mono {p:FlP} {T T':Int} (h:BI p T) (g:T≤T'):BI p T':=
 ⟨h.inv,fun s=>z91 (h.st s) g,fun b st hb=>by have:=h.si b st hb;omega,fun e he=>by have:=h.en e he;omega⟩
theorem bi0:BI ⟨[],[],[],[]⟩ 0:=
 ⟨⟨_,inv0⟩,fun s=>(show CH 0 0 [] from Int.le_refl _),fun b st h=>(by cases h),fun e he=>(by cases he)⟩
theorem ze7 {p:FlP} {T t:Int} (B:BI p T) (ht:T≤t) {board:Nm} {b:Sta} (hb:getA p.bs board=some b) (h2:b.state=2) (s:Nm):zcQ (ofS s (z1i p.runs b.site t)) (getA (delA p.sites b.site) s).isSome t:=by
 obtain⟨q,I⟩:=B.inv
 rw[zaj]
 by_cases e:s=b.site
 ·subst e
  rw[if_pos rfl]
  have hs:getA p.sites b.site=some board:=(I.sts b.site board).2 ⟨b,hb,h2,rfl⟩
  have h:=B.st b.site
  rw[hs] at h
  obtain⟨pre,r,a1,a2,a3,a4,a5⟩:=h
  rw[zc5,a1,List.map_append,zgV (zrP a2)]
  show CH 0 t (pre++_)
  simp only[List.map_cons,List.map_nil,if_pos a3]
  exact zhO (r:={ r with til:=t }) a2 (Int.le_refl _) (by dsimp only;omega) (by dsimp only;omega)
 ·rw[if_neg e,z35 e]
  exact z91 (B.st s) ht
theorem ztQ (steps:List Nm) (tries:Int) {p:FlP} {T:Int} (B:BI p T) (x:Ent) (w:EntW x) (h7:x.kind≠7) (hT:T≤x.time):BI (actP steps tries p x).1 x.time:=by
 obtain⟨q,I⟩:=B.inv
 have inv':∃ q',Inv (actP steps tries p x).1 q':=⟨_,(zqQ steps tries I x w.b w.s w.t w.k h7).2⟩
 have t0:=w.t
 have M:=B.mono hT
 have putSi:∀ (k:Nm) (v:Sta),0≤v.since→v.since≤x.time→∀ b st,getA (putA p.bs k v) b=some st→0≤st.since∧st.since≤x.time:=fun k v h1 h2 b st hb=>by
  rw[z2s] at hb
  split at hb
  ·cases hb;exact⟨h1,h2⟩
  ·exact M.si b st hb
 revert inv'
 unfold actP
 by_cases k1:x.kind=1
 ·rw[if_pos k1]
  cases hb:getA p.bs x.board with
  | some b=>intro inv';exact M
  | none=>
   intro inv'
   exact⟨inv',M.st,putSi _ _ t0 (Int.le_refl _),M.en⟩
 rw[if_neg k1]
 cases hb:getA p.bs x.board with
 | none=>intro inv';exact M
 | some b=>
  have hsi:=B.si x.board b hb
  dsimp only
  by_cases k2:x.kind=2
  ·rw[if_pos k2]
   by_cases a1:b.state≠1
   ·rw[if_pos a1];intro inv';exact M
   rw[if_neg a1]
   by_cases a2:x.step≠b.step
   ·rw[if_pos a2];intro inv';exact M
   rw[if_neg a2]
   by_cases a3:(getA p.sites x.site).isSome=true
   ·rw[if_pos a3];intro inv';exact M
   rw[if_neg a3]
   intro inv'
   refine⟨inv',fun s=>?_,putSi _ _ t0 (Int.le_refl _),M.en⟩
   dsimp only
   rw[z2s]
   have hfil:ofS s (p.runs++[⟨x.site,x.time,-1⟩])=ofS s p.runs++(if x.site=s then [⟨x.site,x.time,-1⟩] else []):=by
    unfold ofS
    rw[List.filter_append,List.filter_cons]
    by_cases e:x.site=s <;> simp [e]
   rw[hfil]
   by_cases e:s=x.site
   ·subst e
    rw[if_pos rfl,if_pos rfl]
    have h:=M.st x.site
    have hn:(getA p.sites x.site).isSome=false:=by simpa using a3
    rw[hn] at h
    exact⟨_,_,rfl,h,by dsimp only;omega,t0,Int.le_refl _⟩
   ·have e':¬ x.site=s:=fun z=>e z.symm
    rw[if_neg e,if_neg e',List.append_nil]
    exact M.st s
  rw[if_neg k2]
  by_cases k34:x.kind=3∨x.kind=4
  ·rw[if_pos k34]
   by_cases a1:b.state≠2
   ·rw[if_pos a1];intro inv';exact M
   rw[if_neg a1]
   by_cases a2:b.site≠x.site
   ·rw[if_pos a2];intro inv';exact M
   rw[if_neg a2]
   intro inv'
   have h2:b.state=2:=by simpa using a1
   refine⟨inv',fun s=>ze7 B hT hb h2 s,putSi _ _ ?_ ?_,fun e he=>?_⟩
   ·unfold z0B;split
    ·split <;> exact t0
    ·exact t0
   ·unfold z0B;split
    ·split <;> exact Int.le_refl _
    ·exact Int.le_refl _
   ·rcases List.mem_append.1 he with h | h
    ·exact M.en e h
    ·rw[List.mem_singleton.1 h];dsimp only;omega
  rw[if_neg k34]
  by_cases k5:x.kind=5
  ·rw[if_pos k5]
   by_cases a1:b.state≠3
   ·rw[if_pos a1];intro inv';exact M
   rw[if_neg a1]
   intro inv'
   exact⟨inv',M.st,putSi _ _ t0 (Int.le_refl _),M.en⟩
  rw[if_neg k5]
  by_cases a1:b.state=4∨b.state=5
  ·rw[if_pos a1];intro inv';exact M
  rw[if_neg a1]
  by_cases h2:b.state=2
  ·rw[if_pos h2]
   intro inv'
   exact⟨inv',fun s=>ze7 B hT hb h2 s,putSi _ _ t0 (Int.le_refl _),M.en⟩
  ·rw[if_neg h2]
   intro inv'
   exact⟨inv',M.st,putSi _ _ t0 (Int.le_refl _),M.en⟩
theorem ztP (steps:List Nm) (tries:Int) (h0:steps≠[]):∀ (l:List (Ent × Bool)) (S:Flo) (i n:Nat) (T Z:Int),FlI S steps n→BI S.P T→(∀ y∈l,EntW y.1)→(∀ y∈l,T≤y.1.time∧y.1.time≤Z)→T≤Z→(l.map fun y=>y.1.time).Pairwise (· ≤ ·)→BI (Flo.go steps tries S i l).P Z
 | [],S,i,n,T,Z,I,B,_,_,hz,_=>B.mono hz
 | (x,c)::r,S,i,n,T,Z,I,B,hw,ht,hz,hp=>by
  have e1:Flo.go steps tries S i ((x,c)::r)=if c=false∨x.kind=7 then Flo.go steps tries S (i+1) r else Flo.go steps tries (S.step steps tries i x) (i+1) r:=rfl
  have hwr:=fun y hy=>hw y (List.mem_cons_of_mem (x,c) hy)
  have hx:=ht (x,c) (List.mem_cons_self ..)
  rw[List.map_cons,List.pairwise_cons] at hp
  rw[e1]
  by_cases hs:c=false∨x.kind=7
  ·rw[if_pos hs]
   exact ztP steps tries h0 r S (i+1) (n+1) T Z I.up B hwr (fun y hy=>ht y (List.mem_cons_of_mem _ hy)) hz hp.2
  ·rw[if_neg hs]
   obtain⟨s1,s2,_⟩:=zpd (tries:=tries) I h0 i x
   have h7:x.kind≠7:=fun e=>hs (.inr e)
   have B':=ztQ steps tries B x (hw (x,c) (List.mem_cons_self ..)) h7 hx.1
   rw[← s2] at B'
   refine ztP steps tries h0 r _ (i+1) (n+1) x.time Z s1 B' hwr (fun y hy=>⟨?_,(ht y (List.mem_cons_of_mem _ hy)).2⟩) hx.2 hp.2
   exact hp.1 y.1.time (List.mem_map_of_mem (f:=fun y:Ent × Bool=>y.1.time) hy)
theorem zu5 {a b:Ent} (h:gtE a b):a.time≤b.time:=by
 unfold gtE z0W at h
 by_cases t:cmp3 b.time a.time=0
 ·have:=z6f.1 t;omega
 ·rw[if_pos t,z2r] at h;omega
theorem bi_flo (steps:List Nm) (tries:Int) (h0:steps≠[]) {l:List Ent} (hf:z2y l=0) {Z:Int} (h1:∀ x∈l,x.time≤Z) (hZ:0≤Z):BI (z1d steps tries l).P Z:=by
 have hfl:=(zcf l).1 hf
 refine ztP steps tries h0 (zipC l) flo0 0 0 0 Z (flI0 steps) bi0 (fun y hy=>entF_W (hfl.2.1 y.1 (List.of_mem_zip hy).1)) (fun y hy=>?_) hZ ?_
 ·have hm:=(List.of_mem_zip hy).1
  exact⟨(zfh (hfl.2.1 y.1 hm)).t.1,h1 y.1 hm⟩
 ·have:(zipC l).map (fun y=>y.1.time)=l.map Ent.time:=by
   unfold zipC
   rw[show (fun y:Ent × Bool=>y.1.time)=Ent.time ∘ Prod.fst from rfl,← List.map_map,List.map_fst_zip (by rw[z1j];exact Nat.le_refl _)]
  rw[this,List.pairwise_map]
  exact hfl.2.2.1.imp zu5
end Go.Am
end
section
/- For how long a site runs boards: the program. -/
open Go
set_option linter.all false
set_option maxRecDepth 100000
namespace Go.Am
variable {h:Heap} {K:Post}
attribute [-go_sem] oEqa z1p z17 z4c
section
variable {fb:Obj} {steps:List Nm} {tries:Int} {S:Flo} {o o':Obj} {l:Heap}
theorem z9M:(FS h fb steps tries S []).length=h.length+(8+3*S.bs.length):=zdX fb steps tries S []
theorem z9L {l2:Heap}:FS h fb steps tries S []++l2=FS h fb steps tries S l2:=by unfold FS;rw[z3m];rfl
theorem zpA:(FS h fb steps tries S [o])[h.length+(8+3*S.bs.length)]?=some o:=by unfold FS;exact tl1 (l:=[])
theorem zpB:(FS h fb steps tries S [o]).set (h.length+(8+3*S.bs.length)) o'=FS h fb steps tries S [o']:=by
 unfold FS
 have:=ztG (h:=h) (B:=boxB S.bs) (l:=[o]) (o:=o') (o0:=fb) (o1:=mobj PV.str refA (mapB (h.length+8) S.bs)) (o2:=dobj S.sm S.ck) (o3:=.row (some 5) (S.ends.map EndP.pv) 0) (o4:=.row (some 3) (S.runs.map RunP.pv) 0) (o5:=.row none (S.ref.map eI) 0) (o6:=.row none (S.why.map eI) 0) (o7:=wbx h steps tries S.ends.length S.runs.length S.ref.length S.why.length) 0
 rw[z05] at this
 exact this
theorem zpC:(FS h fb steps tries S [o]).take (h.length+(8+3*S.bs.length))=FS h fb steps tries S []:=z5J (h:=h) fb steps tries S [] [o]
theorem zp9:(FS h fb steps tries S l)[h.length+4]?=some (.row (some 3) (S.runs.map RunP.pv) 0):=by unfold FS;exact z8t
theorem FS_g7:(FS h fb steps tries S l)[h.length+7]?=some (.box [AStr steps,AI tries,.mp (h.length+1),.mp (h.length+2),.own (h.length+3) S.ends.length 0 S.ends.length,.own (h.length+4) S.runs.length 0 S.runs.length,.own (h.length+5) S.ref.length 0 S.ref.length,.own (h.length+6) S.why.length 0 S.why.length]):=by unfold FS;exact z8u
end
theorem zrv (a b:Int):z0d X z8O [.p (.agg [eI a,eI b])] h K=K (AB (inB 0 a b&&decide (b≤345686400000))) h []:=by
 refine rule ?_
 rw[c_q00b rfl]
 cases h1:inB 0 a b with
 | false=>simp only[zeK,go_sem,z1T,h1,Bool.false_and]
 | true=>simp only[zeK,go_sem,z1T,h1,Bool.true_and]
def zdO (steps:List Nm) (tries:Int) (l:List Ent) (step:Nm) (at_:Int):Int:=if zai steps tries l at_=0 then (if steps.contains step then 0 else 8) else zai steps tries l at_
theorem zdH (steps:List Nm) (tries:Int) (l:List Ent) (O:StOk steps l) (step:Nm) (at_:Int):z0d X z9d [z99 steps tries,z19 l,AS step,AI at_] h K=K (AI (zdO steps tries l step at_)) h []:=by
 refine rule ?_
 rw[c_q08j rfl]
 have q1:=fun h K=>zvx (h:=h) (K:=K) steps tries l O at_
 have ct:=fun h K=>za6 (h:=h) (K:=K) steps (fun h' _=>strS _) step (by have:=O.n;omega)
 unfold zdO
 by_cases h0:zai steps tries l at_=0
 ·rw[if_pos h0]
  cases hc:steps.contains step with
  | true=>
   rw[hc] at ct
   simp only[z8M,go_sem,↓q1,q1,h0,↓ct,ct]
   first | done | rfl
  | false=>
   rw[hc] at ct
   simp only[z8M,go_sem,↓q1,q1,h0,↓ct,ct]
   first | done | rfl
 ·rw[if_neg h0]
  simp only[z8M,go_sem,↓q1,q1,h0]
def zjs (steps:List Nm) (tries:Int) (l:List Ent) (site:Nm) (a b:Int):Int × Int:=
 if orL [z5Q steps tries,z2y l]≠0 then (0,orL [z5Q steps tries,z2y l]) else if keyB site=false then (0,5) else if (inB 0 a b&&decide (b≤345686400000))=false then (0,1)
 else (z1u a b (ofS site (z1d steps tries (upL l (b-1))).runs),0)
theorem zha {a b:Int} {site:Nm} {l:List RunP} {k:Nat} (hk:k<l.length):z1u a b (ofS site (l.take (k+1)))=z1u a b (ofS site (l.take k))+(if l[k].site=site then over a b l[k] else 0):=by
 rw[List.take_succ_eq_append_getElem hk]
 unfold ofS
 rw[List.filter_append,z7I,List.filter_cons]
 by_cases e:l[k].site=site
 ·simp [e,z1u]
 ·simp [e,z1u]
theorem zfL {a b:Int} (h:a≤b):∀ (l:List RunP),(∀ r∈l,True)→z1u a b l≤(b-a)*l.length
 | [],_=>by simp [z1u]
 | r::rest,_=>by
  have ih:=zfL h rest (fun _ _=>trivial)
  have:over a b r≤b-a:=by unfold over;omega
  have e:(b-a)*((r::rest).length:Int)=(b-a)*(rest.length:Int)+(b-a):=by
   rw[List.length_cons];push_cast;rw[Int.mul_add,Int.mul_one]
  unfold z1u
  omega
set_option maxHeartbeats 8000000 in
theorem s_Busy (steps:List Nm) (tries:Int) (l:List Ent) (O:StOk steps l) (site:Nm) (hs:site.length≤1000000) (a b:Int) (ha:0≤a) (hab:a≤b) (hb:b≤1000) (hn:(z1d steps tries (upL l (b-1))).runs.length≤1000)
 (hr:∀ r∈(z1d steps tries (upL l (b-1))).runs,(0≤r.frm∧r.frm≤1000000000000)∧r.til≤1000000000000) :
 z0d X z9b [z99 steps tries,z19 l,AS site,.p (.agg [eI a,eI b])] h K=K (.tup [AI (zjs steps tries l site a b).1,AI (zjs steps tries l site a b).2]) h []:=by
 refine rule ?_
 rw[c_q07q rfl]
 have q0:=fun h K=>z8f (h:=h) (K:=K) steps tries O.n O.k
 have q1:=fun h K=>z4o (h:=h) (K:=K) l O.e (by have:=O.l;omega)
 have qf:=fun h K=>zoN (h:=h) (K:=K) [z5Q steps tries,z2y l] (by simp)
 simp only[AL,List.map_cons,List.map_nil] at qf
 have qk:=fun h K=>zhk (h:=h) (K:=K) site (by omega)
 have qw:=fun h K=>zrv (h:=h) (K:=K) a b
 have w1:IntKind.i64.wrap (b-1)=b-1:=z0k _ (by omega) (by omega)
 have q3:=fun h K=>zt0 (h:=h) (K:=K) l (b-1) (by have:=O.l;omega)
 unfold zjs
 generalize he:orL [z5Q steps tries,z2y l]=e at *
 by_cases h0:e=0
 case neg=>
  rw[if_pos h0]
  simp only[z8J,go_sem,↓q0,q0,↓q1,q1,↓qf,qf,h0]
  first | done | rfl
 rw[if_neg (by simp [h0])]
 subst h0
 have hst:steps≠[]:=by
  intro z
  subst z
  have:z5Q [] tries=8:=rfl
  rw[this] at he
  simp [orL] at he
 cases h1:keyB site with
 | false=>
  rw[if_pos rfl]
  simp only[z8J,go_sem,↓q0,q0,↓q1,q1,↓qf,qf,↓qk,qk,h1]
  first | done | rfl
 | true=>
  rw[if_neg (by simp)]
  have hw:(inB 0 a b&&decide (b≤345686400000))=true:=by unfold inB;simp;omega
  rw[if_neg (by simp [hw])]
  rw[hw] at qw
  have q4:=fun h K=>zfT (h:=h) (K:=K) steps tries O.n hst (upL l (b-1)) (zt4 O (b-1)).l
  generalize z1d steps tries (upL l (b-1))=F at *
  obtain⟨g,hg⟩:∃ g,h++[Obj.box [AStr steps,AI tries],.box [AI a,AI b]]=g:=⟨_,rfl⟩
  have gl:g.length=h.length+2:=by rw[← hg];simp
  have q5:=fun K=>q4 (h++[Obj.box [AStr steps,AI tries],.box [AI a,AI b]]) K
  have q6:∀ K,z0d X z3p [z99 steps tries,z19 (upL l (b-1))] (h++[Obj.box [AStr steps,AI tries],.box [AI a,AI b]]) K=K (.ref (g.length+7) 0) (FS g (flB steps tries) steps tries F []) (escE g F.bs.length):=fun K=>by rw[q5,hg]
  have ex:∀ y∈escE g F.bs.length,h.length≤y.1:=fun y hy=>by have:=(z3T hy).1;omega
  have gp:∀ (l2:Heap),(FS g (flB steps tries) steps tries F l2)[h.length+1]?=some (.box [AI a,AI b]):=fun l2=>by
   rw[← hg];unfold FS FH
   rw[List.append_assoc,List.getElem?_append_right (by omega)]
   simp
  have pre:∀ (l2:Heap),(FS g (flB steps tries) steps tries F l2).take h.length=h:=fun l2=>by
   rw[← hg];unfold FS FH
   rw[List.append_assoc,List.take_left]
  simp only[z8J,go_sem,↓q0,q0,↓q1,q1,↓qf,qf,↓qk,qk,h1,↓qw,qw,w1,↓q3,q3,↓q6,q6,FS_g7]
  refine z0U (fun k:Nat=>⟨[(2,AS site),(7,.ref (h.length+1) 0),(11,AI (z1u a b (ofS site (F.runs.take k)))),(41,.own (g.length+4) F.runs.length 0 F.runs.length),(42,AI F.runs.length),(43,AI k)],FS g (flB steps tries) steps tries F [],escE g F.bs.length⟩) (fun k=>k≤F.runs.length) (fun k=>F.runs.length-k) 0 rfl (Nat.zero_le _) ?_
  intro k hk
  rcases Nat.lt_or_ge k F.runs.length with hlt | hge
  ·have wk:IntKind.i64.wrap ((k:Int)+1)=((k+1:Nat):Int):=z0k _ (by omega) (by omega)
   have hgr:=z0X RunP.pv hlt
   have hrl:(F.runs.map RunP.pv).length=F.runs.length:=List.length_map ..
   have hrk:=hr _ (List.getElem_mem hlt)
   have os:=zha (a:=a) (b:=b) (site:=site) hlt
   have ob:z1u a b (ofS site (F.runs.take k))≤1000000:=by
    have h1:=zfL hab (ofS site (F.runs.take k)) (fun _ _=>trivial)
    have h2:(ofS site (F.runs.take k)).length≤1000:=Nat.le_trans (List.length_filter_le _ _) (by rw[List.length_take];omega)
    have h3:(b-a)*((ofS site (F.runs.take k)).length:Int)≤1000*1000:=Int.mul_le_mul (by omega) (by omega) (by omega) (by omega)
    omega
   have ob0:=zdD a b (ofS site (F.runs.take k))
   have on:over a b F.runs[k]≤1000:=by unfold over;omega
   have on0:=ztx a b F.runs[k]
   have cx:cutP (some 3) 0 (RunP.pv F.runs[k])=some (RunP.pv F.runs[k]):=rfl
   have fp:∀ r:RunP,RunP.pv r = .agg [.str r.site,eI r.frm,eI r.til]:=fun _=>rfl
   generalize F.runs[k]=r at *
   generalize z1u a b (ofS site (F.runs.take k))=acc at *
   have f1:h.length+1+1≤g.length+(8+3*F.bs.length):=by omega
   have f2:g.length+4+1≤g.length+(8+3*F.bs.length):=by omega
   have w3:IntKind.i64.wrap (acc+over a b r)=acc+over a b r:=z0k _ (by omega) (by omega)
   have fin:∀ n:Int,n=z1u a b (ofS site (F.runs.take (k+1)))→∃ u,(⟨[(2,AS site),(7,.ref (h.length+1) 0),(11,AI n),(41,.own (g.length+4) F.runs.length 0 F.runs.length),(42,AI F.runs.length),(43,AI ((k+1:Nat):Int))],FS g (flB steps tries) steps tries F [],escE g F.bs.length⟩:St)=⟨[(2,AS site),(7,.ref (h.length+1) 0),(11,AI (z1u a b (ofS site (F.runs.take u)))),(41,.own (g.length+4) F.runs.length 0 F.runs.length),(42,AI F.runs.length),(43,AI u)],FS g (flB steps tries) steps tries F [],escE g F.bs.length⟩∧u≤F.runs.length∧F.runs.length-u<F.runs.length-k:=fun n hn=>⟨k+1,by rw[hn],by omega,by omega⟩
   by_cases t0:r.til<0
   ·by_cases es:r.site=site
    ·rw[if_pos es] at os
     have w2:IntKind.i64.wrap (b-max r.frm a)=b-max r.frm a:=z0k _ (by omega) (by omega)
     have ov:max 0 (b-max r.frm a)=over a b r:=by unfold over;rw[if_pos t0,Int.min_self]
     simp only[go_sem,hlt,hgr,hrl,cx,fp,z9M,z9L,zpA,zpB,zpC,zp9,gp,splice,wk,t0,eq_true es,Int.min_self,w2,ov,w3,f1,f2]
     exact fin _ os.symm
    ·rw[if_neg es,Int.add_zero] at os
     simp only[go_sem,hlt,hgr,hrl,cx,fp,z9M,z9L,zpA,zpB,zpC,zp9,gp,splice,wk,t0,es,f1,f2]
     exact fin _ os.symm
   ·by_cases es:r.site=site
    ·rw[if_pos es] at os
     have w2:IntKind.i64.wrap (min r.til b-max r.frm a)=min r.til b-max r.frm a:=z0k _ (by omega) (by omega)
     have ov:max 0 (min r.til b-max r.frm a)=over a b r:=by unfold over;rw[if_neg t0]
     simp only[go_sem,hlt,hgr,hrl,cx,fp,z9M,z9L,zpA,zpB,zpC,zp9,gp,splice,wk,t0,eq_true es,w2,ov,w3,f1,f2]
     exact fin _ os.symm
    ·rw[if_neg es,Int.add_zero] at os
     simp only[go_sem,hlt,hgr,hrl,cx,fp,z9M,z9L,zpA,zpB,zpC,zp9,gp,splice,wk,t0,es,f1,f2]
     exact fin _ os.symm
  ·have ek:k=F.runs.length:=by omega
   subst ek
   rw[List.take_length]
   simp only[go_sem,Nat.lt_irrefl]
   rw[zfR (v:=.tup [AI (z1u a b (ofS site F.runs)),AI 0]) ex (by simp [reif,z59,z0D]) (by simp [AV.top,AV.tops])]
   exact⟨rfl,pre _,rfl⟩
def z0Z (step:Nm):List EndP→List Int
 | []=>[]
 | e::r=>if e.step=step then (e.til-e.frm)::z0Z step r else z0Z step r
theorem z92 (step:Nm):∀ a b,z0Z step (a++b)=z0Z step a++z0Z step b
 | [],b=>rfl
 | e::r,b=>by
  have ih:=z92 step r b
  simp only[List.cons_append,z0Z,ih]
  split <;> rfl
theorem z5V (step:Nm):∀ a,(z0Z step a).length≤a.length
 | []=>Nat.le_refl _
 | e::r=>by
  have ih:=z5V step r
  unfold z0Z
  split
  ·simp only[List.length_cons];omega
  ·simp only[List.length_cons];omega
def zcV (steps:List Nm) (tries:Int) (l:List Ent) (step:Nm) (at_:Int):List Int × Int:=
 if zdO steps tries l step at_≠0 then ([],zdO steps tries l step at_) else (z0Z step (z1d steps tries (upL l at_)).ends,0)
set_option maxHeartbeats 8000000 in
theorem zvu (steps:List Nm) (tries:Int) (l:List Ent) (O:StOk steps l) (step:Nm) (at_:Int) (hn:(z1d steps tries (upL l at_)).ends.length≤1000)
 (hr:∀ e∈(z1d steps tries (upL l at_)).ends,(0≤e.frm∧e.frm≤1000000000000)∧0≤e.til∧e.til≤1000000000000) :
 z0d X z9c [z99 steps tries,z19 l,AS step,AI at_] h K=K (.tup [AL (zcV steps tries l step at_).1,AI (zcV steps tries l step at_).2]) h []:=by
 refine rule ?_
 rw[c_q080 rfl]
 have q1:=fun h K=>zdH (h:=h) (K:=K) steps tries l O step at_
 have q3:=fun h K=>zt0 (h:=h) (K:=K) l at_ (by have:=O.l;omega)
 unfold zcV
 by_cases h0:zdO steps tries l step at_=0
 case neg=>
  rw[if_pos h0]
  simp only[zbI,go_sem,↓q1,q1,h0]
  first | done | rfl
 rw[if_neg (by simp [h0])]
 have hst:steps≠[]:=by
  unfold zdO at h0
  by_cases h1:zai steps tries l at_=0
  ·exact zcr h1
  ·rw[if_neg h1] at h0;exact absurd h0 h1
 have q4:=fun h K=>zfT (h:=h) (K:=K) steps tries O.n hst (upL l at_) (zt4 O at_).l
 generalize z1d steps tries (upL l at_)=F at *
 obtain⟨g,hg⟩:∃ g,h++[Obj.box [AStr steps,AI tries],.row none [] 0]=g:=⟨_,rfl⟩
 have gl:g.length=h.length+2:=by rw[← hg];simp
 have q5:=fun K=>q4 (h++[Obj.box [AStr steps,AI tries],.row none [] 0]) K
 have q6:∀ K,z0d X z3p [z99 steps tries,z19 (upL l at_)] (h++[Obj.box [AStr steps,AI tries],.row none [] 0]) K=K (.ref (g.length+7) 0) (FS g (flB steps tries) steps tries F []) (escE g F.bs.length):=fun K=>by rw[q5,hg]
 have ex:∀ y∈escE g F.bs.length,h.length≤y.1:=fun y hy=>by have:=(z3T hy).1;omega
 obtain⟨gs,hgs⟩:∃ gs:List Int→Heap,∀ ts,h++[Obj.box [AStr steps,AI tries],.row none (ts.map eI) 0]=gs ts:=⟨_,fun _=>rfl⟩
 have gsl:∀ ts,(gs ts).length=g.length:=fun ts=>by rw[← hgs,gl];simp
 have g0:g=gs []:=by rw[← hgs,← hg];rfl
 obtain⟨H,hH⟩:∃ H:List Int→Heap→Heap,∀ ts l2,FH (gs ts) (flB steps tries) (mobj PV.str refA (mapB (g.length+8) F.bs)) (dobj F.sm F.ck) (.row (some 5) (F.ends.map EndP.pv) 0) (.row (some 3) (F.runs.map RunP.pv) 0) (.row none (F.ref.map eI) 0) (.row none (F.why.map eI) 0) (wbx g steps tries F.ends.length F.runs.length F.ref.length F.why.length) (boxB F.bs) l2=H ts l2:=⟨_,fun _ _=>rfl⟩
 have e0:FS g (flB steps tries) steps tries F []=H [] []:=by rw[← hH,← g0];rfl
 have rowG:∀ ts l2,(H ts l2)[h.length+1]?=some (.row none (ts.map eI) 0):=fun ts l2=>by
  rw[← hH,← hgs];unfold FH
  rw[List.append_assoc,List.getElem?_append_right (by omega)]
  simp
 have rowS:∀ ts l2 (n:Int),(H ts l2).set (h.length+1) (.row none (ts.map eI++[PV.int .i64 n]) 0)=H (ts++[n]) l2:=fun ts l2 n=>by
  rw[← hH,← hH,← hgs,← hgs];unfold FH
  rw[List.append_assoc,List.set_append_right _ _ (by omega)]
  simp
 have Hlen:∀ ts,(H ts []).length=g.length+(8+3*F.bs.length):=fun ts=>by rw[← hH,z2q,z05,gsl];simp
 have Happ:∀ ts l2,H ts []++l2=H ts l2:=fun ts l2=>by rw[← hH,← hH,z3m];rfl
 have Hg3:∀ ts l2,(H ts l2)[g.length+3]?=some (.row (some 5) (F.ends.map EndP.pv) 0):=fun ts l2=>by rw[← hH,← gsl ts];exact z8s
 have Hgt:∀ ts o,(H ts [o])[g.length+(8+3*F.bs.length)]?=some o:=fun ts o=>by
  have:=zp8 (h:=gs ts) (B:=boxB F.bs) (l:=[o]) (o0:=flB steps tries) (o1:=mobj PV.str refA (mapB (g.length+8) F.bs)) (o2:=dobj F.sm F.ck) (o3:=.row (some 5) (F.ends.map EndP.pv) 0) (o4:=.row (some 3) (F.runs.map RunP.pv) 0) (o5:=.row none (F.ref.map eI) 0) (o6:=.row none (F.why.map eI) 0) (o7:=wbx g steps tries F.ends.length F.runs.length F.ref.length F.why.length) 0
  rw[z05,gsl,hH] at this
  exact this
 have Hst:∀ ts o o',(H ts [o]).set (g.length+(8+3*F.bs.length)) o'=H ts [o']:=fun ts o o'=>by
  have:=ztG (h:=gs ts) (o:=o') (B:=boxB F.bs) (l:=[o]) (o0:=flB steps tries) (o1:=mobj PV.str refA (mapB (g.length+8) F.bs)) (o2:=dobj F.sm F.ck) (o3:=.row (some 5) (F.ends.map EndP.pv) 0) (o4:=.row (some 3) (F.runs.map RunP.pv) 0) (o5:=.row none (F.ref.map eI) 0) (o6:=.row none (F.why.map eI) 0) (o7:=wbx g steps tries F.ends.length F.runs.length F.ref.length F.why.length) 0
  rw[z05,gsl,hH,hH] at this
  exact this
 have Htk:∀ ts o,(H ts [o]).take (g.length+(8+3*F.bs.length))=H ts []:=fun ts o=>by
  have:=zig (h:=gs ts) (B:=boxB F.bs) (l:=[o]) (o0:=flB steps tries) (o1:=mobj PV.str refA (mapB (g.length+8) F.bs)) (o2:=dobj F.sm F.ck) (o3:=.row (some 5) (F.ends.map EndP.pv) 0) (o4:=.row (some 3) (F.runs.map RunP.pv) 0) (o5:=.row none (F.ref.map eI) 0) (o6:=.row none (F.why.map eI) 0) (o7:=wbx g steps tries F.ends.length F.runs.length F.ref.length F.why.length) 0
  rw[z05,gsl,hH,hH] at this
  exact this
 have pre:∀ ts l2,(H ts l2).take h.length=h:=fun ts l2=>by
  rw[← hH,← hgs];unfold FH
  rw[List.append_assoc,List.take_left]
 have g7:(H [] [])[g.length+7]?=some (.box [AStr steps,AI tries,.mp (g.length+1),.mp (g.length+2),.own (g.length+3) F.ends.length 0 F.ends.length,.own (g.length+4) F.runs.length 0 F.runs.length,.own (g.length+5) F.ref.length 0 F.ref.length,.own (g.length+6) F.why.length 0 F.why.length]):=by rw[← e0];exact FS_g7
 rw[e0] at q6
 simp only[zbI,go_sem,↓q1,q1,h0,↓q3,q3,↓q6,q6,g7]
 refine z0U (fun k:Nat=>⟨[(2,AS step),(11,.own (h.length+1) (z0Z step (F.ends.take k)).length 0 (z0Z step (F.ends.take k)).length),(29,.own (g.length+3) F.ends.length 0 F.ends.length),(30,AI F.ends.length),(31,AI k)],H (z0Z step (F.ends.take k)) [],escE g F.bs.length⟩) (fun k=>k≤F.ends.length) (fun k=>F.ends.length-k) 0 rfl (Nat.zero_le _) ?_
 intro k hk
 rcases Nat.lt_or_ge k F.ends.length with hlt | hge
 ·have wk:IntKind.i64.wrap ((k:Int)+1)=((k+1:Nat):Int):=z0k _ (by omega) (by omega)
  have hgr:=z0X EndP.pv hlt
  have hrl:(F.ends.map EndP.pv).length=F.ends.length:=List.length_map ..
  have hrk:=hr _ (List.getElem_mem hlt)
  have os:z0Z step (F.ends.take (k+1))=z0Z step (F.ends.take k)++(if F.ends[k].step=step then [F.ends[k].til-F.ends[k].frm] else []):=by
   rw[List.take_succ_eq_append_getElem hlt,z92]
   congr 1
  have tl:=z5V step (F.ends.take k)
  rw[List.length_take] at tl
  have cx:cutP (some 5) 0 (EndP.pv F.ends[k])=some (EndP.pv F.ends[k]):=rfl
  have fp:∀ r:EndP,EndP.pv r = .agg [.str r.board,.str r.step,eI r.frm,eI r.til,.bool r.pass]:=fun _=>rfl
  generalize F.ends[k]=r at *
  generalize z0Z step (F.ends.take k)=ts at *
  have f1:h.length+1+1≤g.length+(8+3*F.bs.length):=by omega
  have f2:g.length+3+1≤g.length+(8+3*F.bs.length):=by omega
  have mx:ts.length+1≤z1f:=by unfold z1f;omega
  have tml:(ts.map eI).length=ts.length:=List.length_map ..
  by_cases es:r.step=step
  ·rw[if_pos es] at os
   have w2:IntKind.i64.wrap (r.til-r.frm)=r.til-r.frm:=z0k _ (by omega) (by omega)
   simp only[go_sem,hlt,hgr,hrl,cx,fp,Hlen,Happ,Hgt,Hst,Htk,Hg3,rowG,rowS,tml,mx,splice,wk,eq_true es,w2,f1,f2]
   exact⟨k+1,by rw[os,List.length_append];rfl,by omega,by omega⟩
  ·rw[if_neg es,List.append_nil] at os
   simp only[go_sem,hlt,hgr,hrl,cx,fp,Hlen,Happ,Hgt,Hst,Htk,Hg3,splice,wk,es,f1,f2]
   exact⟨k+1,by rw[os],by omega,by omega⟩
 ·have ek:k=F.ends.length:=by omega
  subst ek
  rw[List.take_length]
  have f1:h.length+1+1≤g.length+(8+3*F.bs.length):=by omega
  have Ht0:∀ ts,(H ts []).take (g.length+(8+3*F.bs.length))=H ts []:=fun ts=>List.take_of_length_le (by rw[Hlen];exact Nat.le_refl _)
  simp only[go_sem,Nat.lt_irrefl,Hlen,f1,Ht0]
  have r1:rd (H (z0Z step F.ends) []) (.own (h.length+1) (z0Z step F.ends).length 0 (z0Z step F.ends).length)=some (none,(z0Z step F.ends).map eI):=by
   have w1:win ((z0Z step F.ends).map eI) 0 (z0Z step F.ends).length=(z0Z step F.ends).map eI:=za1 (by simp)
   simp [rd,rowG,w1]
  rw[zfR (v:=.tup [AL (z0Z step F.ends),AI 0]) ex (by simp [reif,z59,z0D,r1]) (by simp [AV.top,AV.tops])]
  exact⟨rfl,pre _ _,rfl⟩
end Go.Am
end
section
/- stationed: a z0L call,computed. -/
open Go
set_option linter.all false
namespace Go.Am
end Go.Am
end
section
/- EntryTexts returns true. -/
open Go
set_option linter.all false
set_option maxRecDepth 100000
namespace Go.Am
variable {L:List Int} {a:Int} {h l:Heap} {id:Nat} {K:Post}
theorem z8z (hp:posN 20000 a) (n:Nat) (hn:n≤19) :
 GenE z8R [AI n] L a (fun v a2=>a≤a2∧a2≤a+8000∧∃ rs:List Ent,rs.length≤n∧(∀ r∈rs,EntV r)∧z2y rs=0∧v=z19 rs):=by
 refine GenE.of fun h id hid=>?_
 rw[c_q03p rfl]
 simp only[zeQ,go_sem,hid]
 refine z0U (fun t:Nat × Int=>⟨[(0,.ref id 0),(1,AI n),(6,AI t.1)],h.set id (strm L t.2),[]⟩) (fun t=>t.1≤8∧a≤t.2∧t.2≤a+1000*t.1) (fun t=>8-t.1) (0,a) rfl ⟨by simp,by simp,by simp⟩ ?_
 rintro⟨k,b⟩ ⟨h1,h2,h3⟩
 dsimp only at h1 h2 h3 ⊢
 rcases Nat.lt_or_ge k 8 with hlt | hge
 ·have hk:(k:Int)<8:=by omega
  have w1:IntKind.i64.wrap ((k:Int)+1)=((k+1:Nat):Int):=z0k _ (by omega) (by omega)
  obtain⟨_,a2,⟨c1,c2,rs,r1,r2,rfl⟩,V⟩:=(zlR (L:=L) (a:=b) (z0J hp h2 (by omega)) n hn).set (h:=h) hid
  have F:=fun h K=>z80 (h:=h) (K:=K) rs (fun x hx=>(r2 x hx).ok) (by omega)
  by_cases hf:z2y rs=0
  ·simp only[go_sem,hid,hk,↓V,V,↓F,F,hf]
   exact⟨a2,⟨by omega,by omega,rs,r1,r2,hf,rfl⟩,rfl⟩
  ·simp only[go_sem,hid,hk,↓V,V,↓F,F,hf,w1]
   exact⟨(k+1,a2),rfl,⟨by dsimp only;omega,by dsimp only;omega,by dsimp only;omega⟩,by dsimp only;omega⟩
 ·have hk:¬ (k:Int)<8:=by omega
  simp only[go_sem,hid,hk]
  exact⟨b,⟨by omega,by omega,[],by simp,by simp,by decide,rfl⟩,rfl⟩
end Go.Am
end
