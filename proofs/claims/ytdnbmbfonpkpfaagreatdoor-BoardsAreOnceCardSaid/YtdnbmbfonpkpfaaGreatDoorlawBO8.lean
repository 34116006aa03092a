/- Texts of the proof, laid together: PFollow, PPass, PReplay, SpFlo1, PSplit, PTxt, PNum, PFlt, PFltR, PWrit, PEntT, SpRec, SpEnt1, SpEnt3, SpEnt2, SpEnt4, SpSortE, SpEnt5, SpIdx, SpLen, SpStrs, SpGenA, SpSome, SpGenL, SpSortRec, SpCompact, SpGenR, PMerge, SpMrgA, SpSort, SpMrgB, SpMrgC, SpMrgD, PFin, SpTxt, AmL4, AmL5, SpSplit, SpLines, SpNum, SpNums, SpQNum, SpFlt1, SpFlt2, SpWords, SpJoin, SpBld, PBits, SpFlt3, SpFlt4, SpFlt5, SpArg, SpFlt6, SpFltT, SpSortO, SpGenF, SpChg, SpEnt6, SpEach, SpFltR, SpFltR2, SpFltR3, SpGenA2, SpDelF, SpGenF2, SpInts, SpFltE, SpEnt7, SpEnt8, SpEnt9, PRecT, SpRecT, SpRecT2, SpRecT3, SpRecT4, SpRecT5, SpEnt10, SpEnt11, SpEnt12, SpEnt13, SpFlo2, SpFlo3, SpFlo4. -/
import Derived.Shelf.Strings.Repeat
import Derived.Shelf.Strings.SlTrimAscii
import Derived.Shelf.Spec.TrailingZeros
import Derived.Shelf.Strings.Count
import Derived.Shelf.Strings.OnBuilder
import Derived.Test.YtdnbmbfonpkpfaaGreatDoorlawBO7
set_option linter.all false
section
/- Boards followed through their steps,plainly: the program's floor and the reference's agree. -/
set_option linter.all false
namespace Go.Am
abbrev Nm:=List UInt8
section
variable {β:Type}
def getA (l:List (Nm × β)) (k:Nm):Option β:=(l.find? fun e=>decide (e.1=k)).map (·.2)
def putA (l:List (Nm × β)) (k:Nm) (v:β):List (Nm × β):=if l.any (fun e=>decide (e.1=k)) then l.map (fun e=>if e.1=k then (k,v) else e) else l++[(k,v)]
def delA (l:List (Nm × β)) (k:Nm):List (Nm × β):=l.filter fun e=>!decide (e.1=k)
theorem z11 (e:Nm × β) (l:List (Nm × β)) (k:Nm):getA (e::l) k=if e.1=k then some e.2 else getA l k:=by
 unfold getA
 rw[List.find?_cons]
 by_cases h:e.1=k <;> simp [h]
theorem zpi {l:List (Nm × β)} {k:Nm} (h:l.any (fun e=>decide (e.1=k))=false):getA l k=none:=by
 unfold getA
 rw[List.find?_eq_none.2 (fun x hx=>by rw[List.any_eq_false] at h;exact h x hx)]
 rfl
theorem zuj (l m:List (Nm × β)) (k:Nm):getA (l++m) k=(getA l k).or (getA m k):=by
 unfold getA
 rw[List.find?_append]
 cases l.find? (fun e=>decide (e.1=k)) <;> rfl
theorem zuk (l:List (Nm × β)) (k:Nm) (v:β) (j:Nm):getA (l.map fun e=>if e.1=k then (k,v) else e) j=if j=k then (getA l k).map (fun _=>v) else getA l j:=by
 induction l with
 | nil=>simp [getA]
 | cons e l ih=>
  rw[List.map_cons,z11,ih,z11,z11]
  by_cases h1:e.1=k
  ·rw[if_pos h1]
   by_cases h2:j=k
   ·subst h2;simp [h1]
   ·have h3:¬ k=j:=fun q=>h2 q.symm
    simp [h1,h2,h3]
  ·rw[if_neg h1]
   by_cases h2:j=k
   ·subst h2;simp [h1]
   ·simp [h2]
theorem z2z (l:List (Nm × β)) (k:Nm) (v:β) (j:Nm):getA (putA l k v) j=if j=k then some v else getA l j:=by
 unfold putA
 cases h:l.any (fun e=>decide (e.1=k)) with
 | true=>
  rw[if_pos rfl,zuk]
  by_cases hj:j=k
  ·rw[if_pos hj,if_pos hj]
   obtain⟨e,he,hk⟩:=List.any_eq_true.1 h
   have:getA l k≠none:=by
    unfold getA
    intro hn
    rw[Option.map_eq_none_iff,List.find?_eq_none] at hn
    exact hn e he hk
   cases hg:getA l k with
   | none=>exact absurd hg this
   | some x=>rfl
  ·rw[if_neg hj,if_neg hj]
 | false=>
  rw[if_neg (by simp),zuj,z11]
  by_cases hj:j=k
  ·subst hj
   rw[zpi h,if_pos rfl,if_pos rfl];rfl
  ·rw[if_neg (fun q=>hj q.symm),if_neg hj]
   cases getA l j <;> rfl
theorem zbV (l:List (Nm × β)) (k j:Nm):getA (delA l k) j=if j=k then none else getA l j:=by
 induction l with
 | nil=>simp [getA,delA]
 | cons e l ih=>
  unfold delA at ih ⊢
  rw[List.filter_cons,z11]
  by_cases h1:e.1=k
  ·rw[if_neg (by simp [h1]),ih]
   by_cases h2:j=k
   ·rw[if_pos h2,if_pos h2]
   ·rw[if_neg h2,if_neg h2,if_neg (by rw[h1];exact fun q=>h2 q.symm)]
  ·rw[if_pos (by simp [h1]),z11,ih]
   by_cases h2:e.1=j
   ·rw[if_pos h2,if_pos h2,if_neg (fun q=>h1 (h2.trans q))]
   ·rw[if_neg h2,if_neg h2]
end
structure Sta where
 state:Int
 since:Int
 step:Nm
 site:Nm
 failed:Int
 deriving DecidableEq
structure EndP where
 board:Nm
 step:Nm
 frm:Int
 til:Int
 pass:Bool
 deriving DecidableEq
structure RunP where
 site:Nm
 frm:Int
 til:Int
 deriving DecidableEq
structure RanQ where
 board:Nm
 site:Nm
 step:Nm
 frm:Int
 til:Int
 pass:Bool
 deriving DecidableEq
def RanQ.run (r:RanQ):RunP:=⟨r.site,r.frm,r.til⟩
def RanQ.fin (r:RanQ):EndP:=⟨r.board,r.step,r.frm,r.til,r.pass⟩
structure FlP where
 bs:List (Nm × Sta)
 sites:List (Nm × Nm)
 ends:List EndP
 runs:List RunP
structure FlQ where
 bs:List (Nm × Sta)
 runs:List RanQ
def z05 (steps:List Nm) (tries:Int) (s:Sta) (at_:Int) (pass:Bool):Sta:=
 if pass then (if steps.findIdx (fun y=>decide (y=s.step))+1=steps.length then ⟨4,at_,[],[],0⟩ else ⟨1,at_,(steps[steps.findIdx (fun y=>decide (y=s.step))+1]?).getD [],[],0⟩)
 else ⟨if s.failed+1=tries then 5 else 3,at_,s.step,[],s.failed+1⟩
def z1n (l:List RunP) (site:Nm) (at_:Int):List RunP:=l.map fun r=>if r.site=site∧r.til<0 then { r with til:=at_ } else r
def zdg (l:List RanQ) (board:Nm) (at_:Int) (pass:Bool):List RanQ:=l.map fun r=>if r.board=board∧r.til<0 then { r with til:=at_,pass:=pass } else r
def zfi (l:List RanQ) (board:Nm) (at_:Int):List RanQ:=l.map fun r=>if r.board=board∧r.til<0 then { r with til:=at_,board:=[] } else r
def actP (steps:List Nm) (tries:Int) (w:FlP) (x:Ent):FlP × Int:=
 if x.kind=1 then (match getA w.bs x.board with | some _=>(w,6) | none=>({ w with bs:=putA w.bs x.board ⟨1,x.time,steps.headD [],[],0⟩ },0))
 else match getA w.bs x.board with
 | none=>(w,8)
 | some b=>
  if x.kind=2 then (if b.state≠1 then (w,11) else if x.step≠b.step then (w,3) else if (getA w.sites x.site).isSome then (w,12)
   else ({ w with bs:=putA w.bs x.board { b with state:=2,since:=x.time,site:=x.site },sites:=putA w.sites x.site x.board,runs:=w.runs++[⟨x.site,x.time,-1⟩] },0))
  else if x.kind=3∨x.kind=4 then (if b.state≠2 then (w,11) else if b.site≠x.site then (w,13)
   else ({ bs:=putA w.bs x.board (z05 steps tries b x.time (decide (x.kind=3))),sites:=delA w.sites b.site,ends:=w.ends++[⟨x.board,b.step,b.since,x.time,decide (x.kind=3)⟩],runs:=z1n w.runs b.site x.time },0))
  else if x.kind=5 then (if b.state≠3 then (w,11) else ({ w with bs:=putA w.bs x.board { b with state:=1,since:=x.time } },0))
  else if b.state=4∨b.state=5 then (w,11)
  else if b.state=2 then ({ w with bs:=putA w.bs x.board { b with state:=5,since:=x.time,site:=[] },sites:=delA w.sites b.site,runs:=z1n w.runs b.site x.time },0)
  else ({ w with bs:=putA w.bs x.board { b with state:=5,since:=x.time } },0)
def ztz (bs:List (Nm × Sta)) (site:Nm):Prop:=∃ b st,getA bs b=some st∧st.state=2∧st.site=site
theorem zbW {β:Type} {l:List (Nm × β)} {k:Nm} {v:β} (h:getA l k=some v):(k,v)∈l:=by
 unfold getA at h
 obtain⟨e,h1,h2⟩:=Option.map_eq_some_iff.1 h
 have hm:=List.mem_of_find?_eq_some h1
 have hk:e.1=k:=by simpa using List.find?_some h1
 subst hk h2
 exact hm
theorem zmm (bs:List (Nm × Sta)) (site:Nm):(bs.any fun e=>decide (getA bs e.1=some e.2)&&(decide (e.2.state=2)&&decide (e.2.site=site)))=true↔ztz bs site:=by
 rw[List.any_eq_true]
 constructor
 ·rintro⟨e,_,h⟩
  simp only[Bool.and_eq_true,decide_eq_true_eq] at h
  exact⟨e.1,e.2,h.1,h.2.1,h.2.2⟩
 ·rintro⟨b,st,h1,h2,h3⟩
  exact⟨(b,st),zbW h1,by simp [h1,h2,h3]⟩
instance (bs:List (Nm × Sta)) (site:Nm):Decidable (ztz bs site):=decidable_of_iff _ (zmm bs site)
def doQ (steps:List Nm) (tries:Int) (w:FlQ) (x:Ent):FlQ × Int:=
 if x.kind=7 then (w,0)
 else if x.kind=1 then (match getA w.bs x.board with | some _=>(w,6) | none=>({ w with bs:=putA w.bs x.board ⟨1,x.time,steps.headD [],[],0⟩ },0))
 else match getA w.bs x.board with
 | none=>(w,8)
 | some b=>
  if x.kind=2 then (if b.state≠1 then (w,11) else if b.step≠x.step then (w,3) else if ztz w.bs x.site then (w,12)
   else ({ bs:=putA w.bs x.board { b with state:=2,since:=x.time,site:=x.site },runs:=w.runs++[⟨x.board,x.site,x.step,x.time,-1,false⟩] },0))
  else if x.kind=3∨x.kind=4 then (if b.state≠2 then (w,11) else if b.site≠x.site then (w,13)
   else ({ bs:=putA w.bs x.board (z05 steps tries b x.time (decide (x.kind=3))),runs:=zdg w.runs x.board x.time (decide (x.kind=3)) },0))
  else if x.kind=5 then (if b.state≠3 then (w,11) else ({ w with bs:=putA w.bs x.board { b with state:=1,since:=x.time } },0))
  else if b.state=4∨b.state=5 then (w,11)
  else ({ bs:=putA w.bs x.board { b with state:=5,since:=x.time,site:=[] },runs:=zfi w.runs x.board x.time },0)
def zjw (bs:List (Nm × Sta)) (b s:Nm):Prop:=∃ st,getA bs b=some st∧st.state=2∧st.site=s
structure Inv (p:FlP) (q:FlQ):Prop where
 bs:p.bs=q.bs
 sts:∀ s b,getA p.sites s=some b↔zjw p.bs b s
 idle:∀ b st,getA p.bs b=some st→st.state≠2→st.site=[]
 name:∀ st,getA p.bs []≠some st
 runs:p.runs=q.runs.map RanQ.run
 gone:∀ r∈q.runs,r.board=[]→0≤r.til
 brd:∀ b,b≠[]→∃ C:List RanQ,(∀ r∈C,0≤r.til)∧p.ends.filter (fun e=>decide (e.board=b))=C.map RanQ.fin ∧
  (((∀ st,getA p.bs b=some st→st.state≠2)∧q.runs.filter (fun r=>decide (r.board=b))=C) ∨
   (∃ st,getA p.bs b=some st∧st.state=2∧q.runs.filter (fun r=>decide (r.board=b))=C++[⟨b,st.site,st.step,st.since,-1,false⟩]))
theorem Inv.busy {p:FlP} {q:FlQ} (I:Inv p q) (s:Nm):(getA p.sites s).isSome=true↔ztz q.bs s:=by
 rw[Option.isSome_iff_exists]
 constructor
 ·rintro⟨b,h⟩
  obtain⟨st,h1,h2,h3⟩:=(I.sts s b).1 h
  exact⟨b,st,by rw[← I.bs];exact h1,h2,h3⟩
 ·rintro⟨b,st,h1,h2,h3⟩
  exact⟨b,(I.sts s b).2 ⟨st,by rw[I.bs];exact h1,h2,h3⟩⟩
theorem Inv.opened {p:FlP} {q:FlQ} (I:Inv p q) {r:RanQ} (hr:r∈q.runs) (ho:r.til<0):∃ st,getA p.bs r.board=some st∧st.state=2∧r=⟨r.board,st.site,st.step,st.since,-1,false⟩:=by
 have hb:r.board≠[]:=fun e=>by have:=I.gone r hr e;omega
 obtain⟨C,c1,c2,h⟩:=I.brd r.board hb
 have hm:r∈q.runs.filter (fun x=>decide (x.board=r.board)):=List.mem_filter.2 ⟨hr,by simp⟩
 rcases h with ⟨_,h⟩ | ⟨st,h1,h2,h⟩
 ·rw[h] at hm
  have:=c1 r hm
  omega
 ·rw[h] at hm
  rcases List.mem_append.1 hm with hm | hm
  ·have:=c1 r hm
   omega
  ·exact⟨st,h1,h2,List.mem_singleton.1 hm⟩
theorem Inv.close {p:FlP} {q:FlQ} (I:Inv p q) {board:Nm} {st:Sta} (h1:getA p.bs board=some st) (h2:st.state=2) (at_:Int) {f:RanQ→RanQ} (hf:∀ r,r.til<0→(f r).run=⟨r.site,r.frm,at_⟩) :
 z1n p.runs st.site at_=(q.runs.map fun r=>if r.board=board∧r.til<0 then f r else r).map RanQ.run:=by
 unfold z1n
 rw[I.runs,List.map_map,List.map_map]
 apply List.map_congr_left
 intro r hr
 simp only[Function.comp]
 by_cases ho:r.til<0
 ·obtain⟨st',a1,a2,a3⟩:=I.opened hr ho
  by_cases hb:r.board=board
  ·have e:st'=st:=by rw[hb,h1] at a1;exact (Option.some.inj a1).symm
   have hs:r.site=st.site:=by rw[a3,e]
   rw[if_pos (show (RanQ.run r).site=st.site∧(RanQ.run r).til<0 from ⟨hs,ho⟩),if_pos ⟨hb,ho⟩,hf r ho]
   rfl
  ·rw[if_neg (c:=r.board=board∧r.til<0) (fun z=>hb z.1),if_neg]
   rintro⟨z1,_⟩
   have z2:r.site=st.site:=z1
   have z3:r.site=st'.site:=by rw[a3]
   have u1:=(I.sts st.site board).2 ⟨st,h1,h2,rfl⟩
   have u2:=(I.sts st.site r.board).2 ⟨st',a1,a2,by rw[← z3,z2]⟩
   rw[u1] at u2
   exact hb (Option.some.inj u2).symm
 ·rw[if_neg (fun z=>ho z.2),if_neg (fun z=>ho z.2)]
theorem z3N {l:List RanQ} {f:RanQ→RanQ} (hf:∀ r∈l,(f r).board=r.board) (b:Nm):(l.map f).filter (fun r=>decide (r.board=b))=(l.filter fun r=>decide (r.board=b)).map f:=by
 rw[List.filter_map]
 congr 1
 apply List.filter_congr
 intro r hr
 simp only[Function.comp]
 rw[hf r hr]
theorem zuv (steps:List Nm) (tries:Int) {p:FlP} {q:FlQ} (I:Inv p q) (x:Ent) (hb:x.kind≠7→x.board≠[]) (hs:x.kind=2→x.site≠[]) (ht:0≤x.time) (hk:1≤x.kind∧x.kind≤7) (h7:x.kind≠7) :
 (actP steps tries p x).2=(doQ steps tries q x).2∧Inv (actP steps tries p x).1 (doQ steps tries q x).1:=by
 have hb0:=hb h7
 unfold actP doQ
 rw[if_neg h7,I.bs]
 by_cases k1:x.kind=1
 ·rw[if_pos k1,if_pos k1]
  cases hg:getA q.bs x.board with
  | some s=>exact⟨rfl,I⟩
  | none=>
   refine⟨rfl,?_⟩
   have hgp:getA p.bs x.board=none:=by rw[I.bs];exact hg
   have upd:∀ b,getA (putA q.bs x.board ⟨1,x.time,steps.headD [],[],0⟩) b=if b=x.board then some ⟨1,x.time,steps.headD [],[],0⟩ else getA p.bs b:=fun b=>by rw[z2z,I.bs]
   refine⟨rfl,fun s b=>?_,fun b st h1 h2=>?_,fun st=>?_,I.runs,I.gone,fun b h=>?_⟩
   ·rw[I.sts s b]
    unfold zjw
    show _↔∃ st,getA (putA q.bs _ _) b=some st∧_
    rw[upd b]
    by_cases e:b=x.board
    ·rw[if_pos e,e,hgp]
     constructor
     ·rintro⟨_,h,_⟩;cases h
     ·rintro⟨st,h,h2,_⟩;cases h;cases h2
    ·rw[if_neg e]
   ·change getA (putA q.bs _ _) b=some st at h1
    rw[upd b] at h1
    split at h1
    ·cases h1;rfl
    ·exact I.idle b st h1 h2
   ·show getA (putA q.bs _ _) []≠some st
    rw[upd [],if_neg (fun e=>hb0 e.symm)]
    exact I.name st
   ·obtain⟨C,c1,c2,c3⟩:=I.brd b h
    refine⟨C,c1,c2,?_⟩
    show ((∀ st,getA (putA q.bs _ _) b=some st→_)∧_)∨∃ st,getA (putA q.bs _ _) b=some st∧_
    rw[upd b]
    by_cases e:b=x.board
    ·rw[if_pos e]
     left
     refine⟨fun st h=>by cases h;show (1:Int)≠2;decide,?_⟩
     rcases c3 with ⟨_,c3⟩ | ⟨st,c3,_⟩
     ·exact c3
     ·rw[e,hgp] at c3;cases c3
    ·rw[if_neg e];exact c3
 rw[if_neg k1,if_neg k1]
 cases hg:getA q.bs x.board with
 | none=>exact⟨rfl,I⟩
 | some b=>
  have hgp:getA p.bs x.board=some b:=by rw[I.bs];exact hg
  -- a board that does not run,and does not run behind it
  have quiet:∀ s:Sta,b.state≠2→s.state≠2→s.site=[]→Inv { p with bs:=putA q.bs x.board s } { q with bs:=putA q.bs x.board s }:=fun s n1 n2 n3=>by
   have upd:∀ c,getA (putA q.bs x.board s) c=if c=x.board then some s else getA p.bs c:=fun c=>by rw[z2z,I.bs]
   refine⟨rfl,fun s' c=>?_,fun c st h1 h2=>?_,fun st=>?_,I.runs,I.gone,fun c h=>?_⟩
   ·rw[I.sts s' c]
    unfold zjw
    show _↔∃ st,getA (putA q.bs _ _) c=some st∧_
    rw[upd c]
    by_cases e:c=x.board
    ·rw[if_pos e,e,hgp]
     constructor
     ·rintro⟨_,h,h2,_⟩;cases h;exact absurd h2 n1
     ·rintro⟨_,h,h2,_⟩;cases h;exact absurd h2 n2
    ·rw[if_neg e]
   ·change getA (putA q.bs _ _) c=some st at h1
    rw[upd c] at h1
    split at h1
    ·cases h1;exact n3
    ·exact I.idle c st h1 h2
   ·show getA (putA q.bs _ _) []≠some st
    rw[upd [],if_neg (fun e=>hb0 e.symm)]
    exact I.name st
   ·obtain⟨C,c1,c2,c3⟩:=I.brd c h
    refine⟨C,c1,c2,?_⟩
    show ((∀ st,getA (putA q.bs _ _) c=some st→_)∧_)∨∃ st,getA (putA q.bs _ _) c=some st∧_
    rw[upd c]
    by_cases e:c=x.board
    ·rw[if_pos e]
     left
     refine⟨fun st h=>by cases h;exact n2,?_⟩
     rcases c3 with ⟨_,c3⟩ | ⟨st,c3,c4,_⟩
     ·exact c3
     ·rw[e,hgp] at c3;cases c3;exact absurd c4 n1
    ·rw[if_neg e];exact c3
  by_cases k2:x.kind=2
  ·dsimp only
   rw[if_pos k2,if_pos k2]
   by_cases e1:b.state≠1
   ·rw[if_pos e1,if_pos e1];exact⟨rfl,I⟩
   rw[if_neg e1,if_neg e1]
   have e1':b.state=1:=by simpa using e1
   by_cases e2:x.step≠b.step
   ·rw[if_pos e2,if_pos (fun q=>e2 q.symm)];exact⟨rfl,I⟩
   have e2':x.step=b.step:=by simpa using e2
   rw[if_neg (c:=x.step≠b.step) e2,if_neg (c:=b.step≠x.step) (fun z=>z e2'.symm)]
   by_cases e3:(getA p.sites x.site).isSome=true
   ·rw[if_pos e3,if_pos ((I.busy _).1 e3)];exact⟨rfl,I⟩
   rw[if_neg e3,if_neg (fun z=>e3 ((I.busy _).2 z))]
   refine⟨rfl,?_⟩
   have e3':getA p.sites x.site=none:=by simpa using e3
   have upd:∀ c,getA (putA q.bs x.board { b with state:=2,since:=x.time,site:=x.site }) c=if c=x.board then some { b with state:=2,since:=x.time,site:=x.site } else getA p.bs c:=fun c=>by rw[z2z,I.bs]
   refine⟨rfl,fun s c=>?_,fun c st h1 h2=>?_,fun st=>?_,?_,fun r hr=>?_,fun c h=>?_⟩
   ·show getA (putA p.sites x.site x.board) s=some c↔∃ st,getA (putA q.bs _ _) c=some st∧_
    rw[z2z,upd c]
    by_cases es:s=x.site
    ·rw[if_pos es]
     by_cases ec:c=x.board
     ·rw[if_pos ec,ec]
      exact⟨fun _=>⟨_,rfl,rfl,es.symm⟩,fun _=>rfl⟩
     ·rw[if_neg ec]
      constructor
      ·intro h;exact absurd (Option.some.inj h).symm ec
      ·intro h
       have:=(I.sts s c).2 h
       rw[es,e3'] at this;cases this
    ·rw[if_neg es,I.sts s c]
     unfold zjw
     by_cases ec:c=x.board
     ·rw[if_pos ec,ec,hgp]
      constructor
      ·rintro⟨_,h,h2,_⟩;cases h;omega
      ·rintro⟨_,h,_,h3⟩;cases h;exact absurd h3.symm es
     ·rw[if_neg ec]
   ·change getA (putA q.bs _ _) c=some st at h1
    rw[upd c] at h1
    split at h1
    ·cases h1;exact absurd rfl h2
    ·exact I.idle c st h1 h2
   ·show getA (putA q.bs _ _) []≠some st
    rw[upd [],if_neg (fun e=>hb0 e.symm)]
    exact I.name st
   ·show p.runs++[_]=(q.runs++[_]).map RanQ.run
    rw[List.map_append,I.runs];rfl
   ·intro he
    rcases List.mem_append.1 hr with hr | hr
    ·exact I.gone r hr he
    ·rw[List.mem_singleton.1 hr] at he;exact absurd he hb0
   ·obtain⟨C,c1,c2,c3⟩:=I.brd c h
    refine⟨C,c1,c2,?_⟩
    dsimp only
    rw[upd c,List.filter_append]
    by_cases ec:c=x.board
    ·rw[if_pos ec]
     right
     refine⟨_,rfl,rfl,?_⟩
     rcases c3 with ⟨_,c3⟩ | ⟨st,c3,c4,_⟩
     ·rw[c3,ec,e2'];simp
     ·rw[ec,hgp] at c3;cases c3;omega
    ·rw[if_neg ec]
     have e0:([(⟨x.board,x.site,x.step,x.time,-1,false⟩:RanQ)]:List RanQ).filter (fun r=>decide (r.board=c))=[]:=by have ec':¬ x.board=c:=fun z=>ec z.symm;simp [ec']
     rw[e0,List.append_nil]
     exact c3
  dsimp only
  rw[if_neg k2,if_neg k2]
  by_cases k3:x.kind=3∨x.kind=4
  ·rw[if_pos k3,if_pos k3]
   by_cases e1:b.state≠2
   ·rw[if_pos e1,if_pos e1];exact⟨rfl,I⟩
   rw[if_neg e1,if_neg e1]
   have e1':b.state=2:=by simpa using e1
   by_cases e2:b.site≠x.site
   ·rw[if_pos e2,if_pos e2];exact⟨rfl,I⟩
   rw[if_neg e2,if_neg e2]
   refine⟨rfl,?_⟩
   generalize hps:decide (x.kind=3)=ps
   have s2:(z05 steps tries b x.time ps).state≠2∧(z05 steps tries b x.time ps).site=[]:=by
    unfold z05
    split
    ·split
     ·exact⟨by show (4:Int)≠2;decide,rfl⟩
     ·exact⟨by show (1:Int)≠2;decide,rfl⟩
    ·refine⟨?_,rfl⟩;dsimp only;split <;> decide
   generalize z05 steps tries b x.time ps=s at s2
   obtain⟨n2,n3⟩:=s2
   have upd:∀ c,getA (putA q.bs x.board s) c=if c=x.board then some s else getA p.bs c:=fun c=>by rw[z2z,I.bs]
   have cb:∀ r∈q.runs,(if r.board=x.board∧r.til<0 then { r with til:=x.time,pass:=ps } else r:RanQ).board=r.board:=fun r _=>by split <;> rfl
   refine⟨rfl,fun s' c=>?_,fun c st h1 h2=>?_,fun st=>?_,?_,fun r hr=>?_,fun c h=>?_⟩
   ·show getA (delA p.sites b.site) s'=some c↔∃ st,getA (putA q.bs _ _) c=some st∧_
    rw[zbV,upd c]
    by_cases es:s'=b.site
    ·rw[if_pos es]
     constructor
     ·intro h;cases h
     ·by_cases ec:c=x.board
      ·rw[if_pos ec];rintro⟨_,h,h2,_⟩;cases h;exact absurd h2 n2
      ·rw[if_neg ec]
       intro h
       have u1:=(I.sts s' c).2 h
       have u2:=(I.sts b.site x.board).2 ⟨b,hgp,e1',rfl⟩
       rw[es,u2] at u1
       exact absurd (Option.some.inj u1).symm ec
    ·rw[if_neg es,I.sts s' c]
     unfold zjw
     by_cases ec:c=x.board
     ·rw[if_pos ec,ec,hgp]
      constructor
      ·rintro⟨_,h,_,h3⟩;cases h;exact absurd h3.symm es
      ·rintro⟨_,h,h2,_⟩;cases h;exact absurd h2 n2
     ·rw[if_neg ec]
   ·change getA (putA q.bs _ _) c=some st at h1
    rw[upd c] at h1
    split at h1
    ·cases h1;exact n3
    ·exact I.idle c st h1 h2
   ·show getA (putA q.bs _ _) []≠some st
    rw[upd [],if_neg (fun e=>hb0 e.symm)]
    exact I.name st
   ·exact I.close hgp e1' x.time (f:=fun r=>{ r with til:=x.time,pass:=ps }) (fun r _=>rfl)
   ·intro he
    obtain⟨r0,hr0,rfl⟩:=List.mem_map.1 hr
    rw[cb r0 hr0] at he
    have:=I.gone r0 hr0 he
    rw[if_neg (fun z=>by omega)];exact this
   ·obtain⟨C,c1,c2,c3⟩:=I.brd c h
    by_cases ec:c=x.board
    ·subst ec
     rcases c3 with ⟨c3,_⟩ | ⟨st,c3,c4,c5⟩
     ·exact absurd e1' (c3 b hgp)
     rw[hgp] at c3;cases c3
     refine⟨C++[⟨x.board,b.site,b.step,b.since,x.time,ps⟩],fun r hr=>?_,?_,.inl ⟨fun st hst=>?_,?_⟩⟩
     ·rcases List.mem_append.1 hr with hr | hr
      ·exact c1 r hr
      ·rw[List.mem_singleton.1 hr];exact ht
     ·show (p.ends++[_]).filter _=_
      rw[List.filter_append,c2,List.map_append]
      simp [RanQ.fin]
     ·change getA (putA q.bs _ _) x.board=some st at hst
      rw[upd,if_pos rfl] at hst;cases hst;exact n2
     ·show (zdg q.runs x.board x.time ps).filter _=_
      unfold zdg
      rw[z3N cb,c5,List.map_append]
      congr 1
      ·conv=>rhs;rw[← List.map_id C]
       apply List.map_congr_left
       intro r hr
       have:=c1 r hr
       rw[if_neg (fun z=>by omega)];rfl
      ·simp
    ·refine⟨C,c1,?_,?_⟩
     ·show (p.ends++[_]).filter _=_
      rw[List.filter_append,c2]
      have ec':¬ x.board=c:=fun z=>ec z.symm
      simp [ec']
     ·dsimp only
      rw[upd c,if_neg ec]
      have same:(zdg q.runs x.board x.time ps).filter (fun r=>decide (r.board=c))=q.runs.filter (fun r=>decide (r.board=c)):=by
       unfold zdg
       rw[z3N cb]
       conv=>rhs;rw[← List.map_id (q.runs.filter _)]
       apply List.map_congr_left
       intro r hr
       have hrb:r.board=c:=by simpa using (List.mem_filter.1 hr).2
       rw[if_neg (fun z=>ec (hrb.symm.trans z.1))];rfl
      rw[same]
      exact c3
  rw[if_neg k3,if_neg k3]
  by_cases k5:x.kind=5
  ·rw[if_pos k5,if_pos k5]
   by_cases e1:b.state≠3
   ·rw[if_pos e1,if_pos e1];exact⟨rfl,I⟩
   rw[if_neg e1,if_neg e1]
   have e1':b.state=3:=by simpa using e1
   exact⟨rfl,quiet _ (by omega) (by show (1:Int)≠2;decide) (I.idle x.board b hgp (by omega))⟩
  rw[if_neg k5,if_neg k5]
  by_cases e45:b.state=4∨b.state=5
  ·rw[if_pos e45,if_pos e45];exact⟨rfl,I⟩
  rw[if_neg e45,if_neg e45]
  by_cases e2:b.state=2
  ·rw[if_pos e2]
   refine⟨rfl,?_⟩
   have upd:∀ c,getA (putA q.bs x.board { b with state:=5,since:=x.time,site:=[] }) c=if c=x.board then some { b with state:=5,since:=x.time,site:=[] } else getA p.bs c:=fun c=>by rw[z2z,I.bs]
   refine⟨rfl,fun s' c=>?_,fun c st h1 h2=>?_,fun st=>?_,?_,fun r hr=>?_,fun c h=>?_⟩
   ·show getA (delA p.sites b.site) s'=some c↔∃ st,getA (putA q.bs _ _) c=some st∧_
    rw[zbV,upd c]
    by_cases es:s'=b.site
    ·rw[if_pos es]
     constructor
     ·intro h;cases h
     ·by_cases ec:c=x.board
      ·rw[if_pos ec];rintro⟨_,h,h2,_⟩;cases h;cases h2
      ·rw[if_neg ec]
       intro h
       have u1:=(I.sts s' c).2 h
       have u2:=(I.sts b.site x.board).2 ⟨b,hgp,e2,rfl⟩
       rw[es,u2] at u1
       exact absurd (Option.some.inj u1).symm ec
    ·rw[if_neg es,I.sts s' c]
     unfold zjw
     by_cases ec:c=x.board
     ·rw[if_pos ec,ec,hgp]
      constructor
      ·rintro⟨_,h,_,h3⟩;cases h;exact absurd h3.symm es
      ·rintro⟨_,h,h2,_⟩;cases h;cases h2
     ·rw[if_neg ec]
   ·change getA (putA q.bs _ _) c=some st at h1
    rw[upd c] at h1
    split at h1
    ·cases h1;rfl
    ·exact I.idle c st h1 h2
   ·show getA (putA q.bs _ _) []≠some st
    rw[upd [],if_neg (fun e=>hb0 e.symm)]
    exact I.name st
   ·exact I.close hgp e2 x.time (f:=fun r=>{ r with til:=x.time,board:=[] }) (fun r _=>rfl)
   ·intro he
    obtain⟨r0,hr0,rfl⟩:=List.mem_map.1 hr
    by_cases z:r0.board=x.board∧r0.til<0
    ·rw[if_pos z];exact ht
    ·rw[if_neg z] at he ⊢;exact I.gone r0 hr0 he
   ·obtain⟨C,c1,c2,c3⟩:=I.brd c h
    have fl:(zfi q.runs x.board x.time).filter (fun r=>decide (r.board=c))=(q.runs.filter (fun r=>decide (r.board=c))).filter (fun r=>!(decide (r.board=x.board)&&decide (r.til<0))):=by
     unfold zfi
     rw[List.filter_filter]
     induction q.runs with
     | nil=>rfl
     | cons r l ih=>
      rw[List.map_cons,List.filter_cons,List.filter_cons,ih]
      by_cases z:r.board=x.board∧r.til<0
      ·rw[if_pos z]
       have z2:(!(decide (r.board=x.board)&&decide (r.til<0))&&decide (r.board=c))=false:=by simp [z.1,z.2]
       have h':¬ ([]:List UInt8)=c:=fun z=>h z.symm
       simp [h',z.1,z.2]
      ·rw[if_neg z]
       have z3:(!(decide (r.board=x.board)&&decide (r.til<0)))=true:=by
        rw[← Bool.decide_and];simp [z]
       rw[z3,Bool.true_and]
    refine⟨C,c1,c2,?_⟩
    dsimp only
    rw[upd c,fl]
    have keepC:C.filter (fun r=>!(decide (r.board=x.board)&&decide (r.til<0)))=C:=by
     rw[List.filter_eq_self]
     intro r hr
     have:=c1 r hr
     have z:¬ r.til<0:=by omega
     simp [z]
    by_cases ec:c=x.board
    ·subst ec
     rw[if_pos rfl]
     left
     refine⟨fun st hst=>by cases hst;show (5:Int)≠2;decide,?_⟩
     rcases c3 with ⟨c3,_⟩ | ⟨st,c3,c4,c5⟩
     ·exact absurd e2 (c3 b hgp)
     ·rw[c5,List.filter_append,keepC];simp
    ·rw[if_neg ec]
     rcases c3 with ⟨c3,c5⟩ | ⟨st,c3,c4,c5⟩
     ·left;exact⟨c3,by rw[c5,keepC]⟩
     ·right
      refine⟨st,c3,c4,?_⟩
      rw[c5,List.filter_append,keepC]
      simp [ec]
  ·rw[if_neg e2]
   refine⟨rfl,?_⟩
   have e0:=I.idle x.board b hgp e2
   have eb:({ b with state:=5,since:=x.time,site:=[] }:Sta)={ b with state:=5,since:=x.time }:=by rw[← e0]
   have same:zfi q.runs x.board x.time=q.runs:=by
    unfold zfi
    conv=>rhs;rw[← List.map_id q.runs]
    apply List.map_congr_left
    intro r hr
    rw[if_neg]
    ·rfl
    ·rintro⟨z1,z2⟩
     obtain⟨st',a1,a2,_⟩:=I.opened hr z2
     rw[z1,hgp] at a1;cases a1
     exact e2 a2
   rw[eb,same]
   exact quiet _ e2 (by show (5:Int)≠2;decide) e0
theorem inv0:Inv ⟨[],[],[],[]⟩ ⟨[],[]⟩ where
 bs:=rfl
 sts s b:=⟨fun h=>(by cases h),fun h=>(by obtain⟨_,h,_⟩:=h;cases h)⟩
 idle b st h:=by cases h
 name st h:=by cases h
 runs:=rfl
 gone r hr:=by cases hr
 brd b _:=⟨[],fun r hr=>(by cases hr),rfl,.inl ⟨fun st h=>(by cases h),rfl⟩⟩
end Go.Am
end
section
/- First passes of steps,plainly: counted by ends,counted by boards. -/
set_option linter.all false
namespace Go.Am
end Go.Am
end
section
/- Entries that count,and what is followed of them,plainly. -/
set_option linter.all false
namespace Go.Am
def zsN (y x:Ent):Bool:=decide (y.kind=7)&&decide (y.of=x.site)&&decide (y.other=x.no)
def cntB:List Ent→List Bool
 | []=>[]
 | x::r=>(!((r.zip (cntB r)).any fun y=>y.2&&zsN y.1 x))::cntB r
theorem z1o:∀ l,(cntB l).length=l.length
 | []=>rfl
 | x::r=>by simp [cntB,z1o r]
def z1z:List Ent→List (Nm × Int)
 | []=>[]
 | x::r=>if decide ((x.site,x.no)∈z1z r)=false∧x.kind=7 then (x.of,x.other)::z1z r else z1z r
theorem zb6:∀ (l:List Ent) (s:Nm) (n:Int),(s,n)∈z1z l↔((l.zip (cntB l)).any fun y=>y.2&&(decide (y.1.kind=7)&&decide (y.1.of=s)&&decide (y.1.other=n)))=true
 | [],s,n=>by simp [z1z,cntB]
 | x::r,s,n=>by
  have ih:=zb6 r
  have hb:decide ((x.site,x.no)∈z1z r)=((r.zip (cntB r)).any fun y=>y.2&&zsN y.1 x):=by
   rw[Bool.eq_iff_iff,decide_eq_true_eq,ih x.site x.no];rfl
  unfold z1z
  rw[cntB,List.zip_cons_cons,List.any_cons,← hb]
  cases hd:decide ((x.site,x.no)∈z1z r) with
  | true=>
   rw[if_neg (by simp),ih s n]
   simp
  | false=>
   by_cases h7:x.kind=7
   ·rw[if_pos ⟨rfl,h7⟩,List.mem_cons,ih s n,Bool.or_eq_true]
    have:((s,n)=(x.of,x.other))↔((!false&&(decide (x.kind=7)&&decide (x.of=s)&&decide (x.other=n)))=true):=by
     simp only[Prod.mk.injEq,Bool.not_false,Bool.true_and,h7,decide_true,Bool.and_eq_true,decide_eq_true_eq]
     exact⟨fun h=>⟨h.1.symm,h.2.symm⟩,fun h=>⟨h.1.symm,h.2.symm⟩⟩
    rw[this]
   ·rw[if_neg (fun z=>h7 z.2),ih s n]
    simp [h7]
theorem zmz (x:Ent) (r:List Ent):cntB (x::r)=(!decide ((x.site,x.no)∈z1z r))::cntB r:=by
 have hb:decide ((x.site,x.no)∈z1z r)=((r.zip (cntB r)).any fun y=>y.2&&zsN y.1 x):=by
  rw[Bool.eq_iff_iff,decide_eq_true_eq,zb6 r x.site x.no];rfl
 rw[hb];rfl
structure EntW (x:Ent):Prop where
 b:x.kind≠7→x.board≠[]
 s:x.kind=2→x.site≠[]
 t:0≤x.time
 k:1≤x.kind∧x.kind≤7
theorem zfP {s:List UInt8} (h:keyB s=true):s≠[]:=by
 intro e
 subst e
 revert h
 decide
theorem entF_W {x:Ent} (h:entF x=0):EntW x:=by
 unfold entF at h
 split at h
 ·cases h
 rename_i h1
 split at h
 ·cases h
 rename_i h2
 split at h
 ·cases h
 rename_i h3
 split at h
 ·cases h
 rename_i h4
 have k1:1≤x.kind∧x.kind≤7:=by
  have:inB 1 x.kind 7=true:=by simpa using h3
  unfold inB at this
  simpa using this
 have t1:0≤x.time:=by
  rw[not_or] at h2
  have:z1L x.time=true:=by simpa using h2.2
  unfold z1L inB at this
  simp at this
  exact this.1
 have hs:x.site≠[]:=zfP (by simpa using h1)
 have hn:z73 x=true:=by simpa using h4
 refine⟨fun h7=>?_,fun _=>hs,t1,k1⟩
 unfold z73 at hn
 rw[if_neg h7] at hn
 split at hn
 ·rw[Bool.and_eq_true] at hn;exact zfP hn.1
 ·exact zfP hn
end Go.Am
end
section
/- The floor's memory: what lies where. -/
open Go
set_option linter.all false
set_option maxRecDepth 100000
namespace Go.Am
variable {h:Heap} {K:Post}
def FH (h:Heap) (o0 o1 o2 o3 o4 o5 o6 o7:Obj) (B l:Heap):Heap:=h++o0::o1::o2::o3::o4::o5::o6::o7::(B++l)
section
variable {o0 o1 o2 o3 o4 o5 o6 o7 o o':Obj} {B l l2:Heap} {n:Nat}
theorem z1G:(FH h o0 o1 o2 o3 o4 o5 o6 o7 B l).length=h.length+(8+B.length+l.length):=by unfold FH;simp;omega
theorem z2w:FH h o0 o1 o2 o3 o4 o5 o6 o7 B l++l2=FH h o0 o1 o2 o3 o4 o5 o6 o7 B (l++l2):=by unfold FH;simp
theorem zb9 (n:Nat):(FH h o0 o1 o2 o3 o4 o5 o6 o7 B l)[h.length+n]?=(o0::o1::o2::o3::o4::o5::o6::o7::(B++l))[n]?:=by unfold FH;rw[List.getElem?_append_right (by omega)];simp
theorem zbB (n:Nat):(FH h o0 o1 o2 o3 o4 o5 o6 o7 B l).set (h.length+n) o=h++(o0::o1::o2::o3::o4::o5::o6::o7::(B++l)).set n o:=by unfold FH;rw[List.set_append_right _ _ (by omega)];simp
theorem z4T:(FH h o0 o1 o2 o3 o4 o5 o6 o7 B l)[h.length+1]?=some o1:=zb9 1
theorem z4U:(FH h o0 o1 o2 o3 o4 o5 o6 o7 B l)[h.length+2]?=some o2:=zb9 2
theorem z7Y:(FH h o0 o1 o2 o3 o4 o5 o6 o7 B l)[h.length+3]?=some o3:=zb9 3
theorem z7Z:(FH h o0 o1 o2 o3 o4 o5 o6 o7 B l)[h.length+4]?=some o4:=zb9 4
theorem z8a:(FH h o0 o1 o2 o3 o4 o5 o6 o7 B l)[h.length+5]?=some o5:=zb9 5
theorem z8b:(FH h o0 o1 o2 o3 o4 o5 o6 o7 B l)[h.length+6]?=some o6:=zb9 6
theorem z6S:(FH h o0 o1 o2 o3 o4 o5 o6 o7 B l)[h.length+7]?=some o7:=zb9 7
theorem z8c:(FH h o0 o1 o2 o3 o4 o5 o6 o7 B l).set (h.length+1) o=FH h o0 o o2 o3 o4 o5 o6 o7 B l:=zbB 1
theorem z8d:(FH h o0 o1 o2 o3 o4 o5 o6 o7 B l).set (h.length+2) o=FH h o0 o1 o o3 o4 o5 o6 o7 B l:=zbB 2
theorem z8e:(FH h o0 o1 o2 o3 o4 o5 o6 o7 B l).set (h.length+3) o=FH h o0 o1 o2 o o4 o5 o6 o7 B l:=zbB 3
theorem z8f:(FH h o0 o1 o2 o3 o4 o5 o6 o7 B l).set (h.length+4) o=FH h o0 o1 o2 o3 o o5 o6 o7 B l:=zbB 4
theorem z8g:(FH h o0 o1 o2 o3 o4 o5 o6 o7 B l).set (h.length+5) o=FH h o0 o1 o2 o3 o4 o o6 o7 B l:=zbB 5
theorem z8h:(FH h o0 o1 o2 o3 o4 o5 o6 o7 B l).set (h.length+6) o=FH h o0 o1 o2 o3 o4 o5 o o7 B l:=zbB 6
theorem z8i:(FH h o0 o1 o2 o3 o4 o5 o6 o7 B l).set (h.length+7) o=FH h o0 o1 o2 o3 o4 o5 o6 o B l:=zbB 7
theorem zbA (n:Nat):(FH h o0 o1 o2 o3 o4 o5 o6 o7 B l)[h.length+(8+B.length+n)]?=l[n]?:=by
 rw[zb9,show 8+B.length+n=(B.length+n)+8 by omega]
 show (B++l)[B.length+n]?=_
 rw[List.getElem?_append_right (by omega)]
 simp
theorem zth (n:Nat):(FH h o0 o1 o2 o3 o4 o5 o6 o7 B l).set (h.length+(8+B.length+n)) o=FH h o0 o1 o2 o3 o4 o5 o6 o7 B (l.set n o):=by
 rw[zbB,show 8+B.length+n=(B.length+n)+8 by omega]
 unfold FH
 congr 1
 simp only[List.set_cons_succ]
 rw[List.set_append_right _ _ (by omega)]
 simp
theorem zbC (n:Nat):(FH h o0 o1 o2 o3 o4 o5 o6 o7 B l).take (h.length+(8+B.length+n))=FH h o0 o1 o2 o3 o4 o5 o6 o7 B (l.take n):=by
 unfold FH
 rw[show h.length+(8+B.length+n)=h.length+((B.length+n)+8) by omega,List.take_append,List.take_of_length_le (by omega)]
 congr 1
 simp only[Nat.add_sub_cancel_left,List.take_succ_cons]
 rw[List.take_append,List.take_of_length_le (show B.length≤B.length+n by omega)]
 simp
end
def Ent.bx (x:Ent):Obj:=.box [AS x.site,AI x.no,AI x.time,AI x.kind,AS x.board,AS x.step,AS x.of,AI x.other]
def Sta.bx (s:Sta):Obj:=.box [AI s.state,AI s.since,AS s.step,AS s.site,AI s.failed]
def Sta.pv (s:Sta):PV:=.agg [eI s.state,eI s.since,.str s.step,.str s.site,eI s.failed]
abbrev Brds:=List (Ent × Sta)
def boxB:Brds→Heap
 | []=>[]
 | e::r=>e.1.bx::e.1.bx::e.2.bx::boxB r
theorem z0P:∀ bs:Brds,(boxB bs).length=3*bs.length
 | []=>rfl
 | e::r=>by simp [boxB,z0P r];omega
theorem zgP:∀ a b:Brds,boxB (a++b)=boxB a++boxB b
 | [],b=>rfl
 | e::r,b=>by simp [boxB,zgP r b]
theorem zgQ:∀ (bs:Brds) (i:Nat) (e:Ent × Sta),bs[i]?=some e→(boxB bs)[3*i+2]?=some e.2.bx
 | [],i,e,h=>by simp at h
 | y::r,0,e,h=>by simp at h;subst h;rfl
 | y::r,i+1,e,h=>by
  have:=zgQ r i e (by simpa using h)
  rw[show 3*(i+1)+2=(3*i+2)+3 by omega]
  exact this
theorem zgR:∀ (bs:Brds) (i:Nat) (e:Ent × Sta) (s:Sta),bs[i]?=some e→(boxB bs).set (3*i+2) s.bx=boxB (bs.set i (e.1,s))
 | [],i,e,s,h=>by simp at h
 | y::r,0,e,s,h=>by simp at h;subst h;rfl
 | y::r,i+1,e,s,h=>by
  have:=zgR r i e s (by simpa using h)
  rw[show 3*(i+1)+2=(3*i+2)+3 by omega]
  simp only[boxB,List.set_cons_succ,this]
def qB (h:Heap) (i:Nat):Nat:=h.length+(8+(3*i+2))
section
variable {o0 o1 o2 o3 o4 o5 o6 o7:Obj} {l:Heap} {bs:Brds} {i:Nat} {e:Ent × Sta}
theorem zf2 (hi:bs[i]?=some e):(FH h o0 o1 o2 o3 o4 o5 o6 o7 (boxB bs) l)[qB h i]?=some e.2.bx:=by
 unfold qB
 rw[zb9,show 8+(3*i+2)=(3*i+2)+8 by omega]
 show (boxB bs++l)[3*i+2]?=_
 have hl:i<bs.length:=by
  rcases Nat.lt_or_ge i bs.length with h | h
  ·exact h
  ·rw[List.getElem?_eq_none h] at hi;cases hi
 rw[List.getElem?_append_left (by rw[z0P];omega)]
 exact zgQ bs i e hi
theorem FH_sq (hi:bs[i]?=some e) (s:Sta):(FH h o0 o1 o2 o3 o4 o5 o6 o7 (boxB bs) l).set (qB h i) s.bx=FH h o0 o1 o2 o3 o4 o5 o6 o7 (boxB (bs.set i (e.1,s))) l:=by
 unfold qB
 rw[zbB,show 8+(3*i+2)=(3*i+2)+8 by omega]
 unfold FH
 congr 1
 simp only[List.set_cons_succ]
 have hl:i<bs.length:=by
  rcases Nat.lt_or_ge i bs.length with h | h
  ·exact h
  ·rw[List.getElem?_eq_none h] at hi;cases hi
 rw[List.set_append_left _ _ (by rw[z0P];omega),zgR bs i e s hi]
end
def refA (q:Nat):AV:=.ref q 0
def mapB:Nat→Brds→List (Nm × Nat)
 | _,[]=>[]
 | q,e::r=>(e.1.board,q+2)::mapB (q+3) r
theorem z5Y:∀ (q:Nat) (bs:Brds),(mapB q bs).length=bs.length
 | q,[]=>rfl
 | q,e::r=>by simp [mapB,z5Y (q+3) r]
theorem zeG:∀ (q:Nat) (bs:Brds) (e:Ent × Sta),mapB q (bs++[e])=mapB q bs++[(e.1.board,q+3*bs.length+2)]
 | q,[],e=>by simp [mapB]
 | q,y::r,e=>by
  have:=zeG (q+3) r e
  simp only[List.cons_append,mapB,this,List.length_cons]
  rw[show q+3+3*r.length+2=q+3*(r.length+1)+2 by omega]
theorem z5Z:∀ (q:Nat) (bs:Brds) (i:Nat) (e:Ent × Sta) (s:Sta),bs[i]?=some e→mapB q (bs.set i (e.1,s))=mapB q bs
 | q,[],i,e,s,h=>by simp at h
 | q,y::r,0,e,s,h=>by simp at h;subst h;rfl
 | q,y::r,i+1,e,s,h=>by
  have:=z5Z (q+3) r i e s (by simpa using h)
  simp only[List.set_cons_succ,mapB,this]
def asA (bs:Brds):List (Nm × Sta):=bs.map fun e=>(e.1.board,e.2)
def ixB (k:Nm):Brds→Option Nat
 | []=>none
 | e::r=>if k=e.1.board then some 0 else (ixB k r).map (· + 1)
theorem z5X (k:Nm):∀ (q:Nat) (bs:Brds),getM k (mapB q bs)=(ixB k bs).map fun i=>q+(3*i+2)
 | q,[]=>rfl
 | q,e::r=>by
  unfold mapB getM ixB
  by_cases h:k=e.1.board
  ·simp [h]
  ·rw[if_neg h,if_neg h,z5X k (q+3) r]
   cases ixB k r with
   | none=>rfl
   | some i=>simp;omega
theorem z7d (k:Nm):∀ (bs:Brds),(ixB k bs=none→getA (asA bs) k=none)∧∀ i,ixB k bs=some i→∃ e,bs[i]?=some e∧e.1.board=k∧getA (asA bs) k=some e.2
 | []=>⟨fun _=>rfl,fun i h=>by cases h⟩
 | e::r=>by
  obtain⟨i1,i2⟩:=z7d k r
  unfold ixB
  by_cases h:k=e.1.board
  ·refine⟨fun z=>by simp [h] at z,fun i hi=>?_⟩
   rw[if_pos h] at hi
   cases hi
   exact⟨e,rfl,h.symm,by unfold asA;rw[List.map_cons,z11,if_pos h.symm]⟩
  ·have hn:¬ e.1.board=k:=fun z=>h z.symm
   rw[if_neg h]
   refine⟨fun z=>?_,fun i hi=>?_⟩
   ·unfold asA
    rw[List.map_cons,z11,if_neg hn]
    exact i1 (by simpa using z)
   ·obtain⟨j,hj,e2⟩:=Option.map_eq_some_iff.1 hi
    obtain⟨y,y1,y2,y3⟩:=i2 j hj
    subst e2
    refine⟨y,by simpa using y1,y2,?_⟩
    unfold asA
    rw[List.map_cons,z11,if_neg hn]
    exact y3
theorem zx9 {bs:Brds} {k:Nm} {i:Nat} {e:Ent × Sta} (hi:ixB k bs=some i) (he:bs[i]?=some e) (hu:(bs.map fun e=>e.1.board).Nodup) (s:Sta):asA (bs.set i (e.1,s))=putA (asA bs) k s:=by
 induction bs generalizing i with
 | nil=>cases hi
 | cons y r ih=>
  unfold ixB at hi
  rw[List.map_cons,List.nodup_cons] at hu
  by_cases h:k=y.1.board
  ·rw[if_pos h] at hi
   cases hi
   simp at he
   subst he
   unfold putA asA
   rw[if_pos (by simp [h])]
   simp only[List.set_cons_zero,List.map_cons,h,if_true]
   congr 1
   rw[List.map_map]
   apply List.map_congr_left
   intro z hz
   have:¬ z.1.board=y.1.board:=fun q=>hu.1 (q ▸ List.mem_map_of_mem hz)
   simp [this]
  ·rw[if_neg h] at hi
   obtain⟨j,hj,e2⟩:=Option.map_eq_some_iff.1 hi
   subst e2
   have hn:¬ y.1.board=k:=fun z=>h z.symm
   have he':r[j]?=some e:=by simpa using he
   have q:=ih hj he' hu.2
   simp only[List.set_cons_succ]
   unfold putA asA at q ⊢
   simp only[List.map_cons,List.any_cons,decide_eq_false hn,Bool.false_or,if_neg hn]
   rw[q]
   split
   ·rfl
   ·rfl
theorem zx8 {bs:Brds} {k:Nm} (hi:ixB k bs=none) (x:Ent) (hx:x.board=k) (s:Sta):asA (bs++[(x,s)])=putA (asA bs) k s:=by
 have:(asA bs).any (fun e=>decide (e.1=k))=false:=by
  induction bs with
  | nil=>rfl
  | cons y r ih=>
   unfold ixB at hi
   by_cases h:k=y.1.board
   ·rw[if_pos h] at hi;cases hi
   ·rw[if_neg h] at hi
    have hn:¬ y.1.board=k:=fun z=>h z.symm
    have q:=ih (by simpa using hi)
    unfold asA at q ⊢
    rw[List.map_cons,List.any_cons,q]
    simp [hn]
 unfold putA
 rw[if_neg (by simp [this])]
 unfold asA
 simp [hx]
abbrev SMap:=List ((Nm × Nm) × Nat)
def dobj (m:SMap) (c:Nat):Obj:=.amap (m.map fun e=>⟨.str e.1.1,AS e.1.2,e.2⟩) c
def asS (m:SMap):List (Nm × Nm):=m.map (·.1)
def z4V (k:Nm):SMap→Option Nat
 | []=>none
 | e::r=>if k=e.1.1 then some 0 else (z4V k r).map (· + 1)
theorem z92 (k:Nm):∀ m:SMap,z1X (.str k) (m.map fun e=>(⟨.str e.1.1,AS e.1.2,e.2⟩:ME))=some (z4V k m)
 | []=>rfl
 | e::r=>by
  have hk:PV.eqv (.str k) (.str e.1.1)=some (decide (k=e.1.1)):=rfl
  simp only[List.map_cons,z1X,hk,z4V]
  by_cases h:k=e.1.1
  ·simp [h]
  ·simp [h,z92 k r]
theorem z5Q (k:Nm):∀ m:SMap,(z4V k m).bind (fun i=>m[i]?)=m.find? (fun e=>decide (e.1.1=k))
 | []=>rfl
 | e::r=>by
  unfold z4V
  rw[List.find?_cons]
  by_cases h:k=e.1.1
  ·simp [h]
  ·have hn:¬ e.1.1=k:=fun z=>h z.symm
   rw[if_neg h,decide_eq_false hn]
   have:=z5Q k r
   cases hf:z4V k r with
   | none=>rw[hf] at this;simpa using this
   | some i=>rw[hf] at this;simpa using this
theorem z7J (k:Nm):∀ (m:SMap) (i:Nat),z4V k m=some i→(m[i]?).isSome=true
 | [],i,h=>by cases h
 | e::r,i,h=>by
  unfold z4V at h
  split at h
  ·cases h;rfl
  ·obtain⟨j,hj,e2⟩:=Option.map_eq_some_iff.1 h
   subst e2
   have:=z7J k r j hj
   simpa using this
theorem look_d {id:Nat} {hp:Heap} {m:SMap} {c:Nat} {k:Nm} (hh:hp[id]?=some (dobj m c)) :
 z0L (none,[2]) true (AS []) (.mp id) (AS k) hp=some (.tup [AS ((getA (asS m) k).getD []),AB (getA (asS m) k).isSome]):=by
 have e1:z2c (none,[2]) (AS k)=some (.str k):=z1E
 have e2:mget hp (.mp id)=some (id,m.map fun e=>(⟨.str e.1.1,AS e.1.2,e.2⟩:ME),c):=by simp only[mget,hh,dobj]
 have e3:getA (asS m) k=(m.find? fun e=>decide (e.1.1=k)).map (fun e=>e.1.2):=by
  unfold getA asS
  rw[List.find?_map]
  cases h:m.find? (fun e=>decide (e.1.1=k)) with
  | none=>rw[show (List.find? ((fun e=>decide (e.1=k)) ∘ fun x=>x.1) m)=m.find? (fun e=>decide (e.1.1=k)) from rfl,h];rfl
  | some x=>rw[show (List.find? ((fun e=>decide (e.1=k)) ∘ fun x=>x.1) m)=m.find? (fun e=>decide (e.1.1=k)) from rfl,h];rfl
 simp only[z0L,e1,e2,Option.map_some,z92]
 have e4:=z5Q k m
 rw[e3,← e4]
 cases hf:z4V k m with
 | none=>rfl
 | some i=>
  simp only[Option.bind_some,List.getElem?_map]
  have hs:(m[i]?).isSome=true:=z7J k m i hf
  obtain⟨y,hy⟩:=Option.isSome_iff_exists.1 hs
  rw[hy]
  rfl
end Go.Am
end
section
/- A text split at a byte. -/
set_option linter.all false
namespace Go.Am
end Go.Am
end
section
/- A text read line by line. -/
set_option linter.all false
namespace Go.Am
end Go.Am
end
section
/- Numbers in texts. -/
set_option linter.all false
namespace Go.Am
end Go.Am
end
section
/- Faults of nets: what the words mean,in plain Lean. -/
set_option linter.all false
namespace Go.Am
structure Flt where
 kind:Int
 nets:List Int
 deriving DecidableEq
end Go.Am
end
section
/- Faults read: the program's line and the reference's line agree. -/
set_option linter.all false
namespace Go.Am
end Go.Am
end
section
/- What is written is read: numbers,words,lines. -/
set_option linter.all false
namespace Go.Am
end Go.Am
end
section
/- Entries asv texts,plainly: written,read both ways. -/
set_option linter.all false
namespace Go.Am
def ent0:Ent:=⟨[],0,0,0,[],[],[],0⟩
def we (ws:List (List UInt8)) (i:Nat):List UInt8:=(ws[i]?).getD []
end Go.Am
end
section
/- Records: what is wrong with them,both ways. -/
open Go
set_option linter.unusedSimpArgs false
namespace Go.Am
variable {h:Heap} {K:Post}
def orL:List Int→Int
 | []=>0
 | x::r=>if x≠0 then x else orL r
theorem zsv (l:List Int) (hl:l.length≤1000):z0c X z5c [AL l] h K=K (AI (orL l)) h []:=by
 refine rule ?_
 rw[c_q00t rfl]
 simp only[zhb,go_sem]
 refine z08 (fun k:Nat=>⟨[(3,AI 0),(6,AL l),(7,AI l.length),(8,AI k)],h,[]⟩) (fun k=>k≤l.length∧orL (l.drop k)=orL l) (fun k=>l.length-k) 0 rfl ⟨by omega,rfl⟩ ?_
 rintro k ⟨hk,hp⟩
 rcases Nat.lt_or_ge k l.length with hlt | hge
 ·have g2:=z0K eI hlt
  have w2:IntKind.i64.wrap ((k:Int)+1)=((k+1:Nat):Int):=z0l _ (by omega) (by omega)
  rw[List.drop_eq_getElem_cons hlt,orL] at hp
  by_cases hz:l[k]=0
  ·rw[if_neg (by simp [hz])] at hp
   simp only[go_sem,hlt,g2,hz,w2]
   exact⟨k+1,rfl,⟨by omega,hp⟩,by omega⟩
  ·rw[if_pos hz] at hp
   simp only[go_sem,hlt,g2,hz]
   rw[hp]
 ·have ek:k=l.length:=by omega
  subst ek
  rw[List.drop_length] at hp
  simp only[go_sem,Nat.lt_irrefl]
  rw[← hp];rfl
end Go.Am
end
section
/- Entries of stations: compared. -/
open Go
set_option linter.all false
set_option maxRecDepth 100000
namespace Go.Am
variable {h:Heap} {K:Post}
abbrev z1t (l:List Ent):AV:=.p (.sl (some 8) (l.map Ent.pv))
theorem zh4 {l:List Ent}:shps (some 8) (l.map Ent.pv):=fun x hx=>by obtain⟨n,_,rfl⟩:=List.mem_map.1 hx;rfl
theorem z3W {x:Ent}:cutP (some 8) 0 x.pv=some x.pv:=rfl
structure EntOk (x:Ent):Prop where
 s:x.site.length≤1000000
 b:x.board.length≤1000000
 p:x.step.length≤1000000
 o:x.of.length≤1000000
structure EntB (x:Ent):Prop where
 n:1≤x.no∧x.no≤1000000
 t:0≤x.time∧x.time≤345686399999
theorem zh3 {x:Ent} (h:entF x=0):EntB x:=by
 unfold entF at h
 split at h
 ·cases h
 split at h
 ·cases h
 rename_i h2
 rw[not_or] at h2
 have a:noB x.no=true:=by simpa using h2.1
 have b:z1L x.time=true:=by simpa using h2.2
 unfold noB inB at a
 unfold z1L inB at b
 simp at a b
 exact⟨a,b⟩
theorem zsu (a b:Ent):z0c X z9j [.p a.pv,.p b.pv] h K=K (AI (z1b a b)) h []:=by
 refine rule ?_
 rw[c_q05s rfl]
 have o:=fun h K=>zsv (h:=h) (K:=K) [cmp3 a.time b.time,cmpL a.site b.site,cmp3 a.no b.no] (by simp)
 simp only[AL,List.map_cons,List.map_nil] at o
 have e:orL [cmp3 a.time b.time,cmpL a.site b.site,cmp3 a.no b.no]=z1b a b:=by
  unfold z1b
  simp only[orL]
  split
  ·rfl
  ·split
   ·rfl
   ·split
    ·rfl
    ·rename_i h;simp only[ne_eq,Decidable.not_not] at h;rw[h]
 rw[e] at o
 simp only[zmS,Ent.pv,go_sem,z77,z2D,o]
theorem zeX (a b:Ent) (ha:EntB a) (hb:EntB b):z0c X z5e [.p a.pv,.p b.pv] h K=K (AI (z1b a b)) h []:=by
 refine rule ?_
 rw[zwe rfl]
 have a1:=ha.t
 have a2:=hb.t
 have a3:=ha.n
 have a4:=hb.n
 have w:IntKind.i64.wrap (a.time-b.time)=a.time-b.time:=z0l _ (by omega) (by omega)
 have w2:IntKind.i64.wrap (a.no-b.no)=a.no-b.no:=z0l _ (by omega) (by omega)
 unfold z1b
 by_cases he:a.time=b.time
 ·have:cmp3 a.time b.time=0:=by rw[he];unfold cmp3;simp
  rw[if_neg (by simp [this])]
  by_cases hs:a.site=b.site
  ·have hc:cmpL a.site b.site=0:=by rw[hs];exact z5A _
   rw[if_neg (by simp [hc]),z59]
   simp only[z7r,Ent.pv,go_sem,he,hs,w2,zit]
  ·have hc:cmpL a.site b.site≠0:=fun e=>hs (z30 e)
   rw[if_pos hc]
   simp only[z7r,Ent.pv,go_sem,he,hs,z2D]
 ·have hc:cmp3 a.time b.time≠0:=by unfold cmp3;split <;> (try split) <;> omega
  rw[if_pos hc]
  rw[z59]
  simp only[z7r,Ent.pv,go_sem,he,w,zit]
theorem zga (a b:Ent):z0c X zaM [.p a.pv,.p b.pv] h K=K (AB (z3u a b)) h []:=by
 refine rule ?_
 rw[c_q03m rfl]
 unfold z3u
 by_cases h1:a.site=b.site
 ·simp only[zhk,Ent.pv,go_sem,h1]
 ·simp only[zhk,Ent.pv,go_sem,h1]
end Go.Am
end
section
/- What is wrong with an entry: the reference. -/
open Go
set_option linter.all false
set_option maxRecDepth 100000
namespace Go.Am
variable {h:Heap} {K:Post}
attribute [-go_sem] oEqa
theorem eqa8 (ks:List Nat) (hk:ks=[2,0,0,0,2,2,2,0]) (neg:Bool) (c d:Ent):oEqa ks neg (.p c.pv) (.p d.pv)=some (AB (bif neg then !decide (c=d) else decide (c=d))):=by
 subst hk
 obtain⟨a1,a2,a3,a4,a5,a6,a7,a8⟩:=c
 obtain⟨b1,b2,b3,b4,b5,b6,b7,b8⟩:=d
 have e:decide ((⟨a1,a2,a3,a4,a5,a6,a7,a8⟩:Ent)=⟨b1,b2,b3,b4,b5,b6,b7,b8⟩)=(decide (a1=b1)&&(decide (a2=b2)&&(decide (a3=b3)&&(decide (a4=b4)&&(decide (a5=b5)&&(decide (a6=b6)&&(decide (a7=b7)&&(decide (a8=b8)&&true)))))))):=by
  rw[Bool.eq_iff_iff];simp [Ent.mk.injEq]
 rw[e]
 rfl
theorem eqa8n (c d:Ent):oEqa [2,0,0,0,2,2,2,0] true (.p c.pv) (.p d.pv)=some (AB (!decide (c=d))):=eqa8 _ rfl true c d
def Ent.box (x:Ent):Obj:=.box [AS x.site,AI x.no,AI x.time,AI x.kind,AS x.board,AS x.step,AS x.of,AI x.other]
def refE (x u:Ent) (nm:Bool):Int:=if keyB x.site=false then 5 else if noB x.no=false∨z1L x.time=false then 1 else if inB 1 x.kind 7=false then 4
 else if nm=false then 5 else if x.kind=7∧noB x.other=false then 1 else if x≠u then 3 else 0
theorem refE_F (x:Ent):refE x (zvu x) (z73 x)=entF x:=rfl
theorem ent_k1 (x u:Ent) (nm:Bool) (hs:x.site.length≤1000000) (K':Ex→St→Prop) :
 z0R (z0c X) X.gl (.ref h.length 0) (.ref (h.length+1) 0) (AB nm) (h++[x.box,u.box]) [] K'=K' .ret ⟨[(2,AI (refE x u nm))],h++[x.box,u.box],[]⟩:=by
 have k1:=fun h K=>z7R (h:=h) (K:=K) x.site (by omega)
 have hq:=eqa8n x u
 unfold refE noB
 unfold Ent.box
 simp only[Ent.pv] at hq
 cases h1:keyB x.site with
 | false=>simp only[z0R,go_sem,or_false,false_or,true_or,or_true,true_and,and_true,false_and,and_false,not_true_eq_false,not_false_eq_true,↓k1,k1,h1]
 | true=>
  cases h2:inB 1 x.no 1000000 with
  | false=>simp only[z0R,go_sem,or_false,false_or,true_or,or_true,true_and,and_true,false_and,and_false,not_true_eq_false,not_false_eq_true,↓k1,k1,zaq,h1,h2]
  | true=>
   cases h3:z1L x.time with
   | false=>simp only[z0R,go_sem,or_false,false_or,true_or,or_true,true_and,and_true,false_and,and_false,not_true_eq_false,not_false_eq_true,↓k1,k1,zaq,z1q,h1,h2,h3]
   | true=>
    cases h4:inB 1 x.kind 7 with
    | false=>simp only[z0R,go_sem,or_false,false_or,true_or,or_true,true_and,and_true,false_and,and_false,not_true_eq_false,not_false_eq_true,↓k1,k1,zaq,z1q,h1,h2,h3,h4]
    | true=>
     cases nm with
     | false=>simp only[z0R,go_sem,or_false,false_or,true_or,or_true,true_and,and_true,false_and,and_false,not_true_eq_false,not_false_eq_true,↓k1,k1,zaq,z1q,h1,h2,h3,h4]
     | true=>
      by_cases h7:x.kind=7
      ·cases h6:inB 1 x.other 1000000 with
       | false=>simp only[z0R,go_sem,or_false,false_or,true_or,or_true,true_and,and_true,false_and,and_false,not_true_eq_false,not_false_eq_true,↓k1,k1,zaq,z1q,h1,h2,h3,h4,eq_true h7,h6]
       | true=>
        by_cases e:x=u
        ·rw[decide_eq_true e] at hq
         simp only[z0R,go_sem,or_false,false_or,true_or,or_true,true_and,and_true,false_and,and_false,not_true_eq_false,not_false_eq_true,↓k1,k1,zaq,z1q,h1,h2,h3,h4,eq_true h7,h6,hq,eq_true e]
        ·rw[decide_eq_false e] at hq
         simp only[z0R,go_sem,or_false,false_or,true_or,or_true,true_and,and_true,false_and,and_false,not_true_eq_false,not_false_eq_true,↓k1,k1,zaq,z1q,h1,h2,h3,h4,eq_true h7,h6,hq,e]
      ·by_cases e:x=u
       ·rw[decide_eq_true e] at hq
        simp only[z0R,go_sem,or_false,false_or,true_or,or_true,true_and,and_true,false_and,and_false,not_true_eq_false,not_false_eq_true,↓k1,k1,zaq,z1q,h1,h2,h3,h4,h7,hq,eq_true e]
       ·rw[decide_eq_false e] at hq
        simp only[z0R,go_sem,or_false,false_or,true_or,or_true,true_and,and_true,false_and,and_false,not_true_eq_false,not_false_eq_true,↓k1,k1,zaq,z1q,h1,h2,h3,h4,h7,hq,e]
attribute [-go_sem] z0R
theorem zeW (x:Ent) (hx:EntOk x):z0c X zaK [.p x.pv] h K=K (AI (entF x)) h []:=by
 refine rule ?_
 rw[c_q02t rfl]
 have k2:=fun h K=>z7R (h:=h) (K:=K) x.board (by have:=hx.b;omega)
 have k3:=fun h K=>z7R (h:=h) (K:=K) x.step (by have:=hx.p;omega)
 have k4:=fun h K=>z7R (h:=h) (K:=K) x.of (by have:=hx.o;omega)
 rw[← refE_F]
 have hs:x.site.length≤1000000:=hx.s
 have Q:=fun u nm K'=>ent_k1 (h:=h) x u nm hs K'
 unfold Ent.box at Q
 unfold zvu z73
 by_cases h7:x.kind=7
 ·have q:=Q ⟨x.site,x.no,x.time,x.kind,[],[],x.of,x.other⟩ (keyB x.of)
  dsimp only at q
  simp only[z7q,Ent.pv,go_sem,↓k4,k4,h7] at q ⊢
  simp only[z7q,Ent.pv,go_sem,↓k4,k4,q,h7]
 ·by_cases h2:x.kind=2
  ·cases hb:keyB x.board with
   | false=>
    have q:=Q ⟨x.site,x.no,x.time,x.kind,x.board,x.step,[],0⟩ false
    simp only[z7q,Ent.pv,go_sem,↓k2,k2,↓k3,k3,h7,eq_true h2,hb,q]
   | true=>
    have q:=Q ⟨x.site,x.no,x.time,x.kind,x.board,x.step,[],0⟩ (keyB x.step)
    simp only[z7q,Ent.pv,go_sem,↓k2,k2,↓k3,k3,h7,eq_true h2,hb,q]
  ·have q:=Q ⟨x.site,x.no,x.time,x.kind,x.board,[],[],0⟩ (keyB x.board)
   simp only[z7q,Ent.pv,go_sem,↓k2,k2,↓k3,k3,h7,h2,q]
end Go.Am
end
section
/- What is wrong with an entry: the program. Printed by gen_ent.py. -/
open Go
set_option linter.all false
set_option maxRecDepth 100000
namespace Go.Am
variable {h:Heap} {K:Post}
set_option maxHeartbeats 4000000 in
theorem zfd (x:Ent) (hx:EntOk x):z0c X z9l [.p x.pv] h K=K (AI (entF x)) h []:=by
 refine rule ?_
 rw[c_q05u rfl]
 have k1:=fun h K=>zjE (h:=h) (K:=K) x.site (by have:=hx.s;omega)
 have k2:=fun h K=>zjE (h:=h) (K:=K) x.board (by have:=hx.b;omega)
 have k3:=fun h K=>zjE (h:=h) (K:=K) x.step (by have:=hx.p;omega)
 have k4:=fun h K=>zjE (h:=h) (K:=K) x.of (by have:=hx.o;omega)
 obtain⟨site,no,time,kind,board,step,of,other⟩:=x
 dsimp only at k1 k2 k3 k4
 unfold entF z73 zvu noB
 dsimp only
 cases h1:keyB site with
 | false=>
  simp only[Ent.pv,go_sem,Ent.mk.injEq,or_false,false_or,true_or,or_true,true_and,and_true,and_self,false_and,and_false,not_true_eq_false,not_false_eq_true,Bool.not_true,Bool.not_false,z5H,↓k1,k1,z2C,z2d,h1]
 | true=>
  cases h2:inB 1 no 1000000 with
  | false=>
   simp only[Ent.pv,go_sem,Ent.mk.injEq,or_false,false_or,true_or,or_true,true_and,and_true,and_self,false_and,and_false,not_true_eq_false,not_false_eq_true,Bool.not_true,Bool.not_false,z5H,↓k1,k1,z2C,z2d,h1,h2]
  | true=>
   cases h3:z1L time with
   | false=>
    simp only[Ent.pv,go_sem,Ent.mk.injEq,or_false,false_or,true_or,or_true,true_and,and_true,and_self,false_and,and_false,not_true_eq_false,not_false_eq_true,Bool.not_true,Bool.not_false,z5H,↓k1,k1,z2C,z2d,h1,h2,h3]
   | true=>
    cases h4:inB 1 kind 7 with
    | false=>
     simp only[Ent.pv,go_sem,Ent.mk.injEq,or_false,false_or,true_or,or_true,true_and,and_true,and_self,false_and,and_false,not_true_eq_false,not_false_eq_true,Bool.not_true,Bool.not_false,z5H,↓k1,k1,z2C,z2d,h1,h2,h3,h4]
    | true=>
     by_cases h7:kind=7
     ·have h72:¬ kind=2:=by omega
      simp only[Ent.pv,go_sem,Ent.mk.injEq,or_false,false_or,true_or,or_true,true_and,and_true,and_self,false_and,and_false,not_true_eq_false,not_false_eq_true,Bool.not_true,Bool.not_false,z5H,↓k1,k1,z2C,z2d,h1,h2,h3,h4,eq_true h7,h72]
      cases h5:keyB of with
      | false=>
       simp only[Ent.pv,go_sem,Ent.mk.injEq,or_false,false_or,true_or,or_true,true_and,and_true,and_self,false_and,and_false,not_true_eq_false,not_false_eq_true,Bool.not_true,Bool.not_false,↓k4,k4,h5,eq_true h7,h72]
      | true=>
       cases h6:inB 1 other 1000000 with
       | false=>
        simp only[Ent.pv,go_sem,Ent.mk.injEq,or_false,false_or,true_or,or_true,true_and,and_true,and_self,false_and,and_false,not_true_eq_false,not_false_eq_true,Bool.not_true,Bool.not_false,↓k4,k4,z2C,h5,h6,eq_true h7,h72]
       | true=>
        by_cases e1:board=[]
        ·by_cases e2:step=[]
         ·simp only[Ent.pv,go_sem,Ent.mk.injEq,or_false,false_or,true_or,or_true,true_and,and_true,and_self,false_and,and_false,not_true_eq_false,not_false_eq_true,Bool.not_true,Bool.not_false,↓k4,k4,z2C,h5,h6,eq_true e1,eq_true e2,eq_true h7,h72]
         ·simp only[Ent.pv,go_sem,Ent.mk.injEq,or_false,false_or,true_or,or_true,true_and,and_true,and_self,false_and,and_false,not_true_eq_false,not_false_eq_true,Bool.not_true,Bool.not_false,↓k4,k4,z2C,h5,h6,eq_true e1,e2,eq_true h7,h72]
        ·simp only[Ent.pv,go_sem,Ent.mk.injEq,or_false,false_or,true_or,or_true,true_and,and_true,and_self,false_and,and_false,not_true_eq_false,not_false_eq_true,Bool.not_true,Bool.not_false,↓k4,k4,z2C,h5,h6,e1,eq_true h7,h72]
     ·by_cases h2k:kind=2
      ·simp only[Ent.pv,go_sem,Ent.mk.injEq,or_false,false_or,true_or,or_true,true_and,and_true,and_self,false_and,and_false,not_true_eq_false,not_false_eq_true,Bool.not_true,Bool.not_false,z5H,↓k1,k1,z2C,z2d,h1,h2,h3,h4,h7,eq_true h2k]
       cases h5:keyB board with
       | false=>
        simp only[Ent.pv,go_sem,Ent.mk.injEq,or_false,false_or,true_or,or_true,true_and,and_true,and_self,false_and,and_false,not_true_eq_false,not_false_eq_true,Bool.not_true,Bool.not_false,↓k2,k2,h5,h7,eq_true h2k]
       | true=>
        simp only[Ent.pv,go_sem,Ent.mk.injEq,or_false,false_or,true_or,or_true,true_and,and_true,and_self,false_and,and_false,not_true_eq_false,not_false_eq_true,Bool.not_true,Bool.not_false,↓k2,k2,h5,h7,eq_true h2k]
        cases h6:keyB step with
        | false=>
         simp only[Ent.pv,go_sem,Ent.mk.injEq,or_false,false_or,true_or,or_true,true_and,and_true,and_self,false_and,and_false,not_true_eq_false,not_false_eq_true,Bool.not_true,Bool.not_false,↓k3,k3,h6,h7,eq_true h2k]
        | true=>
         by_cases e1:of=[]
         ·by_cases e2:other=0
          ·simp only[Ent.pv,go_sem,Ent.mk.injEq,or_false,false_or,true_or,or_true,true_and,and_true,and_self,false_and,and_false,not_true_eq_false,not_false_eq_true,Bool.not_true,Bool.not_false,↓k3,k3,h6,eq_true e1,eq_true e2,h7,eq_true h2k]
          ·simp only[Ent.pv,go_sem,Ent.mk.injEq,or_false,false_or,true_or,or_true,true_and,and_true,and_self,false_and,and_false,not_true_eq_false,not_false_eq_true,Bool.not_true,Bool.not_false,↓k3,k3,h6,eq_true e1,e2,h7,eq_true h2k]
         ·simp only[Ent.pv,go_sem,Ent.mk.injEq,or_false,false_or,true_or,or_true,true_and,and_true,and_self,false_and,and_false,not_true_eq_false,not_false_eq_true,Bool.not_true,Bool.not_false,↓k3,k3,h6,e1,h7,eq_true h2k]
      ·simp only[Ent.pv,go_sem,Ent.mk.injEq,or_false,false_or,true_or,or_true,true_and,and_true,and_self,false_and,and_false,not_true_eq_false,not_false_eq_true,Bool.not_true,Bool.not_false,z5H,↓k1,k1,z2C,z2d,h1,h2,h3,h4,h7,h2k]
       cases h5:keyB board with
       | false=>
        simp only[Ent.pv,go_sem,Ent.mk.injEq,or_false,false_or,true_or,or_true,true_and,and_true,and_self,false_and,and_false,not_true_eq_false,not_false_eq_true,Bool.not_true,Bool.not_false,↓k2,k2,h5,h7,h2k]
       | true=>
        by_cases e0:step=[]
        ·by_cases e1:of=[]
         ·by_cases e2:other=0
          ·simp only[Ent.pv,go_sem,Ent.mk.injEq,or_false,false_or,true_or,or_true,true_and,and_true,and_self,false_and,and_false,not_true_eq_false,not_false_eq_true,Bool.not_true,Bool.not_false,↓k2,k2,h5,eq_true e0,eq_true e1,eq_true e2,h7,h2k]
          ·simp only[Ent.pv,go_sem,Ent.mk.injEq,or_false,false_or,true_or,or_true,true_and,and_true,and_self,false_and,and_false,not_true_eq_false,not_false_eq_true,Bool.not_true,Bool.not_false,↓k2,k2,h5,eq_true e0,eq_true e1,e2,h7,h2k]
         ·simp only[Ent.pv,go_sem,Ent.mk.injEq,or_false,false_or,true_or,or_true,true_and,and_true,and_self,false_and,and_false,not_true_eq_false,not_false_eq_true,Bool.not_true,Bool.not_false,↓k2,k2,h5,eq_true e0,e1,h7,h2k]
        ·simp only[Ent.pv,go_sem,Ent.mk.injEq,or_false,false_or,true_or,or_true,true_and,and_true,and_self,false_and,and_false,not_true_eq_false,not_false_eq_true,Bool.not_true,Bool.not_false,↓k2,k2,h5,e0,h7,h2k]
end Go.Am
end
section
/- Lists of entries: what is wrong with them,the program. -/
open Go
set_option linter.all false
set_option maxRecDepth 100000
namespace Go.Am
variable {h:Heap} {K:Post}
def srcP (s:List UInt8 × Int):PV:=.agg [.str s.1,.int .i64 s.2]
def z3R (b:Bool):AV:=.p (.bool b)
theorem z7L:KeyI srcP:=fun a b=>by
 obtain⟨a1,a2⟩:=a
 obtain⟨b1,b2⟩:=b
 have e:decide ((a1,a2)=(b1,b2))=(decide (a1=b1)&&(decide (a2=b2)&&true)):=by rw[Bool.eq_iff_iff];simp
 rw[e]
 rfl
theorem z5W {s:List UInt8 × Int}:z2c (some 2,[2,0]) (.p (srcP s))=some (srcP s):=by simp [srcP,z2c,PV.key,PV.shp,PV.sc,PV.cells,PV.kind]
def z7E (l:List Ent):List ((List UInt8 × Int) × Bool):=l.map fun x=>((x.site,x.no),true)
theorem z9v (x:Ent):∀ l:List Ent,getM (x.site,x.no) (z7E l)=if l.any (fun o=>z3u o x) then some true else none
 | []=>rfl
 | y::l=>by
  have ih:=z9v x l
  unfold z7E at ih ⊢
  rw[List.map_cons]
  unfold getM
  rw[ih,List.any_cons]
  have e:((x.site,x.no)=(y.site,y.no))↔z3u y x=true:=by
   unfold z3u
   simp only[Prod.mk.injEq,Bool.and_eq_true,decide_eq_true_eq]
   exact⟨fun h=>⟨h.1.symm,h.2.symm⟩,fun h=>⟨h.1.symm,h.2.symm⟩⟩
  by_cases hc:z3u y x=true
  ·rw[if_pos (e.2 hc),hc];rfl
  ·have hf:z3u y x=false:=by simpa using hc
   rw[if_neg (fun z=>hc (e.1 z)),hf,Bool.false_or]
theorem zsQ (l:List Ent) (x:Ent) (h:l.any (fun o=>z3u o x)=false):updM (x.site,x.no) true (z7E l)=z7E (l++[x]):=by
 have:z1s (x.site,x.no) (z7E l)=none:=by
  have e:=z79 (k:=(x.site,x.no)) (l:=z7E l)
  rw[z9v,h] at e
  simpa using e
 rw[z7S this]
 unfold z7E
 simp
attribute [-go_sem] z0L z1v
theorem zzo (l:List Ent) (hn:l.length≤1000000):z0c X z9r [z1t l] h K=K (AB (z2s [] l)) h []:=by
 refine rule ?_
 rw[c_q068 rfl]
 simp only[zhy,go_sem]
 refine z08 (fun k:Nat=>⟨[(3,.mp h.length),(8,z1t l),(9,AI l.length),(10,AI k)],h++[mobj srcP z3R (z7E (l.take k))],[]⟩) (fun k=>k≤l.length∧z2s (l.take k) (l.drop k)=z2s [] l) (fun k=>l.length-k) 0 rfl ⟨by omega,rfl⟩ ?_
 rintro k ⟨hkl,hp⟩
 rcases Nat.lt_or_ge k l.length with hlt | hge
 ·have hg:=z0K Ent.pv hlt
  have w2:IntKind.i64.wrap ((k:Int)+1)=((k+1:Nat):Int):=z0l _ (by omega) (by omega)
  have cx:=z3W (x:=l[k])
  rw[List.drop_eq_getElem_cons hlt,z2s,← List.take_succ_eq_append_getElem hlt] at hp
  have ek:l.take (k+1)=l.take k++[l[k]]:=List.take_succ_eq_append_getElem hlt
  generalize hx:l[k]=x at *
  generalize l.take k=S at *
  have lk:=fun (hp:Heap) (e:hp[h.length]?=some (mobj srcP z3R (z7E S)))=>z22 (kk:=(some 2,[2,0])) (k:=(x.site,x.no)) z7L e z5W (ok:=false) (z:=z3R false)
  have up:=fun (hp:Heap) (e:hp[h.length]?=some (mobj srcP z3R (z7E S)))=>z4P (kk:=(some 2,[2,0])) (k:=(x.site,x.no)) z7L e z5W (v:=true) rfl
  have l1:=fun t=>lk (h++mobj srcP z3R (z7E S)::t) (by simp)
  have u1:=fun t=>up (h++mobj srcP z3R (z7E S)::t) (by simp)
  rw[z9v] at l1
  simp only[z3R,srcP,cond_false,z2a,AV.top] at l1 u1
  cases hc:S.any (fun o=>z3u o x) with
  | true=>
   rw[hc,if_pos rfl] at hp
   rw[hc] at l1
   simp only[if_true,Option.map_some,Option.getD_some,z3R] at l1
   simp only[go_sem,hlt,hg,cx,Ent.pv,splice,l1]
   rw[← hp]
  | false=>
   rw[hc,if_neg (by simp)] at hp
   rw[hc] at l1
   have us:=zsQ S x hc
   simp only[Bool.false_eq_true,if_false,Option.map_none,Option.getD_none] at l1
   have nl0:¬ h.length<0:=by omega
   simp only[nl0,if_false] at u1
   rw[us] at u1
   simp only[go_sem,hlt,hg,cx,Ent.pv,splice,l1,u1,w2]
   refine⟨k+1,?_,⟨by omega,?_⟩,by omega⟩
   ·rw[ek]
   ·rw[ek];rw[← ek];exact hp
 ·have ek:k=l.length:=by omega
  subst ek
  rw[List.drop_length] at hp
  simp only[go_sem,Nat.lt_irrefl]
  rw[← hp];rfl
theorem z5J {p:Option Ent} {x:Ent} {r:List Ent}:z0E p (x::r)=if entF x≠0 then entF x else if (match p with | some q=>decide (z1b x q≤0) | none=>false)=true then 7 else z0E (some x) r:=rfl
theorem zan (r:List Ent) (hr:∀ x∈r,EntOk x) (hn:r.length≤1000000):z0c X z9h [z1t r] h K=K (AI (z3X r)) h []:=by
 refine rule ?_
 rw[c_q05h rfl]
 have tw:=fun h K=>zzo (h:=h) (K:=K) r hn
 unfold z3X
 by_cases h1:(2000:Int)<r.length
 ·simp only[zdO,go_sem,h1]
 simp only[zdO,go_sem,h1]
 refine z08 (fun k:Nat=>⟨[(0,z1t r),(9,z1t r),(10,AI r.length),(11,AI k)],h,[]⟩) (fun k=>k≤r.length∧z0E (r.take k).getLast? (r.drop k)=z0E none r) (fun k=>r.length-k) 0 rfl ⟨by omega,rfl⟩ ?_
 rintro k ⟨hkl,hp⟩
 rcases Nat.lt_or_ge k r.length with hlt | hge
 ·have hg:=z0K Ent.pv hlt
  have w2:IntKind.i64.wrap ((k:Int)+1)=((k+1:Nat):Int):=z0l _ (by omega) (by omega)
  have hx:=hr _ (List.getElem_mem hlt)
  have hlast:(r.take (k+1)).getLast?=some r[k]:=by rw[List.take_succ_eq_append_getElem hlt];exact List.getLast?_concat
  rw[List.drop_eq_getElem_cons hlt,z5J] at hp
  have cx:=z3W (x:=r[k])
  have rf:=fun h K=>zfd (h:=h) (K:=K) r[k] hx
  simp only[Ent.pv] at rf
  by_cases h2:entF r[k]=0
  ·rw[if_neg (by simp [h2])] at hp
   cases k with
   | zero=>
    simp only[List.take_zero,List.getLast?_nil,reduceCtorEq,if_false] at hp
    have hlt0:(0:Int)<r.length:=by omega
    simp only[go_sem,hlt0,hg,cx,Ent.pv,rf,h2,Int.lt_irrefl,splice,show IntKind.i64.wrap 1=1 from rfl]
    exact⟨0+1,rfl,⟨by omega,by rw[hlast];exact hp⟩,by omega⟩
   | succ j=>
    have hj:j<r.length:=by omega
    have hgj:=z0K Ent.pv hj
    have cj:=z3W (x:=r[j])
    have hlj:(r.take (j+1)).getLast?=some r[j]:=by rw[List.take_succ_eq_append_getElem hj];exact List.getLast?_concat
    have w3:IntKind.i64.wrap (((j+1:Nat):Int)-1)=(j:Int):=by rw[z0l _ (by omega) (by omega)];omega
    have p1:(0:Int)<((j+1:Nat):Int):=by omega
    have bt:=fun h K=>zsu (h:=h) (K:=K) r[j+1] r[j]
    simp only[Ent.pv] at bt
    rw[hlj] at hp
    by_cases h3:z1b r[j+1] r[j]≤0
    ·simp only[h3,decide_true,if_true] at hp
     simp only[go_sem,hlt,hj,hg,hgj,cx,cj,Ent.pv,rf,h2,p1,w3,bt,h3,splice]
     rw[← hp]
     rfl
    ·simp only[h3,decide_false,reduceCtorEq,if_false] at hp
     simp only[go_sem,hlt,hj,hg,hgj,cx,cj,Ent.pv,rf,h2,p1,w3,bt,h3,w2,splice]
     exact⟨j+1+1,rfl,⟨by omega,by rw[hlast];exact hp⟩,by omega⟩
  ·rw[if_pos h2] at hp
   simp only[go_sem,hlt,hg,cx,Ent.pv,rf,h2,splice]
   rw[← hp,if_pos h2]
 ·have ek:k=r.length:=by omega
  subst ek
  rw[List.drop_length] at hp
  have hz:z0E none r=0:=by rw[← hp];cases (r.take r.length).getLast? <;> rfl
  rw[if_neg (by simp [hz])]
  cases ht:z2s [] r with
  | true=>
   rw[ht] at tw
   simp only[go_sem,Nat.lt_irrefl,tw]
   first | done | rfl
  | false=>
   rw[ht] at tw
   simp only[go_sem,Nat.lt_irrefl,tw]
   first | done | rfl
end Go.Am
end
section
/- Lists of entries: sorted,looked through: printed by program. -/
open Go
set_option linter.unusedSimpArgs false
namespace Go.Am
attribute [-go_sem] PV.cells splice
variable {h:Heap} {K:Post}
theorem z7A (id n:Nat) (l tl:List PV) (hn:n=l.length+tl.length) (hs:shps (some 8) l) (hl:l.length≤1000) (hh:h[id]?=some (.row (some 8) (l++tl) 0)) {g:Nat} {caps:List AV} {c:PV→PV→Int} (hc:Cmps g caps c l id h) :
 z0c X z4b [.own id n 0 l.length,AI 0,AI l.length,.fn g caps] h K=K (.tup []) (h.set id (.row (some 8) (z1K (ltC c) l++tl) 0)) []:=by
 refine rule ?_
 rw[zwf]
 have hid:=z71 hh
 have hst:∀ o,(h.set id o)[id]?=some o:=fun o=>z3I hid
 simp only[zdF,go_sem,show IntKind.i64.wrap 1=1 from rfl]
 refine z08 (fun i:Nat=>⟨[(0,.own id n 0 l.length),(1,AI 0),(2,AI l.length),(3,.fn g caps),(8,AI i)],h.set id (.row (some 8) ((z2n (ltC c) (l.take i)).reverse++(l.drop i++tl)) 0),[]⟩) (fun i=>1≤i∧(i≤l.length∨i=1)) (fun i=>l.length-i) 1 ?_ (by simp) ?_
 ·have:(z2n (ltC c) (l.take 1)).reverse++(l.drop 1++tl)=l++tl:=by cases l <;> rfl
  rw[this,zcn hh];rfl
 rintro i ⟨hi1,hi2⟩
 rcases Nat.lt_or_ge i l.length with hlt | hge
 ·simp only[go_sem,hlt]
  have hxl:l[i]∈l:=List.getElem_mem hlt
  generalize hx:l[i]=x at *
  generalize hR:z2n (ltC c) (l.take i)=R
  have hRl:R.length=i:=by rw[← hR,zbf];simp;omega
  have hRm:∀ z∈R,z∈l:=fun z hz=>List.mem_of_mem_take ((z3A (ltC c) (l.take i)).mem_iff.1 (by rw[hR];exact hz))
  have hdrop:l.drop i=x::l.drop (i+1):=by rw[← hx];exact List.drop_eq_getElem_cons hlt
  have hnext:z2n (ltC c) (l.take (i+1))=insR (ltC c) x R:=by rw[z3O _ _ _ hlt,hR,hx]
  refine z08 (fun t:List PV × List PV=>⟨[(0,.own id n 0 l.length),(1,AI 0),(2,AI l.length),(3,.fn g caps),(8,AI i),(9,AI t.1.length)],h.set id (.row (some 8) (t.1.reverse++x::t.2) 0),[]⟩)
   (fun t=>∃ B,R=B++t.1∧t.2=B.reverse++(l.drop (i+1)++tl)∧∀ b∈B,ltC c x b=true) (fun t=>t.1.length) (R,l.drop (i+1)++tl) (by rw[hdrop,hRl];rfl) ⟨[],rfl,rfl,by simp⟩ ?_
  rintro⟨A,C⟩ ⟨B,q1,q2,q3⟩
  dsimp only at q1 q2 q3
  have hlen:(A.reverse++x::C).length=n:=by
   have:R.length=B.length+A.length:=by rw[q1];simp
   rw[q2];simp;omega
  have hBA:B.length+A.length<l.length:=by
   have:R.length=B.length+A.length:=by rw[q1];simp
   omega
  have hln:l.length≤n:=by omega
  have w1:IntKind.i64.wrap ((i:Int)+1)=((i+1:Nat):Int):=z0l _ (by omega) (by omega)
  cases A with
  | nil=>
   have hd:insR (ltC c) x R=B++[x]:=by rw[q1];exact z7K (ltC c) x [] B q3 (fun y r h=>by cases h)
   simp only[go_sem,Int.lt_irrefl,w1]
   refine⟨i+1,?_,by omega,by omega⟩
   simp only[hnext,hd,q2,List.reverse_append,List.reverse_nil,List.nil_append,List.reverse_cons,List.append_assoc,List.cons_append]
  | cons y A=>
   have hyl:y∈l:=hRm y (by rw[q1];simp)
   have g1:=zpo (y::A) C x
   have g2:=zhW A C x y
   have sw:=zhX A C x y
   simp only[List.length_cons] at hBA
   generalize hrow:(y::A).reverse++x::C=row at *
   simp only[List.length_cons] at g1
   have w2:IntKind.i64.wrap (((A.length+1:Nat):Int)-1)=(A.length:Int):=by rw[z0l _ (by omega) (by omega)];omega
   have p1:(0:Int)<((A.length+1:Nat):Int):=by omega
   have b1:A.length+1<l.length:=by omega
   have b2:A.length<l.length:=by omega
   have cx:=zab (hs x hxl)
   have cy:=zab (hs y hyl)
   have hcc:=fun o K=>hc o x hxl y hyl K
   by_cases hxy:c x y<0
   ·have g3:(row.set (A.length+1) y)[A.length]?=some y:=by rw[List.getElem?_set_ne (by omega),g2]
    have lx:=zcq (hs x hxl)
    have ly:=zcq (hs y hyl)
    have sx:=zcp (hs x hxl)
    have sy:=zcp (hs y hyl)
    simp only[z0a] at lx ly
    have t1:=fun i xs h1=>zi1 (hs x hxl) (hs y hyl) id i 0 xs h1
    have t2:=fun i xs h1=>zi1 (hs y hyl) (hs x hxl) id i 0 xs h1
    simp only[go_sem,hst,p1,hlen,g1,g2,g3,w2,b1,b2,hln,cx,cy,hcc,hxy,lx,ly,sx,sy,t1,t2,sw]
    refine⟨(A,y::C),rfl,⟨B++[y],by simp [q1],by simp [q2],fun b hb=>?_⟩,by simp⟩
    rw[List.mem_append,List.mem_singleton] at hb
    rcases hb with hb | rfl
    ·exact q3 b hb
    ·simpa [ltC] using hxy
   ·have hd:insR (ltC c) x R=B++x::y::A:=by rw[q1];exact z7K (ltC c) x (y::A) B q3 (fun z r h=>by cases h;simpa [ltC] using hxy)
    simp only[go_sem,hst,p1,hlen,g1,g2,w2,b1,b2,hln,cx,cy,hcc,hxy,w1]
    refine⟨i+1,?_,by omega,by omega⟩
    simp only[hnext,hd,← hrow,q2,List.reverse_append,List.reverse_cons,List.append_assoc,List.cons_append,List.nil_append]
 ·have hge':¬ i<l.length:=by omega
  have e1:l.take i=l:=List.take_of_length_le hge
  have e2:l.drop i=[]:=List.drop_of_length_le hge
  simp only[go_sem,hge',e1,e2]
  rfl
theorem z7B (id n:Nat) (hn:n≤1000) {g:Nat} {caps:List AV} :
 z0c X z4b [.own id n 0 n,AI n,AI n,.fn g caps] h K=K (.tup []) h []:=by
 refine rule ?_
 rw[zwf]
 have w1:IntKind.i64.wrap ((n:Int)+1)=((n+1:Nat):Int):=z0l _ (by omega) (by omega)
 have b1:¬ ((n+1:Nat):Int)<(n:Int):=by omega
 simp only[zdF,go_sem,w1]
 refine z08 (fun _:Unit=>⟨[(0,.own id n 0 n),(1,AI n),(2,AI n),(3,.fn g caps),(8,AI ((n+1:Nat):Int))],h,[]⟩) (fun _=>True) (fun _=>0) () rfl trivial ?_
 intro _ _
 simp only[go_sem,b1]
theorem z7F (id:Nat) (l:List PV) (hs:shps (some 8) l) (hl:l.length≤20) (hh:h[id]?=some (.row (some 8) l 0)) {g:Nat} {caps:List AV} {c:PV→PV→Int} (hc:Cmps g caps c l id h) :
 z0c X zaS [.own id l.length 0 l.length,.fn g caps] h K=K (.tup []) (h.set id (.row (some 8) (z1K (ltC c) l) 0)) []:=by
 refine rule ?_
 rw[c_q04b]
 have key:∀ K:Post,z0c X zaU [.own id l.length 0 l.length,AI l.length,.fn g caps] h K=K (.tup []) (h.set id (.row (some 8) (z1K (ltC c) l) 0)) []:=by
  intro K
  refine rule ?_
  rw[c_q059]
  have is:=fun K=>z7A (h:=h) (K:=K) id l.length l [] rfl hs (by omega) (by rw[List.append_nil];exact hh) hc
  have i0:=fun K=>z7B (h:=h.set id (.row (some 8) (z1K (ltC c) l) 0)) (K:=K) (g:=g) (caps:=caps) id l.length (by omega)
  simp only[List.append_nil] at is
  have b2:¬ ((20:Int)<(l.length:Int)):=by omega
  simp only[zhq,go_sem]
  refine z08 (fun t:Bool=>⟨[(0,.own id l.length 0 l.length),(1,AI l.length),(2,.fn g caps),(6,AI 20),(7,AI (if t=true then 20 else 0)),(8,AI (if t=true then 40 else 20))],if t=true then h.set id (.row (some 8) (z1K (ltC c) l) 0) else h,[]⟩) (fun t=>t=true→l.length=20) (fun t=>if t=true then 0 else 1) false rfl (fun e=>by cases e) ?_
  intro t ht
  cases t with
  | false=>
   by_cases he:l.length=20
   ·have e20:((l.length:Nat):Int)=20:=by omega
    have gen:∀ z:Int,z=(l.length:Int)→∀ K:Post,z0c X z4b [.own id l.length 0 l.length,AI 0,AI z,.fn g caps] h K=K (.tup []) (h.set id (.row (some 8) (z1K (ltC c) l) 0)) []:=fun z hz K=>by subst hz;exact is K
    have is':=gen 20 (by omega)
    have b1:(20:Int)≤(l.length:Int):=by omega
    simp only[go_sem,if_true,if_false,Bool.false_eq_true,b1,is',show IntKind.i64.wrap ((20:Int)+20)=40 from rfl]
    exact⟨true,rfl,fun _=>he,by decide⟩
   ·have b1:¬ ((20:Int)≤(l.length:Int)):=by omega
    simp only[go_sem,if_true,if_false,Bool.false_eq_true,b1,is]
    refine z08 (fun _:Unit=>⟨[(0,.own id l.length 0 l.length),(1,AI l.length),(2,.fn g caps),(6,AI 20)],h.set id (.row (some 8) (z1K (ltC c) l) 0),[]⟩) (fun _=>True) (fun _=>0) () rfl trivial ?_
    intro _ _
    simp only[go_sem,b2]
  | true=>
   have he:=ht rfl
   have e20:((l.length:Nat):Int)=20:=by omega
   have gen:∀ z:Int,z=(l.length:Int)→∀ K:Post,z0c X z4b [.own id l.length 0 l.length,AI z,AI l.length,.fn g caps] (h.set id (.row (some 8) (z1K (ltC c) l) 0)) K=K (.tup []) (h.set id (.row (some 8) (z1K (ltC c) l) 0)) []:=fun z hz K=>by subst hz;exact i0 K
   have i0':=gen 20 (by omega)
   have b1:¬ ((40:Int)≤(l.length:Int)):=by omega
   simp only[go_sem,if_true,if_false,Bool.false_eq_true,b1,i0']
   refine z08 (fun _:Unit=>⟨[(0,.own id l.length 0 l.length),(1,AI l.length),(2,.fn g caps),(6,AI 20)],h.set id (.row (some 8) (z1K (ltC c) l) 0),[]⟩) (fun _=>True) (fun _=>0) () rfl trivial ?_
   intro _ _
   simp only[go_sem,b2]
 simp only[zmR,go_sem,key]
theorem z8l {v:AV} {g:Nat} {caps:List AV} {p:PV→Bool} {xs:List PV} (hv:Shows (some 8) v xs h) (hp:Tells g caps p xs h) (hl:xs.length≤1000000000) :
 z0c X zaP [v,.fn g caps] h K=K (AI (idxP p xs)) h []:=by
 refine rule ?_
 rw[c_q044]
 have vl:=hv.len
 simp only[zhl,go_sem,vl]
 refine z08 (fun k:Nat=>⟨[(0,v),(1,.fn g caps),(7,AI xs.length),(8,AI k)],h,[]⟩) (fun k=>k≤xs.length∧∀ x∈xs.take k,p x=false) (fun k=>xs.length-k) 0 rfl (by simp) ?_
 rintro k ⟨hk,hn⟩
 rcases Nat.lt_or_ge k xs.length with hlt | hge
 ·obtain⟨a,ha,hb⟩:=hv.get k hlt
  have w2:IntKind.i64.wrap ((k:Int)+1)=((k+1:Nat):Int):=z0l _ (by omega) (by omega)
  have ht:=hp _ (List.getElem_mem hlt)
  cases hpk:p xs[k] with
  | true=>
   have hf:xs.findIdx p=k:=by
    rw[List.findIdx_eq hlt]
    refine⟨hpk,fun j hj=>?_⟩
    have:=hn xs[j] (by rw[List.mem_take_iff_getElem];exact⟨j,by omega,rfl⟩)
    simpa using this
   simp only[go_sem,hlt,ha,hb,ht,hpk,w2]
   simp only[idxP,hf,hlt,if_true]
  | false=>
   simp only[go_sem,hlt,ha,hb,ht,hpk,w2]
   refine⟨k+1,rfl,⟨by omega,fun x hx=>?_⟩,by omega⟩
   rw[List.take_succ_eq_append_getElem hlt,List.mem_append,List.mem_singleton] at hx
   rcases hx with hx | hx
   ·exact hn x hx
   ·rw[hx];exact hpk
 ·have e1:k=xs.length:=by omega
  subst e1
  simp only[go_sem,Nat.lt_irrefl]
  rw[List.take_length] at hn
  have:¬ xs.findIdx p<xs.length:=by
   rw[Nat.not_lt,Nat.le_iff_lt_or_eq];right
   exact (List.findIdx_eq_length.2 (fun x hx=>by simp [hn x hx])).symm
  simp [idxP,this]
theorem z5y {g:Nat} {caps:List AV} {p:PV→Bool} {xs:List PV} (hp:Tells g caps p xs h) (hs:shps (some 8) xs) (hl:xs.length≤1000000000) :
 z0c X zaN [.p (.sl (some 8) xs),.fn g caps] h K=K (AB (xs.any p)) h []:=by
 refine rule ?_
 rw[c_q03u]
 have vi:=fun K=>z8l (h:=h) (K:=K) (zco hs) hp hl
 simp only[zmN,go_sem,vi,zut]
end Go.Am
end
section
/- Lists of entries: what is wrong with them,the reference. -/
open Go
set_option linter.all false
set_option maxRecDepth 100000
namespace Go.Am
variable {h:Heap} {K:Post}
attribute [-go_sem] oEqa
def zgk:PV→Ent
 | .agg [.str a,.int _ b,.int _ c,.int _ d,.str e,.str f,.str g,.int _ i]=>⟨a,b,c,d,e,f,g,i⟩
 | _=>ent0
theorem zcv (x:Ent):zgk x.pv=x:=rfl
theorem s_EF1 (o x:Ent) (id:Nat) (hx:h[id]?=some x.box):z0c X z9g [.p o.pv,.ref id 0] h K=K (AB (z3u o x)) h []:=by
 refine rule ?_
 rw[c_q02s rfl]
 have q:=fun h K=>zga (h:=h) (K:=K) o x
 have hl:=z71 hx
 have hx2:∀ t,(h++t)[id]?=some x.box:=fun t=>by rw[List.getElem?_append_left hl];exact hx
 simp only[Ent.pv] at q
 unfold Ent.box at hx hx2
 simp only[zmK,Ent.pv,go_sem,hx,hx2,q]
attribute [-go_sem] z8Y
theorem zao (r:List Ent) (hr:∀ x∈r,EntOk x) (hn:r.length≤1000000):z0c X zaJ [z1t r] h K=K (AI (z3X r)) h []:=by
 refine rule ?_
 rw[c_q02r rfl]
 unfold z3X
 by_cases h1:(2000:Int)<r.length
 ·simp only[zd2,go_sem,h1]
 simp only[zd2,go_sem,h1]
 refine z08 (fun k:Nat=>⟨[(0,z1t r),(11,z1t r),(12,AI r.length),(13,AI k)],h,[]⟩) (fun k=>k≤r.length∧z0E (r.take k).getLast? (r.drop k)=z0E none r∧∀ x∈r.take k,entF x=0) (fun k=>r.length-k) 0 rfl ⟨by omega,rfl,by simp⟩ ?_
 rintro k ⟨hkl,hp,hz⟩
 rcases Nat.lt_or_ge k r.length with hlt | hge
 ·have hg:=z0K Ent.pv hlt
  have w2:IntKind.i64.wrap ((k:Int)+1)=((k+1:Nat):Int):=z0l _ (by omega) (by omega)
  have hx:=hr _ (List.getElem_mem hlt)
  have hlast:(r.take (k+1)).getLast?=some r[k]:=by rw[List.take_succ_eq_append_getElem hlt];exact List.getLast?_concat
  rw[List.drop_eq_getElem_cons hlt,z5J] at hp
  have cx:=z3W (x:=r[k])
  have rf:=fun h K=>zeW (h:=h) (K:=K) r[k] hx
  simp only[Ent.pv] at rf
  by_cases h2:entF r[k]=0
  ·rw[if_neg (by simp [h2])] at hp
   have hz':∀ x∈r.take (k+1),entF x=0:=fun x hx=>by
    rw[List.take_succ_eq_append_getElem hlt,List.mem_append,List.mem_singleton] at hx
    rcases hx with hx | rfl
    ·exact hz x hx
    ·exact h2
   cases k with
   | zero=>
    simp only[List.take_zero,List.getLast?_nil,reduceCtorEq,if_false] at hp
    have hlt0:(0:Int)<r.length:=by omega
    simp only[go_sem,hlt0,hg,cx,Ent.pv,rf,h2,Int.lt_irrefl,splice,show IntKind.i64.wrap 1=1 from rfl]
    exact⟨0+1,rfl,⟨by omega,by rw[hlast];exact hp,hz'⟩,by omega⟩
   | succ j=>
    have hj:j<r.length:=by omega
    have hgj:=z0K Ent.pv hj
    have cj:=z3W (x:=r[j])
    have hlj:(r.take (j+1)).getLast?=some r[j]:=by rw[List.take_succ_eq_append_getElem hj];exact List.getLast?_concat
    have w3:IntKind.i64.wrap (((j+1:Nat):Int)-1)=(j:Int):=by rw[z0l _ (by omega) (by omega)];omega
    have p1:(0:Int)<((j+1:Nat):Int):=by omega
    have t1:=zh3 h2
    have t2:=zh3 (hz r[j] (by rw[List.mem_take_iff_getElem];exact⟨j,by omega,rfl⟩))
    have bt:=fun h K=>zeX (h:=h) (K:=K) r[j] r[j+1] t2 t1
    simp only[Ent.pv] at bt
    rw[hlj] at hp
    have hneg:=zjj r[j+1] r[j]
    by_cases h3:z1b r[j+1] r[j]≤0
    ·have h3':0≤z1b r[j] r[j+1]:=by omega
     simp only[h3,decide_true,if_true] at hp
     simp only[go_sem,hlt,hj,hg,hgj,cx,cj,Ent.pv,rf,h2,p1,w3,bt,h3',splice]
     rw[← hp]
     rfl
    ·have h3':¬ 0≤z1b r[j] r[j+1]:=by omega
     simp only[h3,decide_false,reduceCtorEq,if_false] at hp
     simp only[go_sem,hlt,hj,hg,hgj,cx,cj,Ent.pv,rf,h2,p1,w3,bt,h3',w2,splice]
     exact⟨j+1+1,rfl,⟨by omega,by rw[hlast];exact hp,hz'⟩,by omega⟩
  ·rw[if_pos h2] at hp
   simp only[go_sem,hlt,hg,cx,Ent.pv,rf,h2,splice]
   rw[← hp,if_pos h2]
 ·have ek:k=r.length:=by omega
  subst ek
  rw[List.drop_length] at hp
  have hz0:z0E none r=0:=by rw[← hp];cases (r.take r.length).getLast? <;> rfl
  rw[if_neg (by simp [hz0])]
  simp only[go_sem,Nat.lt_irrefl]
  rw[z8Y]
  simp only[z5F,go_sem]
  refine z08 (fun k:Nat=>⟨[(0,z1t r),(36,z1t r),(37,AI r.length),(38,AI k)],h,[]⟩) (fun k=>k≤r.length∧z2s (r.take k) (r.drop k)=z2s [] r) (fun k=>r.length-k) 0 rfl ⟨by omega,rfl⟩ ?_
  rintro k ⟨hkl2,hp2⟩
  rcases Nat.lt_or_ge k r.length with hlt | hge
  ·have hg:=z0K Ent.pv hlt
   have w2:IntKind.i64.wrap ((k:Int)+1)=((k+1:Nat):Int):=z0l _ (by omega) (by omega)
   have cx:=z3W (x:=r[k])
   rw[List.drop_eq_getElem_cons hlt,z2s,← List.take_succ_eq_append_getElem hlt] at hp2
   have cf:=fun K=>z5y (h:=h++[r[k].box]) (K:=K) (g:=z9g) (caps:=[.ref h.length 0]) (p:=fun v=>z3u (zgk v) r[k]) (xs:=(r.take k).map Ent.pv)
    (fun v hv K=>by
     obtain⟨o,_,rfl⟩:=List.mem_map.1 hv
     dsimp only
     rw[zcv]
     exact s_EF1 o r[k] h.length (by simp)) zh4 (by simp;omega)
   have ea:((r.take k).map Ent.pv).any (fun v=>z3u (zgk v) r[k])=(r.take k).any (fun o=>z3u o r[k]):=by
    rw[List.any_map];rfl
   rw[ea] at cf
   have hw:win (r.map Ent.pv) 0 k=(r.take k).map Ent.pv:=by simp [win,List.map_take]
   have hkl3:k≤r.length:=by omega
   unfold Ent.box at cf
   cases hc:(r.take k).any (fun o=>z3u o r[k]) with
   | true=>
    rw[hc,if_pos rfl] at hp2
    rw[hc] at cf
    simp only[go_sem,hlt,hg,cx,Ent.pv,splice,hkl3,hw,↓cf,cf]
    rw[← hp2]
    first | done | rfl
   | false=>
    rw[hc,if_neg (by simp)] at hp2
    rw[hc] at cf
    simp only[go_sem,hlt,hg,cx,Ent.pv,splice,hkl3,hw,↓cf,cf,w2]
    exact⟨k+1,rfl,⟨by omega,hp2⟩,by omega⟩
  ·have ek:k=r.length:=by omega
   subst ek
   rw[List.drop_length] at hp2
   have:z2s [] r=false:=by rw[← hp2];rfl
   simp only[go_sem,Nat.lt_irrefl,this]
   first | done | rfl
end Go.Am
end
section
/- Where a byte stands in a text. -/
open Go
set_option linter.all false
namespace Go.Am
variable {h:Heap} {K:Post}
end Go.Am
end
section
/- Lengths of numbers in bits,and comparisons of plain values. -/
open Go
namespace Go.Am
variable {h:Heap} {K:Post}
set_option maxRecDepth 20000
theorem zzA (k:Nat) (hk:k<256):∃ b,([0,1,2,2,3,3,3,3,4,4,4,4,4,4,4,4,5,5,5,5,5,5,5,5,5,5,5,5,5,5,5,5,6,6,6,6,6,6,6,6,6,6,6,6,6,6,6,6,6,6,6,6,6,6,6,6,6,6,6,6,6,6,6,6,7,7,7,7,7,7,7,7,7,7,7,7,7,7,7,7,7,7,7,7,7,7,7,7,7,7,7,7,7,7,7,7,7,7,7,7,7,7,7,7,7,7,7,7,7,7,7,7,7,7,7,7,7,7,7,7,7,7,7,7,7,7,7,7,8,8,8,8,8,8,8,8,8,8,8,8,8,8,8,8,8,8,8,8,8,8,8,8,8,8,8,8,8,8,8,8,8,8,8,8,8,8,8,8,8,8,8,8,8,8,8,8,8,8,8,8,8,8,8,8,8,8,8,8,8,8,8,8,8,8,8,8,8,8,8,8,8,8,8,8,8,8,8,8,8,8,8,8,8,8,8,8,8,8,8,8,8,8,8,8,8,8,8,8,8,8,8,8,8,8,8,8,8,8,8,8,8,8,8,8,8,8,8,8,8,8,8,8,8,8,8,8]:List UInt8)[k]?=some b:=⟨_,List.getElem?_eq_getElem (Nat.lt_of_lt_of_eq hk (by kernel_rfl))⟩
theorem zy7 (x:Int) (h0:0≤x) (h1:x<256):∃ m:Int,∀ (h:Heap) (K:Post),z0c X zaE [AU x] h K=K (AI m) h []:=by
 obtain⟨b,hb⟩:=zzA x.toNat (by omega)
 refine⟨IntKind.i64.wrap (0+IntKind.i64.wrap b.toNat),fun h K=>?_⟩
 have w:IntKind.u8.wrap x=x:=by simp [IntKind.wrap,IntKind.bits,IntKind.signed];omega
 have b1:¬ (4294967296≤x):=by omega
 have b2:¬ (65536≤x):=by omega
 have b3:¬ (256≤x):=by omega
 have hn:=z6c (k:=.u8) h0
 have key:∀ (h:Heap) (K:Post),z0c X zaF [AU x] h K=K (AI (IntKind.i64.wrap (0+IntKind.i64.wrap b.toNat))) h []:=by
  intro h K
  refine rule ?_
  rw[c_q01y rfl]
  simp only[zhc,go_sem,b1,b2,b3,w,hn,hb]
 refine rule ?_
 rw[c_q01w rfl]
 simp only[zmE,go_sem,key]
end Go.Am
end
section
/- Lists of strings sorted,left out: printed by program. -/
open Go
set_option linter.unusedSimpArgs false
namespace Go.Am
attribute [-go_sem] PV.cells splice
variable {h:Heap} {K:Post}
end Go.Am
end
section
/- What is drawn: numbers,measured values. -/
open Go
namespace Go.Am
variable {L:List Int} {a:Int}
theorem zyt (hp:posN 14 a) (u v:Int) (huv:u≤v) (hu : -1000000000000≤u) (hv:v≤1000000000000):∃ k a2:Int,a≤a2∧a2≤a+2 ∧ -1099511627776≤k∧k≤1099511627776 ∧
 Gen z2N [AI u,AI v] L a a2 (AI k):=by
 have w1:IntKind.i64.wrap (u-1)=u-1:=z0l _ (by omega) (by omega)
 have w2:IntKind.i64.wrap (v+1)=v+1:=z0l _ (by omega) (by omega)
 by_cases hf:z1A L a 12=0
 ·have hm:=z9Q (L:=L) (a:=a+1) (l:=[u-1,v+1,u,v,-1099511627776,1099511627776]) (by simp) (by simp)
  simp only[List.mem_cons,List.not_mem_nil,or_false] at hm
  refine⟨z4W [u-1,v+1,u,v,-1099511627776,1099511627776] L (a+1),a+1+1,by omega,by omega,by omega,by omega,Gen.of fun h id hid=>?_⟩
  rw[zgS rfl]
  simp only[za5,go_sem,hid,z6E hp,hf,w1,w2]
 ·have hm:=z2o L (a+1) huv (by omega)
  refine⟨z1f u v L (a+1),a+1+1,by omega,by omega,by omega,by omega,Gen.of fun h id hid=>?_⟩
  rw[zgS rfl]
  simp only[za5,go_sem,hid,z6E hp,hf,w1,w2,huv,show -1152921504606846976≤u by omega,show v≤1152921504606846976 by omega]
end Go.Am
end
section
/- Strings that are drawn. -/
open Go
set_option linter.unusedSimpArgs false
namespace Go.Am
variable {L:List Int} {a:Int} {h l:Heap} {id:Nat} {K:Post}
def isS:PV→Bool
 | .str _=>true
 | _=>false
def unS:PV→List UInt8
 | .str s=>s
 | _=>[]
def z1B (l:List (List UInt8)) (L:List Int) (a:Int):List UInt8:=l.getD (z1A L a l.length).toNat []
theorem z42 {l:List (List UInt8)} {L:List Int} {a:Int} (hl:0<l.length) (hl2:l.length<4611686018427387904):z1B l L a∈l:=by
 obtain⟨b1,b2⟩:=z6d L a l.length (by omega) (by omega)
 unfold z1B
 have:(z1A L a l.length).toNat<l.length:=by omega
 simp only[List.getD,List.getElem?_eq_getElem this,Option.getD_some]
 exact List.getElem_mem _
theorem zzL {xs:List PV} (h:xs.all isS=true):xs=(xs.map unS).map PV.str:=by
 induction xs with
 | nil=>rfl
 | cons x r ih=>
  simp only[List.all_cons,Bool.and_eq_true] at h
  simp only[List.map_cons]
  rw[← ih h.2]
  cases x <;> first | rfl | cases h.1
theorem zpg (hp:posN 0 a) (xs:List PV) (hx:xs.all isS=true) (hl:0<xs.length) (hl2:xs.length<4611686018427387904) :
 Gen z1p [.p (.sl none xs)] L a (a+1) (AS (z1B (xs.map unS) L a)):=by
 refine Gen.of fun h id hid=>?_
 rw[c_q02o rfl]
 obtain⟨b1,b2⟩:=z6d L a xs.length (by omega) (by omega)
 have e4:=z6c (k:=.i64) b1
 have e5:xs[(z1A L a xs.length).toNat]?=some (.str (z1B (xs.map unS) L a)):=by
  have hm:=zzL hx
  generalize hq:xs.map unS=q at *
  subst hm
  simp only[List.length_map] at *
  rw[z0K PV.str (show (z1A L a q.length).toNat<q.length by omega)]
  simp [z1B,List.getD,show (z1A L a q.length).toNat<q.length by omega]
 simp only[zmJ,go_sem,z2e hid hp,e4,e5]
theorem zbz (hid:id<h.length) (hp:posN 0 a) {xs:List PV} (hx:xs.all isS=true) (hl:0<xs.length) (hl2:xs.length<4611686018427387904) :
 z0c X z1p [.ref id 0,.p (.sl none xs)] (h.set id (strm L a)) K=K (AS (z1B (xs.map unS) L a)) (h.set id (strm L (a+1))) []:=(zpg hp xs hx hl hl2).set hid
theorem zby (hid:id<h.length) (hp:posN 0 a) {xs:List PV} (hx:xs.all isS=true) (hl:0<xs.length) (hl2:xs.length<4611686018427387904) :
 z0c X z1p [.ref id 0,.p (.sl none xs)] (h.set id (strm L a)++l) K=K (AS (z1B (xs.map unS) L a)) (h.set id (strm L (a+1))++l) []:=(zpg hp xs hx hl hl2).app hid
theorem zfb (hp:posN 0 a) {xs:List PV} (hx:xs.all isS=true) (hl:0<xs.length) (hl2:xs.length<4611686018427387904) :
 z0c X z1p [.ref 0 0,.p (.sl none xs)] (strm L a::l) K=K (AS (z1B (xs.map unS) L a)) (strm L (a+1)::l) []:=(zpg hp xs hx hl hl2).hd
attribute [go_sem ↓] zbz zby zfb
attribute [go_sem] zbz zby zfb isS unS
end Go.Am
end
section
/- What is drawn: strings,limits. -/
open Go
set_option linter.unusedSimpArgs false
namespace Go.Am
variable {L:List Int} {a:Int} {h l:Heap} {id:Nat} {K:Post}
end Go.Am
end
section
/- Sorting records: printed by program. -/
open Go
set_option linter.unusedSimpArgs false
namespace Go.Am
attribute [-go_sem] PV.cells splice
variable {h:Heap} {K:Post}
end Go.Am
end
section
/- Leaving out what is alike: printed by program. -/
open Go
set_option linter.unusedSimpArgs false
namespace Go.Am
attribute [-go_sem] PV.cells splice
variable {h:Heap} {K:Post}
end Go.Am
end
section
/- What is drawn: records. -/
open Go
set_option linter.unusedSimpArgs false
namespace Go.Am
variable {L:List Int} {a:Int} {h l:Heap} {id:Nat} {K:Post}
theorem zdh {b:Nat} {x:Esc} (hx:∀ y∈x,b≤y.1):∀ k,close k x b=b:=by
 have hb:bump x b=b:=by
  unfold bump
  induction x with
  | nil=>rfl
  | cons y r ih=>
   simp only[List.foldl_cons]
   rw[if_neg (by have:=hx y (by simp);omega)]
   exact ih (fun z hz=>hx z (by simp [hz]))
 intro k
 induction k with
 | zero=>rfl
 | succ k ih=>unfold close;rw[hb,ih]
theorem z4A {b:Nat} {x0 x:Esc} {e:List (Nat × AV)} {h:Heap} (hx:∀ y∈x,b≤y.1):z5t b x0 ⟨e,h,x⟩=⟨z83 b e,h.take b,x0⟩:=by
 unfold z5t
 simp only[zdh hx]
 have hc:z0I x b=true:=by
  unfold z0I
  rw[List.all_eq_true]
  intro y hy
  simp [hx y hy]
 have hf:x.filter (fun y=>decide (y.1<b))=[]:=by
  rw[List.filter_eq_nil_iff]
  intro y hy
  have:=hx y hy
  simp;omega
 rw[if_pos hc,hf,List.nil_append]
theorem zsL {b i t:Nat} {x0:Esc} {e:List (Nat × AV)} {h:Heap} (hi:i<b):z5t b x0 ⟨e,h,[(i,t)]⟩=⟨z83 (max b t) e,h.take (max b t),(i,t)::x0⟩:=by
 unfold z5t
 have hb:close [(i,t)].length [(i,t)] b=max b t:=by simp [close,bump,hi]
 simp only[hb]
 have hc:z0I [(i,t)] (max b t)=true:=by simp [z0I];omega
 have hf:[(i,t)].filter (fun y=>decide (y.1<max b t))=[(i,t)]:=by simp;omega
 rw[if_pos hc,hf];rfl
end Go.Am
end
section
/- Merging two ordered lists: by sorting and leaving out what is alike,and by looking each one up. Plain lists. -/
namespace Go.Am
variable {α:Type}
structure Ordr (c:α→α→Int):Prop where
 neg:∀ a b,c b a = - c a b
 trans:∀ a b d,c a b≤0→c b d≤0→c a d≤0
theorem Ordr.refl {c:α→α→Int} (o:Ordr c) (a:α):c a a=0:=by have:=o.neg a a;omega
def ltO (c:α→α→Int) (a b:α):Bool:=decide (c a b<0)
theorem Ordr.weak {c:α→α→Int} (o:Ordr c):Weak (ltO c):=by
 refine⟨fun a b h=>?_,fun a b d h1 h2=>?_⟩
 ·simp only[ltO,decide_eq_true_eq,decide_eq_false_iff_not] at h ⊢
  have:=o.neg a b;omega
 ·simp only[ltO,decide_eq_false_iff_not] at h1 h2 ⊢
  have q1:=o.neg a b
  have q2:=o.neg b d
  have q3:=o.trans a b d (by omega) (by omega)
  have q4:=o.neg a d
  omega
def zln (c:α→α→Int) (l:List α):Prop:=l.Pairwise fun x y=>c x y<0
theorem zb3 {c:α→α→Int} (o:Ordr c):∀ {l m:List α},zln c l→zln c m→(∀ x,x∈l↔x∈m)→l=m
 | [],[],_,_,_=>rfl
 | [],y::m,_,_,h=>absurd ((h y).2 (by simp)) (by simp)
 | x::l,[],_,_,h=>absurd ((h x).1 (by simp)) (by simp)
 | x::l,y::m,h1,h2,h=>by
  have a1:=List.pairwise_cons.1 h1
  have a2:=List.pairwise_cons.1 h2
  have e:x=y:=by
   rcases List.mem_cons.1 ((h x).1 (by simp)) with e | e
   ·exact e
   ·rcases List.mem_cons.1 ((h y).2 (by simp)) with e' | e'
    ·exact e'.symm
    ·have b1:=a2.1 x e
     have b2:=a1.1 y e'
     have:=o.neg x y
     omega
  subst e
  rw[zb3 o a1.2 a2.2 fun z=>?_]
  constructor
  ·intro hz
   rcases List.mem_cons.1 ((h z).1 (by simp [hz])) with e | e
   ·subst e;have:=a1.1 z hz;have:=o.refl z;omega
   ·exact e
  ·intro hz
   rcases List.mem_cons.1 ((h z).2 (by simp [hz])) with e | e
   ·subst e;have:=a2.1 z hz;have:=o.refl z;omega
   ·exact e
variable {c:α→α→Int} {q:α→α→Bool} {a b:List α}
theorem z78 (o:Ordr c) {l:List α} (hl:l.Pairwise fun x y=>c x y≠0):zln c (z1K (ltO c) l):=by
 have h1:=zeC o.weak l
 have h2:(z1K (ltO c) l).Pairwise fun x y=>c x y≠0:=((z7c (ltO c) l).pairwise_iff (fun {x y} h=>by have:=o.neg x y;omega)).2 hl
 refine (h1.and h2).imp fun {x y} h=>?_
 have:=h.1
 simp only[ltO,decide_eq_false_iff_not] at this
 have h3:=o.neg x y
 have:=h.2
 omega
end Go.Am
end
section
/- Records alike;copies;bins. -/
open Go
set_option linter.unusedSimpArgs false
namespace Go.Am
variable {h:Heap} {K:Post}
def zzr (a b:Rec):Bool:=decide (a.unit=b.unit)&&(decide (a.time=b.time)&&(decide (a.site=b.site)&&decide (a.res=b.res)))
theorem zsz (a b:Rec):zzr a b=true↔a=b:=by
 cases a;cases b
 simp [zzr]
theorem z7P {b:Nat} {P:Post} {vs:List AV} {h:Heap} {x:Esc} (hx:∀ y∈x,b≤y.1) {v:AV} (h1:reif b h (z0C vs)=some v) (h2:v.top≤b):retK false b P (some vs) h x=P v (h.take b) []:=by
 have e:max b v.top=b:=by omega
 have c:z0I x b=true:=by
  unfold z0I
  rw[List.all_eq_true]
  intro y hy
  simp [hx y hy]
 have f:x.filter (fun y=>decide (y.1<b))=[]:=by
  rw[List.filter_eq_nil_iff]
  intro y hy
  have:=hx y hy
  simp;omega
 simp only[retK,h1,e,zdh hx,c,if_true,f]
 exact propext ⟨fun h=>h.2,fun h=>⟨h2,h⟩⟩
theorem zzk (l:List Int) (hl:l.length≤1000):z0c X z9d [AL l] h K=K (AI (orL l)) h []:=by
 refine rule ?_
 rw[c_q001 rfl]
 simp only[zha,go_sem]
 refine z08 (fun k:Nat=>⟨[(5,AL l),(6,AI l.length),(7,AI k)],h,[]⟩) (fun k=>k≤l.length∧orL (l.drop k)=orL l) (fun k=>l.length-k) 0 rfl ⟨by omega,rfl⟩ ?_
 rintro k ⟨hk,hp⟩
 rcases Nat.lt_or_ge k l.length with hlt | hge
 ·have g2:=z0K eI hlt
  have w2:IntKind.i64.wrap ((k:Int)+1)=((k+1:Nat):Int):=z0l _ (by omega) (by omega)
  rw[List.drop_eq_getElem_cons hlt,orL] at hp
  by_cases hz:l[k]=0
  ·rw[if_neg (by simp [hz])] at hp
   simp only[go_sem,hlt,g2,hz,w2]
   exact⟨k+1,rfl,⟨by omega,hp⟩,by omega⟩
  ·rw[if_pos hz] at hp
   simp only[go_sem,hlt,g2,hz]
   rw[hp]
 ·have ek:k=l.length:=by omega
  subst ek
  rw[List.drop_length] at hp
  simp only[go_sem,Nat.lt_irrefl]
  rw[← hp];rfl
end Go.Am
end
section
/- Sorting numbers: printed by program. -/
open Go
set_option linter.unusedSimpArgs false
namespace Go.Am
attribute [-go_sem] PV.cells splice
variable {h:Heap} {K:Post}
end Go.Am
end
section
/- Bins,both ways;lists joined;records sorted. -/
open Go
set_option linter.unusedSimpArgs false
namespace Go.Am
variable {h:Heap} {K:Post}
end Go.Am
end
section
/- Lists of records joined,compared,merged. -/
open Go
set_option linter.unusedSimpArgs false
namespace Go.Am
variable {h:Heap} {K:Post}
instance:DecidableEq Rec:=fun a b=>decidable_of_iff (zzr a b=true) (zsz a b)
end Go.Am
end
section
/- Records merged asv the reference does it. -/
open Go
set_option linter.unusedSimpArgs false
namespace Go.Am
variable {h:Heap} {K:Post}
end Go.Am
end
section
/- Retests: which record of a unit counts. Plain lists;both ways yield the same. -/
set_option linter.all false
namespace Go.Am
end Go.Am
end
section
/- Lists of strings. -/
open Go
set_option linter.all false
namespace Go.Am
variable {h:Heap} {K:Post}
theorem X_ex2:X.ex2=X.ex2:=rfl
abbrev AStr (us:List (List UInt8)):AV:=.p (.sl none (us.map PV.str))
theorem zi2 {us:List (List UInt8)}:shps none (us.map PV.str):=fun x hx=>by obtain⟨n,_,rfl⟩:=List.mem_map.1 hx;rfl
def zvs:PV→List UInt8
 | .str s=>s
 | _=>[]
end Go.Am
end
section
/- The abstract machine,part L4: strings.Repeat,strings.Trim,math/bits.TrailingZeros64 asv rows. -/
set_option linter.all false
namespace Go.Am
variable {P:Program} {gl:Nat→Option PV}
open Go.Shelf
theorem zmi {w w':World} (h:Go.RowKit.Below w.heap.size w w'):WExt w w':=⟨h.size,fun b hb=>h.block b hb,by unfold zed;rw[h.os,h.tape,h.output]⟩
theorem zu0 (s cs:List UInt8):Go.Lib.trimS s cs=trimL s cs:=rfl
theorem trimRow {ρ:Ren} (L:Go.Proofs.Lays.n160 P ρ) (h116:(P.info? (ρ.t 116)).map (fun i=>(i.zero,i.size))=some (some (.agg (Array.replicate 256 (.bool false))),256)) (he:∀ us w,(callFunc (ρ.f 160) us).run P w = .ok (.enter (ρ.f 160) us) w):PureRow P gl (ρ.f 160) trimS where
 enter:=he
 run M w vs r us hc hb hG hl hr hs:=by
  unfold trimS at hs
  split at hs
  ·rename_i s cs
   split at hs
   ·rename_i hbd
    match us,hl with
    | [u,v],_=>
     have q:=hr 0 _ u rfl rfl
     cases q
     have q2:=hr 1 _ v rfl rfl
     cases q2
     simp only[Option.some.injEq] at hs
     subst hs
     have hsz:∀ l:List UInt8,(⟨l.toArray⟩:ByteArray).size=l.length:=fun l=>by simp [ByteArray.size]
     refine (Go.Proofs.Any.strings_Trim_laid L h116 ⟨s.toArray⟩ ⟨cs.toArray⟩ w (by rw[hsz];omega) (by rw[hsz];omega) (Go.Proofs.ascii_of_all hbd.2.2)).mono fun e w' h=>?_
     obtain⟨rfl,h⟩:=h
     exact⟨_,rfl,zmi h,by rw[← zu0];exact .p _ _ (.str _)⟩
   ·cases hs
  ·cases hs
end Go.Am
end
section
/- The abstract machine,part L5: strings.Count at one byte,strings.Join asv rows. -/
set_option linter.all false
namespace Go.Am
variable {P:Program} {gl:Nat→Option PV}
open Go.Shelf
end Go.Am
end
section
/- Texts split at a byte. -/
open Go
set_option linter.all false
namespace Go.Am
variable {h:Heap} {K:Post}
end Go.Am
end
section
/- Lines of a text. -/
open Go
set_option linter.all false
namespace Go.Am
variable {h:Heap} {K:Post}
end Go.Am
end
section
/- Numbers read. -/
open Go
set_option linter.all false
namespace Go.Am
variable {h:Heap} {K:Post}
end Go.Am
end
section
/- Several numbers read. -/
open Go
set_option linter.all false
namespace Go.Am
variable {h:Heap} {K:Post}
end Go.Am
end
section
/- Numbers read,the reference's way. -/
open Go
set_option linter.all false
namespace Go.Am
variable {h:Heap} {K:Post}
theorem zsr (n:Int) (h1 : -1000000000000000000≤n) (h2:n≤1000000000000000000):z0c X z70 [AI n] h K=K (AS (itoa n)) h []:=by
 refine zbZ (X:=X) (by kernel_rfl) ?_
 rw[X_ex2]
 show libF GRL PRL z70 [AI n] h=some (AS (itoa n),h,[])
 exact zqa (vs:=[.int .i64 n]) (by kernel_rfl) (s:=zjx) (by kernel_rfl) rfl (by
  unfold zjx
  have a1:decide (-9223372036854775808≤n)=true:=by simp;omega
  have a2:decide (n≤9223372036854775807)=true:=by simp;omega
  show (bif decide (-9223372036854775808≤n)&&decide (n≤9223372036854775807) then some (AV.p (PV.str (itoa n))) else none)=_
  rw[a1,a2]
  rfl)
end Go.Am
end
section
/- Tests and faults: what is wrong with them,both ways. -/
open Go
set_option linter.all false
namespace Go.Am
variable {h:Heap} {K:Post}
end Go.Am
end
section
/- Faults: what is wrong with them,both ways. -/
open Go
set_option linter.all false
namespace Go.Am
variable {h:Heap} {K:Post}
def Flt.pv (f:Flt):PV:=.agg [eI f.kind,.sl none (f.nets.map eI)]
end Go.Am
end
section
/- Where a string stands among strings;words. -/
open Go
set_option linter.all false
namespace Go.Am
variable {h:Heap} {K:Post}
theorem zv2 {v:AV} (l:List (List UInt8)) (hv:Shows none v (l.map PV.str) h) (x:List UInt8) (hl:l.length≤1000000):z0c X z5O [v,AS x] h K=K (AI (if l.findIdx (fun y=>decide (y=x))<l.length then (l.findIdx (fun y=>decide (y=x)):Int) else -1)) h []:=by
 refine rule ?_
 rw[c_q049]
 have vl:=hv.len
 rw[List.length_map] at vl
 simp only[zhn,go_sem,vl]
 refine z08 (fun k:Nat=>⟨[(0,v),(1,AS x),(7,AI l.length),(8,AI k)],h,[]⟩) (fun k=>k≤l.length∧∀ y∈l.take k,decide (y=x)=false) (fun k=>l.length-k) 0 rfl (by simp) ?_
 rintro k ⟨hk,hn⟩
 rcases Nat.lt_or_ge k l.length with hlt | hge
 ·obtain⟨a,ha,hb⟩:=hv.get k (by simpa using hlt)
  rw[List.getElem_map] at hb
  have w2:IntKind.i64.wrap ((k:Int)+1)=((k+1:Nat):Int):=z0l _ (by omega) (by omega)
  by_cases hpk:x=l[k]
  ·have hf:l.findIdx (fun y=>decide (y=x))=k:=by
    rw[List.findIdx_eq hlt]
    refine⟨by simp [hpk],fun j hj=>?_⟩
    have:=hn l[j] (by rw[List.mem_take_iff_getElem];exact⟨j,by omega,rfl⟩)
    simpa using this
   simp only[go_sem,hlt,ha,hb,hpk.symm,w2]
   simp only[hf,hlt,if_true]
  ·simp only[go_sem,hlt,ha,hb,hpk,w2]
   refine⟨k+1,rfl,⟨by omega,fun y hy=>?_⟩,by omega⟩
   rw[List.take_succ_eq_append_getElem hlt,List.mem_append,List.mem_singleton] at hy
   rcases hy with hy | hy
   ·exact hn y hy
   ·rw[hy];simp;exact fun e=>hpk e.symm
 ·have e1:k=l.length:=by omega
  subst e1
  simp only[go_sem,Nat.lt_irrefl]
  rw[List.take_length] at hn
  have:¬ l.findIdx (fun y=>decide (y=x))<l.length:=by
   rw[Nat.not_lt,Nat.le_iff_lt_or_eq];right
   exact (List.findIdx_eq_length.2 (fun y hy=>by simp [hn y hy])).symm
  rw[if_neg this]
theorem z7W {v:AV} (l:List (List UInt8)) (hv:∀ h':Heap,h'=h→Shows none v (l.map PV.str) h') (x:List UInt8) (hl:l.length≤1000000):z0c X z3M [v,AS x] h K=K (AB (l.contains x)) h []:=by
 refine rule ?_
 rw[c_q03y]
 have e:=fun K=>zv2 (h:=h) (K:=K) l (hv h rfl) x hl
 have hd:decide (0≤(if l.findIdx (fun y=>decide (y=x))<l.length then (l.findIdx (fun y=>decide (y=x)):Int) else -1))=l.contains x:=by
  rw[Bool.eq_iff_iff,decide_eq_true_eq,List.contains_iff_mem]
  constructor
  ·intro hq
   split at hq
   ·rename_i hlt
    have:=List.findIdx_getElem (w:=hlt)
    simp only[decide_eq_true_eq] at this
    exact this ▸ List.getElem_mem hlt
   ·omega
  ·intro hm
   rw[if_pos (List.findIdx_lt_length_of_exists ⟨x,hm,by simp⟩)];omega
 simp only[zmP,go_sem,e,hd]
theorem strS (ws:List (List UInt8)) {h:Heap}:Shows none (AStr ws) (ws.map PV.str) h:=zco zi2
end Go.Am
end
section
/- Numbers written,joined. -/
open Go
set_option linter.all false
namespace Go.Am
variable {h:Heap} {K:Post}
end Go.Am
end
section
/- A builder of strings. -/
open Go
set_option linter.all false
namespace Go.Am
variable {h:Heap} {K:Post}
theorem zsa {b:Nat}:reif b h .nili=some .nili:=by simp only[reif]
attribute [local go_sem] zsa
theorem set_id {o:Obj} {id:Nat} (hh:h[id]?=some o):h.set id o=h:=by
 apply List.ext_getElem?
 intro j
 by_cases e:id=j
 ·subst e;rw[List.getElem?_set_self (z71 hh),hh]
 ·rw[List.getElem?_set_ne e]
end Go.Am
end
section
/- Numbers asv sets of bits;rows of a test asv numbers. -/
set_option linter.all false
namespace Go.Am
end Go.Am
end
section
/- Lists of faults: what is wrong with them,both ways. -/
open Go
set_option linter.all false
namespace Go.Am
variable {h:Heap} {K:Post}
end Go.Am
end
section
/- Rows of a test asv numbers. -/
open Go
set_option linter.all false
namespace Go.Am
variable {h:Heap} {K:Post}
end Go.Am
end
section
/- Faults on rows: what the program makes of them. -/
open Go
set_option linter.all false
namespace Go.Am
variable {h:Heap} {K:Post}
end Go.Am
end
section
/- Rows that are handed tov a function: it sees their values. -/
open Go
namespace Go.Am
end Go.Am
end
section
/- Responses,asv the program computes them. -/
open Go
set_option linter.all false
namespace Go.Am
variable {h:Heap} {K:Post}
end Go.Am
end
section
/- Faults written. -/
open Go
set_option linter.all false
namespace Go.Am
variable {h:Heap} {K:Post}
end Go.Am
end
section
/- Sorting the middle of a row: printed by program. -/
open Go
set_option linter.unusedSimpArgs false
namespace Go.Am
attribute [-go_sem] PV.cells splice
variable {h:Heap} {K:Post}
end Go.Am
end
section
/- What is drawn: orders,tests. -/
open Go
set_option linter.all false
namespace Go.Am
variable {L:List Int} {a:Int} {h l:Heap} {id:Nat} {K:Post}
def GenK (f:Nat) (args:List AV) (L:List Int) (a:Int) (sh:Sh) (Q:List PV→Int→Prop):Prop:=∀ (h:Heap) (id:Nat),h[id]?=some (strm L a)→∃ xs a2,Q xs a2∧∀ K:Post,z0c X f (.ref id 0::args) h K=K (.own h.length xs.length 0 xs.length) (h.set id (strm L a2)++[.row sh xs 0]) []
theorem GenK.of {f:Nat} {args:List AV} {L:List Int} {a:Int} {sh:Sh} {Q:List PV→Int→Prop} (H:∀ (h:Heap) (id:Nat),id<h.length→z0c X f (.ref id 0::args) (h.set id (strm L a)) fun v1 h1 x1=>∃ xs a2,Q xs a2∧v1 = .own h.length xs.length 0 xs.length∧h1=h.set id (strm L a2)++[.row sh xs 0]∧x1=[]):GenK f args L a sh Q:=by
 intro h id hh
 have hid:=z71 hh
 have k:=H h id hid
 rw[zcn hh] at k
 obtain⟨v,h',x,⟨xs,a2,q,e0,e1,e2⟩,r⟩:=z0c.one zgs k
 subst e0;subst e1;subst e2
 exact⟨xs,a2,q,r⟩
end Go.Am
end
section
/- A text changed at random. -/
open Go
set_option linter.all false
namespace Go.Am
variable {L:List Int} {a:Int} {h l:Heap} {id:Nat} {K:Post}
end Go.Am
end
section
/- Entries written. -/
open Go
set_option linter.all false
set_option maxRecDepth 100000
namespace Go.Am
variable {h:Heap} {K:Post}
theorem z7u:∀ {rs:List Ent} {p:Option Ent},z0E p rs=0→∀ r∈rs,entF r=0
 | [],p,_,r,hr=>by cases hr
 | x::rs,p,hf,r,hr=>by
  have e:z0E p (x::rs)=(if entF x≠0 then entF x else if (p.elim false fun q=>decide (z1b x q≤0))=true then 7 else z0E (some x) rs):=by cases p <;> rfl
  have hf':=hf
  rw[e] at hf'
  by_cases h1:entF x=0
  ·rw[if_neg (by simp [h1])] at hf'
   by_cases h2:(p.elim false fun q=>decide (z1b x q≤0))=true
   ·rw[if_pos h2] at hf';exact absurd hf' (by decide)
   ·rw[if_neg h2] at hf'
    rcases List.mem_cons.1 hr with e | e
    ·rw[e];exact h1
    ·exact z7u hf' r e
  ·rw[if_pos h1] at hf';exact absurd hf' h1
theorem zoF {rs:List Ent} (hf:z3X rs=0):∀ r∈rs,entF r=0:=by
 unfold z3X at hf
 split at hf
 ·cases hf
 split at hf
 ·rename_i h;exact absurd hf h
 ·rename_i h
  exact z7u (by simpa using h)
end Go.Am
end
section
/- A text taken line by line: base.Each,scanref2.Lines. -/
open Go
set_option linter.all false
namespace Go.Am
variable {h:Heap} {K:Post}
end Go.Am
end
section
/- Faults read. -/
open Go
set_option linter.all false
namespace Go.Am
variable {h:Heap} {K:Post}
end Go.Am
end
section
/- Lists of faults read. -/
open Go
set_option linter.all false
namespace Go.Am
variable {h:Heap} {K:Post}
end Go.Am
end
section
/- fault.Read,scanref2.FaultsRead. -/
open Go
set_option linter.all false
namespace Go.Am
variable {h:Heap} {K:Post}
end Go.Am
end
section
/- What is drawn: faults. -/
open Go
set_option linter.all false
namespace Go.Am
variable {L:List Int} {a:Int} {h l:Heap} {id:Nat} {K:Post}
end Go.Am
end
section
/- Deleting faults: printed by program. -/
open Go
set_option linter.unusedSimpArgs false
namespace Go.Am
attribute [-go_sem] PV.cells splice
variable {h:Heap} {K:Post}
attribute [-go_sem] AV.cells cut
attribute [go_sem] AV.cells cut
end Go.Am
end
section
/- What is drawn: lists of faults. -/
open Go
set_option linter.all false
namespace Go.Am
variable {L:List Int} {a:Int} {h l:Heap} {id:Nat} {K:Post}
end Go.Am
end
section
/- Stable sorts of numbers: printed by program. -/
open Go
set_option linter.unusedSimpArgs false
namespace Go.Am
attribute [-go_sem] PV.cells splice
variable {h:Heap} {K:Post}
end Go.Am
end
section
/- Faults compared;texts of faults drawn. -/
open Go
set_option linter.all false
namespace Go.Am
variable {L:List Int} {a:Int} {h:Heap} {K:Post}
end Go.Am
end
section
/- Entries written,the reference;kinds read. -/
open Go
set_option linter.all false
set_option maxRecDepth 100000
namespace Go.Am
variable {h:Heap} {K:Post}
end Go.Am
end
section
/- A line of an entry read: the program. -/
open Go
set_option linter.all false
set_option maxRecDepth 100000
namespace Go.Am
variable {h:Heap} {K:Post}
end Go.Am
end
section
/- A line of an entry read: the reference. -/
open Go
set_option linter.all false
set_option maxRecDepth 100000
namespace Go.Am
variable {h:Heap} {K:Post}
end Go.Am
end
section
/- Records asv texts,plainly: read both ways. -/
set_option linter.all false
namespace Go.Am
end Go.Am
end
section
/- Records read: a line,both ways. -/
open Go
set_option linter.all false
set_option maxRecDepth 100000
namespace Go.Am
variable {h:Heap} {K:Post}
end Go.Am
end
section
/- Records read: the program's line. -/
open Go
set_option linter.all false
set_option maxRecDepth 100000
namespace Go.Am
variable {h:Heap} {K:Post}
end Go.Am
end
section
/- Records read: all lines. -/
open Go
set_option linter.all false
set_option maxRecDepth 100000
namespace Go.Am
variable {h:Heap} {K:Post}
end Go.Am
end
section
/- lot.Read,scanref2.RecordsRead. -/
open Go
set_option linter.all false
set_option maxRecDepth 100000
namespace Go.Am
variable {h:Heap} {K:Post}
end Go.Am
end
section
/- scanref2.RecordsRead. -/
open Go
set_option linter.all false
set_option maxRecDepth 100000
namespace Go.Am
variable {h:Heap} {K:Post}
end Go.Am
end
section
/- Entries read,both ways. -/
open Go
set_option linter.all false
set_option maxRecDepth 100000
namespace Go.Am
variable {h:Heap} {K:Post}
end Go.Am
end
section
/- Entries drawn: their pieces. -/
open Go
set_option linter.all false
set_option maxRecDepth 100000
namespace Go.Am
variable {L:List Int} {a:Int} {h l:Heap} {id:Nat} {K:Post}
attribute [-go_sem] oEqa
def brdN:List (List UInt8):=[[],[65],[98,49],[98,50],[98,51],[98,52]]
structure EntV (x:Ent):Prop where
 s:x.site.length≤1000
 b:x.board.length≤1000
 p:x.step.length≤1000
 o:x.of.length≤1000
 n : -100000000000000000≤x.no∧x.no≤100000000000000000
 t : -100000000000000000≤x.time∧x.time≤100000000000000000
 z:x.site≠[122,122]∧(x.time≤1000∨345686399999<x.time)
 w:x.board∈brdN
theorem g_OddZ (hp:posN 14 a) (u v:Int) (huv:u≤v) (hu : -1000000000000≤u) (hv:v≤1000000000000):∃ k a2:Int,a≤a2∧a2≤a+2 ∧ -1099511627776≤k∧k≤1099511627776∧(k≤v+1∨k=1099511627776) ∧
 Gen z2N [AI u,AI v] L a a2 (AI k):=by
 have w1:IntKind.i64.wrap (u-1)=u-1:=z0l _ (by omega) (by omega)
 have w2:IntKind.i64.wrap (v+1)=v+1:=z0l _ (by omega) (by omega)
 by_cases hf:z1A L a 12=0
 ·have hm:=z9Q (L:=L) (a:=a+1) (l:=[u-1,v+1,u,v,-1099511627776,1099511627776]) (by simp) (by simp)
  simp only[List.mem_cons,List.not_mem_nil,or_false] at hm
  refine⟨z4W [u-1,v+1,u,v,-1099511627776,1099511627776] L (a+1),a+1+1,by omega,by omega,by omega,by omega,by omega,Gen.of fun h id hid=>?_⟩
  rw[zgS rfl]
  simp only[za5,go_sem,hid,z6E hp,hf,w1,w2]
 ·have hm:=z2o L (a+1) huv (by omega)
  refine⟨z1f u v L (a+1),a+1+1,by omega,by omega,by omega,by omega,by omega,Gen.of fun h id hid=>?_⟩
  rw[zgS rfl]
  simp only[za5,go_sem,hid,z6E hp,hf,w1,w2,huv,show -1152921504606846976≤u by omega,show v≤1152921504606846976 by omega]
theorem EntV.ok {x:Ent} (v:EntV x):EntOk x:=⟨by have:=v.s;omega,by have:=v.b;omega,by have:=v.p;omega,by have:=v.o;omega⟩
theorem zcj (a b:Ent) (ha:EntV a) (hb:EntV b):z0c X z5e [.p a.pv,.p b.pv] h K=K (AI (z1b a b)) h []:=by
 refine rule ?_
 rw[zwe rfl]
 have a1:=ha.t
 have a2:=hb.t
 have a3:=ha.n
 have a4:=hb.n
 have w:IntKind.i64.wrap (a.time-b.time)=a.time-b.time:=z0l _ (by omega) (by omega)
 have w2:IntKind.i64.wrap (a.no-b.no)=a.no-b.no:=z0l _ (by omega) (by omega)
 unfold z1b
 by_cases he:a.time=b.time
 ·have:cmp3 a.time b.time=0:=by rw[he];unfold cmp3;simp
  rw[if_neg (by simp [this])]
  by_cases hs:a.site=b.site
  ·have hc:cmpL a.site b.site=0:=by rw[hs];exact z5A _
   rw[if_neg (by simp [hc]),z59]
   simp only[z7r,Ent.pv,go_sem,he,hs,w2,zit]
  ·have hc:cmpL a.site b.site≠0:=fun e=>hs (z30 e)
   rw[if_pos hc]
   simp only[z7r,Ent.pv,go_sem,he,hs,z2D]
 ·have hc:cmp3 a.time b.time≠0:=by unfold cmp3;split <;> (try split) <;> omega
  rw[if_pos hc]
  rw[z59]
  simp only[z7r,Ent.pv,go_sem,he,w,zit]
theorem z18 {l:List (List UInt8)} (hl:0<l.length) (hl2:l.length<100) (m:Nat) (h:∀ s∈l,s.length≤m):(z1B l L a).length≤m:=h _ (z42 hl (by omega))
set_option maxHeartbeats 4000000 in
theorem zoC (hid:id<h.length) (hp:posN 60 a) (es:List Ent) (hes:es.length≤1000) (x:Ent) (hx:EntV x) (M:Obj) (v6 v11 v12:AV) (K:Ex→St→Prop)
 (hK:∀ (x':Ent) (a':Int) (J:Heap),EntV x'→a≤a'→a'≤a+10 →
  K .normal ⟨[(0,.ref id 0),(5,.own h.length (es.length+1) 0 (es.length+1)),(6,v6),(7,.mp (h.length+1)),(11,v11),(12,v12)],h.set id (strm L a') ++ .row (some 8) (es.map Ent.pv++[x'.pv]) 0::M::J,[]⟩) :
 z10 (z0c X) X.gl z6l (.ref id 0) (.own h.length es.length 0 es.length) v6 (.mp (h.length+1)) (.ref (h.length+2) 0) v11 v12
  (h.set id (strm L a)++[.row (some 8) (es.map Ent.pv) 0,M,x.box]) [] K:=by
 have P:=z6E (z0O hp (Int.le_refl a) (by omega))
 have hmx:es.length+1≤z1c:=by unfold z1c;omega
 have e1:h.length+1<h.length+3+1:=by omega
 obtain⟨site,no,time,kind,board,step,of,other⟩:=x
 obtain⟨xs,xb,xp,xo,xn,xt,xz,xw⟩:=hx
 dsimp only at xs xb xp xo xn xt xz xw
 unfold Ent.box
 dsimp only
 by_cases hf:z1A L a 100=0
 ·by_cases h0:z1A L (a+1) 3=0
  ·obtain⟨kv,a3,c1,c2,c3,c4,O⟩:=zyt (L:=L) (a:=a+1+1+1) (z0O hp (by omega) (by omega)) 1 9 (by omega) (by omega) (by omega)
   have O':=fun l K=>O.app (h:=h) (id:=id) (l:=l) (K:=K) hid
   obtain⟨kv2,a4,d1,d2,d3,d4,d5,O2⟩:=g_OddZ (L:=L) (a:=a3) (z0O hp (by omega) (by omega)) 0 100 (by omega) (by omega) (by omega)
   have O2':=fun l K=>O2.app (h:=h) (id:=id) (l:=l) (K:=K) hid
   have p1:(z1B [[],site] L (a+1+1)).length≤1000:=z18 (by simp) (by simp) 1000 (fun s hs=>by simp only[List.mem_cons,List.not_mem_nil,or_false] at hs;rcases hs with e | e <;> rw[e] <;> first | omega | simp)
   have p9:z1B [[],site] L (a+1+1)≠[122,122]:=fun e=>by
    have:=z42 (l:=[[],site]) (L:=L) (a:=a+1+1) (by simp) (by simp)
    simp only[List.mem_cons,List.not_mem_nil,or_false] at this
    rw[e] at this
    rcases this with h | h
    ·cases h
    ·exact xz.1 h.symm
   simp only[z10,go_sem,hid,P,hf,h0,↓O',O',↓O2',O2',hmx]
   exact hK ⟨z1B [[],site] L (a+1+1),kv,kv2,kind,board,step,of,other⟩ a4 _ ⟨p1,xb,xp,xo,by dsimp only;omega,by dsimp only;omega,⟨p9,by dsimp only;omega⟩,xw⟩ (by omega) (by omega)
  ·by_cases h1:z1A L (a+1) 3=1
   ·obtain⟨kv,a3,c1,c2,c3,c4,O⟩:=zyt (L:=L) (a:=a+1+1) (z0O hp (by omega) (by omega)) 1 7 (by omega) (by omega) (by omega)
    have O':=fun l K=>O.app (h:=h) (id:=id) (l:=l) (K:=K) hid
    have P2:=z6E (z0O hp (show a≤a3 by omega) (show a3+14≤a+60 by omega))
    have p1:(z1B [[],[65],board] L a3).length≤1000:=z18 (by simp) (by simp) 1000 (fun s hs=>by simp only[List.mem_cons,List.not_mem_nil,or_false] at hs;rcases hs with e | e | e <;> rw[e] <;> first | omega | simp)
    have p2:(z1B [[],[115,99,97,110]] L (a3+1)).length≤1000:=z18 (by simp) (by simp) 1000 (fun s hs=>by simp only[List.mem_cons,List.not_mem_nil,or_false] at hs;rcases hs with e | e <;> rw[e] <;> simp)
    have pw:z1B [[],[65],board] L a3∈brdN:=by
     have:=z42 (l:=[[],[65],board]) (L:=L) (a:=a3) (by simp) (by simp)
     simp only[List.mem_cons,List.not_mem_nil,or_false] at this
     rcases this with h | h | h
     ·rw[h];simp [brdN]
     ·rw[h];simp [brdN]
     ·rw[h];exact xw
    simp only[z10,go_sem,hid,P,P2,hf,h0,h1,↓O',O',hmx]
    exact hK ⟨site,no,time,kv,z1B [[],[65],board] L a3,z1B [[],[115,99,97,110]] L (a3+1),of,other⟩ (a3+1+1) _ ⟨xs,p1,p2,xo,xn,xt,xz,pw⟩ (by omega) (by omega)
   ·obtain⟨kv,a3,c1,c2,c3,c4,O⟩:=zyt (L:=L) (a:=a+1+1+1) (z0O hp (by omega) (by omega)) 0 5 (by omega) (by omega) (by omega)
    have O':=fun l K=>O.app (h:=h) (id:=id) (l:=l) (K:=K) hid
    have p1:(z1B [[],[115,97]] L (a+1+1)).length≤1000:=z18 (by simp) (by simp) 1000 (fun s hs=>by simp only[List.mem_cons,List.not_mem_nil,or_false] at hs;rcases hs with e | e <;> rw[e] <;> simp)
    simp only[z10,go_sem,hid,P,hf,h0,h1,↓O',O',hmx]
    exact hK ⟨site,no,time,kind,board,step,z1B [[],[115,97]] L (a+1+1),kv⟩ a3 _ ⟨xs,xb,xp,p1,xn,xt,xz,xw⟩ (by omega) (by omega)
 ·simp only[z10,go_sem,hid,P,hf,hmx]
  exact hK ⟨site,no,time,kind,board,step,of,other⟩ (a+1) _ ⟨xs,xb,xp,xo,xn,xt,xz,xw⟩ (by omega) (by omega)
end Go.Am
end
section
/- Entries drawn. -/
open Go
set_option linter.all false
set_option maxRecDepth 100000
namespace Go.Am
variable {L:List Int} {a:Int} {h l:Heap} {id:Nat} {K:Post}
attribute [-go_sem] oEqa z0L z1v z10 z2M
def intA (n:Int):AV:=.p (.int .i64 n)
def MB (m:Int) (l:List (List UInt8 × Int)):Prop:=∀ s v,getM s l=some v→0≤v∧v≤m
theorem MB.upd {m:Int} {l:List (List UInt8 × Int)} (H:MB m l) (s:List UInt8) {c:Int} (h0:0≤c) (h1:c≤m+1):MB (m+1) (updM s c l):=fun s' v hv=>by
 rw[z9w] at hv
 split at hv
 ·cases hv;exact⟨h0,h1⟩
 ·have:=H s' v hv;omega
abbrev EH (h:Heap) (id:Nat) (L:List Int) (a:Int) (es:List Ent) (M:List (List UInt8 × Int)) (x:Ent):Heap:=h.set id (strm L a)++[.row (some 8) (es.map Ent.pv) 0,mobj PV.str intA M,x.box]
set_option maxHeartbeats 4000000 in
theorem zoD (hid:id<h.length) (hp:posN 80 a) (es:List Ent) (hes:es.length≤1000) (x:Ent) (hx:EntV x) (M:List (List UInt8 × Int)) (v6 v11 v12:AV) (K:Ex→St→Prop)
 (hK:∀ (x':Ent) (a':Int) (J:Heap),EntV x'→a≤a'→a'≤a+12 →
  K .normal ⟨[(0,.ref id 0),(5,.own h.length (es.length+1) 0 (es.length+1)),(6,v6),(7,.mp (h.length+1)),(11,v11),(12,v12)],h.set id (strm L a') ++ .row (some 8) (es.map Ent.pv++[x'.pv]) 0::mobj PV.str intA M::J,[]⟩) :
 NW (z0c X) X.gl z4q ⟨[(0,.ref id 0),(5,.own h.length es.length 0 es.length),(6,v6),(7,.mp (h.length+1)),(9,.ref (h.length+2) 0),(11,v11),(12,v12)],EH h id L a es M x,[]⟩ (z0q 2 (seqN (z0c X) X.gl z4r K)):=by
 have P:=z6E (z0O hp (Int.le_refl a) (by omega))
 obtain⟨site,no,time,kind,board,step,of,other⟩:=x
 obtain⟨xs,xb,xp,xo,xn,xt,xz,xw⟩:=hx
 dsimp only at xs xb xp xo xn xt xz xw
 unfold EH Ent.box
 dsimp only
 by_cases k2:kind=2
 ·have p1:(z1B [[115,99,97,110],[115,99,97,110],[102,108,97,115,104],[98,117,114,110]] L a).length≤1000:=z18 (by simp) (by simp) 1000 (fun s hs=>by simp only[List.mem_cons,List.not_mem_nil,or_false] at hs;rcases hs with e | e | e | e <;> rw[e] <;> simp)
  simp only[go_sem,hid,P,eq_true k2]
  rw[z2M]
  refine zoC hid (z0O hp (by omega) (by omega)) es hes ⟨site,no,time,kind,board,z1B [[115,99,97,110],[115,99,97,110],[102,108,97,115,104],[98,117,114,110]] L a,of,other⟩ ⟨xs,xb,p1,xo,xn,xt,xz,xw⟩ (mobj PV.str intA M) v6 v11 v12 K (fun x' a' J h1 h2 h3=>hK x' a' J h1 (by omega) (by omega))
 ·simp only[go_sem,hid,P,k2]
  rw[z2M]
  refine zoC hid (z0O hp (by omega) (by omega)) es hes ⟨site,no,time,kind,board,step,of,other⟩ ⟨xs,xb,xp,xo,xn,xt,xz,xw⟩ (mobj PV.str intA M) v6 v11 v12 K (fun x' a' J h1 h2 h3=>hK x' a' J h1 (by omega) (by omega))
attribute [-go_sem] z8W
set_option maxHeartbeats 4000000 in
theorem ent_k4 (hid:id<h.length) (hp:posN 120 a) (es:List Ent) (hes:es.length≤1000) (x:Ent) (hx:EntV x) (M:List (List UInt8 × Int)) (m:Int) (hm:0≤m∧m≤1000) (hM:MB m M) (k:Nat) (v6 v11 v12:AV) (K:Ex→St→Prop)
 (hK:∀ (x':Ent) (a':Int) (M':List (List UInt8 × Int)) (J:Heap),EntV x'→a≤a'→a'≤a+15→MB (m+1) M' →
  K .normal ⟨[(0,.ref id 0),(5,.own h.length (es.length+1) 0 (es.length+1)),(6,v6),(7,.mp (h.length+1)),(11,v11),(12,v12)],h.set id (strm L a') ++ .row (some 8) (es.map Ent.pv++[x'.pv]) 0::mobj PV.str intA M'::J,[]⟩) :
 z2h (z0c X) X.gl z4q z4r (.ref id 0) (.own h.length es.length 0 es.length) v6 (.mp (h.length+1)) (AI k) (.ref (h.length+2) 0) v11 v12 (EH h id L a es M x) [] K:=by
 have P:=z6E (z0O hp (Int.le_refl a) (by omega))
 obtain⟨site,no,time,kind,board,step,of,other⟩:=x
 obtain⟨xs,xb,xp,xo,xn,xt,xz,xw⟩:=hx
 dsimp only at xs xb xp xo xn xt xz xw
 obtain⟨c,hc,c0,c1⟩:∃ c,(getM site M).getD 0=c∧0≤c∧c≤m:=by
  cases hg:getM site M with
  | none=>exact⟨0,rfl,by omega,hm.1⟩
  | some v=>exact⟨v,rfl,hM site v hg⟩
 have wc:IntKind.i64.wrap (c+1)=c+1:=z0l _ (by omega) (by omega)
 have hM':=hM.upd site (c:=c+1) (by omega) (by omega)
 have gu:getM site (updM site (c+1) M)=some (c+1):=by rw[z9w,if_pos rfl]
 have lk:=fun (hp:Heap) (M:List (List UInt8 × Int)) (e:hp[h.length+1]?=some (mobj PV.str intA M))=>z22 (kk:=(none,[2])) (k:=site) z5V e z1E (ok:=false) (z:=intA 0)
 have up:=fun (hp:Heap) (e:hp[h.length+1]?=some (mobj PV.str intA M))=>z4P (kk:=(none,[2])) (k:=site) z5V e z1E (v:=c+1) rfl
 have gt:∀ (R:Obj) (M:List (List UInt8 × Int)) (t:Heap),(h.set id (strm L a)++R::mobj PV.str intA M::t)[h.length+1]?=some (mobj PV.str intA M):=fun R M t=>by
  rw[List.getElem?_append_right (by simp)];simp
 have l1:=fun R t=>lk (h.set id (strm L a)++R::mobj PV.str intA M::t) M (gt R M t)
 have l2:=fun R t=>lk (h.set id (strm L a)++R::mobj PV.str intA (updM site (c+1) M)::t) _ (gt R _ t)
 have u1:=fun R t=>up (h.set id (strm L a)++R::mobj PV.str intA M::t) (gt R M t)
 have eo:(Option.map intA (getM site M)).getD (intA 0)=AI c:=by
  rw[← hc];cases getM site M <;> rfl
 have es0:∀ (R:Obj) (t:Heap) (o:Obj),(h.set id (strm L a)++R::mobj PV.str intA M::t).set (h.length+1) o=h.set id (strm L a)++R::o::t:=fun R t o=>by
  rw[List.set_append_right _ _ (by simp)];simp
 simp only[cond_false,eo] at l1
 simp only[cond_false,gu,Option.map_some,Option.getD_some,intA,z2a,AV.top,Nat.not_lt_zero,if_false,es0] at l1 l2 u1
 unfold EH Ent.box
 dsimp only
 by_cases k7:kind=7
 ·have p1:(z1B [[115,97],[115,98]] L a).length≤1000:=z18 (by simp) (by simp) 1000 (fun s hs=>by simp only[List.mem_cons,List.not_mem_nil,or_false] at hs;rcases hs with e | e <;> rw[e] <;> simp)
  simp only[z2h,go_sem,hid,P,eq_true k7,l1,l2,u1,wc]
  rw[z2M]
  refine zoC hid (z0O hp (by omega) (by omega)) es hes ⟨site,c+1,time,kind,board,step,z1B [[115,97],[115,98]] L a,z1f 1 8 L (a+1)⟩ ⟨xs,xb,xp,p1,by dsimp only;omega,xt,xz,xw⟩ (mobj PV.str intA (updM site (c+1) M)) v6 v11 v12 K (fun x' a' J h1 h2 h3=>hK x' a' _ J h1 (by omega) (by omega) hM')
 ·obtain⟨bb,gb,lb,wb⟩:∃ bb:List UInt8,([.str [98,49],.str [98,50],.str [98,51]]:List PV)[k%3]?=some (.str bb)∧bb.length≤1000∧bb∈brdN:=by
   have h3:k%3<3:=Nat.mod_lt _ (by omega)
   generalize k%3=j at h3
   match j,h3 with
   | 0,_=>exact⟨_,rfl,by simp,by simp [brdN]⟩
   | 1,_=>exact⟨_,rfl,by simp,by simp [brdN]⟩
   | 2,_=>exact⟨_,rfl,by simp,by simp [brdN]⟩
  have tm:(k:Int).tmod 3=((k%3:Nat):Int):=by
   rw[Int.tmod_eq_emod_of_nonneg (by omega)];omega
  have hk3:k%3<3:=Nat.mod_lt _ (by omega)
  have cw:∀ v:List UInt8,cutP none 0 (PV.str v)=some (PV.str v):=fun _=>rfl
  by_cases k3:(3:Int)≤(k:Int)
  ·have p1:(z1B [[98,49],[98,49],[98,50],[98,51],[98,52]] L a).length≤1000:=z18 (by simp) (by simp) 1000 (fun s hs=>by simp only[List.mem_cons,List.not_mem_nil,or_false] at hs;rcases hs with e | e | e | e | e <;> rw[e] <;> simp)
   have pw:z1B [[98,49],[98,49],[98,50],[98,51],[98,52]] L a∈brdN:=by
    have:=z42 (l:=[[98,49],[98,49],[98,50],[98,51],[98,52]]) (L:=L) (a:=a) (by simp) (by simp)
    simp only[List.mem_cons,List.not_mem_nil,or_false] at this
    rcases this with e | e | e | e | e <;> rw[e] <;> simp [brdN]
   simp only[z2h,go_sem,hid,P,k7,l1,l2,u1,wc,tm,gb,hk3,cw,k3]
   exact zoD hid (z0O hp (by omega) (by omega)) es hes ⟨site,c+1,time,kind,z1B [[98,49],[98,49],[98,50],[98,51],[98,52]] L a,step,of,other⟩ ⟨xs,p1,xp,xo,by dsimp only;omega,xt,xz,pw⟩ (updM site (c+1) M) v6 v11 v12 K (fun x' a' J h1 h2 h3=>hK x' a' _ J h1 (by omega) (by omega) hM')
  ·simp only[z2h,go_sem,hid,P,k7,l1,l2,u1,wc,tm,gb,hk3,cw,k3]
   exact zoD hid (z0O hp (by omega) (by omega)) es hes ⟨site,c+1,time,kind,bb,step,of,other⟩ ⟨xs,lb,xp,xo,by dsimp only;omega,xt,xz,wb⟩ (updM site (c+1) M) v6 v11 v12 K (fun x' a' J h1 h2 h3=>hK x' a' _ J h1 (by omega) (by omega) hM')
end Go.Am
end
section
/- Entries drawn: all,right ones,texts. -/
open Go
set_option linter.all false
set_option maxRecDepth 100000
namespace Go.Am
variable {L:List Int} {a:Int} {h l:Heap} {id:Nat} {K:Post}
attribute [-go_sem] oEqa z0L z1v z10 z2M z8W z8X
theorem zoH {P:Ent→Prop}:∀ {xs:List PV},(∀ x∈xs,∃ r,P r∧x=Ent.pv r)→∃ rs:List Ent,(∀ r∈rs,P r)∧xs=rs.map Ent.pv
 | [],_=>⟨[],by simp,rfl⟩
 | x::xs,h=>by
  obtain⟨r,h1,h2⟩:=h x (by simp)
  obtain⟨rs,h3,h4⟩:=zoH (xs:=xs) (fun y hy=>h y (List.mem_cons_of_mem _ hy))
  refine⟨r::rs,fun z hz=>?_,by rw[h2,h4];rfl⟩
  rcases List.mem_cons.1 hz with rfl | hz
  ·exact h1
  ·exact h3 z hz
set_option maxHeartbeats 4000000 in
theorem zpc (hp:posN 4000 a) (n:Nat) (hn:n≤20) :
 GenE zaG [AI n] L a (fun v a2=>a≤a2∧a2≤a+1000∧∃ rs:List Ent,rs.length≤n∧(∀ r∈rs,EntV r)∧v=z1t rs):=by
 refine GenE.of fun h id hid=>?_
 rw[c_q02f rfl]
 simp only[zhg,go_sem,hid]
 refine z08 (fun t:List Ent × Int × Int × List (List UInt8 × Int)=>⟨[(0,.ref id 0),(5,.own h.length t.1.length 0 t.1.length),(6,AI t.2.1),(7,.mp (h.length+1)),(11,AI n),(12,AI t.1.length)],h.set id (strm L t.2.2.1)++[.row (some 8) (t.1.map Ent.pv) 0,mobj PV.str intA t.2.2.2],[]⟩)
  (fun t=>t.1.length≤n∧(∀ r∈t.1,EntV r)∧(a≤t.2.2.1∧t.2.2.1≤a+40*t.1.length)∧(0≤t.2.1∧t.2.1≤10*t.1.length)∧MB t.1.length t.2.2.2) (fun t=>n-t.1.length) ([],0,a,[]) rfl ⟨by simp,by simp,by simp,by simp,fun s v h=>by simp [getM] at h⟩ ?_
 rintro⟨es,t,b,M⟩ ⟨q1,q2,⟨q3,q4⟩,⟨q5,q6⟩,q7⟩
 dsimp only at q1 q2 q3 q4 q5 q6 q7
 rcases Nat.lt_or_ge es.length n with hlt | hge
 ·have P:=z6E (z0O hp q3 (show b+14≤a+4000 by omega))
  have w1:IntKind.i64.wrap ((es.length:Int)+1)=((es.length+1:Nat):Int):=z0l _ (by omega) (by omega)
  have m1:=z9Q (L:=L) (a:=b) (l:=[0,1,1,3,10]) (by simp) (by simp)
  have b1:0≤z4W [0,1,1,3,10] L b∧z4W [0,1,1,3,10] L b≤10:=by
   simp only[List.mem_cons,List.not_mem_nil,or_false] at m1
   omega
  have w2:IntKind.i64.wrap (t+z4W [0,1,1,3,10] L b)=t+z4W [0,1,1,3,10] L b:=z0l _ (by omega) (by omega)
  have ps:(z1B [[115,97],[115,97],[115,98]] L (b+1)).length≤1000:=z18 (by simp) (by simp) 1000 (fun s hs=>by simp only[List.mem_cons,List.not_mem_nil,or_false] at hs;rcases hs with e | e | e <;> rw[e] <;> simp)
  have pz:z1B [[115,97],[115,97],[115,98]] L (b+1)≠[122,122]:=fun e=>by
   have:=z42 (l:=[[115,97],[115,97],[115,98]]) (L:=L) (a:=b+1) (by simp) (by simp)
   rw[e] at this
   revert this;decide
  obtain⟨t',ht'⟩:∃ t',t+z4W [0,1,1,3,10] L b=t':=⟨_,rfl⟩
  have ht2:0≤t'∧t'≤10*(es.length+1):=by omega
  rw[ht'] at w2
  have fin:∀ (kd:Int),NW (z0c X) X.gl z6m ⟨[(0,.ref id 0),(5,.own h.length es.length 0 es.length),(6,AI t'),(7,.mp (h.length+1)),(8,AI es.length),(9,.ref (h.length+2) 0),(11,AI n),(12,AI es.length)],EH h id L (b+1+1+1) es M ⟨z1B [[115,97],[115,97],[115,98]] L (b+1),0,t',kd,[],[],[],0⟩,[]⟩
   (z0q 1 (seqN (z0c X) X.gl z6n (zb1 (h.length+2) [] (zfS
    (fun t:List Ent × Int × Int × List (List UInt8 × Int)=>⟨[(0,.ref id 0),(5,.own h.length t.1.length 0 t.1.length),(6,AI t.2.1),(7,.mp (h.length+1)),(11,AI n),(12,AI t.1.length)],h.set id (strm L t.2.2.1)++[.row (some 8) (t.1.map Ent.pv) 0,mobj PV.str intA t.2.2.2],[]⟩)
    (fun t=>t.1.length≤n∧(∀ r∈t.1,EntV r)∧(a≤t.2.2.1∧t.2.2.1≤a+40*t.1.length)∧(0≤t.2.1∧t.2.1≤10*t.1.length)∧MB t.1.length t.2.2.2) (fun t=>n-t.1.length)
    (z0q 0 (seqN (z0c X) X.gl z4s (finR [.t 4] false h.length (fun v1 h1 x1=>∃ a2,(a≤a2∧a2≤a+1000∧∃ rs:List Ent,rs.length≤n∧(∀ r∈rs,EntV r)∧v1=z1t rs)∧h1=h.set id (strm L a2)∧x1=[])))) (es,t,b,M))))):=by
   intro kd
   rw[z8X]
   refine ent_k4 hid (z0O hp (by omega) (by omega)) es (by omega) ⟨z1B [[115,97],[115,97],[115,98]] L (b+1),0,t',kd,[],[],[],0⟩ ⟨ps,by simp,by simp,by simp,by dsimp only;omega,by dsimp only;omega,⟨pz,by dsimp only;omega⟩,by simp [brdN]⟩ M es.length ⟨by omega,by omega⟩ q7 es.length (AI t') (AI n) (AI es.length) _ (fun x' a' M' J r1 r2 r3 r4=>?_)
   have f1:id+1≤h.length+2:=by omega
   have f2:h.length+1≤h.length+2:=by omega
   have f3:h.length+1+1≤h.length+2:=by omega
   simp only[go_sem,w1,f1,f2,f3]
   refine⟨(es++[x'],t',a',M'),?_,⟨by simp;omega,fun r hr=>?_,⟨by dsimp only;omega,by simp;omega⟩,⟨by dsimp only;omega,by simp;omega⟩,by simpa using r4⟩,by simp;omega⟩
   ·simp only[List.length_append,List.length_cons,List.length_nil,List.map_append,List.map_cons,List.map_nil]
   ·rcases List.mem_append.1 hr with hr | hr
    ·exact q2 r hr
    ·rw[List.mem_singleton] at hr;rw[hr];exact r1
  unfold EH Ent.box at fin
  dsimp only at fin
  by_cases k3:(es.length:Int)<3
  ·have:=fin 1
   simp only[go_sem,hid,P,hlt,w2,ht',k3,splice]
   exact this
  ·have:=fin (z4W [2,2,2,3,3,4,4,5,5,6,7,1] L (b+1+1))
   simp only[go_sem,hid,P,hlt,w2,ht',k3,splice]
   exact this
 ·have en:es.length=n:=by omega
  have hb2:¬ (es.length<n):=by omega
  have hh:(h.set id (strm L b)++[Obj.row (some 8) (es.map Ent.pv) 0,mobj PV.str intA M])[h.length]?=some (.row (some 8) (es.map Ent.pv) 0):=by rw[List.getElem?_append_right (by simp)];simp
  have st:=fun K=>z7F (h:=h.set id (strm L b)++[Obj.row (some 8) (es.map Ent.pv) 0,mobj PV.str intA M]) (K:=K) h.length (es.map Ent.pv) zh4 (by simp;omega) hh (g:=z5e) (caps:=[]) (c:=fun x y=>z1b (zgk x) (zgk y))
   (fun o x hx y hy K=>by
    obtain⟨p,hp,rfl⟩:=List.mem_map.1 hx
    obtain⟨q,hq,rfl⟩:=List.mem_map.1 hy
    dsimp only
    rw[zcv,zcv]
    exact zcj p q (q2 p hp) (q2 q hq))
  have hsm:∀ x∈z1K (ltC fun x y=>z1b (zgk x) (zgk y)) (es.map Ent.pv),∃ r,EntV r∧x=Ent.pv r:=fun x hx=>by
   obtain⟨r,hr,rfl⟩:=List.mem_map.1 (z91.1 hx)
   exact⟨r,q2 r hr,rfl⟩
  obtain⟨ss,s1,s2⟩:=zoH hsm
  have hsl:ss.length=es.length:=by have:=congrArg List.length s2;simp [z90] at this;omega
  simp only[List.length_map,s2] at st
  have e0:∀ o,(h.set id (strm L b)++[Obj.row (some 8) (es.map Ent.pv) 0,mobj PV.str intA M]).set h.length o=h.set id (strm L b)++[o,mobj PV.str intA M]:=fun o=>by rw[List.set_append_right _ _ (by simp)];simp
  simp only[e0] at st
  have hw:win (ss.map Ent.pv) 0 es.length=ss.map Ent.pv:=z7T (by simp [hsl])
  have hcr:es.length≤es.length:=Nat.le_refl _
  have hll:(ss.map Ent.pv).length=es.length:=by simp [hsl]
  simp only[go_sem,hb2,↓st,st,hll,hw,hsl]
  exact⟨b,⟨q3,by omega,ss,by omega,s1,rfl⟩,rfl⟩
end Go.Am
end
section
/- The floor: its state;a board leaves its site. -/
open Go
set_option linter.all false
set_option maxRecDepth 100000
namespace Go.Am
variable {h:Heap} {K:Post}
attribute [-go_sem] oEqa z0L z1v splice
attribute [local go_sem] z1G z2w z4T z4U z7Y z7Z z8a z8b z6S z8c z8d z8e z8f z8g z8h z8i
structure Flo where
 bs:Brds
 sm:SMap
 ck:Nat
 ends:List EndP
 runs:List RunP
 ref:List Int
 why:List Int
def Flo.P (S:Flo):FlP:=⟨asA S.bs,asS S.sm,S.ends,S.runs⟩
def EndP.pv (e:EndP):PV:=.agg [.str e.board,.str e.step,eI e.frm,eI e.til,.bool e.pass]
def RunP.pv (r:RunP):PV:=.agg [.str r.site,eI r.frm,eI r.til]
def wbx (h:Heap) (steps:List Nm) (tries:Int) (a b c d:Nat):Obj:=.box [AStr steps,AI tries,.mp (h.length+1),.mp (h.length+2),.own (h.length+3) a 0 a,.own (h.length+4) b 0 b,.own (h.length+5) c 0 c,.own (h.length+6) d 0 d]
def FS (h:Heap) (fb:Obj) (steps:List Nm) (tries:Int) (S:Flo) (l:Heap):Heap:=
 FH h fb (mobj PV.str refA (mapB (h.length+8) S.bs)) (dobj S.sm S.ck) (.row (some 5) (S.ends.map EndP.pv) 0) (.row (some 3) (S.runs.map RunP.pv) 0) (.row none (S.ref.map eI) 0) (.row none (S.why.map eI) 0)
  (wbx h steps tries S.ends.length S.runs.length S.ref.length S.why.length) (boxB S.bs) l
def clo1 (site:Nm) (at_:Int) (r:RunP):RunP:=if r.site=site∧r.til<0 then { r with til:=at_ } else r
def cloK (l:List RunP) (site:Nm) (at_:Int) (k:Nat):List RunP:=(l.take k).map (clo1 site at_)++l.drop k
theorem cloK_0 (l:List RunP) (site:Nm) (at_:Int):cloK l site at_ 0=l:=by simp [cloK]
theorem zgX (l:List RunP) (site:Nm) (at_:Int) (k:Nat):(cloK l site at_ k).length=l.length:=by simp [cloK];omega
theorem zt2 (l:List RunP) (site:Nm) (at_:Int):cloK l site at_ l.length=z1n l site at_:=by
 unfold cloK z1n
 rw[List.take_length,List.drop_length,List.append_nil]
 rfl
theorem zgW {l:List RunP} {site:Nm} {at_:Int} {k:Nat} (hk:k<l.length):(cloK l site at_ k)[k]?=some l[k]:=by
 unfold cloK
 rw[List.getElem?_append_right (by simp;omega)]
 have:k-((l.take k).map (clo1 site at_)).length=0:=by simp;omega
 rw[this,List.getElem?_drop]
 simp [hk]
theorem zdf {l:List RunP} {site:Nm} {at_:Int} {k:Nat} (hk:k<l.length):cloK l site at_ (k+1)=(cloK l site at_ k).set k (clo1 site at_ l[k]):=by
 unfold cloK
 rw[List.take_succ_eq_append_getElem hk,List.map_append,List.set_append_right _ _ (by simp;omega)]
 have:k-((l.take k).map (clo1 site at_)).length=0:=by simp;omega
 rw[this,List.drop_eq_getElem_cons (i:=k) hk,List.append_assoc]
 rfl
theorem zmy {l:List RunP} {site:Nm} {at_:Int} {k:Nat} (hk:k<l.length) (e:clo1 site at_ l[k]=l[k]):cloK l site at_ (k+1)=cloK l site at_ k:=by
 rw[zdf hk,e]
 apply List.ext_getElem?
 intro i
 rw[List.getElem?_set]
 split
 ·rename_i hi;subst hi
  rw[zgX,if_pos hk,zgW hk]
 ·rfl
def delS (m:SMap) (k:Nm):SMap:=match z4V k m with
 | some i=>m.eraseIdx i
 | none=>m
theorem zmZ {m:SMap} {k:Nm} (hu:(m.map fun e=>e.1.1).Nodup):asS (delS m k)=delA (asS m) k∧((delS m k).map fun e=>e.1.1).Nodup:=by
 have main:delS m k=m.filter fun e=>!decide (e.1.1=k):=by
  unfold delS
  induction m with
  | nil=>rfl
  | cons y r ih=>
   rw[List.map_cons,List.nodup_cons] at hu
   have q:=ih hu.2
   unfold z4V
   rw[List.filter_cons]
   by_cases h:k=y.1.1
   ·rw[if_pos h]
    have:r.filter (fun e=>!decide (e.1.1=k))=r:=by
     rw[List.filter_eq_self]
     intro z hz
     have:¬ z.1.1=k:=fun e=>hu.1 (by rw[← h,← e];exact List.mem_map_of_mem hz)
     simp [this]
    rw[if_neg (by simp [h.symm]),this]
    rfl
   ·have hn:¬ y.1.1=k:=fun z=>h z.symm
    rw[if_neg h,if_pos (by simp [hn]),← q]
    cases z4V k r with
    | none=>rfl
    | some i=>rfl
 rw[main]
 constructor
 ·unfold asS delA
  rw[List.filter_map]
  rfl
 ·exact List.Nodup.sublist (List.Sublist.map _ List.filter_sublist) hu
theorem mdel_d {id:Nat} {hp:Heap} {m:SMap} {c:Nat} {k:Nm} (hh:hp[id]?=some (dobj m c)) :
 z3B (none,[2]) (.mp id) (AS k) hp=some (.und,hp.set id (dobj (delS m k) c),[]):=by
 have e1:z2c (none,[2]) (AS k)=some (.str k):=z1E
 have e2:mget hp (.mp id)=some (id,m.map fun e=>(⟨.str e.1.1,AS e.1.2,e.2⟩:ME),c):=by simp only[mget,hh,dobj]
 simp only[z3B,e1,e2,z92]
 unfold delS
 cases hf:z4V k m with
 | none=>
  have:hp.set id (dobj m c)=hp:=set_id hh
  rw[this]
 | some i=>
  simp only[dobj]
  have e3:∀ (m:SMap) (i:Nat),(m.map fun e=>(⟨.str e.1.1,AS e.1.2,e.2⟩:ME)).eraseIdx i=(m.eraseIdx i).map fun e=>(⟨.str e.1.1,AS e.1.2,e.2⟩:ME):=by
   intro m
   induction m with
   | nil=>intro i;rfl
   | cons y r ih=>
    intro i
    cases i with
    | zero=>rfl
    | succ i=>simp only[List.map_cons,List.eraseIdx_cons_succ,ih i]
  rw[e3]
attribute [-go_sem] z3B
set_option maxHeartbeats 4000000 in
theorem zsw (fb:Obj) (steps:List Nm) (tries:Int) (S:Flo) (l:Heap) (i:Nat) (e:Ent × Sta) (hi:S.bs[i]?=some e) (hr:S.runs.length≤1000000) (at_:Int) :
 z0c X z5P [.ref (h.length+7) 0,.ref (qB h i) 0,AI at_] (FS h fb steps tries S l) K=K (.tup []) (FS h fb steps tries { S with bs:=S.bs.set i (e.1,{ e.2 with site:=[] }),sm:=delS S.sm e.2.site,runs:=z1n S.runs e.2.site at_ } l) []:=by
 refine rule ?_
 rw[c_q05y rfl]
 obtain⟨bs,sm,ck,ends,runs,ref,why⟩:=S
 obtain⟨x,st,si,sp,ss,sf⟩:=e
 dsimp only at hi hr ⊢
 have gq:=fun (o0 o1 o2 o3 o4 o5 o6 o7:Obj) (l:Heap)=>zf2 (h:=h) (o0:=o0) (o1:=o1) (o2:=o2) (o3:=o3) (o4:=o4) (o5:=o5) (o6:=o6) (o7:=o7) (l:=l) hi
 have sq:=fun (o0 o1 o2 o3 o4 o5 o6 o7:Obj) (l:Heap)=>FH_sq (h:=h) (o0:=o0) (o1:=o1) (o2:=o2) (o3:=o3) (o4:=o4) (o5:=o5) (o6:=o6) (o7:=o7) (l:=l) hi ⟨st,si,sp,[],sf⟩
 unfold Sta.bx at gq sq
 dsimp only at gq sq
 unfold FS wbx
 dsimp only
 simp only[zhu,go_sem]
 refine z08 (fun k:Nat=>⟨[(0,.ref (h.length+7) 0),(1,.ref (qB h i) 0),(2,AI at_),(11,AI runs.length),(12,AI k)],
  FH h fb (mobj PV.str refA (mapB (h.length+8) bs)) (dobj sm ck) (.row (some 5) (ends.map EndP.pv) 0) (.row (some 3) ((cloK runs ss at_ k).map RunP.pv) 0) (.row none (ref.map eI) 0) (.row none (why.map eI) 0)
   (.box [AStr steps,AI tries,.mp (h.length+1),.mp (h.length+2),.own (h.length+3) ends.length 0 ends.length,.own (h.length+4) runs.length 0 runs.length,.own (h.length+5) ref.length 0 ref.length,.own (h.length+6) why.length 0 why.length]) (boxB bs) l,[]⟩) (fun k=>k≤runs.length) (fun k=>runs.length-k) 0 (by rw[cloK_0];rfl) (by omega) ?_
 intro k hk
 rcases Nat.lt_or_ge k runs.length with hlt | hge
 ·have w1:IntKind.i64.wrap ((k:Int)+1)=((k+1:Nat):Int):=z0l _ (by omega) (by omega)
  have hl:=zgX runs ss at_ k
  have hg:((cloK runs ss at_ k).map RunP.pv)[k]?=some (RunP.pv runs[k]):=by rw[List.getElem?_map,zgW hlt];rfl
  have c0:cutP none 0 (RunP.pv runs[k])=some (.str runs[k].site):=rfl
  have c2:cutP none 2 (RunP.pv runs[k])=some (eI runs[k].til):=rfl
  have hs1:=zdf (l:=runs) (site:=ss) (at_:=at_) hlt
  have hs2:=fun e=>zmy (l:=runs) (site:=ss) (at_:=at_) hlt e
  by_cases h1:runs[k].site=ss
  ·by_cases h2:runs[k].til<0
   ·have e1:clo1 ss at_ runs[k]=⟨runs[k].site,runs[k].frm,at_⟩:=by unfold clo1;rw[if_pos ⟨h1,h2⟩]
    rw[e1] at hs1
    have fp:RunP.pv runs[k] = .agg [.str runs[k].site,eI runs[k].frm,eI runs[k].til]:=rfl
    rw[fp] at hg c0 c2
    simp only[go_sem,hlt,gq,hl,hg,c0,c2,h1,h2,w1,splice]
    refine⟨k+1,?_,by omega,by omega⟩
    rw[hs1,List.map_set,← h1]
    rfl
   ·have e1:clo1 ss at_ runs[k]=runs[k]:=by unfold clo1;rw[if_neg (by intro z;exact h2 z.2)]
    simp only[go_sem,hlt,gq,hl,hg,c0,c2,h1,h2,w1]
    exact⟨k+1,by rw[hs2 e1],by omega,by omega⟩
  ·have e1:clo1 ss at_ runs[k]=runs[k]:=by unfold clo1;rw[if_neg (by intro z;exact h1 z.1)]
   simp only[go_sem,hlt,gq,hl,hg,c0,c2,h1,w1]
   exact⟨k+1,by rw[hs2 e1],by omega,by omega⟩
 ·have ek:k=runs.length:=by omega
  subst ek
  rw[zt2]
  have md:=fun (o0 o1 o3 o4 o5 o6 o7:Obj) (B l:Heap)=>mdel_d (id:=h.length+2) (hp:=FH h o0 o1 (dobj sm ck) o3 o4 o5 o6 o7 B l) (m:=sm) (c:=ck) (k:=ss) z4U
  have s3:∀ v:AV,splice [AI st,AI si,AS sp,AS ss,AI sf] 3 [v]=[AI st,AI si,AS sp,v,AI sf]:=fun _=>rfl
  have cl:(z1n runs ss at_).length=runs.length:=by simp [z1n]
  have ml:=z5Z (h.length+8) bs i _ ⟨st,si,sp,[],sf⟩ hi
  have bl:(boxB (bs.set i (x,⟨st,si,sp,[],sf⟩))).length=(boxB bs).length:=by rw[z0P,z0P,List.length_set]
  simp only[go_sem,Nat.lt_irrefl,gq,md,s3,sq,cl,ml]
  exact List.take_of_length_le (by rw[z1G,bl];exact Nat.le_refl _)
end Go.Am
end
section
/- The floor: a start,a finish. -/
open Go
set_option linter.all false
set_option maxRecDepth 100000
namespace Go.Am
variable {h:Heap} {K:Post}
attribute [-go_sem] oEqa z0L z1v z3B
attribute [local go_sem] z1G z2w z4T z4U z7Y z7Z z8a z8b z6S z8c z8d z8e z8f z8g z8h z8i
theorem mupd_d {id:Nat} {hp:Heap} {m:SMap} {c:Nat} {k v:Nm} (hh:hp[id]?=some (dobj m c)) (hn:getA (asS m) k=none) :
 z1v (none,[2]) (.mp id) (AS k) (AS v) hp=some (.und,hp.set id (dobj (m++[((k,v),c)]) (c+1)),[]):=by
 have e1:z2c (none,[2]) (AS k)=some (.str k):=z1E
 have e2:mget hp (.mp id)=some (id,m.map fun e=>(⟨.str e.1.1,AS e.1.2,e.2⟩:ME),c):=by simp only[mget,hh,dobj]
 have e3:okIn (AS v)=true:=rfl
 have e4:z4V k m=none:=by
  cases hf:z4V k m with
  | none=>rfl
  | some i=>
   exfalso
   have h1:=z5Q k m
   rw[hf,Option.bind_some] at h1
   obtain⟨y,hy⟩:=Option.isSome_iff_exists.1 (z7J k m i hf)
   rw[hy] at h1
   have h2:(m.find? fun e=>decide (e.1.1=k))=some y:=h1.symm
   unfold getA asS at hn
   rw[List.find?_map,Option.map_map,Option.map_eq_none_iff] at hn
   have h3:(m.find? fun e=>decide (e.1.1=k))=none:=hn
   rw[h3] at h2;cases h2
 simp only[z1v,e1,e2,e3,z92,e4]
 simp [dobj,z2a,AV.top]
theorem z8s {bs:Brds} {i:Nat} {x0:Ent} {st:Sta} (hi:bs[i]?=some (x0,st)):∃ Bx:Sta→Heap,boxB bs=Bx st∧(∀ s,boxB (bs.set i (x0,s))=Bx s)∧(∀ s,(Bx s).length=3*bs.length) ∧
 (∀ a b c d e o0 o1 o2 o3 o4 o5 o6 o7 l,(FH h o0 o1 o2 o3 o4 o5 o6 o7 (Bx ⟨a,b,c,d,e⟩) l)[qB h i]?=some (.box [AI a,AI b,AS c,AS d,AI e])) ∧
 (∀ s a b c d e o0 o1 o2 o3 o4 o5 o6 o7 l,(FH h o0 o1 o2 o3 o4 o5 o6 o7 (Bx s) l).set (qB h i) (.box [AI a,AI b,AS c,AS d,AI e])=FH h o0 o1 o2 o3 o4 o5 o6 o7 (Bx ⟨a,b,c,d,e⟩) l) ∧
 (∀ s o o0 o1 o2 o3 o4 o5 o6 o7 l,(FH h o0 o1 o2 o3 o4 o5 o6 o7 (Bx s) (l++[o]))[h.length+(8+3*bs.length+l.length)]?=some o) ∧
 (∀ s o0 o1 o2 o3 o4 o5 o6 o7 l l2,(FH h o0 o1 o2 o3 o4 o5 o6 o7 (Bx s) (l++l2)).take (h.length+(8+3*bs.length+l.length))=FH h o0 o1 o2 o3 o4 o5 o6 o7 (Bx s) l):=by
 have hl:i<bs.length:=by
  rcases Nat.lt_or_ge i bs.length with h | h
  ·exact h
  ·rw[List.getElem?_eq_none h] at hi;cases hi
 have hs:∀ s,(bs.set i (x0,s))[i]?=some (x0,s):=fun s=>by rw[List.getElem?_set];simp [hl]
 have hlen:∀ s,(boxB (bs.set i (x0,s))).length=3*bs.length:=fun s=>by rw[z0P,List.length_set]
 refine⟨fun s=>boxB (bs.set i (x0,s)),?_,fun s=>rfl,hlen,fun a b c d e o0 o1 o2 o3 o4 o5 o6 o7 l=>?_,fun s a b c d e o0 o1 o2 o3 o4 o5 o6 o7 l=>?_,fun s o o0 o1 o2 o3 o4 o5 o6 o7 l=>?_,fun s o0 o1 o2 o3 o4 o5 o6 o7 l l2=>?_⟩
 ·have:bs.set i (x0,st)=bs:=by
   apply List.ext_getElem?
   intro j
   rw[List.getElem?_set]
   split
   ·rename_i e;subst e;rw[hi]
   ·rfl
  dsimp only
  rw[this]
 ·exact zf2 (hs ⟨a,b,c,d,e⟩)
 ·have:=FH_sq (h:=h) (o0:=o0) (o1:=o1) (o2:=o2) (o3:=o3) (o4:=o4) (o5:=o5) (o6:=o6) (o7:=o7) (l:=l) (hs s) ⟨a,b,c,d,e⟩
  rw[List.set_set] at this
  exact this
 ·have:=zbA (h:=h) (o0:=o0) (o1:=o1) (o2:=o2) (o3:=o3) (o4:=o4) (o5:=o5) (o6:=o6) (o7:=o7) (B:=boxB (bs.set i (x0,s))) (l:=l++[o]) l.length
  rw[hlen s] at this
  rw[this];simp
 ·have:=zbC (h:=h) (o0:=o0) (o1:=o1) (o2:=o2) (o3:=o3) (o4:=o4) (o5:=o5) (o6:=o6) (o7:=o7) (B:=boxB (bs.set i (x0,s))) (l:=l++l2) l.length
  rw[hlen s] at this
  rw[this];simp
def Flo.start (S:Flo) (i:Nat) (x0:Ent) (st:Sta) (x:Ent):Flo:=
 { S with bs:=S.bs.set i (x0,⟨2,x.time,st.step,x.site,st.failed⟩),sm:=S.sm++[((x.site,x.board),S.ck)],ck:=S.ck+1,runs:=S.runs++[⟨x.site,x.time,-1⟩] }
def Flo.startR (S:Flo) (i:Nat) (x0:Ent) (st:Sta) (x:Ent):Int × Flo:=
 if st.state≠1 then (11,S) else if x.step≠st.step then (3,S) else if (getA (asS S.sm) x.site).isSome=true then (12,S) else (0,S.start i x0 st x)
theorem esc7 (h:Heap):∀ k n o m,k<7→z2a (h.length+7) (.own (h.length+k) n o m)=[]:=fun k n o m hk=>by unfold z2a;rw[zsG,if_neg (by omega)]
set_option maxHeartbeats 4000000 in
theorem zzn (fb:Obj) (steps:List Nm) (tries:Int) (S:Flo) (l:Heap) (i:Nat) (x0:Ent) (st:Sta) (hi:S.bs[i]?=some (x0,st)) (hr:S.runs.length≤1000000) (x:Ent) :
 z0c X z9o [.ref (h.length+7) 0,.ref (qB h i) 0,.p x.pv] (FS h fb steps tries S l) K =
  K (AI (S.startR i x0 st x).1) (FS h fb steps tries (S.startR i x0 st x).2 l) []:=by
 refine rule ?_
 rw[c_q060 rfl]
 obtain⟨Bx,b1,b2,b3,G,Sq,T,Tk⟩:=z8s (h:=h) hi
 obtain⟨bs,sm,ck,ends,runs,ref,why⟩:=S
 obtain⟨s1,s2,s3,s4,s5⟩:=st
 obtain⟨site,no,time,kind,board,step,of,other⟩:=x
 unfold Flo.startR FS wbx Flo.start
 dsimp only at hi hr b1 b2 b3 T Tk ⊢
 have ml:=fun s=>z5Z (h.length+8) bs i _ s hi
 rw[b1]
 have lk:=fun (o0 o1 o3 o4 o5 o6 o7:Obj) (B l:Heap)=>look_d (id:=h.length+2) (hp:=FH h o0 o1 (dobj sm ck) o3 o4 o5 o6 o7 B l) (m:=sm) (c:=ck) (k:=site) z4U
 have m1:runs.length+1≤z1c:=by unfold z1c;omega
 have e5:=fun n o m=>esc7 h 4 n o m (by decide)
 by_cases h1:s1=1
 ·subst h1
  rw[if_neg (by simp)]
  by_cases h2:step=s3
  ·subst h2
   rw[if_neg (by simp)]
   cases hg:getA (asS sm) site with
   | some v=>
    rw[if_pos (show (some v).isSome=true from rfl)]
    rw[hg] at lk
    simp only[Option.isSome_some,Option.getD_some] at lk
    simp only[za9,Ent.pv,go_sem,b3,T,G,lk]
    rw[b1];exact Tk _ _ _ _ _ _ _ _ _ _ _
   | none=>
    rw[if_neg (show ¬ (none:Option Nm).isSome=true by simp)]
    rw[hg] at lk
    have up:=fun (o0 o1 o3 o4 o5 o6 o7:Obj) (B l:Heap)=>mupd_d (id:=h.length+2) (hp:=FH h o0 o1 (dobj sm ck) o3 o4 o5 o6 o7 B l) (m:=sm) (c:=ck) (k:=site) (v:=board) z4U hg
    simp only[Option.isSome_none,Option.getD_none] at lk
    simp only[za9,Ent.pv,go_sem,b3,T,G,lk,up,Sq,splice,m1,e5]
    rw[Tk,b2,ml,List.map_append]
    rfl
  ·rw[if_pos h2]
   simp only[za9,Ent.pv,go_sem,b3,T,G,lk,h2]
   rw[b1];exact Tk _ _ _ _ _ _ _ _ _ _ _
 ·rw[if_pos h1]
  simp only[za9,Ent.pv,go_sem,b3,T,G,lk,h1]
  rw[b1];exact Tk _ _ _ _ _ _ _ _ _ _ _
end Go.Am
end
section
/- The floor: a run that ends. -/
open Go
set_option linter.all false
set_option maxRecDepth 100000
namespace Go.Am
variable {h:Heap} {K:Post}
attribute [-go_sem] oEqa z0L z1v z3B
attribute [local go_sem] z1G z2w z4T z4U z7Y z7Z z8a z8b z6S z8c z8d z8e z8f z8g z8h z8i
theorem s_flAt (fb:Obj) (steps:List Nm) (tries:Int) (hst:steps.length≤1000) (k:Nm) (o1 o2 o3 o4 o5 o6:Obj) (r1 r2 r3 r4 r5 r6:AV) (B l:Heap) :
 z0c X z9m [.ref (h.length+7) 0,AS k] (FH h fb o1 o2 o3 o4 o5 o6 (.box [AStr steps,AI tries,r1,r2,r3,r4,r5,r6]) B l) K=K (AI (if steps.findIdx (fun y=>decide (y=k))<steps.length then (steps.findIdx (fun y=>decide (y=k)):Int) else -1)) (FH h fb o1 o2 o3 o4 o5 o6 (.box [AStr steps,AI tries,r1,r2,r3,r4,r5,r6]) B l) []:=by
 refine rule ?_
 rw[c_q05w rfl]
 have q:=fun h K=>zv2 (h:=h) (K:=K) steps (strS _) k (by omega)
 simp only[zmU,go_sem,q]
 exact List.take_of_length_le (by rw[z1G];exact Nat.le_refl _)
def Flo.finish (S:Flo) (steps:List Nm) (tries:Int) (i:Nat) (x0:Ent) (st:Sta) (x:Ent):Flo:=
 { S with bs:=S.bs.set i (x0,z05 steps tries st x.time (decide (x.kind=3))),sm:=delS S.sm st.site,ends:=S.ends++[⟨x.board,st.step,st.since,x.time,decide (x.kind=3)⟩],runs:=z1n S.runs st.site x.time }
def Flo.finishR (S:Flo) (steps:List Nm) (tries:Int) (i:Nat) (x0:Ent) (st:Sta) (x:Ent):Int × Flo:=
 if st.state≠2 then (11,S) else if st.site≠x.site then (13,S) else (0,S.finish steps tries i x0 st x)
set_option maxHeartbeats 8000000 in
theorem zuT (fb:Obj) (steps:List Nm) (tries:Int) (hst:steps.length≤1000) (S:Flo) (l:Heap) (i:Nat) (x0:Ent) (st:Sta) (hi:S.bs[i]?=some (x0,st)) (hr:S.runs.length≤1000000) (he:S.ends.length≤1000000) (hs:st.state=2→st.step∈steps) (hf:0≤st.failed∧st.failed≤1000000) (x:Ent) :
 z0c X z9n [.ref (h.length+7) 0,.ref (qB h i) 0,.p x.pv] (FS h fb steps tries S l) K =
  K (AI (S.finishR steps tries i x0 st x).1) (FS h fb steps tries (S.finishR steps tries i x0 st x).2 l) []:=by
 refine rule ?_
 rw[c_q05x rfl]
 obtain⟨Bx,b1,b2,b3,G,Sq,T,Tk⟩:=z8s (h:=h) hi
 obtain⟨bs,sm,ck,ends,runs,ref,why⟩:=S
 obtain⟨s1,s2,s3,s4,s5⟩:=st
 have lv:=fun K=>zsw (h:=h) (K:=K) fb steps tries ⟨bs,sm,ck,ends++[⟨x.board,s3,s2,x.time,decide (x.kind=3)⟩],runs,ref,why⟩ (l++[x.bx]) i _ hi hr x.time
 have ml:=fun s=>z5Z (h.length+8) bs i _ s hi
 obtain⟨site,no,time,kind,board,step,of,other⟩:=x
 unfold FS wbx at lv
 unfold Flo.finishR FS wbx Flo.finish
 dsimp only at hi hr he hs hf b1 b2 b3 T Tk ml lv ⊢
 rw[b1,b2,ml] at lv
 rw[b1]
 have m1:ends.length+1≤z1c:=by unfold z1c;omega
 have e3:=fun n o m=>esc7 h 3 n o m (by decide)
 have ev:∀ e:EndP,EndP.pv e = .agg [.str e.board,.str e.step,eI e.frm,eI e.til,.bool e.pass]:=fun _=>rfl
 have cl:(z1n runs s4 time).length=runs.length:=by simp [z1n]
 simp only[List.map_append,List.map_cons,List.map_nil,List.length_append,List.length_cons,List.length_nil,Nat.zero_add,ev,cl,Ent.bx] at lv
 by_cases h1:s1=2
 ·subst h1
  rw[if_neg (by simp)]
  by_cases h2:s4=site
  ·subst h2
   rw[if_neg (by simp)]
   by_cases k3:kind=3
   ·subst k3
    have hin:=hs rfl
    obtain⟨j,hj⟩:∃ j,steps.findIdx (fun y=>decide (y=s3))=j:=⟨_,rfl⟩
    have jl:j<steps.length:=by rw[← hj];exact List.findIdx_lt_length_of_exists ⟨s3,hin,by simp⟩
    have at1:=fun (o1 o2 o3 o4 o5 o6:Obj) (r1 r2 r3 r4 r5 r6:AV) (B l:Heap) K=>s_flAt (h:=h) (K:=K) fb steps tries hst s3 o1 o2 o3 o4 o5 o6 r1 r2 r3 r4 r5 r6 B l
    rw[hj,if_pos jl] at at1
    have w1:IntKind.i64.wrap ((j:Int)+1)=((j+1:Nat):Int):=z0l _ (by omega) (by omega)
    unfold z05
    rw[if_pos (by simp),hj]
    simp only[decide_true] at lv
    by_cases hl:j+1=steps.length
    ·rw[if_pos hl]
     have hl':((j+1:Nat):Int)=(steps.length:Int):=by omega
     simp only[z5I,Ent.pv,go_sem,b3,T,G,Sq,splice,m1,e3,↓lv,lv,↓at1,at1,w1,eq_true hl']
     rw[Tk,b2,ml,List.map_append,cl]
     rfl
    ·rw[if_neg hl]
     have hl':¬ ((j+1:Nat):Int)=(steps.length:Int):=by omega
     have hlt:j+1<steps.length:=by omega
     have gs:=z0K PV.str hlt
     have cw:∀ v:List UInt8,cutP none 0 (PV.str v)=some (PV.str v):=fun _=>rfl
     have gd:(steps[j+1]?).getD []=steps[j+1]:=by rw[List.getElem?_eq_getElem hlt];rfl
     rw[gd]
     simp only[z5I,Ent.pv,go_sem,b3,T,G,Sq,splice,m1,e3,↓lv,lv,↓at1,at1,w1,hl',gs,cw,hlt]
     rw[Tk,b2,ml,List.map_append,cl]
     rfl
   ·have w1:IntKind.i64.wrap (s5+1)=s5+1:=z0l _ (by omega) (by omega)
    unfold z05
    rw[if_neg (by simp [k3])]
    rw[decide_eq_false k3] at lv ⊢
    by_cases ht:s5+1=tries
    ·rw[if_pos ht]
     simp only[z5I,Ent.pv,go_sem,b3,T,G,Sq,splice,m1,e3,↓lv,lv,k3,w1,eq_true ht]
     rw[Tk,b2,ml,List.map_append,cl]
     rfl
    ·rw[if_neg ht]
     simp only[z5I,Ent.pv,go_sem,b3,T,G,Sq,splice,m1,e3,↓lv,lv,k3,w1,ht]
     rw[Tk,b2,ml,List.map_append,cl]
     rfl
  ·rw[if_pos h2]
   simp only[z5I,Ent.pv,go_sem,b3,T,G,h2]
   rw[b1];exact Tk _ _ _ _ _ _ _ _ _ _ _
 ·rw[if_pos h1]
  simp only[z5I,Ent.pv,go_sem,b3,T,G,h1]
  rw[b1];exact Tk _ _ _ _ _ _ _ _ _ _ _
end Go.Am
end
