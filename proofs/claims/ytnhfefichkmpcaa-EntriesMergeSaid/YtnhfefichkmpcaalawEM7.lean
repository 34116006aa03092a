/- Texts of the proof, laid together: PFollow, PPass, PReplay, SpFlo1, SpIdx, SpStrs, SpSort, SpMrgB, SpMrgC, SpMrgD, PFin, SpTxt, AmL4, AmL5, SpSplit, SpLines, SpNum, SpNums, SpQNum, SpFlt1, SpFlt2, SpWords, SpJoin, SpBld, PBits, SpFlt3, SpFlt4, SpFlt5, SpFlt6, SpFltT, SpSortO, SpGenF, SpChg, SpEnt6, SpEach, SpFltR, SpFltR2, SpFltR3, SpGenA2, SpDelF, SpGenF2, SpInts, SpFltE, SpEnt7, SpEnt8, SpEnt9, PRecT, SpRecT, SpRecT2, SpRecT3, SpRecT4, SpRecT5, SpEnt10, SpEnt11, SpEnt12, SpEnt13, SpFlo2, SpFlo3, SpFlo4, SpFlo5, SpFlo6, SpFlo7, SpFlo8, SpFlo9, SpFlo10, SpFlo11, PUnd, PEMrg, PPdq, SpPdqE, SpPartE. -/
import Derived.Shelf.Strings.Repeat
import Derived.Shelf.Strings.SlTrimAscii
import Derived.Shelf.Spec.TrailingZeros
import Derived.Shelf.Strings.Count
import Derived.Shelf.Strings.OnBuilder
import Derived.Test.YtnhfefichkmpcaalawEM6
set_option linter.all false
section
/- Boards followed through their steps,plainly: the program's floor and the reference's agree. -/
set_option linter.all false
namespace Go.Am
abbrev Nm:=List UInt8
section
variable {β:Type}
def vA (l:List (Nm × β))(k:Nm):Option β:=(l.find? fun e=>decide (e.1=k)).map (·.2)
def dB (l:List (Nm × β))(k:Nm)(v:β):List (Nm×β):=if l.any (fun e=>decide (e.1=k)) then l.map (fun e=>if e.1=k then(k,v) else e) else l++[(k,v)]
def iG (l:List (Nm × β))(k:Nm):List (Nm×β):=l.filter fun e=>!decide (e.1=k)
theorem vG (e:Nm × β)(l:List (Nm × β))(k:Nm):vA (e::l) k=if e.1=k then some e.2 else vA l k:=by
 unfold vA;rw[List.find?_cons];by_cases h:e.1=k <;> simp [h]
theorem zeU {l:List (Nm × β)}{k:Nm}(h:l.any (fun e=>decide (e.1=k))=false):vA l k=none:=by
 unfold vA;rw[List.find?_eq_none.2 (fun x hx=>by rw[List.any_eq_false]at h;exact h x hx)]
 rfl
theorem zeS (l m:List (Nm × β))(k:Nm):vA (l++m) k=(vA l k).or (vA m k):=by
 unfold vA;rw[List.find?_append];cases l.find? (fun e=>decide (e.1=k)) <;> rfl
theorem zeT (l:List (Nm × β))(k:Nm)(v:β)(j:Nm):vA (l.map fun e=>if e.1=k then(k,v) else e) j=if j=k then(vA l k).map (fun _=>v) else vA l j:=by
 induction l with
 | nil=>simp [vA]
 | cons e l ih=>
  rw[List.map_cons,vG,ih,vG,vG];by_cases h1:e.1=k
  ·rw[if_pos h1]
   by_cases h2:j=k
   ·subst h2;simp [h1]
   ·have h3:¬k=j:=fun q=>h2 q.symm
    simp [h1,h2,h3]
  ·rw[if_neg h1]
   by_cases h2:j=k
   ·subst h2;simp [h1]
   ·simp [h2]
theorem KJ (l:List (Nm × β))(k:Nm)(v:β)(j:Nm):vA (dB l k v) j=if j=k then some v else vA l j:=by
 unfold dB;cases h:l.any (fun e=>decide (e.1=k)) with
 | true=>
  rw[if_pos rfl,zeT];by_cases hj:j=k
  ·rw[if_pos hj,if_pos hj]
   obtain⟨e,he,hk⟩:=List.any_eq_true.1 h;have:vA l k≠none:=by
    unfold vA;intro hn;rw[Option.map_eq_none_iff,List.find?_eq_none]at hn;exact hn e he hk
   cases hg:vA l k with
   | none=>exact absurd hg this
   | some x=>rfl
  ·rw[if_neg hj,if_neg hj]
 | false=>
  rw[if_neg (by simp),zeS,vG]
  by_cases hj:j=k
  ·subst hj
   rw[zeU h,if_pos rfl,if_pos rfl];rfl
  ·rw[if_neg (fun q=>hj q.symm),if_neg hj]
   cases vA l j <;> rfl
theorem z1J (l:List (Nm × β))(k j:Nm):vA (iG l k) j=if j=k then none else vA l j:=by
 induction l with
 | nil=>simp [vA,iG]
 | cons e l ih=>
  unfold iG at ih ⊢;rw[List.filter_cons,vG];by_cases h1:e.1=k
  ·rw[if_neg (by simp [h1]),ih]
   by_cases h2:j=k
   ·rw[if_pos h2,if_pos h2]
   ·rw[if_neg h2,if_neg h2,if_neg (by rw[h1];exact fun q=>h2 q.symm)]
  ·rw[if_pos (by simp [h1]),vG,ih]
   by_cases h2:e.1=j
   ·rw[if_pos h2,if_pos h2,if_neg (fun q=>h1 (h2.trans q))]
   ·rw[if_neg h2,if_neg h2]
end
structure Sta where
 state:Int
 since:Int
 step:Nm
 site:Nm
 failed:Int
 deriving DecidableEq
structure EndP where
 board:Nm
 step:Nm
 frm:Int
 til:Int
 pass:Bool
 deriving DecidableEq
structure RunP where
 site:Nm
 frm:Int
 til:Int
 deriving DecidableEq
structure RanQ where
 board:Nm
 site:Nm
 step:Nm
 frm:Int
 til:Int
 pass:Bool
 deriving DecidableEq
def RanQ.run (r:RanQ):RunP:=⟨r.site,r.frm,r.til⟩
def RanQ.fin (r:RanQ):EndP:=⟨r.board,r.step,r.frm,r.til,r.pass⟩
structure FlP where
 bs:List (Nm×Sta)
 sites:List (Nm×Nm)
 ends:List EndP
 runs:List RunP
structure FlQ where
 bs:List (Nm×Sta)
 runs:List RanQ
def TF (steps:List Nm)(tries:Int)(s:Sta)(at_:Int)(pass:Bool):Sta:=
 if pass then(if steps.findIdx (fun y=>decide (y=s.step))+1=steps.length then⟨4,at_,[],[],0⟩ else⟨1,at_,(steps[steps.findIdx (fun y=>decide (y=s.step))+1]?).getD [],[],0⟩)
 else⟨if s.failed+1=tries then 5 else 3,at_,s.step,[],s.failed+1⟩
def SG (l:List RunP)(site:Nm)(at_:Int):List RunP:=l.map fun r=>if r.site=site∧r.til<0 then { r with til:=at_ } else r
def pL (l:List RanQ)(board:Nm)(at_:Int)(pass:Bool):List RanQ:=l.map fun r=>if r.board=board∧r.til<0 then { r with til:=at_,pass:=pass } else r
def NM (l:List RanQ)(board:Nm)(at_:Int):List RanQ:=l.map fun r=>if r.board=board∧r.til<0 then { r with til:=at_,board:=[] } else r
def fD (steps:List Nm)(tries:Int)(w:FlP)(x:Ent):FlP×Int:=
 if x.kind=1 then(match vA w.bs x.board with|some _=>(w,6)|none=>({ w with bs:=dB w.bs x.board ⟨1,x.time,steps.headD [],[],0⟩ },0))
 else match vA w.bs x.board with
 | none=>(w,8)
 | some b=>
  if x.kind=2 then(if b.state≠1 then(w,11) else if x.step≠b.step then(w,3) else if(vA w.sites x.site).isSome then(w,12)
   else({ w with bs:=dB w.bs x.board { b with state:=2,since:=x.time,site:=x.site },sites:=dB w.sites x.site x.board,runs:=w.runs++[⟨x.site,x.time,-1⟩] },0))
  else if x.kind=3∨x.kind=4 then(if b.state≠2 then(w,11) else if b.site≠x.site then(w,13)
   else({ bs:=dB w.bs x.board (TF steps tries b x.time (decide (x.kind=3))),sites:=iG w.sites b.site,ends:=w.ends++[⟨x.board,b.step,b.since,x.time,decide (x.kind=3)⟩],runs:=SG w.runs b.site x.time },0))
  else if x.kind=5 then(if b.state≠3 then(w,11) else({ w with bs:=dB w.bs x.board { b with state:=1,since:=x.time } },0))
  else if b.state=4∨b.state=5 then(w,11)
  else if b.state=2 then({ w with bs:=dB w.bs x.board { b with state:=5,since:=x.time,site:=[] },sites:=iG w.sites b.site,runs:=SG w.runs b.site x.time },0)
  else({ w with bs:=dB w.bs x.board { b with state:=5,since:=x.time } },0)
def vN (bs:List (Nm × Sta))(site:Nm):Prop:=∃b st,vA bs b=some st∧st.state=2∧st.site=site
theorem WT {β:Type}{l:List (Nm × β)}{k:Nm}{v:β}(h:vA l k=some v):(k,v)∈l:=by
 unfold vA at h;obtain⟨e,h1,h2⟩:=Option.map_eq_some_iff.1 h;have hm:=List.mem_of_find?_eq_some h1
 have hk:e.1=k:=by simpa using List.find?_some h1
 subst hk h2;exact hm
theorem z8G (bs:List (Nm × Sta))(site:Nm):(bs.any fun e=>decide (vA bs e.1=some e.2)&&(decide (e.2.state=2)&&decide (e.2.site=site)))=true↔vN bs site:=by
 rw[List.any_eq_true];constructor
 ·rintro⟨e,_,h⟩
  simp only[Bool.and_eq_true,decide_eq_true_eq]at h;exact⟨e.1,e.2,h.1,h.2.1,h.2.2⟩
 ·rintro⟨b,st,h1,h2,h3⟩
  exact⟨(b,st),WT h1,by simp [h1,h2,h3]⟩
instance (bs:List (Nm × Sta)) (site:Nm):Decidable (vN bs site):=decidable_of_iff _ (z8G bs site)
def doQ (steps:List Nm)(tries:Int)(w:FlQ)(x:Ent):FlQ×Int:=
 if x.kind=7 then(w,0)
 else if x.kind=1 then(match vA w.bs x.board with|some _=>(w,6)|none=>({ w with bs:=dB w.bs x.board ⟨1,x.time,steps.headD [],[],0⟩ },0))
 else match vA w.bs x.board with
 | none=>(w,8)
 | some b=>
  if x.kind=2 then(if b.state≠1 then(w,11) else if b.step≠x.step then(w,3) else if vN w.bs x.site then(w,12)
   else({ bs:=dB w.bs x.board { b with state:=2,since:=x.time,site:=x.site },runs:=w.runs++[⟨x.board,x.site,x.step,x.time,-1,false⟩] },0))
  else if x.kind=3∨x.kind=4 then(if b.state≠2 then(w,11) else if b.site≠x.site then(w,13)
   else({ bs:=dB w.bs x.board (TF steps tries b x.time (decide (x.kind=3))),runs:=pL w.runs x.board x.time (decide (x.kind=3)) },0))
  else if x.kind=5 then(if b.state≠3 then(w,11) else({ w with bs:=dB w.bs x.board { b with state:=1,since:=x.time } },0))
  else if b.state=4∨b.state=5 then(w,11)
  else({ bs:=dB w.bs x.board { b with state:=5,since:=x.time,site:=[] },runs:=NM w.runs x.board x.time },0)
def OJ (bs:List (Nm × Sta))(b s:Nm):Prop:=∃st,vA bs b=some st∧st.state=2∧st.site=s
structure Inv (p:FlP) (q:FlQ):Prop where
 bs:p.bs=q.bs
 sts:∀s b,vA p.sites s=some b↔OJ p.bs b s
 idle:∀b st,vA p.bs b=some st→st.state≠2→st.site=[]
 name:∀st,vA p.bs []≠some st
 runs:p.runs=q.runs.map RanQ.run
 gone:∀r∈q.runs,r.board=[]→0≤r.til
 brd:∀b,b≠[]→∃C:List RanQ,(∀r∈C,0≤r.til)∧p.ends.filter (fun e=>decide (e.board=b))=C.map RanQ.fin ∧
  (((∀st,vA p.bs b=some st→st.state≠2)∧q.runs.filter (fun r=>decide (r.board=b))=C) ∨
   (∃st,vA p.bs b=some st∧st.state=2∧q.runs.filter (fun r=>decide (r.board=b))=C++[⟨b,st.site,st.step,st.since,-1,false⟩]))
theorem Inv.busy {p:FlP}{q:FlQ}(I:Inv p q)(s:Nm):(vA p.sites s).isSome=true↔vN q.bs s:=by
 rw[Option.isSome_iff_exists];constructor
 ·rintro⟨b,h⟩
  obtain⟨st,h1,h2,h3⟩:=(I.sts s b).1 h;exact⟨b,st,by rw[←I.bs];exact h1,h2,h3⟩
 ·rintro⟨b,st,h1,h2,h3⟩
  exact⟨b,(I.sts s b).2 ⟨st,by rw[I.bs];exact h1,h2,h3⟩⟩
theorem Inv.opened {p:FlP}{q:FlQ}(I:Inv p q){r:RanQ}(hr:r∈q.runs)(ho:r.til<0):∃st,vA p.bs r.board=some st∧st.state=2∧r=⟨r.board,st.site,st.step,st.since,-1,false⟩:=by
 have hb:r.board≠[]:=fun e=>by have:=I.gone r hr e;omega
 obtain⟨C,c1,c2,h⟩:=I.brd r.board hb;have hm:r∈q.runs.filter (fun x=>decide (x.board=r.board)):=List.mem_filter.2 ⟨hr,by simp⟩
 rcases h with⟨_,h⟩|⟨st,h1,h2,h⟩
 ·rw[h]at hm
  have:=c1 r hm;omega
 ·rw[h]at hm
  rcases List.mem_append.1 hm with hm|hm
  ·have:=c1 r hm
   omega
  ·exact⟨st,h1,h2,List.mem_singleton.1 hm⟩
theorem Inv.close {p:FlP}{q:FlQ}(I:Inv p q){board:Nm}{st:Sta}(h1:vA p.bs board=some st)(h2:st.state=2)(at_:Int){f:RanQ→RanQ}(hf:∀ r,r.til<0→(f r).run=⟨r.site,r.frm,at_⟩) :
 SG p.runs st.site at_=(q.runs.map fun r=>if r.board=board∧r.til<0 then f r else r).map RanQ.run:=by
 unfold SG;rw[I.runs,List.map_map,List.map_map];apply List.map_congr_left
 intro r hr;simp only[Function.comp];by_cases ho:r.til<0
 ·obtain⟨st',a1,a2,a3⟩:=I.opened hr ho
  by_cases hb:r.board=board
  ·have e:st'=st:=by rw[hb,h1]at a1;exact(Option.some.inj a1).symm
   have hs:r.site=st.site:=by rw[a3,e]
   rw[if_pos (show(RanQ.run r).site=st.site∧(RanQ.run r).til<0 from⟨hs,ho⟩),if_pos ⟨hb,ho⟩,hf r ho]
   rfl
  ·rw[if_neg (c:=r.board=board∧r.til<0) (fun z=>hb z.1),if_neg]
   rintro⟨z1,_⟩
   have z2:r.site=st.site:=z1
   have z3:r.site=st'.site:=by rw[a3]
   have u1:=(I.sts st.site board).2 ⟨st,h1,h2,rfl⟩
   have u2:=(I.sts st.site r.board).2 ⟨st',a1,a2,by rw[←z3,z2]⟩
   rw[u1]at u2;exact hb (Option.some.inj u2).symm
 ·rw[if_neg (fun z=>ho z.2),if_neg (fun z=>ho z.2)]
theorem z1n {l:List RanQ}{f:RanQ→RanQ}(hf:∀ r∈l,(f r).board=r.board)(b:Nm):(l.map f).filter (fun r=>decide (r.board=b))=(l.filter fun r=>decide (r.board=b)).map f:=by
 rw[List.filter_map];congr 1
 apply List.filter_congr
 intro r hr;simp only[Function.comp];rw[hf r hr]
theorem zfw (steps:List Nm)(tries:Int){p:FlP}{q:FlQ}(I:Inv p q)(x:Ent)(hb:x.kind≠7→x.board≠[])(hs:x.kind=2→x.site≠[])(ht:0≤x.time)(hk:1≤x.kind∧x.kind≤7)(h7:x.kind≠7) :
 (fD steps tries p x).2=(doQ steps tries q x).2∧Inv (fD steps tries p x).1 (doQ steps tries q x).1:=by
 have hb0:=hb h7
 unfold fD doQ;rw[if_neg h7,I.bs];by_cases k1:x.kind=1
 ·rw[if_pos k1,if_pos k1]
  cases hg:vA q.bs x.board with
  | some s=>exact⟨rfl,I⟩
  | none=>
   refine⟨rfl,?_⟩;have hgp:vA p.bs x.board=none:=by rw[I.bs];exact hg
   have upd:∀b,vA (dB q.bs x.board ⟨1,x.time,steps.headD [],[],0⟩) b=if b=x.board then some ⟨1,x.time,steps.headD [],[],0⟩ else vA p.bs b:=fun b=>by rw[KJ,I.bs]
   refine⟨rfl,fun s b=>?_,fun b st h1 h2=>?_,fun st=>?_,I.runs,I.gone,fun b h=>?_⟩
   ·rw[I.sts s b]
    unfold OJ;show _↔∃st,vA (dB q.bs _ _) b=some st∧_
    rw[upd b];by_cases e:b=x.board
    ·rw[if_pos e,e,hgp]
     constructor
     ·rintro⟨_,h,_⟩;cases h
     ·rintro⟨st,h,h2,_⟩;cases h;cases h2
    ·rw[if_neg e]
   ·change vA (dB q.bs _ _) b=some st at h1
    rw[upd b]at h1;split at h1
    ·cases h1;rfl
    ·exact I.idle b st h1 h2
   ·show vA (dB q.bs _ _) []≠some st
    rw[upd [],if_neg (fun e=>hb0 e.symm)]
    exact I.name st
   ·obtain⟨C,c1,c2,c3⟩:=I.brd b h
    refine⟨C,c1,c2,?_⟩;show((∀st,vA (dB q.bs _ _) b=some st→_)∧_)∨∃st,vA (dB q.bs _ _) b=some st∧_
    rw[upd b];by_cases e:b=x.board
    ·rw[if_pos e]
     left;refine⟨fun st h=>by cases h;show(1:Int)≠2;decide,?_⟩
     rcases c3 with⟨_,c3⟩|⟨st,c3,_⟩
     ·exact c3
     ·rw[e,hgp]at c3;cases c3
    ·rw[if_neg e];exact c3
 rw[if_neg k1,if_neg k1];cases hg:vA q.bs x.board with
 | none=>exact⟨rfl,I⟩
 | some b=>
  have hgp:vA p.bs x.board=some b:=by rw[I.bs];exact hg
  -- a board that does not run,and does not run behind it
  have quiet:∀s:Sta,b.state≠2→s.state≠2→s.site=[]→Inv { p with bs:=dB q.bs x.board s } { q with bs:=dB q.bs x.board s }:=fun s n1 n2 n3=>by
   have upd:∀c,vA (dB q.bs x.board s) c=if c=x.board then some s else vA p.bs c:=fun c=>by rw[KJ,I.bs]
   refine⟨rfl,fun s' c=>?_,fun c st h1 h2=>?_,fun st=>?_,I.runs,I.gone,fun c h=>?_⟩
   ·rw[I.sts s' c]
    unfold OJ;show _↔∃st,vA (dB q.bs _ _) c=some st∧_
    rw[upd c];by_cases e:c=x.board
    ·rw[if_pos e,e,hgp]
     constructor
     ·rintro⟨_,h,h2,_⟩;cases h;exact absurd h2 n1
     ·rintro⟨_,h,h2,_⟩;cases h;exact absurd h2 n2
    ·rw[if_neg e]
   ·change vA (dB q.bs _ _) c=some st at h1
    rw[upd c]at h1;split at h1
    ·cases h1;exact n3
    ·exact I.idle c st h1 h2
   ·show vA (dB q.bs _ _) []≠some st
    rw[upd [],if_neg (fun e=>hb0 e.symm)]
    exact I.name st
   ·obtain⟨C,c1,c2,c3⟩:=I.brd c h
    refine⟨C,c1,c2,?_⟩;show((∀st,vA (dB q.bs _ _) c=some st→_)∧_)∨∃st,vA (dB q.bs _ _) c=some st∧_
    rw[upd c];by_cases e:c=x.board
    ·rw[if_pos e]
     left;refine⟨fun st h=>by cases h;exact n2,?_⟩
     rcases c3 with⟨_,c3⟩|⟨st,c3,c4,_⟩
     ·exact c3
     ·rw[e,hgp]at c3;cases c3;exact absurd c4 n1
    ·rw[if_neg e];exact c3
  by_cases k2:x.kind=2
  ·dsimp only
   rw[if_pos k2,if_pos k2];by_cases e1:b.state≠1
   ·rw[if_pos e1,if_pos e1];exact⟨rfl,I⟩
   rw[if_neg e1,if_neg e1];have e1':b.state=1:=by simpa using e1
   by_cases e2:x.step≠b.step
   ·rw[if_pos e2,if_pos (fun q=>e2 q.symm)];exact⟨rfl,I⟩
   have e2':x.step=b.step:=by simpa using e2
   rw[if_neg (c:=x.step≠b.step) e2,if_neg (c:=b.step≠x.step) (fun z=>z e2'.symm)]
   by_cases e3:(vA p.sites x.site).isSome=true
   ·rw[if_pos e3,if_pos ((I.busy _).1 e3)];exact⟨rfl,I⟩
   rw[if_neg e3,if_neg (fun z=>e3 ((I.busy _).2 z))]
   refine⟨rfl,?_⟩;have e3':vA p.sites x.site=none:=by simpa using e3
   have upd:∀c,vA (dB q.bs x.board { b with state:=2,since:=x.time,site:=x.site }) c=if c=x.board then some { b with state:=2,since:=x.time,site:=x.site } else vA p.bs c:=fun c=>by rw[KJ,I.bs]
   refine⟨rfl,fun s c=>?_,fun c st h1 h2=>?_,fun st=>?_,?_,fun r hr=>?_,fun c h=>?_⟩
   ·show vA (dB p.sites x.site x.board) s=some c↔∃st,vA (dB q.bs _ _) c=some st∧_
    rw[KJ,upd c];by_cases es:s=x.site
    ·rw[if_pos es]
     by_cases ec:c=x.board
     ·rw[if_pos ec,ec]
      exact⟨fun _=>⟨_,rfl,rfl,es.symm⟩,fun _=>rfl⟩
     ·rw[if_neg ec]
      constructor
      ·intro h;exact absurd (Option.some.inj h).symm ec
      ·intro h
       have:=(I.sts s c).2 h;rw[es,e3']at this;cases this
    ·rw[if_neg es,I.sts s c]
     unfold OJ;by_cases ec:c=x.board
     ·rw[if_pos ec,ec,hgp]
      constructor
      ·rintro⟨_,h,h2,_⟩;cases h;omega
      ·rintro⟨_,h,_,h3⟩;cases h;exact absurd h3.symm es
     ·rw[if_neg ec]
   ·change vA (dB q.bs _ _) c=some st at h1
    rw[upd c]at h1;split at h1
    ·cases h1;exact absurd rfl h2
    ·exact I.idle c st h1 h2
   ·show vA (dB q.bs _ _) []≠some st
    rw[upd [],if_neg (fun e=>hb0 e.symm)]
    exact I.name st
   ·show p.runs++[_]=(q.runs++[_]).map RanQ.run
    rw[List.map_append,I.runs];rfl
   ·intro he
    rcases List.mem_append.1 hr with hr|hr
    ·exact I.gone r hr he
    ·rw[List.mem_singleton.1 hr]at he;exact absurd he hb0
   ·obtain⟨C,c1,c2,c3⟩:=I.brd c h
    refine⟨C,c1,c2,?_⟩;dsimp only;rw[upd c,List.filter_append];by_cases ec:c=x.board
    ·rw[if_pos ec]
     right;refine⟨_,rfl,rfl,?_⟩
     rcases c3 with⟨_,c3⟩|⟨st,c3,c4,_⟩
     ·rw[c3,ec,e2'];simp
     ·rw[ec,hgp]at c3;cases c3;omega
    ·rw[if_neg ec]
     have e0:([(⟨x.board,x.site,x.step,x.time,-1,false⟩:RanQ)]:List RanQ).filter (fun r=>decide (r.board=c))=[]:=by have ec':¬x.board=c:=fun z=>ec z.symm;simp [ec']
     rw[e0,List.append_nil];exact c3
  dsimp only;rw[if_neg k2,if_neg k2];by_cases k3:x.kind=3∨x.kind=4
  ·rw[if_pos k3,if_pos k3]
   by_cases e1:b.state≠2
   ·rw[if_pos e1,if_pos e1];exact⟨rfl,I⟩
   rw[if_neg e1,if_neg e1];have e1':b.state=2:=by simpa using e1
   by_cases e2:b.site≠x.site
   ·rw[if_pos e2,if_pos e2];exact⟨rfl,I⟩
   rw[if_neg e2,if_neg e2];refine⟨rfl,?_⟩;generalize hps:decide (x.kind=3)=ps;have s2:(TF steps tries b x.time ps).state≠2∧(TF steps tries b x.time ps).site=[]:=by
    unfold TF;split
    ·split
     ·exact⟨by show(4:Int)≠2;decide,rfl⟩
     ·exact⟨by show(1:Int)≠2;decide,rfl⟩
    ·refine⟨?_,rfl⟩;dsimp only;split <;> decide
   generalize TF steps tries b x.time ps=s at s2;obtain⟨n2,n3⟩:=s2;have upd:∀c,vA (dB q.bs x.board s) c=if c=x.board then some s else vA p.bs c:=fun c=>by rw[KJ,I.bs]
   have cb:∀r∈q.runs,(if r.board=x.board∧r.til<0 then { r with til:=x.time,pass:=ps } else r:RanQ).board=r.board:=fun r _=>by split <;> rfl
   refine⟨rfl,fun s' c=>?_,fun c st h1 h2=>?_,fun st=>?_,?_,fun r hr=>?_,fun c h=>?_⟩
   ·show vA (iG p.sites b.site) s'=some c↔∃st,vA (dB q.bs _ _) c=some st∧_
    rw[z1J,upd c];by_cases es:s'=b.site
    ·rw[if_pos es]
     constructor
     ·intro h;cases h
     ·by_cases ec:c=x.board
      ·rw[if_pos ec];rintro⟨_,h,h2,_⟩;cases h;exact absurd h2 n2
      ·rw[if_neg ec]
       intro h;have u1:=(I.sts s' c).2 h
       have u2:=(I.sts b.site x.board).2 ⟨b,hgp,e1',rfl⟩
       rw[es,u2]at u1;exact absurd (Option.some.inj u1).symm ec
    ·rw[if_neg es,I.sts s' c]
     unfold OJ;by_cases ec:c=x.board
     ·rw[if_pos ec,ec,hgp]
      constructor
      ·rintro⟨_,h,_,h3⟩;cases h;exact absurd h3.symm es
      ·rintro⟨_,h,h2,_⟩;cases h;exact absurd h2 n2
     ·rw[if_neg ec]
   ·change vA (dB q.bs _ _) c=some st at h1
    rw[upd c]at h1;split at h1
    ·cases h1;exact n3
    ·exact I.idle c st h1 h2
   ·show vA (dB q.bs _ _) []≠some st
    rw[upd [],if_neg (fun e=>hb0 e.symm)]
    exact I.name st
   ·exact I.close hgp e1' x.time (f:=fun r=>{ r with til:=x.time,pass:=ps }) (fun r _=>rfl)
   ·intro he
    obtain⟨r0,hr0,rfl⟩:=List.mem_map.1 hr;rw[cb r0 hr0]at he;have:=I.gone r0 hr0 he;rw[if_neg (fun z=>by omega)];exact this
   ·obtain⟨C,c1,c2,c3⟩:=I.brd c h
    by_cases ec:c=x.board
    ·subst ec
     rcases c3 with⟨c3,_⟩|⟨st,c3,c4,c5⟩
     ·exact absurd e1' (c3 b hgp)
     rw[hgp]at c3;cases c3
     refine⟨C++[⟨x.board,b.site,b.step,b.since,x.time,ps⟩],fun r hr=>?_,?_,.inl ⟨fun st hst=>?_,?_⟩⟩
     ·rcases List.mem_append.1 hr with hr|hr
      ·exact c1 r hr
      ·rw[List.mem_singleton.1 hr];exact ht
     ·show(p.ends++[_]).filter _=_
      rw[List.filter_append,c2,List.map_append];simp [RanQ.fin]
     ·change vA (dB q.bs _ _) x.board=some st at hst
      rw[upd,if_pos rfl]at hst;cases hst;exact n2
     ·show(pL q.runs x.board x.time ps).filter _=_
      unfold pL;rw[z1n cb,c5,List.map_append];congr 1
      ·conv=>rhs;rw[←List.map_id C]
       apply List.map_congr_left
       intro r hr;have:=c1 r hr;rw[if_neg (fun z=>by omega)];rfl
      ·simp
    ·refine⟨C,c1,?_,?_⟩
     ·show(p.ends++[_]).filter _=_
      rw[List.filter_append,c2];have ec':¬x.board=c:=fun z=>ec z.symm
      simp [ec']
     ·dsimp only
      rw[upd c,if_neg ec];have same:(pL q.runs x.board x.time ps).filter (fun r=>decide (r.board=c))=q.runs.filter (fun r=>decide (r.board=c)):=by
       unfold pL;rw[z1n cb];conv=>rhs;rw[←List.map_id (q.runs.filter _)]
       apply List.map_congr_left
       intro r hr;have hrb:r.board=c:=by simpa using (List.mem_filter.1 hr).2
       rw[if_neg (fun z=>ec (hrb.symm.trans z.1))];rfl
      rw[same];exact c3
  rw[if_neg k3,if_neg k3];by_cases k5:x.kind=5
  ·rw[if_pos k5,if_pos k5]
   by_cases e1:b.state≠3
   ·rw[if_pos e1,if_pos e1];exact⟨rfl,I⟩
   rw[if_neg e1,if_neg e1];have e1':b.state=3:=by simpa using e1
   exact⟨rfl,quiet _ (by omega) (by show(1:Int)≠2;decide) (I.idle x.board b hgp (by omega))⟩
  rw[if_neg k5,if_neg k5];by_cases e45:b.state=4∨b.state=5
  ·rw[if_pos e45,if_pos e45];exact⟨rfl,I⟩
  rw[if_neg e45,if_neg e45];by_cases e2:b.state=2
  ·rw[if_pos e2]
   refine⟨rfl,?_⟩;have upd:∀c,vA (dB q.bs x.board { b with state:=5,since:=x.time,site:=[] }) c=if c=x.board then some { b with state:=5,since:=x.time,site:=[] } else vA p.bs c:=fun c=>by rw[KJ,I.bs]
   refine⟨rfl,fun s' c=>?_,fun c st h1 h2=>?_,fun st=>?_,?_,fun r hr=>?_,fun c h=>?_⟩
   ·show vA (iG p.sites b.site) s'=some c↔∃st,vA (dB q.bs _ _) c=some st∧_
    rw[z1J,upd c];by_cases es:s'=b.site
    ·rw[if_pos es]
     constructor
     ·intro h;cases h
     ·by_cases ec:c=x.board
      ·rw[if_pos ec];rintro⟨_,h,h2,_⟩;cases h;cases h2
      ·rw[if_neg ec]
       intro h;have u1:=(I.sts s' c).2 h
       have u2:=(I.sts b.site x.board).2 ⟨b,hgp,e2,rfl⟩
       rw[es,u2]at u1;exact absurd (Option.some.inj u1).symm ec
    ·rw[if_neg es,I.sts s' c]
     unfold OJ;by_cases ec:c=x.board
     ·rw[if_pos ec,ec,hgp]
      constructor
      ·rintro⟨_,h,_,h3⟩;cases h;exact absurd h3.symm es
      ·rintro⟨_,h,h2,_⟩;cases h;cases h2
     ·rw[if_neg ec]
   ·change vA (dB q.bs _ _) c=some st at h1
    rw[upd c]at h1;split at h1
    ·cases h1;rfl
    ·exact I.idle c st h1 h2
   ·show vA (dB q.bs _ _) []≠some st
    rw[upd [],if_neg (fun e=>hb0 e.symm)]
    exact I.name st
   ·exact I.close hgp e2 x.time (f:=fun r=>{ r with til:=x.time,board:=[] }) (fun r _=>rfl)
   ·intro he
    obtain⟨r0,hr0,rfl⟩:=List.mem_map.1 hr;by_cases z:r0.board=x.board∧r0.til<0
    ·rw[if_pos z];exact ht
    ·rw[if_neg z]at he ⊢;exact I.gone r0 hr0 he
   ·obtain⟨C,c1,c2,c3⟩:=I.brd c h
    have fl:(NM q.runs x.board x.time).filter (fun r=>decide (r.board=c))=(q.runs.filter (fun r=>decide (r.board=c))).filter (fun r=>!(decide (r.board=x.board)&&decide (r.til<0))):=by
     unfold NM;rw[List.filter_filter];induction q.runs with
     | nil=>rfl
     | cons r l ih=>
      rw[List.map_cons,List.filter_cons,List.filter_cons,ih];by_cases z:r.board=x.board∧r.til<0
      ·rw[if_pos z]
       have z2:(!(decide (r.board=x.board)&&decide (r.til<0))&&decide (r.board=c))=false:=by simp [z.1,z.2]
       have h':¬([]:List UInt8)=c:=fun z=>h z.symm
       simp [h',z.1,z.2]
      ·rw[if_neg z]
       have z3:(!(decide (r.board=x.board)&&decide (r.til<0)))=true:=by
        rw[←Bool.decide_and];simp [z]
       rw[z3,Bool.true_and]
    refine⟨C,c1,c2,?_⟩;dsimp only;rw[upd c,fl];have keepC:C.filter (fun r=>!(decide (r.board=x.board)&&decide (r.til<0)))=C:=by
     rw[List.filter_eq_self];intro r hr;have:=c1 r hr;have z:¬r.til<0:=by omega
     simp [z]
    by_cases ec:c=x.board
    ·subst ec
     rw[if_pos rfl];left;refine⟨fun st hst=>by cases hst;show(5:Int)≠2;decide,?_⟩
     rcases c3 with⟨c3,_⟩|⟨st,c3,c4,c5⟩
     ·exact absurd e2 (c3 b hgp)
     ·rw[c5,List.filter_append,keepC];simp
    ·rw[if_neg ec]
     rcases c3 with⟨c3,c5⟩|⟨st,c3,c4,c5⟩
     ·left;exact⟨c3,by rw[c5,keepC]⟩
     ·right
      refine⟨st,c3,c4,?_⟩;rw[c5,List.filter_append,keepC];simp [ec]
  ·rw[if_neg e2]
   refine⟨rfl,?_⟩;have e0:=I.idle x.board b hgp e2
   have eb:({ b with state:=5,since:=x.time,site:=[] }:Sta)={ b with state:=5,since:=x.time }:=by rw[←e0]
   have same:NM q.runs x.board x.time=q.runs:=by
    unfold NM;conv=>rhs;rw[←List.map_id q.runs]
    apply List.map_congr_left
    intro r hr;rw[if_neg]
    ·rfl
    ·rintro⟨z1,z2⟩
     obtain⟨st',a1,a2,_⟩:=I.opened hr z2;rw[z1,hgp]at a1;cases a1
     exact e2 a2
   rw[eb,same];exact quiet _ e2 (by show(5:Int)≠2;decide) e0
theorem inv0:Inv ⟨[],[],[],[]⟩ ⟨[],[]⟩ where
 bs:=rfl
 sts s b:=⟨fun h=>(by cases h),fun h=>(by obtain⟨_,h,_⟩:=h;cases h)⟩
 idle b st h:=by cases h
 name st h:=by cases h
 runs:=rfl
 gone r hr:=by cases hr
 brd b _:=⟨[],fun r hr=>(by cases hr),rfl,.inl ⟨fun st h=>(by cases h),rfl⟩⟩
end Go.Am
end
section
/- First passes of steps,plainly: counted by ends,counted by boards. -/
set_option linter.all false
namespace Go.Am
end Go.Am
end
section
/- Entries that count,and what is followed of them,plainly. -/
set_option linter.all false
namespace Go.Am
def GG (y x:Ent):Bool:=decide (y.kind=7)&&decide (y.of=x.site)&&decide (y.other=x.no)
def VA:List Ent→List Bool
 | []=>[]
 | x::r=>(!((r.zip (VA r)).any fun y=>y.2&&GG y.1 x))::VA r
theorem rE:∀ l,(VA l).length=l.length
 | []=>rfl
 | x::r=>by simp [VA,rE r]
theorem pS:∀ (l:List Ent)(k:Nat),(VA l).drop k=VA (l.drop k)
 | [],k=>by simp [VA]
 | x::r,0=>rfl
 | x::r,k+1=>by simpa [VA] using pS r k
def AC:List Ent→List (Nm×Int)
 | []=>[]
 | x::r=>if decide ((x.site,x.no)∈AC r)=false∧x.kind=7 then(x.of,x.other)::AC r else AC r
theorem z3W:∀ (l:List Ent)(s:Nm)(n:Int),(s,n)∈AC l↔((l.zip (VA l)).any fun y=>y.2&&(decide (y.1.kind=7)&&decide (y.1.of=s)&&decide (y.1.other=n)))=true
 | [],s,n=>by simp [AC,VA]
 | x::r,s,n=>by
  have ih:=z3W r
  have hb:decide ((x.site,x.no)∈AC r)=((r.zip (VA r)).any fun y=>y.2&&GG y.1 x):=by
   rw[Bool.eq_iff_iff,decide_eq_true_eq,ih x.site x.no];rfl
  unfold AC;rw[VA,List.zip_cons_cons,List.any_cons,←hb];cases hd:decide ((x.site,x.no)∈AC r) with
  | true=>
   rw[if_neg (by simp),ih s n]
   simp
  | false=>
   by_cases h7:x.kind=7
   ·rw[if_pos ⟨rfl,h7⟩,List.mem_cons,ih s n,Bool.or_eq_true]
    have:((s,n)=(x.of,x.other))↔((!false&&(decide (x.kind=7)&&decide (x.of=s)&&decide (x.other=n)))=true):=by
     simp only[Prod.mk.injEq,Bool.not_false,Bool.true_and,h7,decide_true,Bool.and_eq_true,decide_eq_true_eq];exact⟨fun h=>⟨h.1.symm,h.2.symm⟩,fun h=>⟨h.1.symm,h.2.symm⟩⟩
    rw[this]
   ·rw[if_neg (fun z=>h7 z.2),ih s n]
    simp [h7]
theorem zac (x:Ent)(r:List Ent):VA (x::r)=(!decide ((x.site,x.no)∈AC r))::VA r:=by
 have hb:decide ((x.site,x.no)∈AC r)=((r.zip (VA r)).any fun y=>y.2&&GG y.1 x):=by
  rw[Bool.eq_iff_iff,decide_eq_true_eq,z3W r x.site x.no];rfl
 rw[hb];rfl
structure AllP where
 w:FlP
 ref:List Nat
 why:List Int
structure AllQ where
 w:FlQ
 ref:List Nat
 why:List Int
def goP (steps:List Nm)(tries:Int):AllP→Nat→List (Ent×Bool)→AllP
 | a,_,[]=>a
 | a,i,(x,c)::r=>if c=false∨x.kind=7 then goP steps tries a (i+1) r
  else goP steps tries (if(fD steps tries a.w x).2≠0 then⟨(fD steps tries a.w x).1,a.ref++[i],a.why++[(fD steps tries a.w x).2]⟩ else⟨(fD steps tries a.w x).1,a.ref,a.why⟩) (i+1) r
def goQ (steps:List Nm)(tries:Int):AllQ→Nat→List (Ent×Bool)→AllQ
 | a,_,[]=>a
 | a,i,(x,c)::r=>if c=false then goQ steps tries a (i+1) r
  else goQ steps tries (if(doQ steps tries a.w x).2≠0 then⟨(doQ steps tries a.w x).1,a.ref++[i],a.why++[(doQ steps tries a.w x).2]⟩ else⟨(doQ steps tries a.w x).1,a.ref,a.why⟩) (i+1) r
structure EntW (x:Ent):Prop where
 b:x.kind≠7→x.board≠[]
 s:x.kind=2→x.site≠[]
 t:0≤x.time
 k:1≤x.kind∧x.kind≤7
theorem dU {s:List UInt8}(h:LB s=true):s≠[]:=by
 intro e;subst e;revert h
 decide
theorem zej {x:Ent}(h:JB x=0):EntW x:=by
 unfold JB at h;split at h
 ·cases h
 rename_i h1;split at h
 ·cases h
 rename_i h2;split at h
 ·cases h
 rename_i h3;split at h
 ·cases h
 rename_i h4;have k1:1≤x.kind∧x.kind≤7:=by
  have:inB 1 x.kind 7=true:=by simpa using h3
  unfold inB at this;simpa using this
 have t1:0≤x.time:=by
  rw[not_or]at h2;have:lE x.time=true:=by simpa using h2.2
  unfold lE inB at this;simp at this;exact this.1
 have hs:x.site≠[]:=dU (by simpa using h1)
 have hn:TJ x=true:=by simpa using h4
 refine⟨fun h7=>?_,fun _=>hs,t1,k1⟩
 unfold TJ at hn;rw[if_neg h7]at hn;split at hn
 ·rw[Bool.and_eq_true]at hn;exact dU hn.1
 ·exact dU hn
theorem aM (steps:List Nm)(tries:Int):∀(l:List (Ent×Bool)) (a:AllP) (b:AllQ) (i:Nat),(∀y∈l,EntW y.1)→Inv a.w b.w→a.ref=b.ref→a.why=b.why →
 Inv (goP steps tries a i l).w (goQ steps tries b i l).w∧(goP steps tries a i l).ref=(goQ steps tries b i l).ref∧(goP steps tries a i l).why=(goQ steps tries b i l).why
 | [],a,b,i,_,I,h1,h2=>⟨I,h1,h2⟩
 | (x,c)::r,a,b,i,hw,I,h1,h2=>by
  have hr:=fun y hy=>hw y (List.mem_cons_of_mem (x,c) hy)
  obtain⟨w1,w2,w3,w4⟩:=hw (x,c) (List.mem_cons_self ..);unfold goP goQ;cases c with
  | false=>rw[if_pos (.inl rfl),if_pos rfl];exact aM steps tries r a b (i+1) hr I h1 h2
  | true=>
   rw[if_neg (c:=true=false) (by simp)]
   by_cases h7:x.kind=7
   ·rw[if_pos (.inr h7)]
    have e:doQ steps tries b.w x=(b.w,0):=by unfold doQ;rw[if_pos h7]
    rw[e,if_neg (by simp)]
    exact aM steps tries r a b (i+1) hr I h1 h2
   ·rw[if_neg (c:=true=false∨x.kind=7) (by simp [h7])]
    obtain⟨e1,I2⟩:=zfw steps tries I x w1 w2 w3 w4 h7;rw[e1];by_cases h0:(doQ steps tries b.w x).2≠0
    ·rw[if_pos h0,if_pos h0]
     exact aM steps tries r _ _ (i+1) hr I2 (by dsimp only;rw[h1]) (by dsimp only;rw[h2])
    ·rw[if_neg h0,if_neg h0]
     exact aM steps tries r _ _ (i+1) hr I2 h1 h2
end Go.Am
end
section
/- The floor's memory: what lies where. -/
open Go
set_option linter.all false
set_option maxRecDepth 100000
namespace Go.Am
variable {h:aA} {K:jA}
def FH (h:aA)(o0 o1 o2 o3 o4 o5 o6 o7:Obj)(B l:aA):aA:=h++o0::o1::o2::o3::o4::o5::o6::o7::(B++l)
section
variable {o0 o1 o2 o3 o4 o5 o6 o7 o o':Obj} {B l l2:aA} {n:Nat}
theorem PE:(FH h o0 o1 o2 o3 o4 o5 o6 o7 B l).length=h.length+(8+B.length+l.length):=by unfold FH;simp;omega
theorem GE:FH h o0 o1 o2 o3 o4 o5 o6 o7 B l++l2=FH h o0 o1 o2 o3 o4 o5 o6 o7 B (l++l2):=by unfold FH;simp
theorem QH (n:Nat):(FH h o0 o1 o2 o3 o4 o5 o6 o7 B l)[h.length+n]?=(o0::o1::o2::o3::o4::o5::o6::o7::(B++l))[n]?:=by unfold FH;rw[List.getElem?_append_right (by omega)];simp
theorem RH (n:Nat):(FH h o0 o1 o2 o3 o4 o5 o6 o7 B l).set (h.length+n) o=h++(o0::o1::o2::o3::o4::o5::o6::o7::(B++l)).set n o:=by unfold FH;rw[List.set_append_right _ _ (by omega)];simp
theorem HE:(FH h o0 o1 o2 o3 o4 o5 o6 o7 B l)[h.length+1]?=some o1:=QH 1
theorem IE:(FH h o0 o1 o2 o3 o4 o5 o6 o7 B l)[h.length+2]?=some o2:=QH 2
theorem JE:(FH h o0 o1 o2 o3 o4 o5 o6 o7 B l)[h.length+3]?=some o3:=QH 3
theorem KE:(FH h o0 o1 o2 o3 o4 o5 o6 o7 B l)[h.length+4]?=some o4:=QH 4
theorem LE:(FH h o0 o1 o2 o3 o4 o5 o6 o7 B l)[h.length+5]?=some o5:=QH 5
theorem NE:(FH h o0 o1 o2 o3 o4 o5 o6 o7 B l)[h.length+6]?=some o6:=QH 6
theorem OE:(FH h o0 o1 o2 o3 o4 o5 o6 o7 B l)[h.length+7]?=some o7:=QH 7
theorem QE:(FH h o0 o1 o2 o3 o4 o5 o6 o7 B l).set (h.length+1) o=FH h o0 o o2 o3 o4 o5 o6 o7 B l:=RH 1
theorem RE:(FH h o0 o1 o2 o3 o4 o5 o6 o7 B l).set (h.length+2) o=FH h o0 o1 o o3 o4 o5 o6 o7 B l:=RH 2
theorem SE:(FH h o0 o1 o2 o3 o4 o5 o6 o7 B l).set (h.length+3) o=FH h o0 o1 o2 o o4 o5 o6 o7 B l:=RH 3
theorem TE:(FH h o0 o1 o2 o3 o4 o5 o6 o7 B l).set (h.length+4) o=FH h o0 o1 o2 o3 o o5 o6 o7 B l:=RH 4
theorem UE:(FH h o0 o1 o2 o3 o4 o5 o6 o7 B l).set (h.length+5) o=FH h o0 o1 o2 o3 o4 o o6 o7 B l:=RH 5
theorem VE:(FH h o0 o1 o2 o3 o4 o5 o6 o7 B l).set (h.length+6) o=FH h o0 o1 o2 o3 o4 o5 o o7 B l:=RH 6
theorem XE:(FH h o0 o1 o2 o3 o4 o5 o6 o7 B l).set (h.length+7) o=FH h o0 o1 o2 o3 o4 o5 o6 o B l:=RH 7
end
def Ent.bx (x:Ent):Obj:=.box [AS x.site,AI x.no,AI x.time,AI x.kind,AS x.board,AS x.step,AS x.of,AI x.other]
def Sta.bx (s:Sta):Obj:=.box [AI s.state,AI s.since,AS s.step,AS s.site,AI s.failed]
def Sta.pv (s:Sta):PV:=.agg [eI s.state,eI s.since,.str s.step,.str s.site,eI s.failed]
abbrev oE:=List (Ent × Sta)
def boxB:oE→aA
 | []=>[]
 | e::r=>e.1.bx::e.1.bx::e.2.bx::boxB r
section
variable {o0 o1 o2 o3 o4 o5 o6 o7:Obj} {l:aA} {bs:oE} {i:Nat} {e:Ent × Sta}
end
def refA (q:Nat):AV:=.ref q 0
def mapB:Nat→oE→List (Nm × Nat)
 | _,[]=>[]
 | q,e::r=>(e.1.board,q+2)::mapB (q+3) r
def asA (bs:oE):List (Nm×Sta):=bs.map fun e=>(e.1.board,e.2)
def ixB (k:Nm):oE→Option Nat
 | []=>none
 | e::r=>if k=e.1.board then some 0 else(ixB k r).map (· + 1)
theorem z2b (k:Nm):∀(bs:oE),(ixB k bs=none→vA (asA bs) k=none)∧∀i,ixB k bs=some i→∃e,bs[i]?=some e∧e.1.board=k∧vA (asA bs) k=some e.2
 | []=>⟨fun _=>rfl,fun i h=>by cases h⟩
 | e::r=>by
  obtain⟨i1,i2⟩:=z2b k r;unfold ixB;by_cases h:k=e.1.board
  ·refine⟨fun z=>by simp [h]at z,fun i hi=>?_⟩
   rw[if_pos h]at hi;cases hi;exact⟨e,rfl,h.symm,by unfold asA;rw[List.map_cons,vG,if_pos h.symm]⟩
  ·have hn:¬e.1.board=k:=fun z=>h z.symm
   rw[if_neg h];refine⟨fun z=>?_,fun i hi=>?_⟩
   ·unfold asA
    rw[List.map_cons,vG,if_neg hn];exact i1 (by simpa using z)
   ·obtain⟨j,hj,e2⟩:=Option.map_eq_some_iff.1 hi
    obtain⟨y,y1,y2,y3⟩:=i2 j hj;subst e2;refine⟨y,by simpa using y1,y2,?_⟩
    unfold asA;rw[List.map_cons,vG,if_neg hn];exact y3
theorem z8f {bs:oE}{k:Nm}{i:Nat}{e:Ent × Sta}(hi:ixB k bs=some i)(he:bs[i]?=some e)(hu:(bs.map fun e=>e.1.board).Nodup)(s:Sta):asA (bs.set i (e.1,s))=dB (asA bs) k s:=by
 induction bs generalizing i with
 | nil=>cases hi
 | cons y r ih=>
  unfold ixB at hi;rw[List.map_cons,List.nodup_cons]at hu;by_cases h:k=y.1.board
  ·rw[if_pos h]at hi
   cases hi;simp at he
   subst he;unfold dB asA;rw[if_pos (by simp [h])]
   simp only[List.set_cons_zero,List.map_cons,h,if_true];congr 1
   rw[List.map_map];apply List.map_congr_left
   intro z hz;have:¬z.1.board=y.1.board:=fun q=>hu.1 (q ▸ List.mem_map_of_mem hz)
   simp [this]
  ·rw[if_neg h]at hi
   obtain⟨j,hj,e2⟩:=Option.map_eq_some_iff.1 hi;subst e2;have hn:¬y.1.board=k:=fun z=>h z.symm
   have he':r[j]?=some e:=by simpa using he
   have q:=ih hj he' hu.2
   simp only[List.set_cons_succ];unfold dB asA at q ⊢;simp only[List.map_cons,List.any_cons,decide_eq_false hn,Bool.false_or,if_neg hn];rw[q];split
   ·rfl
   ·rfl
theorem z8e {bs:oE}{k:Nm}(hi:ixB k bs=none)(x:Ent)(hx:x.board=k)(s:Sta):asA (bs++[(x,s)])=dB (asA bs) k s:=by
 have:(asA bs).any (fun e=>decide (e.1=k))=false:=by
  induction bs with
  | nil=>rfl
  | cons y r ih=>
   unfold ixB at hi;by_cases h:k=y.1.board
   ·rw[if_pos h]at hi;cases hi
   ·rw[if_neg h]at hi
    have hn:¬y.1.board=k:=fun z=>h z.symm
    have q:=ih (by simpa using hi)
    unfold asA at q ⊢;rw[List.map_cons,List.any_cons,q];simp [hn]
 unfold dB;rw[if_neg (by simp [this])]
 unfold asA;simp [hx]
abbrev LG:=List ((Nm × Nm) × Nat)
def dobj (m:LG)(c:Nat):Obj:=.amap (m.map fun e=>⟨.str e.1.1,AS e.1.2,e.2⟩) c
def asS (m:LG):List (Nm×Nm):=m.map (·.1)
def NO (k:Nm):LG→Option Nat
 | []=>none
 | e::r=>if k=e.1.1 then some 0 else(NO k r).map (· + 1)
end Go.Am
end
section
/- Where a byte stands in a text. -/
open Go
set_option linter.all false
namespace Go.Am
variable {h:aA} {K:jA}
end Go.Am
end
section
/- Lists of strings sorted,left out: printed by program. -/
open Go
set_option linter.unusedSimpArgs false
namespace Go.Am
attribute [-go_sem] PV.cells splice
variable {h:aA} {K:jA}
end Go.Am
end
section
/- Sorting numbers: printed by program. -/
open Go
set_option linter.unusedSimpArgs false
namespace Go.Am
attribute [-go_sem] PV.cells splice
variable {h:aA} {K:jA}
end Go.Am
end
section
/- Bins,zD ways;lists joined;records sorted. -/
open Go
set_option linter.unusedSimpArgs false
namespace Go.Am
variable {h:aA} {K:jA}
end Go.Am
end
section
/- Lists of records joined,compared,eC. -/
open Go
set_option linter.unusedSimpArgs false
namespace Go.Am
variable {h:aA} {K:jA}
instance:DecidableEq Rec:=fun a b=>decidable_of_iff (HV a b=true) (ziH a b)
theorem z1u {ls:List (List PV)}{k:Nat}(hk:k<ls.length):(ls.take (k+1)).flatten=(ls.take k).flatten++ls[k]:=by
 rw[List.take_succ_eq_append_getElem hk,List.flatten_append];simp
theorem PT:∀ (ls:List (List PV))(k:Nat),(ls.take k).flatten.length≤ls.flatten.length
 | [],k=>by simp
 | x::r,0=>by simp
 | x::r,k+1=>by
  have:=PT r k;simp only[List.take_succ_cons,List.flatten_cons,List.length_append];omega
end Go.Am
end
section
/- Records eC asv the reference does it. -/
open Go
set_option linter.unusedSimpArgs false
namespace Go.Am
variable {h:aA} {K:jA}
end Go.Am
end
section
/- Retests: which record of a unit counts. Plain lists;zD ways yield the same. -/
set_option linter.all false
namespace Go.Am
end Go.Am
end
section
/- Lists of strings. -/
open Go
set_option linter.all false
namespace Go.Am
variable {h:aA} {K:jA}
abbrev WC (us:List (List UInt8)):AV:=.p (.sl none (us.map PV.str))
theorem KV {us:List (List UInt8)}:TB none (us.map PV.str):=fun x hx=>by obtain⟨n,_,rfl⟩:=List.mem_map.1 hx;rfl
end Go.Am
end
section
/- The abstract machine,part L4: strings.Repeat,strings.Trim,math/bits.TrailingZeros64 asv rows. -/
set_option linter.all false
namespace Go.Am
variable {P:Program} {gl:Nat→Option PV}
open Go.Shelf
end Go.Am
end
section
/- The abstract machine,part L5: strings.Count at one byte,strings.Join asv rows. -/
set_option linter.all false
namespace Go.Am
variable {P:Program} {gl:Nat→Option PV}
open Go.Shelf
end Go.Am
end
section
/- Texts split at a byte. -/
open Go
set_option linter.all false
namespace Go.Am
variable {h:aA} {K:jA}
end Go.Am
end
section
/- Lines of a text. -/
open Go
set_option linter.all false
namespace Go.Am
variable {h:aA} {K:jA}
end Go.Am
end
section
/- Numbers read. -/
open Go
set_option linter.all false
namespace Go.Am
variable {h:aA} {K:jA}
end Go.Am
end
section
/- Several numbers read. -/
open Go
set_option linter.all false
namespace Go.Am
variable {h:aA} {K:jA}
end Go.Am
end
section
/- Numbers read,the reference's way. -/
open Go
set_option linter.all false
namespace Go.Am
variable {h:aA} {K:jA}
end Go.Am
end
section
/- Tests and faults: what is wrong with them,zD ways. -/
open Go
set_option linter.all false
namespace Go.Am
variable {h:aA} {K:jA}
end Go.Am
end
section
/- Faults: what is wrong with them,zD ways. -/
open Go
set_option linter.all false
namespace Go.Am
variable {h:aA} {K:jA}
def Flt.pv (f:Flt):PV:=.agg [eI f.kind,.sl none (f.nets.map eI)]
end Go.Am
end
section
/- Where a string stands among strings;words. -/
open Go
set_option linter.all false
namespace Go.Am
variable {h:aA} {K:jA}
theorem z69 {v:AV}(l:List (List UInt8))(hv:Shows none v (l.map PV.str) h)(x:List UInt8)(hl:l.length≤1000000):cA X mH [v,AS x] h K=K (AI (if l.findIdx (fun y=>decide (y=x))<l.length then(l.findIdx (fun y=>decide (y=x)):Int) else -1)) h []:=by
 refine MA ?_;rw[z91];have vl:=hv.len
 rw[List.length_map]at vl;simp only[fO,go_sem,vl];refine qB (fun k:Nat=>⟨[(0,v),(1,AS x),(7,AI l.length),(8,AI k)],h,[]⟩) (fun k=>k≤l.length∧∀y∈l.take k,decide (y=x)=false) (fun k=>l.length-k) 0 rfl (by simp) ?_
 rintro k ⟨hk,hn⟩
 rcases Nat.lt_or_ge k l.length with hlt|hge
 ·obtain⟨a,ha,hb⟩:=hv.get k (by simpa using hlt)
  rw[List.getElem_map]at hb;have w2:IntKind.i64.wrap ((k:Int)+1)=((k+1:Nat):Int):=BA _ (by omega) (by omega)
  by_cases hpk:x=l[k]
  ·have hf:l.findIdx (fun y=>decide (y=x))=k:=by
    rw[List.findIdx_eq hlt];refine⟨by simp [hpk],fun j hj=>?_⟩
    have:=hn l[j] (by rw[List.mem_take_iff_getElem];exact⟨j,by omega,rfl⟩)
    simpa using this
   simp only[go_sem,hlt,ha,hb,hpk.symm,w2];simp only[hf,hlt,if_true]
  ·simp only[go_sem,hlt,ha,hb,hpk,w2]
   refine⟨k+1,rfl,⟨by omega,fun y hy=>?_⟩,by omega⟩
   rw[List.take_succ_eq_append_getElem hlt,List.mem_append,List.mem_singleton]at hy;rcases hy with hy|hy
   ·exact hn y hy
   ·rw[hy];simp;exact fun e=>hpk e.symm
 ·have e1:k=l.length:=by omega
  subst e1;simp only[go_sem,Nat.lt_irrefl];rw[List.take_length]at hn;have:¬l.findIdx (fun y=>decide (y=x))<l.length:=by
   rw[Nat.not_lt,Nat.le_iff_lt_or_eq];right
   exact(List.findIdx_eq_length.2 (fun y hy=>by simp [hn y hy])).symm
  rw[if_neg this]
theorem qW {v:AV}(l:List (List UInt8))(hv:∀ h':aA,h'=h→Shows none v (l.map PV.str) h')(x:List UInt8)(hl:l.length≤1000000):cA X pG [v,AS x] h K=K (AB (l.contains x)) h []:=by
 refine MA ?_;rw[z9x];have e:=fun K=>z69 (h:=h) (K:=K) l (hv h rfl) x hl
 have hd:decide (0≤(if l.findIdx (fun y=>decide (y=x))<l.length then(l.findIdx (fun y=>decide (y=x)):Int) else -1))=l.contains x:=by
  rw[Bool.eq_iff_iff,decide_eq_true_eq,List.contains_iff_mem];constructor
  ·intro hq
   split at hq
   ·rename_i hlt
    have:=List.findIdx_getElem (w:=hlt);simp only[decide_eq_true_eq]at this;exact this ▸ List.getElem_mem hlt
   ·omega
  ·intro hm
   rw[if_pos (List.findIdx_lt_length_of_exists ⟨x,hm,by simp⟩)];omega
 simp only[TS,go_sem,e,hd]
theorem strS (ws:List (List UInt8)){h:aA}:Shows none (WC ws) (ws.map PV.str) h:=z3G KV
end Go.Am
end
section
/- Numbers written,joined. -/
open Go
set_option linter.all false
namespace Go.Am
variable {h:aA} {K:jA}
end Go.Am
end
section
/- A builder of strings. -/
open Go
set_option linter.all false
namespace Go.Am
variable {h:aA} {K:jA}
theorem zhT {b:Nat}:XA b h .nili=some .nili:=by simp only[XA]
attribute [local go_sem] zhT
end Go.Am
end
section
/- Numbers asv sets of bits;rows of a test asv numbers. -/
set_option linter.all false
namespace Go.Am
end Go.Am
end
section
/- Lists of faults: what is wrong with them,zD ways. -/
open Go
set_option linter.all false
namespace Go.Am
variable {h:aA} {K:jA}
end Go.Am
end
section
/- Rows of a test asv numbers. -/
open Go
set_option linter.all false
namespace Go.Am
variable {h:aA} {K:jA}
end Go.Am
end
section
/- Faults on rows: what the program makes of them. -/
open Go
set_option linter.all false
namespace Go.Am
variable {h:aA} {K:jA}
end Go.Am
end
section
/- Responses,asv the program computes them. -/
open Go
set_option linter.all false
namespace Go.Am
variable {h:aA} {K:jA}
end Go.Am
end
section
/- Faults written. -/
open Go
set_option linter.all false
namespace Go.Am
variable {h:aA} {K:jA}
end Go.Am
end
section
/- Sorting the middle of a row: printed by program. -/
open Go
set_option linter.unusedSimpArgs false
namespace Go.Am
attribute [-go_sem] PV.cells splice
variable {h:aA} {K:jA}
end Go.Am
end
section
/- What is drawn: orders,tests. -/
open Go
set_option linter.all false
namespace Go.Am
variable {L:List Int} {a:Int} {h l:aA} {id:Nat} {K:jA}
def GenK (f:Nat)(args:List AV)(L:List Int)(a:Int)(sh:Sh)(Q:List PV→Int→Prop):Prop:=∀(h:aA) (id:Nat),h[id]?=some (EA L a)→∃xs a2,Q xs a2∧∀K:jA,cA X f (.ref id 0::args) h K=K (.own h.length xs.length 0 xs.length) (h.set id (EA L a2)++[.row sh xs 0]) []
theorem GenK.of {f:Nat}{args:List AV}{L:List Int}{a:Int}{sh:Sh}{Q:List PV→Int→Prop}(H:∀ (h:aA) (id:Nat),id<h.length→cA X f (.ref id 0::args) (h.set id (EA L a)) fun v1 h1 x1=>∃ xs a2,Q xs a2∧v1 = .own h.length xs.length 0 xs.length∧h1=h.set id (EA L a2)++[.row sh xs 0]∧x1=[]):GenK f args L a sh Q:=by
 intro h id hh;have hid:=xE hh
 have k:=H h id hid
 rw[FG hh]at k;obtain⟨v,h',x,⟨xs,a2,q,e0,e1,e2⟩,r⟩:=cA.one XM k;subst e0;subst e1;subst e2
 exact⟨xs,a2,q,r⟩
end Go.Am
end
section
/- A text changed at random. -/
open Go
set_option linter.all false
namespace Go.Am
variable {L:List Int} {a:Int} {h l:aA} {id:Nat} {K:jA}
end Go.Am
end
section
/- Entries written. -/
open Go
set_option linter.all false
set_option maxRecDepth 100000
namespace Go.Am
variable {h:aA} {K:jA}
theorem z0A:∀ {rs:List Ent}{p:Option Ent},PC p rs=0→∀r∈rs,JB r=0
 | [],p,_,r,hr=>by cases hr
 | x::rs,p,hf,r,hr=>by
  have e:PC p (x::rs)=(if JB x≠0 then JB x else if(p.elim false fun q=>decide (IA x q≤0))=true then 7 else PC (some x) rs):=by cases p <;> rfl
  have hf':=hf
  rw[e]at hf';by_cases h1:JB x=0
  ·rw[if_neg (by simp [h1])]at hf'
   by_cases h2:(p.elim false fun q=>decide (IA x q≤0))=true
   ·rw[if_pos h2]at hf';exact absurd hf' (by decide)
   ·rw[if_neg h2]at hf'
    rcases List.mem_cons.1 hr with e|e
    ·rw[e];exact h1
    ·exact z0A hf' r e
  ·rw[if_pos h1]at hf';exact absurd hf' h1
theorem zen {rs:List Ent}(hf:wA rs=0):∀r∈rs,JB r=0:=by
 unfold wA at hf;split at hf
 ·cases hf
 split at hf
 ·rename_i h;exact absurd hf h
 ·rename_i h
  exact z0A (by simpa using h)
end Go.Am
end
section
/- A text taken line by line: base.Each,scanref2.Lines. -/
open Go
set_option linter.all false
namespace Go.Am
variable {h:aA} {K:jA}
end Go.Am
end
section
/- Faults read. -/
open Go
set_option linter.all false
namespace Go.Am
variable {h:aA} {K:jA}
end Go.Am
end
section
/- Lists of faults read. -/
open Go
set_option linter.all false
namespace Go.Am
variable {h:aA} {K:jA}
end Go.Am
end
section
/- fault.Read,scanref2.FaultsRead. -/
open Go
set_option linter.all false
namespace Go.Am
variable {h:aA} {K:jA}
end Go.Am
end
section
/- What is drawn: faults. -/
open Go
set_option linter.all false
namespace Go.Am
variable {L:List Int} {a:Int} {h l:aA} {id:Nat} {K:jA}
end Go.Am
end
section
/- Deleting faults: printed by program. -/
open Go
set_option linter.unusedSimpArgs false
namespace Go.Am
attribute [-go_sem] PV.cells splice
variable {h:aA} {K:jA}
attribute [-go_sem] AV.cells cut
attribute [go_sem] AV.cells cut
end Go.Am
end
section
/- What is drawn: lists of faults. -/
open Go
set_option linter.all false
namespace Go.Am
variable {L:List Int} {a:Int} {h l:aA} {id:Nat} {K:jA}
end Go.Am
end
section
/- Stable sorts of numbers: printed by program. -/
open Go
set_option linter.unusedSimpArgs false
namespace Go.Am
attribute [-go_sem] PV.cells splice
variable {h:aA} {K:jA}
end Go.Am
end
section
/- Faults compared;texts of faults drawn. -/
open Go
set_option linter.all false
namespace Go.Am
variable {L:List Int} {a:Int} {h:aA} {K:jA}
theorem z2A {f:Nat}{F:AFun}{id fz:Nat}{sh:Sh}{xs:List PV}(hf:X.fn f=some F)(hr:F.byref=false)(hl:F.nparams=1)(hh:h[id]?=some (.row sh xs fz)):cA X f [.own id xs.length 0 xs.length] h K=cA X f [.p (.sl sh xs)] (frz h id xs.length) K:=
 UR (X:=X) (a:=[.own id xs.length 0 xs.length]) (vs:=[.sl sh xs]) hf hr (by
  have:win xs 0 xs.length=xs:=VF rfl
  simp [CA,pur,rd,hh,this]) rfl (by simp [hl]) ST
theorem nP {f:Nat}{F:AFun}{id fz:Nat}{sh:Sh}{xs:List PV}{v:PV}(hf:X.fn f=some F)(hr:F.byref=false)(hl:F.nparams=2)(hh:h[id]?=some (.row sh xs fz)):cA X f [.p v,.own id xs.length 0 xs.length] h K=cA X f [.p v,.p (.sl sh xs)] (frz h id xs.length) K:=
 UR (X:=X) (a:=[.p v,.own id xs.length 0 xs.length]) (vs:=[v,.sl sh xs]) hf hr (by
  have:win xs 0 xs.length=xs:=VF rfl
  simp [CA,pur,rd,hh,this]) rfl (by simp [hl]) ST
end Go.Am
end
section
/- Entries written,the reference;kinds read. -/
open Go
set_option linter.all false
set_option maxRecDepth 100000
namespace Go.Am
variable {h:aA} {K:jA}
end Go.Am
end
section
/- A line of an entry read: the program. -/
open Go
set_option linter.all false
set_option maxRecDepth 100000
namespace Go.Am
variable {h:aA} {K:jA}
end Go.Am
end
section
/- A line of an entry read: the reference. -/
open Go
set_option linter.all false
set_option maxRecDepth 100000
namespace Go.Am
variable {h:aA} {K:jA}
end Go.Am
end
section
/- Records asv texts,plainly: read zD ways. -/
set_option linter.all false
namespace Go.Am
end Go.Am
end
section
/- Records read: a line,zD ways. -/
open Go
set_option linter.all false
set_option maxRecDepth 100000
namespace Go.Am
variable {h:aA} {K:jA}
end Go.Am
end
section
/- Records read: the program's line. -/
open Go
set_option linter.all false
set_option maxRecDepth 100000
namespace Go.Am
variable {h:aA} {K:jA}
end Go.Am
end
section
/- Records read: all lines. -/
open Go
set_option linter.all false
set_option maxRecDepth 100000
namespace Go.Am
variable {h:aA} {K:jA}
end Go.Am
end
section
/- lot.Read,scanref2.RecordsRead. -/
open Go
set_option linter.all false
set_option maxRecDepth 100000
namespace Go.Am
variable {h:aA} {K:jA}
end Go.Am
end
section
/- scanref2.RecordsRead. -/
open Go
set_option linter.all false
set_option maxRecDepth 100000
namespace Go.Am
variable {h:aA} {K:jA}
end Go.Am
end
section
/- Entries read,zD ways. -/
open Go
set_option linter.all false
set_option maxRecDepth 100000
namespace Go.Am
variable {h:aA} {K:jA}
end Go.Am
end
section
/- Entries drawn: their pieces. -/
open Go
set_option linter.all false
set_option maxRecDepth 100000
namespace Go.Am
variable {L:List Int} {a:Int} {h l:aA} {id:Nat} {K:jA}
attribute [-go_sem] iB
def bF:List (List UInt8):=[[],[65],[98,49],[98,50],[98,51],[98,52]]
structure EntV (x:Ent):Prop where
 s:x.site.length≤1000
 b:x.board.length≤1000
 p:x.step.length≤1000
 o:x.of.length≤1000
 n : -100000000000000000≤x.no∧x.no≤100000000000000000
 t : -100000000000000000≤x.time∧x.time≤100000000000000000
 z:x.site≠[122,122]∧(x.time≤1000∨345686399999<x.time)
 w:x.board∈bF
theorem zeR (hp:LA 14 a)(u v:Int)(huv:u≤v)(hu : -1000000000000≤u)(hv:v≤1000000000000):∃k a2:Int,a≤a2∧a2≤a+2 ∧ -1099511627776≤k∧k≤1099511627776∧(k≤v+1∨k=1099511627776) ∧
 Gen ED [AI u,AI v] L a a2 (AI k):=by
 have w1:IntKind.i64.wrap (u-1)=u-1:=BA _ (by omega) (by omega)
 have w2:IntKind.i64.wrap (v+1)=v+1:=BA _ (by omega) (by omega)
 by_cases hf:DB L a 12=0
 ·have hm:=dV (L:=L) (a:=a+1) (l:=[u-1,v+1,u,v,-1099511627776,1099511627776]) (by simp) (by simp)
  simp only[List.mem_cons,List.not_mem_nil,or_false]at hm;refine⟨RC [u-1,v+1,u,v,-1099511627776,1099511627776] L (a+1),a+1+1,by omega,by omega,by omega,by omega,by omega,Gen.of fun h id hid=>?_⟩
  rw[wN rfl];simp only[cJ,go_sem,hid,BG hp,hf,w1,w2]
 ·have hm:=LK L (a+1) huv (by omega)
  refine⟨nC u v L (a+1),a+1+1,by omega,by omega,by omega,by omega,by omega,Gen.of fun h id hid=>?_⟩
  rw[wN rfl];simp only[cJ,go_sem,hid,BG hp,hf,w1,w2,huv,show -1152921504606846976≤u by omega,show v≤1152921504606846976 by omega]
theorem EntV.ok {x:Ent}(v:EntV x):EntOk x:=⟨by have:=v.s;omega,by have:=v.b;omega,by have:=v.p;omega,by have:=v.o;omega⟩
theorem zi2 (a b:Ent)(ha:EntV a)(hb:EntV b):cA X FD [.p a.pv,.p b.pv] h K=K (AI (IA a b)) h []:=by
 refine MA ?_;rw[AY rfl];have a1:=ha.t
 have a2:=hb.t
 have a3:=ha.n
 have a4:=hb.n
 have w:IntKind.i64.wrap (a.time-b.time)=a.time-b.time:=BA _ (by omega) (by omega)
 have w2:IntKind.i64.wrap (a.no-b.no)=a.no-b.no:=BA _ (by omega) (by omega)
 unfold IA;by_cases he:a.time=b.time
 ·have:IB a.time b.time=0:=by rw[he];unfold IB;simp
  rw[if_neg (by simp [this])]
  by_cases hs:a.site=b.site
  ·have hc:cB a.site b.site=0:=by rw[hs];exact HN _
   rw[if_neg (by simp [hc]),GN]
   simp only[YG,Ent.pv,go_sem,he,hs,w2,sQ]
  ·have hc:cB a.site b.site≠0:=fun e=>hs (ZH e)
   rw[if_pos hc];simp only[YG,Ent.pv,go_sem,he,hs,FV]
 ·have hc:IB a.time b.time≠0:=by unfold IB;split <;> (try split) <;> omega
  rw[if_pos hc];rw[GN];simp only[YG,Ent.pv,go_sem,he,w,sQ]
theorem z3i (l m:List Ent)(hl:l.length≤1000000000):cA X kH [yA l,yA m] h K=K (AB (decide (l=m))) h []:=by
 refine MA ?_;rw[z9y rfl];by_cases he:l.length=m.length
 ·have he':(l.length:Int)=(m.length:Int):=by omega
  simp only[yL,go_sem,he'];refine qB (fun k:Nat=>⟨[(0,yA l),(1,yA m),(12,AI m.length),(13,AI k)],h,[]⟩) (fun k=>k≤l.length∧l.take k=m.take k) (fun k=>l.length-k) 0 rfl (by simp) ?_
  rintro k ⟨hk,hp⟩
  rcases Nat.lt_or_ge k l.length with hlt|hge
  ·have hlt2:k<m.length:=by omega
   have hlt3:(k:Int)<(m.length:Int):=by omega
   have g1:=PB Ent.pv hlt
   have g2:=PB Ent.pv hlt2
   have c1:=kG (x:=l[k])
   have c2:=kG (x:=m[k])
   have w2:IntKind.i64.wrap ((k:Int)+1)=((k+1:Nat):Int):=BA _ (by omega) (by omega)
   have hq:=FO l[k] m[k]
   by_cases h1:l[k]=m[k]
   ·rw[decide_eq_true h1]at hq
    simp only[go_sem,hlt,hlt2,hlt3,g1,g2,c1,c2,↓hq,hq,w2];refine⟨k+1,rfl,⟨by omega,?_⟩,by omega⟩
    rw[List.take_succ_eq_append_getElem hlt,List.take_succ_eq_append_getElem hlt2,hp,h1]
   ·rw[decide_eq_false h1]at hq
    have hne:¬l=m:=fun e=>h1 (by subst e;rfl)
    simp only[go_sem,hlt,hlt2,hlt3,g1,g2,c1,c2,↓hq,hq,hne]
  ·obtain rfl:k=l.length:=by omega
   rw[List.take_length,he,List.take_length]at hp;subst hp;simp only[go_sem,Nat.lt_irrefl,Int.lt_irrefl,decide_true]
 ·have he':¬(l.length:Int)=(m.length:Int):=by omega
  have hne:¬l=m:=fun e=>he (by rw[e])
  simp only[yL,go_sem,he',hne]
theorem KH {l:List (List UInt8)}(hl:0<l.length)(hl2:l.length<100)(m:Nat)(h:∀ s∈l,s.length≤m):(NB l L a).length≤m:=h _ (DH hl (by omega))
set_option maxHeartbeats 4000000 in
theorem ET (hid:id<h.length)(hp:LA 60 a)(es:List Ent)(hes:es.length≤1000)(x:Ent)(hx:EntV x)(M:Obj)(v6 v11 v12:AV)(K:Ex→St→Prop)
 (hK:∀(x':Ent) (a':Int) (J:aA),EntV x'→a≤a'→a'≤a+10 →
  K .normal ⟨[(0,.ref id 0),(5,.own h.length (es.length+1) 0 (es.length+1)),(6,v6),(7,.mp (h.length+1)),(11,v11),(12,v12)],h.set id (EA L a') ++ .row (some 8) (es.map Ent.pv++[x'.pv]) 0::M::J,[]⟩) :
 zF (cA X) X.gl yP (.ref id 0) (.own h.length es.length 0 es.length) v6 (.mp (h.length+1)) (.ref (h.length+2) 0) v11 v12
  (h.set id (EA L a)++[.row (some 8) (es.map Ent.pv) 0,M,x.box]) [] K:=by
 have P:=BG (rB hp (Int.le_refl a) (by omega))
 have hmx:es.length+1≤xB:=by unfold xB;omega
 have e1:h.length+1<h.length+3+1:=by omega
 obtain⟨site,no,time,kind,board,step,of,other⟩:=x;obtain⟨xs,xb,xp,xo,xn,xt,xz,xw⟩:=hx;dsimp only at xs xb xp xo xn xt xz xw;unfold Ent.box;dsimp only;by_cases hf:DB L a 100=0
 ·by_cases h0:DB L (a+1) 3=0
  ·obtain⟨kv,a3,c1,c2,c3,c4,O⟩:=XL (L:=L) (a:=a+1+1+1) (rB hp (by omega) (by omega)) 1 9 (by omega) (by omega) (by omega)
   have O':=fun l K=>O.app (h:=h) (id:=id) (l:=l) (K:=K) hid
   obtain⟨kv2,a4,d1,d2,d3,d4,d5,O2⟩:=zeR (L:=L) (a:=a3) (rB hp (by omega) (by omega)) 0 100 (by omega) (by omega) (by omega)
   have O2':=fun l K=>O2.app (h:=h) (id:=id) (l:=l) (K:=K) hid
   have p1:(NB [[],site] L (a+1+1)).length≤1000:=KH (by simp) (by simp) 1000 (fun s hs=>by simp only[List.mem_cons,List.not_mem_nil,or_false]at hs;rcases hs with e|e <;> rw[e] <;> first|omega|simp)
   have p9:NB [[],site] L (a+1+1)≠[122,122]:=fun e=>by
    have:=DH (l:=[[],site]) (L:=L) (a:=a+1+1) (by simp) (by simp)
    simp only[List.mem_cons,List.not_mem_nil,or_false]at this;rw[e]at this;rcases this with h|h
    ·cases h
    ·exact xz.1 h.symm
   simp only[zF,go_sem,hid,P,hf,h0,↓O',O',↓O2',O2',hmx];exact hK ⟨NB [[],site] L (a+1+1),kv,kv2,kind,board,step,of,other⟩ a4 _ ⟨p1,xb,xp,xo,by dsimp only;omega,by dsimp only;omega,⟨p9,by dsimp only;omega⟩,xw⟩ (by omega) (by omega)
  ·by_cases h1:DB L (a+1) 3=1
   ·obtain⟨kv,a3,c1,c2,c3,c4,O⟩:=XL (L:=L) (a:=a+1+1) (rB hp (by omega) (by omega)) 1 7 (by omega) (by omega) (by omega)
    have O':=fun l K=>O.app (h:=h) (id:=id) (l:=l) (K:=K) hid
    have P2:=BG (rB hp (show a≤a3 by omega) (show a3+14≤a+60 by omega))
    have p1:(NB [[],[65],board] L a3).length≤1000:=KH (by simp) (by simp) 1000 (fun s hs=>by simp only[List.mem_cons,List.not_mem_nil,or_false]at hs;rcases hs with e|e|e <;> rw[e] <;> first|omega|simp)
    have p2:(NB [[],[115,99,97,110]] L (a3+1)).length≤1000:=KH (by simp) (by simp) 1000 (fun s hs=>by simp only[List.mem_cons,List.not_mem_nil,or_false]at hs;rcases hs with e|e <;> rw[e] <;> simp)
    have pw:NB [[],[65],board] L a3∈bF:=by
     have:=DH (l:=[[],[65],board]) (L:=L) (a:=a3) (by simp) (by simp)
     simp only[List.mem_cons,List.not_mem_nil,or_false]at this;rcases this with h|h|h
     ·rw[h];simp [bF]
     ·rw[h];simp [bF]
     ·rw[h];exact xw
    simp only[zF,go_sem,hid,P,P2,hf,h0,h1,↓O',O',hmx];exact hK ⟨site,no,time,kv,NB [[],[65],board] L a3,NB [[],[115,99,97,110]] L (a3+1),of,other⟩ (a3+1+1) _ ⟨xs,p1,p2,xo,xn,xt,xz,pw⟩ (by omega) (by omega)
   ·obtain⟨kv,a3,c1,c2,c3,c4,O⟩:=XL (L:=L) (a:=a+1+1+1) (rB hp (by omega) (by omega)) 0 5 (by omega) (by omega) (by omega)
    have O':=fun l K=>O.app (h:=h) (id:=id) (l:=l) (K:=K) hid
    have p1:(NB [[],[115,97]] L (a+1+1)).length≤1000:=KH (by simp) (by simp) 1000 (fun s hs=>by simp only[List.mem_cons,List.not_mem_nil,or_false]at hs;rcases hs with e|e <;> rw[e] <;> simp)
    simp only[zF,go_sem,hid,P,hf,h0,h1,↓O',O',hmx];exact hK ⟨site,no,time,kind,board,step,NB [[],[115,97]] L (a+1+1),kv⟩ a3 _ ⟨xs,xb,xp,p1,xn,xt,xz,xw⟩ (by omega) (by omega)
 ·simp only[zF,go_sem,hid,P,hf,hmx]
  exact hK ⟨site,no,time,kind,board,step,of,other⟩ (a+1) _ ⟨xs,xb,xp,xo,xn,xt,xz,xw⟩ (by omega) (by omega)
end Go.Am
end
section
/- Entries drawn. -/
open Go
set_option linter.all false
set_option maxRecDepth 100000
namespace Go.Am
variable {L:List Int} {a:Int} {h l:aA} {id:Nat} {K:jA}
attribute [-go_sem] iB aC jC zF nJ
def qC (n:Int):AV:=.p (.int .i64 n)
def MB (m:Int)(l:List (List UInt8 × Int)):Prop:=∀s v,WB s l=some v→0≤v∧v≤m
theorem MB.upd {m:Int}{l:List (List UInt8 × Int)}(H:MB m l)(s:List UInt8){c:Int}(h0:0≤c)(h1:c≤m+1):MB (m+1) (nD s c l):=fun s' v hv=>by
 rw[TO]at hv;split at hv
 ·cases hv;exact⟨h0,h1⟩
 ·have:=H s' v hv;omega
abbrev EH (h:aA)(id:Nat)(L:List Int)(a:Int)(es:List Ent)(M:List (List UInt8 × Int))(x:Ent):aA:=h.set id (EA L a)++[.row (some 8) (es.map Ent.pv) 0,CB PV.str qC M,x.box]
set_option maxHeartbeats 4000000 in
theorem z09 (hid:id<h.length)(hp:LA 80 a)(es:List Ent)(hes:es.length≤1000)(x:Ent)(hx:EntV x)(M:List (List UInt8 × Int))(v6 v11 v12:AV)(K:Ex→St→Prop)
 (hK:∀(x':Ent) (a':Int) (J:aA),EntV x'→a≤a'→a'≤a+12 →
  K .normal ⟨[(0,.ref id 0),(5,.own h.length (es.length+1) 0 (es.length+1)),(6,v6),(7,.mp (h.length+1)),(11,v11),(12,v12)],h.set id (EA L a') ++ .row (some 8) (es.map Ent.pv++[x'.pv]) 0::CB PV.str qC M::J,[]⟩) :
 NW (cA X) X.gl lM ⟨[(0,.ref id 0),(5,.own h.length es.length 0 es.length),(6,v6),(7,.mp (h.length+1)),(9,.ref (h.length+2) 0),(11,v11),(12,v12)],EH h id L a es M x,[]⟩ (OA 2 (TA (cA X) X.gl mM K)):=by
 have P:=BG (rB hp (Int.le_refl a) (by omega))
 obtain⟨site,no,time,kind,board,step,of,other⟩:=x;obtain⟨xs,xb,xp,xo,xn,xt,xz,xw⟩:=hx;dsimp only at xs xb xp xo xn xt xz xw;unfold EH Ent.box;dsimp only;by_cases k2:kind=2
 ·have p1:(NB [[115,99,97,110],[115,99,97,110],[102,108,97,115,104],[98,117,114,110]] L a).length≤1000:=KH (by simp) (by simp) 1000 (fun s hs=>by simp only[List.mem_cons,List.not_mem_nil,or_false]at hs;rcases hs with e|e|e|e <;> rw[e] <;> simp)
  simp only[go_sem,hid,P,eq_true k2];rw[nJ];refine ET hid (rB hp (by omega) (by omega)) es hes ⟨site,no,time,kind,board,NB [[115,99,97,110],[115,99,97,110],[102,108,97,115,104],[98,117,114,110]] L a,of,other⟩ ⟨xs,xb,p1,xo,xn,xt,xz,xw⟩ (CB PV.str qC M) v6 v11 v12 K (fun x' a' J h1 h2 h3=>hK x' a' J h1 (by omega) (by omega))
 ·simp only[go_sem,hid,P,k2]
  rw[nJ];refine ET hid (rB hp (by omega) (by omega)) es hes ⟨site,no,time,kind,board,step,of,other⟩ ⟨xs,xb,xp,xo,xn,xt,xz,xw⟩ (CB PV.str qC M) v6 v11 v12 K (fun x' a' J h1 h2 h3=>hK x' a' J h1 (by omega) (by omega))
attribute [-go_sem] pT
set_option maxHeartbeats 4000000 in
theorem zel (hid:id<h.length)(hp:LA 120 a)(es:List Ent)(hes:es.length≤1000)(x:Ent)(hx:EntV x)(M:List (List UInt8 × Int))(m:Int)(hm:0≤m∧m≤1000)(hM:MB m M)(k:Nat)(v6 v11 v12:AV)(K:Ex→St→Prop)
 (hK:∀(x':Ent) (a':Int) (M':List (List UInt8×Int)) (J:aA),EntV x'→a≤a'→a'≤a+15→MB (m+1) M' →
  K .normal ⟨[(0,.ref id 0),(5,.own h.length (es.length+1) 0 (es.length+1)),(6,v6),(7,.mp (h.length+1)),(11,v11),(12,v12)],h.set id (EA L a') ++ .row (some 8) (es.map Ent.pv++[x'.pv]) 0::CB PV.str qC M'::J,[]⟩) :
 gI (cA X) X.gl lM mM (.ref id 0) (.own h.length es.length 0 es.length) v6 (.mp (h.length+1)) (AI k) (.ref (h.length+2) 0) v11 v12 (EH h id L a es M x) [] K:=by
 have P:=BG (rB hp (Int.le_refl a) (by omega))
 obtain⟨site,no,time,kind,board,step,of,other⟩:=x;obtain⟨xs,xb,xp,xo,xn,xt,xz,xw⟩:=hx;dsimp only at xs xb xp xo xn xt xz xw;obtain⟨c,hc,c0,c1⟩:∃c,(WB site M).getD 0=c∧0≤c∧c≤m:=by
  cases hg:WB site M with
  | none=>exact⟨0,rfl,by omega,hm.1⟩
  | some v=>exact⟨v,rfl,hM site v hg⟩
 have wc:IntKind.i64.wrap (c+1)=c+1:=BA _ (by omega) (by omega)
 have hM':=hM.upd site (c:=c+1) (by omega) (by omega)
 have gu:WB site (nD site (c+1) M)=some (c+1):=by rw[TO,if_pos rfl]
 have lk:=fun(hp:aA) (M:List (List UInt8×Int)) (e:hp[h.length+1]?=some (CB PV.str qC M))=>gU (kk:=(none,[2])) (k:=site) z2d e z2e (ok:=false) (z:=qC 0)
 have up:=fun(hp:aA) (e:hp[h.length+1]?=some (CB PV.str qC M))=>nU (kk:=(none,[2])) (k:=site) z2d e z2e (v:=c+1) rfl
 have gt:∀(R:Obj) (M:List (List UInt8×Int)) (t:aA),(h.set id (EA L a)++R::CB PV.str qC M::t)[h.length+1]?=some (CB PV.str qC M):=fun R M t=>by
  rw[List.getElem?_append_right (by simp)];simp
 have l1:=fun R t=>lk (h.set id (EA L a)++R::CB PV.str qC M::t) M (gt R M t)
 have l2:=fun R t=>lk (h.set id (EA L a)++R::CB PV.str qC (nD site (c+1) M)::t) _ (gt R _ t)
 have u1:=fun R t=>up (h.set id (EA L a)++R::CB PV.str qC M::t) (gt R M t)
 have eo:(Option.map qC (WB site M)).getD (qC 0)=AI c:=by
  rw[←hc];cases WB site M <;> rfl
 have es0:∀(R:Obj) (t:aA) (o:Obj),(h.set id (EA L a)++R::CB PV.str qC M::t).set (h.length+1) o=h.set id (EA L a)++R::o::t:=fun R t o=>by
  rw[List.set_append_right _ _ (by simp)];simp
 simp only[cond_false,eo]at l1;simp only[cond_false,gu,Option.map_some,Option.getD_some,qC,IC,AV.top,Nat.not_lt_zero,if_false,es0]at l1 l2 u1;unfold EH Ent.box;dsimp only;by_cases k7:kind=7
 ·have p1:(NB [[115,97],[115,98]] L a).length≤1000:=KH (by simp) (by simp) 1000 (fun s hs=>by simp only[List.mem_cons,List.not_mem_nil,or_false]at hs;rcases hs with e|e <;> rw[e] <;> simp)
  simp only[gI,go_sem,hid,P,eq_true k7,l1,l2,u1,wc];rw[nJ];refine ET hid (rB hp (by omega) (by omega)) es hes ⟨site,c+1,time,kind,board,step,NB [[115,97],[115,98]] L a,nC 1 8 L (a+1)⟩ ⟨xs,xb,xp,p1,by dsimp only;omega,xt,xz,xw⟩ (CB PV.str qC (nD site (c+1) M)) v6 v11 v12 K (fun x' a' J h1 h2 h3=>hK x' a' _ J h1 (by omega) (by omega) hM')
 ·obtain⟨bb,gb,lb,wb⟩:∃bb:List UInt8,([.str [98,49],.str [98,50],.str [98,51]]:List PV)[k%3]?=some (.str bb)∧bb.length≤1000∧bb∈bF:=by
   have h3:k%3<3:=Nat.mod_lt _ (by omega)
   generalize k%3=j at h3;match j,h3 with
   | 0,_=>exact⟨_,rfl,by simp,by simp [bF]⟩
   | 1,_=>exact⟨_,rfl,by simp,by simp [bF]⟩
   | 2,_=>exact⟨_,rfl,by simp,by simp [bF]⟩
  have tm:(k:Int).tmod 3=((k%3:Nat):Int):=by
   rw[Int.tmod_eq_emod_of_nonneg (by omega)];omega
  have hk3:k%3<3:=Nat.mod_lt _ (by omega)
  have cw:∀v:List UInt8,aB none 0 (PV.str v)=some (PV.str v):=fun _=>rfl
  by_cases k3:(3:Int)≤(k:Int)
  ·have p1:(NB [[98,49],[98,49],[98,50],[98,51],[98,52]] L a).length≤1000:=KH (by simp) (by simp) 1000 (fun s hs=>by simp only[List.mem_cons,List.not_mem_nil,or_false]at hs;rcases hs with e|e|e|e|e <;> rw[e] <;> simp)
   have pw:NB [[98,49],[98,49],[98,50],[98,51],[98,52]] L a∈bF:=by
    have:=DH (l:=[[98,49],[98,49],[98,50],[98,51],[98,52]]) (L:=L) (a:=a) (by simp) (by simp)
    simp only[List.mem_cons,List.not_mem_nil,or_false]at this;rcases this with e|e|e|e|e <;> rw[e] <;> simp [bF]
   simp only[gI,go_sem,hid,P,k7,l1,l2,u1,wc,tm,gb,hk3,cw,k3];exact z09 hid (rB hp (by omega) (by omega)) es hes ⟨site,c+1,time,kind,NB [[98,49],[98,49],[98,50],[98,51],[98,52]] L a,step,of,other⟩ ⟨xs,p1,xp,xo,by dsimp only;omega,xt,xz,pw⟩ (nD site (c+1) M) v6 v11 v12 K (fun x' a' J h1 h2 h3=>hK x' a' _ J h1 (by omega) (by omega) hM')
  ·simp only[gI,go_sem,hid,P,k7,l1,l2,u1,wc,tm,gb,hk3,cw,k3]
   exact z09 hid (rB hp (by omega) (by omega)) es hes ⟨site,c+1,time,kind,bb,step,of,other⟩ ⟨xs,lb,xp,xo,by dsimp only;omega,xt,xz,wb⟩ (nD site (c+1) M) v6 v11 v12 K (fun x' a' J h1 h2 h3=>hK x' a' _ J h1 (by omega) (by omega) hM')
end Go.Am
end
section
/- Entries drawn: all,right ones,texts. -/
open Go
set_option linter.all false
set_option maxRecDepth 100000
namespace Go.Am
variable {L:List Int} {a:Int} {h l:aA} {id:Nat} {K:jA}
attribute [-go_sem] iB aC jC zF nJ pT qT
theorem z0D {P:Ent→Prop}:∀{xs:List PV},(∀x∈xs,∃r,P r∧x=Ent.pv r)→∃rs:List Ent,(∀r∈rs,P r)∧xs=rs.map Ent.pv
 | [],_=>⟨[],by simp,rfl⟩
 | x::xs,h=>by
  obtain⟨r,h1,h2⟩:=h x (by simp)
  obtain⟨rs,h3,h4⟩:=z0D (xs:=xs) (fun y hy=>h y (List.mem_cons_of_mem _ hy))
  refine⟨r::rs,fun z hz=>?_,by rw[h2,h4];rfl⟩
  rcases List.mem_cons.1 hz with rfl|hz
  ·exact h1
  ·exact h3 z hz
set_option maxHeartbeats 4000000 in
theorem z1H (hp:LA 4000 a)(n:Nat)(hn:n≤20) :
 TD cH [AI n] L a (fun v a2=>a≤a2∧a2≤a+1000∧∃rs:List Ent,rs.length≤n∧(∀r∈rs,EntV r)∧v=yA rs):=by
 refine TD.of fun h id hid=>?_
 rw[z8V rfl];simp only[TN,go_sem,hid];refine qB (fun t:List Ent×Int×Int×List (List UInt8×Int)=>⟨[(0,.ref id 0),(5,.own h.length t.1.length 0 t.1.length),(6,AI t.2.1),(7,.mp (h.length+1)),(11,AI n),(12,AI t.1.length)],h.set id (EA L t.2.2.1)++[.row (some 8) (t.1.map Ent.pv) 0,CB PV.str qC t.2.2.2],[]⟩)
  (fun t=>t.1.length≤n∧(∀r∈t.1,EntV r)∧(a≤t.2.2.1∧t.2.2.1≤a+40*t.1.length)∧(0≤t.2.1∧t.2.1≤10*t.1.length)∧MB t.1.length t.2.2.2) (fun t=>n-t.1.length) ([],0,a,[]) rfl ⟨by simp,by simp,by simp,by simp,fun s v h=>by simp [WB]at h⟩ ?_
 rintro⟨es,t,b,M⟩ ⟨q1,q2,⟨q3,q4⟩,⟨q5,q6⟩,q7⟩
 dsimp only at q1 q2 q3 q4 q5 q6 q7;rcases Nat.lt_or_ge es.length n with hlt|hge
 ·have P:=BG (rB hp q3 (show b+14≤a+4000 by omega))
  have w1:IntKind.i64.wrap ((es.length:Int)+1)=((es.length+1:Nat):Int):=BA _ (by omega) (by omega)
  have m1:=dV (L:=L) (a:=b) (l:=[0,1,1,3,10]) (by simp) (by simp)
  have b1:0≤RC [0,1,1,3,10] L b∧RC [0,1,1,3,10] L b≤10:=by
   simp only[List.mem_cons,List.not_mem_nil,or_false]at m1;omega
  have w2:IntKind.i64.wrap (t+RC [0,1,1,3,10] L b)=t+RC [0,1,1,3,10] L b:=BA _ (by omega) (by omega)
  have ps:(NB [[115,97],[115,97],[115,98]] L (b+1)).length≤1000:=KH (by simp) (by simp) 1000 (fun s hs=>by simp only[List.mem_cons,List.not_mem_nil,or_false]at hs;rcases hs with e|e|e <;> rw[e] <;> simp)
  have pz:NB [[115,97],[115,97],[115,98]] L (b+1)≠[122,122]:=fun e=>by
   have:=DH (l:=[[115,97],[115,97],[115,98]]) (L:=L) (a:=b+1) (by simp) (by simp)
   rw[e]at this;revert this;decide
  obtain⟨t',ht'⟩:∃t',t+RC [0,1,1,3,10] L b=t':=⟨_,rfl⟩;have ht2:0≤t'∧t'≤10*(es.length+1):=by omega
  rw[ht']at w2;have fin:∀(kd:Int),NW (cA X) X.gl zP ⟨[(0,.ref id 0),(5,.own h.length es.length 0 es.length),(6,AI t'),(7,.mp (h.length+1)),(8,AI es.length),(9,.ref (h.length+2) 0),(11,AI n),(12,AI es.length)],EH h id L (b+1+1+1) es M ⟨NB [[115,97],[115,97],[115,98]] L (b+1),0,t',kd,[],[],[],0⟩,[]⟩
   (OA 1 (TA (cA X) X.gl AP (RK (h.length+2) [] (xH
    (fun t:List Ent×Int×Int×List (List UInt8×Int)=>⟨[(0,.ref id 0),(5,.own h.length t.1.length 0 t.1.length),(6,AI t.2.1),(7,.mp (h.length+1)),(11,AI n),(12,AI t.1.length)],h.set id (EA L t.2.2.1)++[.row (some 8) (t.1.map Ent.pv) 0,CB PV.str qC t.2.2.2],[]⟩)
    (fun t=>t.1.length≤n∧(∀r∈t.1,EntV r)∧(a≤t.2.2.1∧t.2.2.1≤a+40*t.1.length)∧(0≤t.2.1∧t.2.1≤10*t.1.length)∧MB t.1.length t.2.2.2) (fun t=>n-t.1.length)
    (OA 0 (TA (cA X) X.gl nM (DA [.t 4] false h.length (fun v1 h1 x1=>∃a2,(a≤a2∧a2≤a+1000∧∃rs:List Ent,rs.length≤n∧(∀r∈rs,EntV r)∧v1=yA rs)∧h1=h.set id (EA L a2)∧x1=[])))) (es,t,b,M))))):=by
   intro kd;rw[qT];refine zel hid (rB hp (by omega) (by omega)) es (by omega) ⟨NB [[115,97],[115,97],[115,98]] L (b+1),0,t',kd,[],[],[],0⟩ ⟨ps,by simp,by simp,by simp,by dsimp only;omega,by dsimp only;omega,⟨pz,by dsimp only;omega⟩,by simp [bF]⟩ M es.length ⟨by omega,by omega⟩ q7 es.length (AI t') (AI n) (AI es.length) _ (fun x' a' M' J r1 r2 r3 r4=>?_)
   have f1:id+1≤h.length+2:=by omega
   have f2:h.length+1≤h.length+2:=by omega
   have f3:h.length+1+1≤h.length+2:=by omega
   simp only[go_sem,w1,f1,f2,f3];refine⟨(es++[x'],t',a',M'),?_,⟨by simp;omega,fun r hr=>?_,⟨by dsimp only;omega,by simp;omega⟩,⟨by dsimp only;omega,by simp;omega⟩,by simpa using r4⟩,by simp;omega⟩
   ·simp only[List.length_append,List.length_cons,List.length_nil,List.map_append,List.map_cons,List.map_nil]
   ·rcases List.mem_append.1 hr with hr|hr
    ·exact q2 r hr
    ·rw[List.mem_singleton]at hr;rw[hr];exact r1
  unfold EH Ent.box at fin;dsimp only at fin;by_cases k3:(es.length:Int)<3
  ·have:=fin 1
   simp only[go_sem,hid,P,hlt,w2,ht',k3,splice];exact this
  ·have:=fin (RC [2,2,2,3,3,4,4,5,5,6,7,1] L (b+1+1))
   simp only[go_sem,hid,P,hlt,w2,ht',k3,splice];exact this
 ·have en:es.length=n:=by omega
  have hb2:¬(es.length<n):=by omega
  have hh:(h.set id (EA L b)++[Obj.row (some 8) (es.map Ent.pv) 0,CB PV.str qC M])[h.length]?=some (.row (some 8) (es.map Ent.pv) 0):=by rw[List.getElem?_append_right (by simp)];simp
  have st:=fun K=>z3J (h:=h.set id (EA L b)++[Obj.row (some 8) (es.map Ent.pv) 0,CB PV.str qC M]) (K:=K) h.length (es.map Ent.pv) jI (by simp;omega) hh (g:=FD) (caps:=[]) (c:=fun x y=>IA (yC x) (yC y))
   (fun o x hx y hy K=>by
    obtain⟨p,hp,rfl⟩:=List.mem_map.1 hx;obtain⟨q,hq,rfl⟩:=List.mem_map.1 hy;dsimp only;rw[TV,TV];exact zi2 p q (q2 p hp) (q2 q hq))
  have hsm:∀x∈WA (ltC fun x y=>IA (yC x) (yC y)) (es.map Ent.pv),∃r,EntV r∧x=Ent.pv r:=fun x hx=>by
   obtain⟨r,hr,rfl⟩:=List.mem_map.1 (NF.1 hx);exact⟨r,q2 r hr,rfl⟩
  obtain⟨ss,s1,s2⟩:=z0D hsm;have hsl:ss.length=es.length:=by have:=congrArg List.length s2;simp [PJ]at this;omega
  simp only[List.length_map,s2]at st;have e0:∀o,(h.set id (EA L b)++[Obj.row (some 8) (es.map Ent.pv) 0,CB PV.str qC M]).set h.length o=h.set id (EA L b)++[o,CB PV.str qC M]:=fun o=>by rw[List.set_append_right _ _ (by simp)];simp
  simp only[e0]at st;have hw:win (ss.map Ent.pv) 0 es.length=ss.map Ent.pv:=VF (by simp [hsl])
  have hcr:es.length≤es.length:=Nat.le_refl _
  have hll:(ss.map Ent.pv).length=es.length:=by simp [hsl]
  simp only[go_sem,hb2,↓st,st,hll,hw,hsl];exact⟨b,⟨q3,by omega,ss,by omega,s1,rfl⟩,rfl⟩
end Go.Am
end
section
/- The floor: its state;a board leaves its site. -/
open Go
set_option linter.all false
set_option maxRecDepth 100000
namespace Go.Am
variable {h:aA} {K:jA}
attribute [-go_sem] iB aC jC splice
attribute [local go_sem] PE GE HE IE JE KE LE NE OE QE RE SE TE UE VE XE
structure Flo where
 bs:oE
 sm:LG
 ck:Nat
 ends:List EndP
 runs:List RunP
 ref:List Int
 why:List Int
def Flo.P (S:Flo):FlP:=⟨asA S.bs,asS S.sm,S.ends,S.runs⟩
def EndP.pv (e:EndP):PV:=.agg [.str e.board,.str e.step,eI e.frm,eI e.til,.bool e.pass]
def RunP.pv (r:RunP):PV:=.agg [.str r.site,eI r.frm,eI r.til]
def kJ (m:LG)(k:Nm):LG:=match NO k m with
 | some i=>m.eraseIdx i
 | none=>m
theorem z0x {m:LG}{k:Nm}(hu:(m.map fun e=>e.1.1).Nodup):asS (kJ m k)=iG (asS m) k∧((kJ m k).map fun e=>e.1.1).Nodup:=by
 have main:kJ m k=m.filter fun e=>!decide (e.1.1=k):=by
  unfold kJ;induction m with
  | nil=>rfl
  | cons y r ih=>
   rw[List.map_cons,List.nodup_cons]at hu;have q:=ih hu.2
   unfold NO;rw[List.filter_cons];by_cases h:k=y.1.1
   ·rw[if_pos h]
    have:r.filter (fun e=>!decide (e.1.1=k))=r:=by
     rw[List.filter_eq_self];intro z hz;have:¬z.1.1=k:=fun e=>hu.1 (by rw[←h,←e];exact List.mem_map_of_mem hz)
     simp [this]
    rw[if_neg (by simp [h.symm]),this]
    rfl
   ·have hn:¬y.1.1=k:=fun z=>h z.symm
    rw[if_neg h,if_pos (by simp [hn]),←q]
    cases NO k r with
    | none=>rfl
    | some i=>rfl
 rw[main];constructor
 ·unfold asS iG
  rw[List.filter_map];rfl
 ·exact List.Nodup.sublist (List.Sublist.map _ List.filter_sublist) hu
attribute [-go_sem] kD
end Go.Am
end
section
/- The floor: a start,a finish. -/
open Go
set_option linter.all false
set_option maxRecDepth 100000
namespace Go.Am
variable {h:aA} {K:jA}
attribute [-go_sem] iB aC jC kD
attribute [local go_sem] PE GE HE IE JE KE LE NE OE QE RE SE TE UE VE XE
def Flo.start (S:Flo)(i:Nat)(x0:Ent)(st:Sta)(x:Ent):Flo:=
 { S with bs:=S.bs.set i (x0,⟨2,x.time,st.step,x.site,st.failed⟩),sm:=S.sm++[((x.site,x.board),S.ck)],ck:=S.ck+1,runs:=S.runs++[⟨x.site,x.time,-1⟩] }
def Flo.startR (S:Flo)(i:Nat)(x0:Ent)(st:Sta)(x:Ent):Int×Flo:=
 if st.state≠1 then(11,S) else if x.step≠st.step then(3,S) else if(vA (asS S.sm) x.site).isSome=true then(12,S) else(0,S.start i x0 st x)
end Go.Am
end
section
/- The floor: a run that ends. -/
open Go
set_option linter.all false
set_option maxRecDepth 100000
namespace Go.Am
variable {h:aA} {K:jA}
attribute [-go_sem] iB aC jC kD
attribute [local go_sem] PE GE HE IE JE KE LE NE OE QE RE SE TE UE VE XE
def Flo.finish (S:Flo)(steps:List Nm)(tries:Int)(i:Nat)(x0:Ent)(st:Sta)(x:Ent):Flo:=
 { S with bs:=S.bs.set i (x0,TF steps tries st x.time (decide (x.kind=3))),sm:=kJ S.sm st.site,ends:=S.ends++[⟨x.board,st.step,st.since,x.time,decide (x.kind=3)⟩],runs:=SG S.runs st.site x.time }
def Flo.finishR (S:Flo)(steps:List Nm)(tries:Int)(i:Nat)(x0:Ent)(st:Sta)(x:Ent):Int×Flo:=
 if st.state≠2 then(11,S) else if st.site≠x.site then(13,S) else(0,S.finish steps tries i x0 st x)
end Go.Am
end
section
/- The floor: an entry taken. -/
open Go
set_option linter.all false
set_option maxRecDepth 100000
namespace Go.Am
variable {h:aA} {K:jA}
attribute [-go_sem] iB aC jC kD
attribute [local go_sem] PE GE HE IE JE KE LE NE OE QE RE SE TE UE VE XE
def Flo.put (S:Flo)(i:Nat)(x0:Ent)(st:Sta):Flo:={ S with bs:=S.bs.set i (x0,st) }
def Flo.old (S:Flo)(steps:List Nm)(tries:Int)(x:Ent)(i:Nat)(x0:Ent)(st:Sta):Int×Flo:=
 if x.kind=2 then S.startR i x0 st x
 else if x.kind=3∨x.kind=4 then S.finishR steps tries i x0 st x
 else if x.kind=5 then(if st.state≠3 then(11,S) else(0,S.put i x0 ⟨1,x.time,st.step,st.site,st.failed⟩))
 else if st.state=4∨st.state=5 then(11,S)
 else if st.state=2 then(0,{ S with bs:=S.bs.set i (x0,⟨5,x.time,st.step,[],st.failed⟩),sm:=kJ S.sm st.site,runs:=SG S.runs st.site x.time })
 else(0,S.put i x0 ⟨5,x.time,st.step,st.site,st.failed⟩)
end Go.Am
end
section
/- The floor: a board that DO;what an entry does,plainly. -/
open Go
set_option linter.all false
set_option maxRecDepth 100000
namespace Go.Am
variable {h:aA} {K:jA}
attribute [-go_sem] iB aC jC kD
attribute [local go_sem] PE GE HE IE JE KE LE NE OE QE RE SE TE UE VE XE
def Flo.enter (S:Flo)(steps:List Nm)(x:Ent):Flo:={ S with bs:=S.bs++[(x,⟨1,x.time,steps.headD [],[],0⟩)] }
end Go.Am
end
section
/- Entries that count;entries up tov a moment. -/
open Go
set_option linter.all false
set_option maxRecDepth 100000
namespace Go.Am
variable {h:aA} {K:jA}
attribute [-go_sem] iB aC jC kD
theorem zae {l:List Ent}{k:Nat}(hk:k<l.length):VA (l.drop k)=(!decide ((l[k].site,l[k].no)∈AC (l.drop (k+1))))::VA (l.drop (k+1)):=by
 rw[List.drop_eq_getElem_cons hk,zac]
theorem zkj {l:List Ent}{k:Nat}(hk:k<l.length):AC (l.drop k)=if decide ((l[k].site,l[k].no)∈AC (l.drop (k+1)))=false∧l[k].kind=7 then(l[k].of,l[k].other)::AC (l.drop (k+1)) else AC (l.drop (k+1)):=by
 rw[List.drop_eq_getElem_cons hk,AC]
abbrev UB (b:Bool):PV:=.bool b
def UndM (m:List ((List UInt8 × Int) × Bool))(u:List (Nm × Int)):Prop:=∀k,WB k m=if k∈u then some true else none
set_option maxHeartbeats 4000000 in
theorem ziA (l:List Ent)(hl:l.length≤100000):cA X qH [yA l] h K=K (.p (.sl none ((VA l).map UB))) h []:=by
 refine MA ?_;rw[z9F rfl];have mx:l.length≤xB:=by unfold xB;omega
 have w0:IntKind.i64.wrap ((l.length:Int)-1)=(l.length:Int)-1:=BA _ (by omega) (by omega)
 simp only[rO,go_sem,mx,w0];refine qB (fun t:Nat×List ((List UInt8×Int)×Bool)=>⟨[(0,yA l),(3,.mp h.length),(4,.own (h.length+1) l.length 0 l.length),(5,AI ((t.1:Int)-1))],h++[CB uD ZC t.2,.row none (List.replicate t.1 (UB false)++(VA (l.drop t.1)).map UB) 0],[]⟩)
  (fun t=>t.1≤l.length∧UndM t.2 (AC (l.drop t.1))) (fun t=>t.1) (l.length,[]) ?_ ⟨Nat.le_refl _,fun k=>by simp [AC,WB]⟩ ?_
 ·simp only[List.drop_length,VA,List.map_nil,List.append_nil]
  rfl
 rintro⟨k,m⟩ ⟨hk,hm⟩
 dsimp only at hk hm ⊢;cases k with
 | zero=>
  have c0:¬(0:Int)≤((0:Nat):Int)-1:=by omega
  have cl:=rE l
  simp only[go_sem,c0,List.drop_zero,List.replicate_zero,List.nil_append];have hw:win ((VA l).map UB) 0 l.length=(VA l).map UB:=VF (by simp [cl])
  simp only[List.length_map,cl,hw,if_true];rw[if_pos ⟨trivial,Nat.le_refl _⟩];simp [AV.top]
 | succ k=>
  have hlt:k<l.length:=by omega
  have c0:(0:Int)≤((k+1:Nat):Int)-1:=by omega
  have ek:(((k+1:Nat):Int)-1)=(k:Int):=by omega
  have w1:IntKind.i64.wrap ((k:Int)-1)=(k:Int)-1:=BA _ (by omega) (by omega)
  have hk0:(0:Int)≤(k:Int):=by omega
  have hg:=PB Ent.pv hlt
  have cx:=kG (x:=l[k])
  have cs:=zae hlt
  have us:=zkj hlt
  have lrow:(List.replicate (k+1) (UB false)++(VA (l.drop (k+1))).map UB).length=l.length:=by
   rw[List.length_append,List.length_replicate,List.length_map,rE,List.length_drop];omega
  have grow:(List.replicate (k+1) (UB false)++(VA (l.drop (k+1))).map UB)[k]?=some (UB false):=by
   rw[List.getElem?_append_left (by simp),List.getElem?_replicate];simp
  have srow:∀b:Bool,(List.replicate (k+1) (UB false)++(VA (l.drop (k+1))).map UB).set k (UB b)=List.replicate k (UB false)++(b::VA (l.drop (k+1))).map UB:=fun b=>by
   rw[List.replicate_succ',List.append_assoc,List.set_append_right _ _ (by simp)]
   simp
  have grow2:∀b:Bool,(List.replicate k (UB false)++(b::VA (l.drop (k+1))).map UB)[k]?=some (UB b):=fun b=>by
   rw[List.getElem?_append_right (by simp)];simp
  have lrow2:∀b:Bool,(List.replicate k (UB false)++(b::VA (l.drop (k+1))).map UB).length=l.length:=fun b=>by
   rw[List.length_append,List.length_replicate,List.length_map,List.length_cons,rE,List.length_drop];omega
  obtain⟨R2,hR2⟩:∃R2:Bool→List PV,∀b,List.replicate k (UB false)++(b::VA (l.drop (k+1))).map UB=R2 b:=⟨_,fun _=>rfl⟩
  simp only[hR2]at srow grow2 lrow2;have cb:∀b:Bool,aB none 0 (UB b)=some (UB b):=fun _=>rfl
  generalize hx:l[k]=x at *;have lk:=fun(hp:aA) (e:hp[h.length]?=some (CB uD ZC m))=>gU (kk:=(some 2,[2,0])) (k:=(x.site,x.no)) ZO e aP (ok:=false) (z:=ZC false)
  have up:=fun(hp:aA) (e:hp[h.length]?=some (CB uD ZC m))=>nU (kk:=(some 2,[2,0])) (k:=(x.of,x.other)) ZO e aP (v:=true) rfl
  have l1:=fun t=>lk (h++CB uD ZC m::t) (by simp)
  have u1:=fun t=>up (h++CB uD ZC m::t) (by simp)
  have es:(Option.map ZC (WB (x.site,x.no) m)).getD (ZC false)=AB (decide ((x.site,x.no)∈AC (l.drop (k+1)))):=by
   rw[hm];by_cases e:(x.site,x.no)∈AC (l.drop (k+1)) <;> simp [e,ZC]
  simp only[cond_false,es]at l1;have nl0:¬h.length<0:=by omega
  simp only[ZC,uD,IC,AV.top,nl0,if_false]at l1 u1;generalize hb:decide ((x.site,x.no)∈AC (l.drop (k+1)))=b at *;generalize hrow:List.replicate (k+1) (UB false)++(VA (l.drop (k+1))).map UB=row at *;cases b with
  | true=>
   rw[if_neg (by simp)]at us
   simp only[go_sem,c0,ek,hk0,hlt,hg,cx,Ent.pv,splice,l1,lrow,grow,srow,grow2,lrow2,cb,w1];refine⟨(k,m),?_,⟨by dsimp only;omega,by rw[us];exact hm⟩,by dsimp only;omega⟩
   dsimp only;rw[cs,hR2];rfl
  | false=>
   by_cases k7:x.kind=7
   ·rw[if_pos ⟨rfl,k7⟩]at us
    simp only[go_sem,c0,ek,hk0,hlt,hg,cx,Ent.pv,splice,l1,u1,lrow,grow,srow,grow2,lrow2,cb,w1,eq_true k7];refine⟨(k,nD (x.of,x.other) true m),?_,⟨by dsimp only;omega,?_⟩,by dsimp only;omega⟩
    ·dsimp only
     rw[cs,hR2];rfl
    ·rw[us]
     intro j;rw[TO,hm j];by_cases e:j=(x.of,x.other)
     ·simp [e]
     ·rw[if_neg e];simp [e]
   ·rw[if_neg (by simp [k7])]at us
    simp only[go_sem,c0,ek,hk0,hlt,hg,cx,Ent.pv,splice,l1,lrow,grow,srow,grow2,lrow2,cb,w1,k7];refine⟨(k,m),?_,⟨by dsimp only;omega,by rw[us];exact hm⟩,by dsimp only;omega⟩
    dsimp only;rw[cs,hR2];rfl
end Go.Am
end
section
/- Entries followed. -/
open Go
set_option linter.all false
set_option maxRecDepth 100000
namespace Go.Am
variable {h:aA} {K:jA}
attribute [-go_sem] iB aC jC kD
attribute [local go_sem] PE GE HE IE JE KE LE NE OE QE RE SE TE UE VE XE
def Flo.act (S:Flo)(steps:List Nm)(tries:Int)(x:Ent):Int×Flo:=match ixB x.board S.bs with
 | none=>if x.kind=1 then(0,S.enter steps x) else(8,S)
 | some i=>match S.bs[i]? with
  | none=>(8,S)
  | some e=>if x.kind=1 then(6,S) else S.old steps tries x i e.1 e.2
structure FlI (S:Flo) (steps:List Nm) (n:Nat):Prop where
 st:∀e∈S.bs,(e.2.state=1∨e.2.state=2∨e.2.state=3)→e.2.step∈steps
 fl:∀e∈S.bs,0≤e.2.failed∧e.2.failed≤n
 nb:(S.bs.map fun e=>e.1.board).Nodup
 ns:(S.sm.map fun e=>e.1.1).Nodup
 bl:S.bs.length≤n
 rl:S.runs.length≤n
 el:S.ends.length≤n
 fr:S.ref.length≤n
 fw:S.why.length≤n
theorem eP {α:Type}{l:List α}{i:Nat}{a y:α}(h:y∈l.set i a):y∈l∨y=a:=by
 rw[List.mem_iff_getElem?]at h;obtain⟨j,hj⟩:=h;rw[List.getElem?_set]at hj;split at hj
 ·split at hj
  ·right;exact(Option.some.inj hj).symm
  ·cases hj
 ·left;exact List.mem_of_getElem? hj
theorem ziV {bs:oE}{i:Nat}{e:Ent × Sta}(he:bs[i]?=some e)(s:Sta):(bs.set i (e.1,s)).map (fun e=>e.1.board)=bs.map fun e=>e.1.board:=by
 rw[List.map_set];apply List.ext_getElem?
 intro j;rw[List.getElem?_set];split
 ·rename_i h;subst h
  rw[List.getElem?_map,he];have:i<(bs.map fun e=>e.1.board).length:=by
   rw[List.length_map];rcases Nat.lt_or_ge i bs.length with h|h
   ·exact h
   ·rw[List.getElem?_eq_none h]at he;cases he
  rw[if_pos this];rfl
 ·rfl
theorem FlI.set {S:Flo}{steps:List Nm}{n:Nat}(I:FlI S steps n){i:Nat}{e:Ent × Sta}(he:S.bs[i]?=some e)(s:Sta)(h1:(s.state=1∨s.state=2∨s.state=3)→s.step∈steps)(h2:0≤s.failed∧s.failed≤n+1)
 (S':Flo) (hb:S'.bs=S.bs.set i (e.1,s)) (hn:(S'.sm.map fun e=>e.1.1).Nodup) (hr:S'.runs.length≤n+1) (hl:S'.ends.length≤n+1) (hf:S'.ref=S.ref) (hw:S'.why=S.why):FlI S' steps (n+1) where
 st y hy:=by
  rw[hb]at hy;rcases eP hy with h|h
  ·exact I.st y h
  ·rw[h];exact h1
 fl y hy:=by
  rw[hb]at hy;rcases eP hy with h|h
  ·have:=I.fl y h;omega
  ·rw[h];dsimp only;omega
 nb:=by rw[hb,ziV he];exact I.nb
 ns:=hn
 bl:=by rw[hb,List.length_set];have:=I.bl;omega
 rl:=hr
 el:=hl
 fr:=by rw[hf];have:=I.fr;omega
 fw:=by rw[hw];have:=I.fw;omega
theorem FlI.up {S:Flo}{steps:List Nm}{n:Nat}(I:FlI S steps n):FlI S steps (n+1):=
 ⟨I.st,fun e he=>by have:=I.fl e he;omega,I.nb,I.ns,by have:=I.bl;omega,by have:=I.rl;omega,by have:=I.el;omega,by have:=I.fr;omega,by have:=I.fw;omega⟩
theorem z8g {m:LG}{k v:Nm}{c:Nat}(hn:vA (asS m) k=none):asS (m++[((k,v),c)])=dB (asS m) k v∧((m.map fun e=>e.1.1).Nodup→((m++[((k,v),c)]).map fun e=>e.1.1).Nodup):=by
 have ha:(asS m).any (fun e=>decide (e.1=k))=false:=by
  cases h:(asS m).any (fun e=>decide (e.1=k)) with
  | false=>rfl
  | true=>
   exfalso;obtain⟨e,he,hk⟩:=List.any_eq_true.1 h;unfold vA at hn;rw[Option.map_eq_none_iff,List.find?_eq_none]at hn;exact hn e he hk
 constructor
 ·unfold dB
  rw[if_neg (by simp [ha])]
  unfold asS;simp
 ·intro hu
  rw[List.map_append,List.nodup_append];refine⟨hu,by simp,fun a ha2 b hb2 e=>?_⟩
  have hb3:b=k:=by simpa using hb2
  subst hb3;subst e;obtain⟨y,hy,e2⟩:=List.mem_map.1 ha2;have:(asS m).any (fun e=>decide (e.1=a))=true:=List.any_eq_true.2 ⟨y.1,List.mem_map_of_mem hy,by simpa using e2⟩
  rw[ha]at this;cases this
theorem z2c {k:Nm}:∀{bs:oE},ixB k bs=none→k∉bs.map fun e=>e.1.board
 | [],_=>by simp
 | e::r,h=>by
  unfold ixB at h;by_cases hk:k=e.1.board
  ·rw[if_pos hk]at h;cases h
  ·rw[if_neg hk]at h
   have:=z2c (bs:=r) (by simpa using h)
   simp only[List.map_cons,List.mem_cons,not_or];exact⟨hk,this⟩
theorem act_P {S:Flo}{steps:List Nm}{tries:Int}{n:Nat}(I:FlI S steps n)(hst:steps≠[])(x:Ent) :
 (S.act steps tries x).1=(fD steps tries S.P x).2∧(S.act steps tries x).2.P=(fD steps tries S.P x).1∧FlI (S.act steps tries x).2 steps (n+1)∧(S.act steps tries x).2.ref=S.ref∧(S.act steps tries x).2.why=S.why:=by
 obtain⟨g1,g2⟩:=z2b x.board S.bs;unfold Flo.act;cases hx:ixB x.board S.bs with
 | none=>
  have hg:vA S.P.bs x.board=none:=g1 hx
  dsimp only;by_cases k1:x.kind=1
  ·rw[if_pos k1]
   unfold fD;rw[if_pos k1,hg];refine⟨rfl,?_,?_,rfl,rfl⟩
   ·unfold Flo.enter Flo.P
    dsimp only;rw[z8e hx x rfl]
   ·obtain⟨a,r,rfl⟩:∃a r,steps=a::r:=by
     cases steps with
     | nil=>exact absurd rfl hst
     | cons a r=>exact⟨a,r,rfl⟩
    unfold Flo.enter;refine⟨fun e he=>?_,fun e he=>?_,?_,I.ns,?_,by have:=I.rl;dsimp only;omega,by have:=I.el;dsimp only;omega,by have:=I.fr;dsimp only;omega,by have:=I.fw;dsimp only;omega⟩
    ·rcases List.mem_append.1 he with h|h
     ·exact I.st e h
     ·rw[List.mem_singleton.1 h];intro _;simp
    ·rcases List.mem_append.1 he with h|h
     ·have:=I.fl e h;omega
     ·rw[List.mem_singleton.1 h];dsimp only;omega
    ·dsimp only
     rw[List.map_append,List.nodup_append];refine⟨I.nb,by simp,fun a ha b hb e=>?_⟩
     have hb2:b=x.board:=by simpa using hb
     subst hb2;subst e
     exact z2c hx ha
    ·dsimp only;rw[List.length_append];have:=I.bl;simp;omega
  ·rw[if_neg k1]
   unfold fD;rw[if_neg k1,hg];exact⟨rfl,rfl,I.up,rfl,rfl⟩
 | some i=>
  obtain⟨e,he,hk,hg⟩:=g2 i hx;have hg':vA S.P.bs x.board=some e.2:=hg
  have pu:=fun s=>z8f hx he I.nb s
  have hm:e∈S.bs:=List.mem_of_getElem? he
  have hfl:=I.fl e hm
  have hse:=I.st e hm
  dsimp only;rw[he];dsimp only;unfold fD;by_cases k1:x.kind=1
  ·rw[if_pos k1,if_pos k1,hg']
   exact⟨rfl,rfl,I.up,rfl,rfl⟩
  rw[if_neg k1,if_neg k1,hg'];dsimp only;unfold Flo.old;have rl:=I.rl
  have el:=I.el
  by_cases k2:x.kind=2
  ·rw[if_pos k2,if_pos k2]
   unfold Flo.startR;by_cases h1:e.2.state≠1
   ·rw[if_pos h1,if_pos h1];exact⟨rfl,rfl,I.up,rfl,rfl⟩
   rw[if_neg h1,if_neg h1];by_cases h2:x.step≠e.2.step
   ·rw[if_pos h2,if_pos h2];exact⟨rfl,rfl,I.up,rfl,rfl⟩
   rw[if_neg h2,if_neg h2];have hb:S.P.sites=asS S.sm:=rfl
   rw[hb];by_cases h3:(vA (asS S.sm) x.site).isSome=true
   ·rw[if_pos h3,if_pos h3];exact⟨rfl,rfl,I.up,rfl,rfl⟩
   rw[if_neg h3,if_neg h3];have hn:vA (asS S.sm) x.site=none:=by simpa using h3
   obtain⟨q1,q2⟩:=z8g (v:=x.board) (c:=S.ck) hn;refine⟨rfl,?_,?_,rfl,rfl⟩
   ·unfold Flo.start Flo.P
    dsimp only;rw[pu,q1]
   ·have hs1:e.2.state=1:=by simpa using h1
    exact I.set he ⟨2,x.time,e.2.step,x.site,e.2.failed⟩ (fun _=>hse (.inl hs1)) (by dsimp only;omega) _ rfl (q2 I.ns) (by unfold Flo.start;dsimp only;rw[List.length_append];simp;omega) (by unfold Flo.start;dsimp only;omega) rfl rfl
  rw[if_neg k2,if_neg k2];by_cases k34:x.kind=3∨x.kind=4
  ·rw[if_pos k34,if_pos k34]
   unfold Flo.finishR;by_cases h1:e.2.state≠2
   ·rw[if_pos h1,if_pos h1];exact⟨rfl,rfl,I.up,rfl,rfl⟩
   rw[if_neg h1,if_neg h1];by_cases h2:e.2.site≠x.site
   ·rw[if_pos h2,if_pos h2];exact⟨rfl,rfl,I.up,rfl,rfl⟩
   rw[if_neg h2,if_neg h2];have hs2:e.2.state=2:=by simpa using h1
   have hin:=hse (.inr (.inl hs2))
   obtain⟨q1,q2⟩:=z0x (m:=S.sm) (k:=e.2.site) I.ns;refine⟨rfl,?_,?_,rfl,rfl⟩
   ·unfold Flo.finish Flo.P
    dsimp only;rw[pu,q1]
   ·refine I.set he (TF steps tries e.2 x.time (decide (x.kind=3))) (fun h=>?_) ?_ _ rfl q2 (by unfold Flo.finish SG;dsimp only;rw[List.length_map];omega) (by unfold Flo.finish;dsimp only;rw[List.length_append];simp;omega) rfl rfl
    ·unfold TF at h ⊢
     by_cases k3:x.kind=3
     ·rw[if_pos (by simp [k3])]at h ⊢
      by_cases hj:steps.findIdx (fun y=>decide (y=e.2.step))+1=steps.length
      ·rw[if_pos hj]at h;dsimp only at h;omega
      ·rw[if_neg hj]
       have jl:steps.findIdx (fun y=>decide (y=e.2.step))<steps.length:=List.findIdx_lt_length_of_exists ⟨e.2.step,hin,by simp⟩
       have jl2:steps.findIdx (fun y=>decide (y=e.2.step))+1<steps.length:=by omega
       dsimp only;rw[List.getElem?_eq_getElem jl2];exact List.getElem_mem jl2
     ·rw[if_neg (by simp [k3])];exact hin
    ·unfold TF
     split
     ·split <;> (dsimp only;omega)
     ·dsimp only;omega
  rw[if_neg k34,if_neg k34];by_cases k5:x.kind=5
  ·rw[if_pos k5,if_pos k5]
   by_cases h1:e.2.state≠3
   ·rw[if_pos h1,if_pos h1];exact⟨rfl,rfl,I.up,rfl,rfl⟩
   rw[if_neg h1,if_neg h1];have hs3:e.2.state=3:=by simpa using h1
   refine⟨rfl,?_,?_,rfl,rfl⟩
   ·unfold Flo.put Flo.P
    dsimp only;rw[pu]
   ·exact I.set he ⟨1,x.time,e.2.step,e.2.site,e.2.failed⟩ (fun _=>hse (.inr (.inr hs3))) (by dsimp only;omega) _ rfl I.ns (by unfold Flo.put;dsimp only;omega) (by unfold Flo.put;dsimp only;omega) rfl rfl
  rw[if_neg k5,if_neg k5];by_cases h45:e.2.state=4∨e.2.state=5
  ·rw[if_pos h45,if_pos h45];exact⟨rfl,rfl,I.up,rfl,rfl⟩
  rw[if_neg h45,if_neg h45];have no5:∀(a:Int) (b c:Nm) (f:Int),((⟨5,a,b,c,f⟩:Sta).state=1∨(⟨5,a,b,c,f⟩:Sta).state=2∨(⟨5,a,b,c,f⟩:Sta).state=3)→b∈steps:=fun a b c f h=>by dsimp only at h;omega
  by_cases h2:e.2.state=2
  ·rw[if_pos h2,if_pos h2]
   obtain⟨q1,q2⟩:=z0x (m:=S.sm) (k:=e.2.site) I.ns;refine⟨rfl,?_,?_,rfl,rfl⟩
   ·unfold Flo.P
    dsimp only;rw[pu,q1]
   ·exact I.set he ⟨5,x.time,e.2.step,[],e.2.failed⟩ (no5 _ _ _ _) (by dsimp only;omega) _ rfl q2 (by unfold SG;dsimp only;rw[List.length_map];omega) (by dsimp only;omega) rfl rfl
  ·rw[if_neg h2,if_neg h2]
   refine⟨rfl,?_,?_,rfl,rfl⟩
   ·unfold Flo.put Flo.P
    dsimp only;rw[pu]
   ·exact I.set he ⟨5,x.time,e.2.step,e.2.site,e.2.failed⟩ (no5 _ _ _ _) (by dsimp only;omega) _ rfl I.ns (by unfold Flo.put;dsimp only;omega) (by unfold Flo.put;dsimp only;omega) rfl rfl
end Go.Am
end
section
/- Entries followed: the walk. -/
open Go
set_option linter.all false
set_option maxRecDepth 100000
namespace Go.Am
variable {h:aA} {K:jA}
attribute [-go_sem] iB aC jC kD
attribute [local go_sem] PE GE HE IE JE KE LE NE OE QE RE SE TE UE VE XE
def upK (l:List Ent)(at_:Int):Nat→Nat
 | 0=>0
 | k+1=>if at_<((l[k]?).map Ent.time).getD 0 then upK l at_ k else k+1
def upL (l:List Ent)(at_:Int):List Ent:=l.take (upK l at_ l.length)
theorem ziF (l:List Ent)(at_:Int)(hl:l.length≤1000000):cA X sH [yA l,AI at_] h K=K (yA (upL l at_)) h []:=by
 refine MA ?_;rw[z9J rfl];simp only[vO,go_sem];refine qB (fun k:Nat=>⟨[(0,yA l),(1,AI at_),(5,AI k)],h,[]⟩) (fun k=>k≤l.length∧upK l at_ k=upK l at_ l.length) (fun k=>k) l.length rfl ⟨Nat.le_refl _,rfl⟩ ?_
 rintro k ⟨hk,hp⟩
 have fin:upK l at_ l.length=k→(∀P:Prop,True)→yA (upL l at_)=yA (l.take k):=fun e _=>by unfold upL;rw[e]
 have hw:∀k,win (l.map Ent.pv) 0 k=(l.take k).map Ent.pv:=fun k=>by simp [win,List.map_take]
 cases k with
 | zero=>
  have c0:¬(0:Int)<((0:Nat):Int):=by omega
  have e:=fin hp.symm (fun _=>trivial)
  simp only[go_sem,Int.lt_irrefl,hw,Nat.zero_le,e,c0];first|done|rfl
 | succ k=>
  have hlt:k<l.length:=by omega
  have c0:(0:Int)<((k+1:Nat):Int):=by omega
  have w1:IntKind.i64.wrap (((k+1:Nat):Int)-1)=(k:Int):=by rw[BA _ (by omega) (by omega)];omega
  have hg:=PB Ent.pv hlt
  have ct:aB none 2 (Ent.pv l[k])=some (eI l[k].time):=rfl
  rw[upK,List.getElem?_eq_getElem hlt]at hp;have e0:(Option.map Ent.time (some l[k])).getD 0=l[k].time:=rfl
  rw[e0]at hp;by_cases h1:at_<l[k].time
  ·rw[if_pos h1]at hp
   simp only[go_sem,c0,w1,hlt,hg,ct,h1];exact⟨k,rfl,⟨by omega,hp⟩,by omega⟩
  ·rw[if_neg h1]at hp
   have e:=fin hp.symm (fun _=>trivial)
   have hk':k+1≤l.length:=hk
   simp only[go_sem,c0,w1,hlt,hg,ct,h1,hw,hk',e];first|done|rfl
def Flo.step (S:Flo)(steps:List Nm)(tries:Int)(i:Nat)(x:Ent):Flo:=
 if(S.act steps tries x).1≠0 then { (S.act steps tries x).2 with ref:=(S.act steps tries x).2.ref++[(i:Int)],why:=(S.act steps tries x).2.why++[(S.act steps tries x).1] } else(S.act steps tries x).2
def Flo.go (steps:List Nm)(tries:Int):Flo→Nat→List (Ent×Bool)→Flo
 | S,_,[]=>S
 | S,i,(x,c)::r=>if c=false∨x.kind=7 then Flo.go steps tries S (i+1) r else Flo.go steps tries (S.step steps tries i x) (i+1) r
def flo0:Flo:=⟨[],[],0,[],[],[],[]⟩
theorem flI0 (steps:List Nm):FlI flo0 steps 0:=
 ⟨fun e he=>(by cases he),fun e he=>(by cases he),List.nodup_nil,List.nodup_nil,Nat.le_refl _,Nat.le_refl _,Nat.le_refl _,Nat.le_refl _,Nat.le_refl _⟩
theorem zjr {S:Flo}{steps:List Nm}{tries:Int}{n:Nat}(I:FlI S steps n)(hst:steps≠[])(i:Nat)(x:Ent) :
 FlI (S.step steps tries i x) steps (n+1)∧(S.step steps tries i x).P=(fD steps tries S.P x).1∧(S.step steps tries i x).ref=(if(fD steps tries S.P x).2≠0 then S.ref++[(i:Int)] else S.ref)∧(S.step steps tries i x).why=(if(fD steps tries S.P x).2≠0 then S.why++[(fD steps tries S.P x).2] else S.why):=by
 obtain⟨a1,a2,a3,a4,a5⟩:=act_P (tries:=tries) I hst x;unfold Flo.step;rw[←a1];by_cases h0:(S.act steps tries x).1≠0
 ·rw[if_pos h0,if_pos h0,if_pos h0]
  refine⟨⟨a3.st,a3.fl,a3.nb,a3.ns,a3.bl,a3.rl,a3.el,?_,?_⟩,a2,by dsimp only;rw[a4],by dsimp only;rw[a5]⟩
  ·dsimp only;rw[List.length_append,a4];have:=I.fr;simp;omega
  ·dsimp only;rw[List.length_append,a5];have:=I.fw;simp;omega
 ·rw[if_neg h0,if_neg h0,if_neg h0]
  exact⟨a3,a2,a4,a5⟩
end Go.Am
end
section
/- Entries followed: the walk,all. -/
open Go
set_option linter.all false
set_option maxRecDepth 100000
namespace Go.Am
variable {h:aA} {K:jA}
attribute [-go_sem] iB aC jC kD
attribute [local go_sem] PE GE HE IE JE KE LE NE OE QE RE SE TE UE VE XE
abbrev NH (steps:List Nm)(tries:Int):AV:=.p (.agg [.sl none (steps.map .str),eI tries])
def flB (steps:List Nm)(tries:Int):Obj:=.box [WC steps,AI tries]
def sF (l:List Ent):List (Ent×Bool):=l.zip (VA l)
theorem fW (l:List Ent):(sF l).length=l.length:=by unfold sF;rw[List.length_zip,rE];simp
theorem z4p {l:List Ent}{k:Nat}(hk:k<l.length):(sF l)[k]'(by rw[fW];exact hk)=(l[k],(VA l)[k]'(by rw[rE];exact hk)):=by unfold sF;rw[List.getElem_zip]
abbrev zjD (steps:List Nm)(tries:Int)(l:List Ent):Flo:=Flo.go steps tries flo0 0 (sF l)
end Go.Am
end
section
/- Flows;what is refused;the status of a board: the program. -/
open Go
set_option linter.all false
set_option maxRecDepth 100000
namespace Go.Am
variable {h:aA} {K:jA}
attribute [-go_sem] iB aC jC kD
attribute [local go_sem] PE GE HE IE JE KE LE NE OE QE RE SE TE UE VE XE
def iF:List Nm→List Nm→Int
 | _,[]=>0
 | pre,s::r=>if LB s=false then 5 else if pre.contains s=true then 6 else iF (pre++[s]) r
def PO (steps:List Nm)(tries:Int):Int:=if steps.length=0 then 8 else if(20:Int)<steps.length then 2 else if iF [] steps≠0 then iF [] steps else if inB 1 tries 10=false then 1 else 0
attribute [-go_sem] AT
theorem ziz (steps:List Nm)(tries:Int)(hl:steps.length≤1000)(hk:∀ s∈steps,s.length≤1000000):cA X pH [NH steps tries] h K=K (AI (PO steps tries)) h []:=by
 refine MA ?_;rw[z9A rfl];unfold PO;by_cases h0:steps.length=0
 ·have h0':(steps.length:Int)=0:=by omega
  simp only[iJ,go_sem,eq_true h0',h0]
 have h0':¬(steps.length:Int)=0:=by omega
 by_cases h1:(20:Int)<steps.length
 ·simp only[iJ,go_sem,h0',h0,h1]
 simp only[iJ,go_sem,h0',h0,h1];refine qB (fun k:Nat=>⟨[(1,.ref h.length 0),(16,WC steps),(17,AI steps.length),(18,AI k)],h++[.box [WC steps,AI tries]],[]⟩) (fun k=>k≤steps.length∧iF (steps.take k) (steps.drop k)=iF [] steps) (fun k=>steps.length-k) 0 rfl ⟨by omega,rfl⟩ ?_
 rintro k ⟨hkl,hp⟩
 rcases Nat.lt_or_ge k steps.length with hlt|hge
 ·have hg:=PB PV.str hlt
  have cw:∀v:List UInt8,aB none 0 (PV.str v)=some (PV.str v):=fun _=>rfl
  have w2:IntKind.i64.wrap ((k:Int)+1)=((k+1:Nat):Int):=BA _ (by omega) (by omega)
  have ky:=fun h K=>KM (h:=h) (K:=K) steps[k] (by have:=hk _ (List.getElem_mem hlt);omega)
  have ct:=fun h K=>qW (h:=h) (K:=K) (steps.take k) (fun h' _=>strS _) steps[k] (by simp;omega)
  have hw:win (steps.map PV.str) 0 k=(steps.take k).map PV.str:=by simp [win,List.map_take]
  have hk2:k≤steps.length:=by omega
  rw[List.drop_eq_getElem_cons hlt,iF]at hp;cases h2:LB steps[k]with
  | false=>
   rw[if_pos h2]at hp;simp only[go_sem,hlt,hg,cw,↓ky,ky,h2];rw[←hp];first|done|rfl
  | true=>
   rw[if_neg (by simp [h2])]at hp
   cases h3:(steps.take k).contains steps[k]with
   | true=>
    rw[if_pos h3]at hp;rw[h3]at ct;simp only[go_sem,hlt,hg,cw,↓ky,ky,h2,hw,hk2,↓ct,ct];rw[←hp];first|done|rfl
   | false=>
    rw[if_neg (by rw[h3];simp),←List.take_succ_eq_append_getElem hlt]at hp
    rw[h3]at ct;simp only[go_sem,hlt,hg,cw,↓ky,ky,h2,hw,hk2,↓ct,ct,w2];exact⟨k+1,rfl,⟨by omega,hp⟩,by omega⟩
 ·have ek:k=steps.length:=by omega
  subst ek;rw[List.drop_length]at hp;have hz:iF [] steps=0:=by rw[←hp];rfl
  rw[if_neg (by simp [hz])]
  simp only[go_sem,Nat.lt_irrefl];rw[AT];cases h4:inB 1 tries 10 with
  | false=>simp only[qO,go_sem,dE,h4];first|done|rfl
  | true=>simp only[qO,go_sem,dE,h4];first|done|rfl
def LD (n:Int):Int:=if lE n=true then 0 else 1
theorem ziC (n:Int):cA X rH [AI n] h K=K (AI (LD n)) h []:=by
 refine MA ?_;rw[z9H rfl];unfold LD;cases h1:lE n with
 | false=>simp only[sO,go_sem,DG,h1,Bool.false_eq_true]
 | true=>simp only[sO,go_sem,DG,h1]
end Go.Am
end
section
/- What is AC at once is nothing;refused entries left out: plainly. -/
open Go
set_option linter.all false
set_option maxRecDepth 100000
namespace Go.Am
def gtE (a b:Ent):Prop:=0<IA b a
theorem xF {x y:Int}:0<IB x y↔y<x:=by unfold IB;split <;> (try split) <;> omega
theorem yF {x y:Int}:IB x y=0↔x=y:=by unfold IB;split <;> (try split) <;> omega
theorem zeV {a b c:Ent}(h1:gtE a b)(h2:gtE b c):gtE a c:=by
 unfold gtE IA at *;have lt1:∀{x y:List UInt8},0<cB x y↔cB y x<0:=fun {x y}=>by rw[aI y x];omega
 by_cases t1:IB b.time a.time=0
 ·rw[if_neg (by simp [t1])]at h1
  have e1:=yF.1 t1
  by_cases t2:IB c.time b.time=0
  ·rw[if_neg (by simp [t2])]at h2
   have e2:=yF.1 t2
   rw[if_neg (by rw[e2,e1];simp [yF])]
   by_cases s1:cB b.site a.site=0
   ·rw[if_neg (by simp [s1])]at h1
    have f1:=ZH s1
    by_cases s2:cB c.site b.site=0
    ·rw[if_neg (by simp [s2])]at h2
     have f2:=ZH s2
     rw[if_neg (by rw[f2,f1];simp [HN])]
     rw[xF]at *;omega
    ·rw[if_pos s2]at h2
     rw[f1]at s2 h2;rw[if_pos s2];exact h2
   ·rw[if_pos s1]at h1
    by_cases s2:cB c.site b.site=0
    ·have f2:=ZH s2
     rw[f2,if_pos s1];exact h1
    ·rw[if_pos s2]at h2
     have q:=jS (lt1.1 h1) (lt1.1 h2)
     have q2:=lt1.2 q
     rw[if_pos (by omega)];exact q2
  ·rw[if_pos t2,xF]at h2
   have:¬IB c.time a.time=0:=fun z=>by have:=yF.1 z;omega
   rw[if_pos this,xF];omega
 ·rw[if_pos t1,xF]at h1
  by_cases t2:IB c.time b.time=0
  ·have e2:=yF.1 t2
   have:¬IB c.time a.time=0:=fun z=>by have:=yF.1 z;omega
   rw[if_pos this,xF];omega
  ·rw[if_pos t2,xF]at h2
   have:¬IB c.time a.time=0:=fun z=>by have:=yF.1 z;omega
   rw[if_pos this,xF];omega
theorem zeo (p:Option Ent)(x:Ent)(r:List Ent):PC p (x::r)=(if JB x≠0 then JB x else if(p.elim false fun q=>decide (IA x q≤0))=true then 7 else PC (some x) r):=by cases p <;> rfl
theorem z0C:∀ (l:List Ent)(p:Option Ent),PC p l=0↔(∀x∈l,JB x=0)∧(p.toList++l).Pairwise gtE∨l=[]
 | [],p=>by simp [PC]
 | x::r,p=>by
  have ih:=z0C r (some x)
  rw[zeo];have ord:((p.elim false fun q=>decide (IA x q≤0))=true)↔¬ ∀q∈p.toList,gtE q x:=by
   cases p with
   | none=>simp
   | some q=>simp [gtE]
  constructor
  ·intro h
   left;by_cases h1:JB x=0
   ·rw[if_neg (by simp [h1])]at h
    by_cases h2:(p.elim false fun q=>decide (IA x q≤0))=true
    ·rw[if_pos h2]at h;exact absurd h (by decide)
    ·rw[if_neg h2]at h
     have h2':∀q∈p.toList,gtE q x:=by
      rw[ord]at h2;exact Classical.not_not.1 h2
     have hr:(x::r).Pairwise gtE:=by
      rcases ih.1 h with⟨_,q⟩|q
      ·exact q
      ·rw[q];exact List.pairwise_singleton ..
     refine⟨fun y hy=>?_,?_⟩
     ·rcases List.mem_cons.1 hy with e|e
      ·rw[e];exact h1
      ·rcases ih.1 h with⟨q,_⟩|q
       ·exact q y e
       ·rw[q]at e;cases e
     ·cases p with
      | none=>exact hr
      | some q=>
       refine List.pairwise_cons.2 ⟨fun y hy=>?_,hr⟩
       have hq:=h2' q (by simp)
       rcases List.mem_cons.1 hy with e|e
       ·rw[e];exact hq
       ·exact zeV hq ((List.pairwise_cons.1 hr).1 y e)
   ·rw[if_pos h1]at h;exact absurd h h1
  ·intro h
   rcases h with⟨h1,h2⟩|h
   ·have hx:=h1 x (List.mem_cons_self ..)
    rw[if_neg (by simp [hx])]
    have hr:(x::r).Pairwise gtE:=(List.pairwise_append.1 h2).2.1
    have hn:¬(p.elim false fun q=>decide (IA x q≤0))=true:=by
     rw[ord];exact Classical.not_not.2 fun q hq=>(List.pairwise_append.1 h2).2.2 q hq x (List.mem_cons_self ..)
    rw[if_neg hn];exact ih.2 (.inl ⟨fun y hy=>h1 y (List.mem_cons_of_mem _ hy),hr⟩)
   ·cases h
theorem yQ:∀ (l seen:List Ent),LC seen l=false↔(∀x∈l,∀o∈seen,oB o x=false)∧l.Pairwise fun o x=>oB o x=false
 | [],seen=>by simp [LC]
 | x::r,seen=>by
  have ih:=yQ r (seen++[x])
  unfold LC;by_cases h:seen.any (fun o=>oB o x)=true
  ·rw[if_pos h]
   constructor
   ·intro q;cases q
   ·rintro⟨q,_⟩
    obtain⟨o,ho,hs⟩:=List.any_eq_true.1 h;rw[q x (List.mem_cons_self ..) o ho]at hs;cases hs
  ·rw[if_neg h,ih,List.pairwise_cons]
   have hs:∀o∈seen,oB o x=false:=by simpa using h
   constructor
   ·rintro⟨q1,q2⟩
    refine⟨fun y hy o ho=>?_,fun y hy=>q1 y hy x (by simp),q2⟩
    rcases List.mem_cons.1 hy with e|e
    ·rw[e];exact hs o ho
    ·exact q1 y e o (by simp [ho])
   ·rintro⟨q1,q2,q3⟩
    refine⟨fun y hy o ho=>?_,q3⟩
    rcases List.mem_append.1 ho with e|e
    ·exact q1 y (List.mem_cons_of_mem _ hy) o e
    ·rw[List.mem_singleton.1 e];exact q2 y hy
theorem EO (l:List Ent):wA l=0↔l.length≤2000∧(∀x∈l,JB x=0)∧l.Pairwise gtE∧l.Pairwise fun o x=>oB o x=false:=by
 have e0:PC none l=0↔(∀x∈l,JB x=0)∧l.Pairwise gtE:=by
  rw[z0C];constructor
  ·rintro (h|h)
   ·exact h
   ·rw[h];simp
  ·intro h;exact .inl h
 have t0:=yQ l []
 unfold wA;constructor
 ·intro h
  split at h
  ·cases h
  rename_i h1;split at h
  ·rename_i h2;exact absurd h h2
  rename_i h2;split at h
  ·cases h
  rename_i h3;have h2':PC none l=0:=by simpa using h2
  have h3':LC [] l=false:=by simpa using h3
  exact⟨by omega,(e0.1 h2').1,(e0.1 h2').2,(t0.1 h3').2⟩
 ·rintro⟨h1,h2,h3,h4⟩
  rw[if_neg (by omega),if_neg (by simp [e0.2 ⟨h2,h3⟩]),if_neg (by rw[t0.2 ⟨fun _ _ _ h=>(by cases h),h4⟩];simp)]
theorem early {l:List Ent}(hv:∀ x∈l,EntV x)(hf:wA l=0):∀x∈l,x.time≤1000∧x.site≠[122,122]:=fun x hx=>by
 have:=(BF (zen hf x hx)).t;have z:=(hv x hx).z
 exact⟨by omega,z.1⟩
end Go.Am
end
section
/- Entries eC: the program's way and the reference's,plainly. -/
open Go
set_option linter.all false
namespace Go.Am
theorem BT {a b:Ent}:IA a b≤0↔a.time<b.time∨(a.time=b.time∧(cB a.site b.site<0∨(a.site=b.site∧a.no≤b.no))):=by
 unfold IA;by_cases h1:IB a.time b.time=0
 ·have e1:=yF.1 h1
  rw[if_neg (by omega)]
  by_cases h2:cB a.site b.site=0
  ·have e2:=ZH h2
   rw[if_neg (by omega)]
   have n1:¬cB a.site b.site<0:=by omega
   simp only[e1,e2,Int.lt_irrefl,true_and,false_or];have:=xF (x:=a.no) (y:=b.no);have h3:cB b.site b.site=0:=by rw[←e2]at h2 ⊢;exact h2
   constructor
   ·intro h;right;omega
   ·rintro (h|h) <;> omega
  ·rw[if_pos h2]
   have n2:a.site≠b.site:=fun e=>h2 (by rw[e];have:=aI b.site b.site;omega)
   simp only[e1,Int.lt_irrefl,true_and,false_or,n2,false_and,or_false];omega
 ·rw[if_pos h1]
  have n1:a.time≠b.time:=fun e=>h1 (yF.2 e)
  have:=xF (x:=a.time) (y:=b.time);simp only[n1,false_and,or_false];omega
theorem AG:Ordr IA:=by
 refine⟨fun a b=>CT a b,fun a b d h1 h2=>?_⟩
 rw[BT]at *;rcases h1 with h1|⟨h1,h1'⟩ <;> rcases h2 with h2|⟨h2,h2'⟩
 ·exact .inl (by omega)
 ·exact .inl (by omega)
 ·exact .inl (by omega)
 ·refine .inr ⟨by omega,?_⟩
  rcases h1' with h1'|⟨h1',h3⟩ <;> rcases h2' with h2'|⟨h2',h4⟩
  ·exact .inl (jS h1' h2')
  ·exact .inl (by rw[←h2'];exact h1')
  ·exact .inl (by rw[h1'];exact h2')
  ·exact .inr ⟨by rw[h1',h2'],by omega⟩
theorem DT {a b:Ent}(h:IA a b=0):oB a b=true:=by
 have h1:=(BT (a:=a) (b:=b)).1 (by omega)
 have h2:=(BT (a:=b) (b:=a)).1 (by have:=AG.neg a b;omega)
 have hn:=aI a.site b.site
 rcases h1 with h1|⟨_,h1|⟨h1,h3⟩⟩ <;> rcases h2 with h2|⟨_,h2|⟨h2,h4⟩⟩ <;> try omega
 ·have:=aI a.site a.site;rw[h2]at h1;omega
 ·rw[h1]at h2;have:=aI b.site b.site;omega
 ·unfold oB;simp [h1];omega
theorem z0G (a b:Ent):eqE a b=true↔a=b:=by simp [eqE]
theorem aH {l:List Ent}(h:wA l=0):ZE IA l∧l.Pairwise (fun o x=>oB o x=false)∧∀x∈l,JB x=0:=by
 obtain⟨_,h1,h2,h3⟩:=(EO l).1 h;refine⟨?_,h3,h1⟩;unfold ZE;refine h2.imp fun {a b} h=>?_
 unfold gtE at h;have:=AG.neg a b;omega
def mC (a:List Ent)(x:Ent):Bool:=!a.any fun y=>oB y x
def UG (a b:List Ent):Bool:=b.any fun x=>a.any fun y=>oB y x && !eqE y x
def KC (a b:List Ent):List Ent×Int:=if UG a b then([],13) else(WA (ltO IA) (a++b.filter (mC a)),0)
theorem z34 (a b:Ent):oB a b=oB b a:=by
 unfold oB;rw[show decide (a.site=b.site)=decide (b.site=a.site) by simp [eq_comm],show decide (a.no=b.no)=decide (b.no=a.no) by simp [eq_comm]]
theorem jQ {l:List Ent}(h:l.Pairwise (fun o x=>oB o x=false)){x y:Ent}(hx:x∈l)(hy:y∈l)(hs:oB x y=true):x=y:=by
 induction l with
 | nil=>cases hx
 | cons z r ih=>
  obtain⟨h1,h2⟩:=List.pairwise_cons.1 h;rcases List.mem_cons.1 hx with ex|hx <;> rcases List.mem_cons.1 hy with ey|hy
  ·rw[ex,ey]
  ·have:=h1 y hy;rw[←ex,hs]at this;cases this
  ·have:=h1 x hx;rw[←ey,z34,hs]at this;cases this
  ·exact ih h2 hx hy
theorem z0H (a:Ent):eqE a a=true:=by simp [eqE]
theorem jU {a b:List Ent}(ha:wA a=0)(hb:wA b=0):KD a b=KC a b:=by
 obtain⟨sa,pa,_⟩:=aH ha;obtain⟨sb,pb,_⟩:=aH hb;have he:orL [wA a,wA b]=0:=by simp [orL,ha,hb]
 unfold KD KC;rw[if_neg (by simp [he])]
 have mm:∀x,x∈eC IA eqE a b↔x∈a∨x∈b:=fun x=>zgF fun x y h=>(z0G x y).1 h
 have ml:=z2o (c:=IA) (q:=eqE) (a:=a) (b:=b) AG
 cases hc:UG a b with
 | true=>
  unfold UG at hc;obtain⟨x,hx,h1⟩:=List.any_eq_true.1 hc;obtain⟨y,hy,h2⟩:=List.any_eq_true.1 h1;simp only[Bool.and_eq_true,Bool.not_eq_true']at h2;have tw:LC [] (eC IA eqE a b)=true:=by
   cases ht:LC [] (eC IA eqE a b) with
   | true=>rfl
   | false=>
    have hp:=((yQ _ _).1 ht).2
    have:=jQ hp ((mm y).2 (.inl hy)) ((mm x).2 (.inr hx)) h2.1;rw[this,z0H]at h2;cases h2.2
  rw[if_pos tw];rfl
 | false=>
  have nc:∀x∈b,∀y∈a,oB y x=true→y=x:=fun x hx y hy hs=>by
   unfold UG at hc;have h1:=List.any_eq_false.1 hc x hx
   simp only[Bool.not_eq_true,List.any_eq_false,Bool.and_eq_true,Bool.not_eq_true',not_and]at h1;have h2:=h1 y hy hs
   simpa [eqE] using h2
  have all:∀x∈eC IA eqE a b,∀y∈eC IA eqE a b,oB x y=true→x=y:=fun x hx y hy hs=>by
   rcases(mm x).1 hx with h1|h1 <;> rcases(mm y).1 hy with h2|h2
   ·exact jQ pa h1 h2 hs
   ·exact nc y h2 x h1 hs
   ·exact(nc x h1 y h2 (by rw[z34];exact hs)).symm
   ·exact jQ pb h1 h2 hs
  have st:ZE IA (eC IA eqE a b):=zgG AG fun i hi hz=>by
   have:=all _ (List.getElem_mem hi) _ (List.getElem_mem (show i<(eC IA eqE a b).length by omega)) (DT hz)
   exact zai (q:=eqE) z0G (WA (ltO IA) (a++b)) i hi this.symm
  have tw:LC [] (eC IA eqE a b)=false:=by
   rw[yQ];refine⟨fun _ _ _ h=>(by cases h),?_⟩
   refine List.pairwise_iff_getElem.2 fun i j hi hj hij=>?_
   cases hs:oB (eC IA eqE a b)[i] (eC IA eqE a b)[j]with
   | false=>rfl
   | true=>
    have e:=all _ (List.getElem_mem hi) _ (List.getElem_mem hj) hs
    have:=List.pairwise_iff_getElem.1 st i j hi hj hij;rw[e,AG.refl]at this;omega
  rw[if_neg (by simp [tw])]
  have dp:(a++b.filter (mC a)).Pairwise fun x y=>IA x y≠0:=by
   rw[List.pairwise_append];refine⟨sa.imp fun h=>by omega,(sb.filter _).imp fun h=>by omega,fun x hx y hy h=>?_⟩
   have h1:=(List.mem_filter.1 hy).2
   unfold mC at h1;simp only[Bool.not_eq_true',List.any_eq_false]at h1;exact h1 x hx (DT h)
  refine congrArg (·,(0:Int)) (xQ AG st (SM AG dp) fun x=>?_)
  rw[NF,mm,List.mem_append,List.mem_filter];constructor
  ·rintro (h|h)
   ·exact .inl h
   ·cases hn:mC a x with
    | true=>exact .inr ⟨h,rfl⟩
    | false=>
     unfold mC at hn;simp only[Bool.not_eq_false',List.any_eq_true]at hn;obtain⟨y,hy,hs⟩:=hn;rw[←nc x h y hy hs];exact .inl hy
  ·rintro (h|h)
   ·exact .inl h
   ·exact .inr h.1
end Go.Am
end
section
/- A list cut at a pivot and sorted on zD sides: plain. -/
namespace Go.Am
variable {α:Type}
structure PartI (lt:α→α→Bool) (l R:List α) (p:α) (i j:Nat):Prop where
 pm:R.Perm l
 z:R[0]?=some p
 i1:1≤i
 ij:i≤j+1
 jn:j<R.length
 lo:∀t,1≤t→t<i→∀y,R[t]?=some y→lt y p=true
 hi:∀t,j<t→∀y,R[t]?=some y→lt y p=false
theorem PartI.up {lt:α→α→Bool}{l R:List α}{p:α}{i j:Nat}(h:PartI lt l R p i j)(hij:i≤j){y:α}(hy:R[i]?=some y)(hl:lt y p=true):PartI lt l R p (i+1) j:=
 ⟨h.pm,h.z,by omega,by omega,h.jn,fun t h1 h2 z hz=>by
  by_cases e:t=i
  ·subst e;rw[hy]at hz;cases hz;exact hl
  ·exact h.lo t h1 (by omega) z hz,h.hi⟩
theorem PartI.dn {lt:α→α→Bool}{l R:List α}{p:α}{i j:Nat}(h:PartI lt l R p i j)(hij:i≤j){y:α}(hy:R[j]?=some y)(hl:lt y p=false):PartI lt l R p i (j-1):=
 ⟨h.pm,h.z,h.i1,by omega,by have:=h.jn;omega,h.lo,fun t h1 z hz=>by
  have:=h.i1;by_cases e:t=j
  ·subst e;rw[hy]at hz;cases hz;exact hl
  ·exact h.hi t (by omega) z hz⟩
theorem LV {R:List α}{i j:Nat}{x y:α}(hx:R[i]?=some x)(hy:R[j]?=some y):((R.set i y).set j x).Perm R:=by
 obtain⟨h1,rfl⟩:=List.getElem?_eq_some_iff.1 hx;obtain⟨h2,rfl⟩:=List.getElem?_eq_some_iff.1 hy;exact List.set_set_perm h1 h2
theorem PartI.sw {lt:α→α→Bool}{l R:List α}{p:α}{i j:Nat}(h:PartI lt l R p i j)(hij:i≤j){x y:α}(hx:R[i]?=some x)(hy:R[j]?=some y)(hlx:lt x p=false)(hly:lt y p=true) :
 PartI lt l ((R.set i y).set j x) p (i+1) (j-1)∧i<j:=by
 have hne:i≠j:=fun e=>by subst e;rw[hx]at hy;cases hy;rw[hlx]at hly;cases hly
 have hi1:=h.i1
 have hjn:=h.jn
 refine⟨⟨(LV hx hy).trans h.pm,?_,by omega,by omega,by simp;omega,fun t h1 h2 z hz=>?_,fun t h1 z hz=>?_⟩,by omega⟩
 ·rw[List.getElem?_set_ne (by omega),List.getElem?_set_ne (by omega)];exact h.z
 ·rw[List.getElem?_set_ne (by omega)]at hz
  by_cases e:t=i
  ·subst e;rw[List.getElem?_set_self (by omega)]at hz;cases hz;exact hly
  ·rw[List.getElem?_set_ne (by omega)]at hz;exact h.lo t h1 (by omega) z hz
 ·by_cases e:t=j
  ·subst e;rw[List.getElem?_set_self (by simp;omega)]at hz;cases hz;exact hlx
  ·rw[List.getElem?_set_ne (by omega),List.getElem?_set_ne (by omega)]at hz;exact h.hi t (by omega) z hz
theorem PartI.done {lt:α→α→Bool}{l R:List α}{p y:α}{i j:Nat}(h:PartI lt l R p i j)(hij:j<i)(hy:R[j]?=some y) :
 ∃A B,(R.set j p).set 0 y=A++p::B∧A.length=j∧(A++p::B).Perm l∧(∀a∈A,lt a p=true)∧∀b∈B,lt b p=false:=by
 have hjn:=h.jn
 have e:i=j+1:=by have:=h.ij;omega
 have hl:((R.set j p).set 0 y).length=R.length:=by simp
 have hp:((R.set j p).set 0 y)[j]?=some p:=by
  by_cases e0:j=0
  ·subst e0
   have:=h.z;rw[hy]at this;cases this
   rw[List.getElem?_set_self (by simp;omega)]
  ·rw[List.getElem?_set_ne (by omega),List.getElem?_set_self hjn]
 have hj':j<((R.set j p).set 0 y).length:=by omega
 have hpj:((R.set j p).set 0 y)[j]=p:=by rw[List.getElem?_eq_getElem hj']at hp;exact Option.some.inj hp
 have split:(R.set j p).set 0 y=((R.set j p).set 0 y).take j++p::((R.set j p).set 0 y).drop (j+1):=by
  have e1:=List.drop_eq_getElem_cons hj'
  rw[hpj]at e1;rw[←e1,List.take_append_drop]
 refine⟨_,_,split,by simp;omega,by rw[←split];exact(LV hy h.z).trans h.pm,fun a ha=>?_,fun b hb=>?_⟩
 ·obtain⟨t,ht⟩:=List.mem_iff_getElem?.1 ha
  have htj:t<j:=by
   have:=(List.getElem?_eq_some_iff.1 ht).1;simp at this;omega
  rw[List.getElem?_take_of_lt htj]at ht;by_cases e0:t=0
  ·subst e0
   rw[List.getElem?_set_self (by simp;omega)]at ht;cases ht
   exact h.lo j (by omega) (by omega) y hy
  ·rw[List.getElem?_set_ne (by omega),List.getElem?_set_ne (by omega)]at ht
   exact h.lo t (by omega) (by omega) a ht
 ·obtain⟨t,ht⟩:=List.mem_iff_getElem?.1 hb
  rw[List.getElem?_drop,List.getElem?_set_ne (by omega),List.getElem?_set_ne (by omega)]at ht
  exact h.hi _ (by omega) b ht
theorem zf5 {c:α→α→Int}(o:Ordr c){l A B:List α}{p:α}(hd:l.Pairwise fun x y=>c x y≠0)(hp:(A++p::B).Perm l)(hA:∀ a∈A,ltO c a p=true)(hB:∀ b∈B,ltO c b p=false) :
 WA (ltO c) A++p::WA (ltO c) B=WA (ltO c) l:=by
 have hne:(A++p::B).Pairwise fun x y=>c x y≠0:=(hp.pairwise_iff (fun {x y} h=>by have:=o.neg x y;omega)).2 hd
 rw[List.pairwise_append]at hne;obtain⟨nA,npB,nAB⟩:=hne;obtain⟨nB0,nB⟩:=List.pairwise_cons.1 npB;have sA:=SM o nA
 have sB:=SM o nB
 refine xQ o ?_ (SM o hd) fun x=>?_
 ·unfold ZE at *
  have hAp:∀a∈WA (ltO c) A,c a p<0:=fun a ha=>by have:=hA a (NF.1 ha);simpa [ltO] using this
  have hpB:∀b∈WA (ltO c) B,c p b<0:=fun b hb=>by
   have h1:=hB b (NF.1 hb)
   have h2:=nB0 b (NF.1 hb)
   have:=o.neg b p;simp only[ltO,decide_eq_false_iff_not]at h1;omega
  rw[List.pairwise_append];refine⟨sA,List.pairwise_cons.2 ⟨hpB,sB⟩,fun a ha b hb=>?_⟩
  rcases List.mem_cons.1 hb with rfl|hb
  ·exact hAp a ha
  ·exact o.lt_le (hAp a ha) (by have:=hpB b hb;omega)
 ·rw[NF,←hp.mem_iff]
  simp only[List.mem_append,List.mem_cons,NF]
def lC (c:α→α→Int)(L:List α)(a b:Nat):Nat×Nat:=match L[a]?,L[b]? with
 | some x,some y=>if c y x<0 then(b,a) else(a,b)
 | _,_=>(a,b)
def rC (c:α→α→Int)(L:List α)(i j k:Nat):Nat:=
 (lC c L (lC c L i j).1 (lC c L (lC c L i j).2 k).1).2
theorem zgB {c:α→α→Int}(o:Ordr c){L:List α}{i j k:Nat}(hi:i<L.length)(hj:j<L.length)(hk:k<L.length)(n1:c L[i] L[j]≠0)(n2:c L[i] L[k]≠0)(n3:c L[j] L[k]≠0) :
 ∃h:rC c L i j k<L.length,(rC c L i j k=i∨rC c L i j k=j∨rC c L i j k=k)∧(∃a,∃ha:a<L.length,(a=i∨a=j∨a=k)∧c L[a] L[rC c L i j k]<0)∧(∃b,∃hb:b<L.length,(b=i∨b=j∨b=k)∧c L[rC c L i j k] L[b]<0):=by
 have m1:=o.neg L[i] L[j]
 have m2:=o.neg L[i] L[k]
 have m3:=o.neg L[j] L[k]
 have gi:=List.getElem?_eq_getElem hi
 have gj:=List.getElem?_eq_getElem hj
 have gk:=List.getElem?_eq_getElem hk
 have fin:∀a m b:Nat,(ha:a<L.length)→(hm:m<L.length)→(hb:b<L.length)→(a=i∨a=j∨a=k)→(m=i∨m=j∨m=k)→(b=i∨b=j∨b=k)→c L[a] L[m]<0→c L[m] L[b]<0→rC c L i j k=m→∃h:rC c L i j k<L.length,(rC c L i j k=i∨rC c L i j k=j∨rC c L i j k=k)∧(∃a,∃ha:a<L.length,(a=i∨a=j∨a=k)∧c L[a] L[rC c L i j k]<0)∧(∃b,∃hb:b<L.length,(b=i∨b=j∨b=k)∧c L[rC c L i j k] L[b]<0):=by
  intro a m b ha hm hb ea em eb h1 h2 e;subst e;exact⟨hm,em,⟨a,ha,ea,h1⟩,⟨b,hb,eb,h2⟩⟩
 by_cases a1:c L[j] L[i]<0
 ·by_cases a2:c L[k] L[i]<0
  ·by_cases a3:c L[k] L[j]<0
   ·exact fin k j i hk hj hi (by simp) (by simp) (by simp) a3 a1 (by simp [rC,lC,gi,gj,gk,a1,a2,a3])
   ·exact fin j k i hj hk hi (by simp) (by simp) (by simp) (by omega) a2 (by simp [rC,lC,gi,gj,gk,a1,a2,a3])
  ·exact fin j i k hj hi hk (by simp) (by simp) (by simp) a1 (by omega) (by simp [rC,lC,gi,gj,gk,a1,a2,show ¬c L[i] L[j]<0 by omega])
 ·by_cases a2:c L[k] L[j]<0
  ·by_cases a3:c L[k] L[i]<0
   ·exact fin k i j hk hi hj (by simp) (by simp) (by simp) a3 (by omega) (by simp [rC,lC,gi,gj,gk,a1,a2,a3])
   ·exact fin i k j hi hk hj (by simp) (by simp) (by simp) (by omega) a2 (by simp [rC,lC,gi,gj,gk,a1,a2,a3])
  ·exact fin i j k hi hj hk (by simp) (by simp) (by simp) (by omega) (by omega) (by simp [rC,lC,gi,gj,gk,a1,a2])
end Go.Am
end
section
/- Sorting 13 or 14 entries: printed by program. -/
open Go
set_option linter.unusedSimpArgs false
namespace Go.Am
attribute [-go_sem] PV.cells splice
variable {h:aA} {K:jA}
theorem z1O (id n:Nat)(pre l tl:List PV)(hn:n=pre.length+l.length+tl.length)(hs:TB (some 8) l)(hl:n≤1000)(hh:h[id]?=some (.row (some 8) (pre++(l++tl)) 0)){g:Nat}{caps:List AV}{c:PV→PV→Int}(hc:Cmps g caps c l id h) :
 cA X aE [.own id n 0 n,AI pre.length,AI ((pre.length+l.length:Nat):Int),.fn g caps] h K=K (.tup []) (h.set id (.row (some 8) (pre++(WA (ltC c) l++tl)) 0)) []:=by
 refine MA ?_;rw[VR];have hid:=xE hh
 have hst:∀o,(h.set id o)[id]?=some o:=fun o=>tD hid
 have w0:IntKind.i64.wrap ((pre.length:Int)+1)=((pre.length+1:Nat):Int):=BA _ (by omega) (by omega)
 simp only[fJ,go_sem,w0];refine qB (fun i:Nat=>⟨[(0,.own id n 0 n),(1,AI pre.length),(2,AI ((pre.length+l.length:Nat):Int)),(3,.fn g caps),(8,AI ((pre.length+i:Nat):Int))],h.set id (.row (some 8) (pre++((JD (ltC c) (l.take i)).reverse++(l.drop i++tl))) 0),[]⟩) (fun i=>1≤i∧(i≤l.length∨i=1)) (fun i=>l.length-i) 1 ?_ (by simp) ?_
 ·have:(JD (ltC c) (l.take 1)).reverse++(l.drop 1++tl)=l++tl:=by cases l <;> rfl
  rw[this,FG hh]
 rintro i ⟨hi1,hi2⟩
 rcases Nat.lt_or_ge i l.length with hlt|hge
 ·have hlt':pre.length+i<pre.length+l.length:=by omega
  simp only[go_sem,hlt'];have hxl:l[i]∈l:=List.getElem_mem hlt
  generalize hx:l[i]=x at *;generalize hR:JD (ltC c) (l.take i)=R;have hRl:R.length=i:=by rw[←hR,z1V];simp;omega
  have hRm:∀z∈R,z∈l:=fun z hz=>List.mem_of_mem_take ((YO (ltC c) (l.take i)).mem_iff.1 (by rw[hR];exact hz))
  have hdrop:l.drop i=x::l.drop (i+1):=by rw[←hx];exact List.drop_eq_getElem_cons hlt
  have hnext:JD (ltC c) (l.take (i+1))=iC (ltC c) x R:=by rw[z1Y _ _ _ hlt,hR,hx]
  refine qB (fun t:List PV×List PV=>⟨[(0,.own id n 0 n),(1,AI pre.length),(2,AI ((pre.length+l.length:Nat):Int)),(3,.fn g caps),(8,AI ((pre.length+i:Nat):Int)),(9,AI ((pre.length+t.1.length:Nat):Int))],h.set id (.row (some 8) (pre++(t.1.reverse++x::t.2)) 0),[]⟩)
   (fun t=>∃B,R=B++t.1∧t.2=B.reverse++(l.drop (i+1)++tl)∧∀b∈B,ltC c x b=true) (fun t=>t.1.length) (R,l.drop (i+1)++tl) (by rw[hdrop,hRl];rfl) ⟨[],rfl,rfl,by simp⟩ ?_
  rintro⟨A,C⟩ ⟨B,q1,q2,q3⟩
  dsimp only at q1 q2 q3;have hBA0:R.length=B.length+A.length:=by rw[q1];simp
  have hlen:(pre++(A.reverse++x::C)).length=n:=by
   rw[q2];simp;omega
  have hBA:B.length+A.length<l.length:=by omega
  have hln:l.length≤n:=by omega
  have w1:IntKind.i64.wrap (((pre.length+i:Nat):Int)+1)=((pre.length+(i+1):Nat):Int):=BA _ (by omega) (by omega)
  cases A with
  | nil=>
   have hd:iC (ltC c) x R=B++[x]:=by rw[q1];exact XO (ltC c) x [] B q3 (fun y r h=>by cases h)
   simp only[go_sem,List.length_nil,Nat.add_zero,Nat.lt_irrefl,w1];refine⟨i+1,?_,by omega,by omega⟩
   simp only[hnext,hd,q2,List.reverse_append,List.reverse_nil,List.nil_append,List.reverse_cons,List.append_assoc,List.cons_append]
  | cons y A=>
   have hyl:y∈l:=hRm y (by rw[q1];simp)
   have pr:∀k (r:List PV),(pre++r)[pre.length+k]?=r[k]?:=fun k r=>by rw[List.getElem?_append_right (by omega)];congr 1;omega
   have ps:∀k (r:List PV) (v:PV),(pre++r).set (pre.length+k) v=pre++r.set k v:=fun k r v=>by rw[List.set_append_right _ _ (by omega)];congr 2;omega
   have g1:(pre++((y::A).reverse++x::C))[pre.length+(A.length+1)]?=some x:=by rw[pr];exact z1S (y::A) C x
   have g2:(pre++((y::A).reverse++x::C))[pre.length+A.length]?=some y:=by rw[pr];exact z1T A C x y
   have sw:((pre++((y::A).reverse++x::C)).set (pre.length+(A.length+1)) y).set (pre.length+A.length) x=pre++(A.reverse++x::y::C):=by rw[ps,ps];congr 1;exact z1U A C x y
   simp only[List.length_cons]at hBA hBA0;generalize hrow:pre++((y::A).reverse++x::C)=row at *;have w2:IntKind.i64.wrap (((pre.length+(A.length+1):Nat):Int)-1)=((pre.length+A.length:Nat):Int):=by rw[BA _ (by omega) (by omega)];omega
   have p1:pre.length<pre.length+(A.length+1):=by omega
   have b1:pre.length+(A.length+1)<n:=by omega
   have b2:pre.length+A.length<n:=by omega
   have cx:=cC (hs x hxl)
   have cy:=cC (hs y hyl)
   have hcc:=fun o K=>hc o x hxl y hyl K
   have e1:(y::A).length=A.length+1:=rfl
   by_cases hxy:c x y<0
   ·have g3:(row.set (pre.length+(A.length+1)) y)[pre.length+A.length]?=some y:=by rw[List.getElem?_set_ne (by omega),g2]
    have lx:=QD (hs x hxl)
    have ly:=QD (hs y hyl)
    have sx:=PD (hs x hxl)
    have sy:=PD (hs y hyl)
    simp only[gA]at lx ly;have t1:=fun i xs h1=>RD (hs x hxl) (hs y hyl) id i 0 xs h1
    have t2:=fun i xs h1=>RD (hs y hyl) (hs x hxl) id i 0 xs h1
    simp only[go_sem,e1,hst,p1,hlen,g1,g2,g3,w2,b1,b2,hln,cx,cy,hcc,hxy,lx,ly,sx,sy,t1,t2,sw];refine⟨(A,y::C),rfl,⟨B++[y],by simp [q1],by simp [q2],fun b hb=>?_⟩,by simp⟩
    rw[List.mem_append,List.mem_singleton]at hb;rcases hb with hb|rfl
    ·exact q3 b hb
    ·simpa [ltC] using hxy
   ·have hd:iC (ltC c) x R=B++x::y::A:=by rw[q1];exact XO (ltC c) x (y::A) B q3 (fun z r h=>by cases h;simpa [ltC] using hxy)
    simp only[go_sem,e1,hst,p1,hlen,g1,g2,w2,b1,b2,hln,cx,cy,hcc,hxy,w1];refine⟨i+1,?_,by omega,by omega⟩
    simp only[hnext,hd,←hrow,q2,List.reverse_append,List.reverse_cons,List.append_assoc,List.cons_append,List.nil_append]
 ·have hge':¬pre.length+i<pre.length+l.length:=by omega
  have e1:l.take i=l:=List.take_of_length_le hge
  have e2:l.drop i=[]:=List.drop_of_length_le hge
  simp only[go_sem,hge',e1,e2];rfl
def fE (g:Nat)(caps:List AV)(c:PV→PV→Int)(l:List PV):Prop:=∀(h:aA) (x:PV),x∈l→∀y,y∈l→∀K:jA,cA X g (.p x :: .p y::caps) h K=K (AI (c x y)) h []
def swp (c:PV→PV→Int)(L:List PV)(a b:Nat):Int:=match L[a]?,L[b]? with
 | some x,some y=>if c y x<0 then 1 else 0
 | _,_=>0
theorem MV (c:PV→PV→Int)(L:List PV)(a b:Nat):0≤swp c L a b∧swp c L a b≤1:=by
 unfold swp;split
 ·split <;> decide
 ·decide
theorem z29 {c:PV→PV→Int}{L:List PV}{a b:Nat}(ha:a<L.length)(hb:b<L.length):(lC c L a b).1<L.length∧(lC c L a b).2<L.length:=by
 unfold lC;split
 ·split <;> exact⟨by assumption,by assumption⟩
 ·exact⟨ha,hb⟩
theorem wU {s:Int}(id a b:Nat)(l:List PV)(hs:TB (some 8) l)(hl:l.length≤1000)(ha:a<l.length)(hb:b<l.length)(hh:h[id]?=some (.row (some 8) l 0))(s0:0≤s∧s≤100){g:Nat}{caps:List AV}{c:PV→PV→Int}(hc:fE g caps c l) :
 cA X IF [.own id l.length 0 l.length,AI a,AI b,.ref h.length 0,.fn g caps] (h++[.box [AI s]]) K=K (.tup [AI ((lC c l a b).1:Nat),AI ((lC c l a b).2:Nat)]) (h++[.box [AI (s+swp c l a b)]]) []:=by
 refine MA ?_;rw[z95];have hid:=xE hh
 have hh':∀o,(h++[o])[id]?=some (.row (some 8) l 0):=fun o=>by rw[List.getElem?_append_left hid];exact hh
 have hx:∀o,(h++[o])[h.length]?=some o:=fun o=>by simp
 have hset:∀o o',(h++[o]).set h.length o'=h++[o']:=fun o o'=>by rw[List.set_append_right _ _ (by simp)];simp
 have ga:=List.getElem?_eq_getElem ha
 have gb:=List.getElem?_eq_getElem hb
 have ma:l[a]∈l:=List.getElem_mem ha
 have mb:l[b]∈l:=List.getElem_mem hb
 have e1:lC c l a b=if c l[b] l[a]<0 then(b,a) else(a,b):=by unfold lC;rw[ga,gb]
 have e2:swp c l a b=if c l[b] l[a]<0 then 1 else 0:=by unfold swp;rw[ga,gb]
 rw[e1,e2];generalize l[a]=x at *;generalize l[b]=y at *;have cx:=cC (hs x ma)
 have cy:=cC (hs y mb)
 have hcc:=fun h K=>hc h y mb x ma K
 have w1:IntKind.i64.wrap (s+1)=s+1:=BA _ (by omega) (by omega)
 simp only[XS,go_sem,hh',ha,hb,ga,gb,cx,cy,hcc];by_cases hxy:c y x<0
 ·simp only[go_sem,hxy,hx,w1,hset,if_true,show splice [AI s] 0 [AV.p (PV.int IntKind.i64 (s+1))]=[AI (s+1)] from rfl]
 ·simp only[go_sem,hxy,if_false,Int.add_zero]
theorem zgC (id i j k:Nat)(l:List PV)(hs:TB (some 8) l)(hl:l.length≤1000)(hi:i<l.length)(hj:j<l.length)(hk:k<l.length)(hh:h[id]?=some (.row (some 8) l 0)){g:Nat}{caps:List AV}{c:PV→PV→Int}(hc:fE g caps c l) :
 ∃s:Int,(0≤s∧s≤3)∧∀K:jA,cA X tI [.own id l.length 0 l.length,AI i,AI j,AI k,.ref h.length 0,.fn g caps] (h++[.box [AI 0]]) K=K (AI (rC c l i j k:Nat)) (h++[.box [AI s]]) []:=by
 have l1:=z29 (c:=c) hi hj
 have l2:=z29 (c:=c) l1.2 hk
 have s1:=MV c l i j
 have s2:=MV c l (lC c l i j).2 k
 have s3:=MV c l (lC c l i j).1 (lC c l (lC c l i j).2 k).1
 refine⟨0+swp c l i j+swp c l (lC c l i j).2 k+swp c l (lC c l i j).1 (lC c l (lC c l i j).2 k).1,by omega,fun K=>MA ?_⟩
 have o1:=fun K=>wU (h:=h) (K:=K) (s:=0) id i j l hs hl hi hj hh (by omega) hc
 have o2:=fun K=>wU (h:=h) (K:=K) (s:=0+swp c l i j) id _ k l hs hl l1.2 hk hh (by omega) hc
 have o3:=fun K=>wU (h:=h) (K:=K) (s:=0+swp c l i j+swp c l (lC c l i j).2 k) id _ _ l hs hl l1.1 l2.1 hh (by omega) hc
 rw[z94];simp only[WS,go_sem,o1,o2,o3,rC]
theorem z9V (id:Nat)(l:List PV)(hs:TB (some 8) l)(hn:l.length=13∨l.length=14)(hh:h[id]?=some (.row (some 8) l 0)){g:Nat}{caps:List AV}{c:PV→PV→Int}(hc:fE g caps c l) :
 ∃v:Int,(v=0∨v=1)∧∀K:jA,cA X DJ [.own id l.length 0 l.length,AI 0,AI l.length,.fn g caps] h K=K (.tup [AI (rC c l 3 6 9:Nat),AI v]) h []:=by
 obtain⟨s,hs3,md⟩:=zgC (h:=h) id 3 6 9 l hs (by omega) (by omega) (by omega) (by omega) hh hc
 refine⟨if s=0 then 1 else 0,by split <;> simp,fun K=>MA ?_⟩
 rw[z93];have w1:IntKind.i64.wrap ((l.length:Int)-0)=l.length:=by rw[BA _ (by omega) (by omega)];omega
 have w2:IntKind.i64.wrap ((l.length:Int).tdiv 4)=3:=by rcases hn with e|e <;> rw[e] <;> rfl
 have b1:(8:Int)≤l.length:=by omega
 have b2:¬(50:Int)≤l.length:=by omega
 have hx:∀o,(h++[o])[h.length]?=some o:=fun o=>by simp
 have md':∀K:jA,cA X tI [.own id l.length 0 l.length,AI 3,AI 6,AI 9,.ref h.length 0,.fn g caps] (h++[.box [AI 0]]) K=K (AI (rC c l 3 6 9:Nat)) (h++[.box [AI s]]) []:=fun K=>md K
 have w3:IntKind.i64.wrap (0+IntKind.i64.wrap 3)=3:=rfl
 have w6:IntKind.i64.wrap (0+IntKind.i64.wrap 6)=6:=rfl
 have w9:IntKind.i64.wrap (0+IntKind.i64.wrap 9)=9:=rfl
 have s12:¬s=12:=by omega
 by_cases h0:s=0
 ·subst h0
  simp only[BL,iO,jO,go_sem,w1,w2,b1,b2,w3,w6,w9,↓md',md',hx,if_true]
 ·simp only[BL,iO,jO,go_sem,w1,w2,b1,b2,w3,w6,w9,↓md',md',hx,h0,s12,if_false]
theorem zh5 (id:Nat)(l:List PV)(hs:TB (some 8) l)(hl:l.length<50)(hl1:2≤l.length)(hh:h[id]?=some (.row (some 8) l 0)){g:Nat}{caps:List AV}{c:PV→PV→Int}(hc:fE g caps c l) :
 ∃b:Bool,(b=true→∀(i:Nat) (x y:PV),l[i]?=some x→l[i+1]?=some y→¬c y x<0)∧∀K:jA,cA X uI [.own id l.length 0 l.length,AI 0,AI l.length,.fn g caps] h K=K (AB b) h []:=by
 obtain⟨Q,hQ⟩:∃Q:jA,Q=fun v h' x=>∃b:Bool,v=AB b∧h'=h∧x=[]∧(b=true→∀(i:Nat) (x y:PV),l[i]?=some x→l[i+1]?=some y→¬c y x<0):=⟨_,rfl⟩
 have H:cA X uI [.own id l.length 0 l.length,AI 0,AI l.length,.fn g caps] h Q:=by
  rw[z96];simp only[lO,go_sem,show IntKind.i64.wrap (0+1)=1 from rfl]
  refine qB (fun _:Unit=>⟨[(0,.own id l.length 0 l.length),(1,AI 0),(2,AI l.length),(3,.fn g caps),(9,AI 1),(10,AI 0)],h,[]⟩) (fun _=>True) (fun _=>0) () rfl trivial ?_
  intro _ _;simp only[go_sem];refine qB (fun i:Nat=>⟨[(0,.own id l.length 0 l.length),(1,AI 0),(2,AI l.length),(3,.fn g caps),(9,AI i),(10,AI 0)],h,[]⟩) (fun i=>1≤i∧i≤l.length∧∀(k:Nat) (x y:PV),k+1<i→l[k]?=some x→l[k+1]?=some y→¬c y x<0) (fun i=>l.length-i) 1 rfl ⟨by omega,by omega,fun k x y h=>by omega⟩ ?_
  rintro i ⟨h1,h2,h3⟩
  rcases Nat.lt_or_ge i l.length with hlt|hge
  ·have gi:=List.getElem?_eq_getElem hlt
   have hi1:i-1<l.length:=by omega
   have gj:=List.getElem?_eq_getElem hi1
   have mi:l[i]∈l:=List.getElem_mem hlt
   have mj:l[i-1]∈l:=List.getElem_mem hi1
   generalize l[i]=x at *;generalize l[i-1]=y at *;have cx:=cC (hs x mi)
   have cy:=cC (hs y mj)
   have hcc:=fun h K=>hc h x mi y mj K
   have w1:IntKind.i64.wrap ((i:Int)+1)=((i+1:Nat):Int):=BA _ (by omega) (by omega)
   have w2:IntKind.i64.wrap ((i:Int)-1)=((i-1:Nat):Int):=by rw[BA _ (by omega) (by omega)];omega
   have w3:IntKind.i64.wrap ((l.length:Int)-0)=l.length:=by rw[BA _ (by omega) (by omega)];omega
   have ne:¬(i:Int)=l.length:=by omega
   have b5:((l.length:Nat):Int)<50:=by omega
   by_cases hxy:c x y<0
   ·simp only[go_sem,hlt,hi1,hh,gi,gj,cx,cy,hcc,hxy,w1,w2]
    simp only[mO,go_sem,w3,b5,ne];rw[hQ];exact⟨false,rfl,rfl,rfl,fun h=>by cases h⟩
   ·simp only[go_sem,hlt,hi1,hh,gi,gj,cx,cy,hcc,hxy,w1,w2]
    refine⟨i+1,rfl,⟨by omega,by omega,fun k x' y' hk hx hy=>?_⟩,by omega⟩
    by_cases e:k+1=i
    ·subst e
     rw[gi]at hy;cases hy
     rw[Nat.add_sub_cancel]at gj;rw[gj]at hx;cases hx
     exact hxy
    ·exact h3 k x' y' (by omega) hx hy
  ·have e:i=l.length:=by omega
   subst e;simp only[go_sem,Nat.lt_irrefl];rw[hQ];exact⟨true,rfl,rfl,rfl,fun _ k x y hx hy=>h3 k x y (List.getElem?_eq_some_iff.1 hy).1 hx hy⟩
 rw[hQ]at H;obtain⟨v,h',x,⟨b,rfl,rfl,rfl,hb⟩,gK⟩:=cA.one XM H;exact⟨b,hb,gK⟩
end Go.Am
end
section
/- Cutting a list of entries at a pivot: printed by program. -/
open Go
set_option linter.unusedSimpArgs false
namespace Go.Am
attribute [-go_sem] PV.cells splice
variable {h:aA} {K:jA}
attribute [-go_sem] xT oO wT HL yT gJ tT DL vT FL uT EL
section
variable {K:Ex→St→Prop} {id i j:Nat} {l R:List PV} {p:PV} {g:Nat} {caps:List AV} {c:PV→PV→Int} {env:List (Nat × AV)}
def KQ (K:Ex→St→Prop)(id:Nat)(sh:Sh)(h:aA)(l:List PV)(p:PV)(lt:PV→PV→Bool):Prop:=
 ∀(A B:List PV) (b:Bool),(A++p::B).Perm l→(∀a∈A,lt a p=true)→(∀b∈B,lt b p=false)→K .ret ⟨[(10,AI (A.length:Nat)),(11,AB b)],h.set id (.row sh (A++p::B) 0),[]⟩
theorem zh8 (hid:id<h.length)(hs:TB (some 8) R)(hn:R.length=l.length)(hP:PartI (ltC c) l R p i j)(hij:j<i)(a0:bA env 0 = .own id l.length 0 l.length)(a1:bA env 1=AI 0)(a13:bA env 13=AI j)
 (fin:KQ K id (some 8) h l p (ltC c)):NW (cA X) X.gl wM ⟨env,h.set id (.row (some 8) R 0),[]⟩ K:=by
 have hjn:=hP.jn
 have gj:=List.getElem?_eq_getElem hjn
 have g0:=hP.z
 obtain⟨A,B,q1,q2,q3,q4,q5⟩:=hP.done hij gj;generalize R[j]=y at *;have my:=List.mem_of_getElem? gj
 have mp:=List.mem_of_getElem? g0
 have cx:=cC (hs p mp)
 have cy:=cC (hs y my)
 have hst:∀o,(h.set id o)[id]?=some o:=fun o=>tD hid
 have l0:0<l.length:=by omega
 have lj:j<l.length:=by omega
 have t1:=fun i xs h1=>RD (hs p mp) (hs y my) id i 0 xs h1
 have t2:=fun i xs h1=>RD (hs y my) (hs p mp) id i 0 xs h1
 have lx:=QD (hs p mp)
 have ly:=QD (hs y my)
 have sx:=PD (hs p mp)
 have sy:=PD (hs y my)
 simp only[gA]at lx ly;have g3:(R.set j p)[0]?=some (if j=0 then p else p):=by
  by_cases e:j=0
  ·subst e;rw[List.getElem?_set_self hjn];simp
  ·rw[List.getElem?_set_ne e,g0];simp
 rw[ite_self]at g3;rw[xT];have Z:=fin A B false q3 q4 q5
 rw[q2]at Z;simp only[a0,a1,a13,oO,go_sem,hst,hn,l0,lj,g0,gj,g3,cx,cy,t1,t2,lx,ly,sx,sy,q1];exact Z
theorem z2F (hid:id<h.length)(hs:TB (some 8) R)(hn:R.length=l.length)(hm:∀ x∈R,x∈l)(hl:l.length≤1000)(hc:fE g caps c l)(hP:PartI (ltC c) l R p i j)
 (q:ACode) (e:Nat) (hq:(q=GI∧e=0)∨(q=xK∧e=6))
 (fin:∀i' z,PartI (ltC c) l R p i' j→i≤i'→(j<i'∨∃y,R[i']?=some y∧ltC c y p=false)→K (.exit e) ⟨[(0,.own id l.length 0 l.length),(1,AI 0),(4,.fn g caps),(12,AI (i':Nat)),(13,AI j),z],h.set id (.row (some 8) R 0),[]⟩) :
 YA (cA X) X.gl q K [(0,.own id l.length 0 l.length),(1,AI 0),(4,.fn g caps),(12,AI i),(13,AI j)] (h.set id (.row (some 8) R 0)) []:=by
 refine qB (fun i:Nat=>⟨[(0,.own id l.length 0 l.length),(1,AI 0),(4,.fn g caps),(12,AI i),(13,AI j)],h.set id (.row (some 8) R 0),[]⟩) (fun i'=>PartI (ltC c) l R p i' j∧i≤i') (fun i=>j+1-i) i rfl ⟨hP,Nat.le_refl _⟩ ?_
 obtain⟨i0,e0⟩:∃i0,i0=i:=⟨_,rfl⟩;rw[←e0]at fin ⊢;clear e0 hP;rintro i ⟨hP,hii⟩
 have hst:∀o,(h.set id o)[id]?=some o:=fun o=>tD hid
 have hjn:=hP.jn
 have hij:=hP.ij
 have w1:IntKind.i64.wrap ((i:Int)+1)=((i+1:Nat):Int):=BA _ (by omega) (by omega)
 by_cases h1:i≤j
 ·have gi:=List.getElem?_eq_getElem (show i<R.length by omega)
  have g0:=hP.z
  generalize R[i]=y at gi;have my:=List.mem_of_getElem? gi
  have mp:=List.mem_of_getElem? g0
  have cx:=cC (hs p mp)
  have cy:=cC (hs y my)
  have hcc:=fun h K=>hc h y (hm y my) p (hm p mp) K
  have l0:0<l.length:=by omega
  have li:i<l.length:=by omega
  by_cases hxy:c y p<0
  ·rcases hq with⟨rfl,rfl⟩|⟨rfl,rfl⟩
   all_goals
    simp only[go_sem,h1,hst,hn,l0,li,gi,g0,cx,cy,hcc,hxy,w1];exact⟨i+1,rfl,⟨hP.up h1 gi (by simp [ltC,hxy]),by omega⟩,by omega⟩
  ·rcases hq with⟨rfl,rfl⟩|⟨rfl,rfl⟩
   all_goals
    simp only[go_sem,h1,hst,hn,l0,li,gi,g0,cx,cy,hcc,hxy];exact fin i _ hP hii (.inr ⟨y,gi,by simp [ltC];omega⟩)
 ·rcases hq with⟨rfl,rfl⟩|⟨rfl,rfl⟩
  all_goals
   simp only[go_sem,h1];exact fin i _ hP hii (.inl (by omega))
theorem z2E (hid:id<h.length)(hs:TB (some 8) R)(hn:R.length=l.length)(hm:∀ x∈R,x∈l)(hl:l.length≤1000)(hc:fE g caps c l)(hP:PartI (ltC c) l R p i j)
 (q:ACode) (e:Nat) (hq:(q=vK∧e=2)∨(q=yK∧e=8))
 (fin:∀j' z,PartI (ltC c) l R p i j'→j'≤j→(j'<i∨∃y,R[j']?=some y∧ltC c y p=true)→K (.exit e) ⟨[(0,.own id l.length 0 l.length),(1,AI 0),(4,.fn g caps),(12,AI i),(13,AI (j':Nat)),z],h.set id (.row (some 8) R 0),[]⟩) :
 YA (cA X) X.gl q K [(0,.own id l.length 0 l.length),(1,AI 0),(4,.fn g caps),(12,AI i),(13,AI j)] (h.set id (.row (some 8) R 0)) []:=by
 refine qB (fun j:Nat=>⟨[(0,.own id l.length 0 l.length),(1,AI 0),(4,.fn g caps),(12,AI i),(13,AI j)],h.set id (.row (some 8) R 0),[]⟩) (fun j'=>PartI (ltC c) l R p i j'∧j'≤j) (fun j=>j) j rfl ⟨hP,Nat.le_refl _⟩ ?_
 rintro j' ⟨hP,hjj⟩
 have hst:∀o,(h.set id o)[id]?=some o:=fun o=>tD hid
 have hjn:=hP.jn
 have hij:=hP.ij
 have hi1:=hP.i1
 by_cases h1:i≤j'
 ·have w1:IntKind.i64.wrap ((j':Int)-1)=((j'-1:Nat):Int):=by rw[BA _ (by omega) (by omega)];omega
  have gi:=List.getElem?_eq_getElem (show j'<R.length by omega)
  have g0:=hP.z
  generalize R[j']=y at gi;have my:=List.mem_of_getElem? gi
  have mp:=List.mem_of_getElem? g0
  have cx:=cC (hs p mp)
  have cy:=cC (hs y my)
  have hcc:=fun h K=>hc h y (hm y my) p (hm p mp) K
  have l0:0<l.length:=by omega
  have li:j'<l.length:=by omega
  by_cases hxy:c y p<0
  ·rcases hq with⟨rfl,rfl⟩|⟨rfl,rfl⟩
   all_goals
    simp only[go_sem,h1,hst,hn,l0,li,gi,g0,cx,cy,hcc,hxy];exact fin j' _ hP hjj (.inr ⟨y,gi,by simp [ltC,hxy]⟩)
  ·rcases hq with⟨rfl,rfl⟩|⟨rfl,rfl⟩
   all_goals
    simp only[go_sem,h1,hst,hn,l0,li,gi,g0,cx,cy,hcc,hxy,w1];exact⟨j'-1,rfl,⟨hP.dn h1 gi (by simp [ltC];omega),by omega⟩,by omega⟩
 ·rcases hq with⟨rfl,rfl⟩|⟨rfl,rfl⟩
  all_goals
   simp only[go_sem,h1];exact fin j' _ hP hjj (.inl (by omega))
theorem PartI.lens (hP:PartI (ltC c) l R p i j):R.length=l.length:=hP.pm.length_eq
theorem PartI.mems (hP:PartI (ltC c) l R p i j):∀x∈R,x∈l:=fun _ h=>hP.pm.mem_iff.1 h
theorem PartI.shp {sh:Sh}(hs:TB sh l)(hP:PartI (ltC c) l R p i j):TB sh R:=fun x h=>hs x (hP.mems x h)
theorem zh6 (hid:id<h.length)(hs:TB (some 8) l)(hl:l.length≤1000)(hP:PartI (ltC c) l R p i j)(ex:i≤j→∃ x y,R[i]?=some x∧ltC c x p=false∧R[j]?=some y∧ltC c y p=true){z1:Nat × AV}
 (f1:j<i→∀z,K (.exit 4) ⟨[(0,.own id l.length 0 l.length),(1,AI 0),(4,.fn g caps),(12,AI i),(13,AI j),z],h.set id (.row (some 8) R 0),[]⟩)
 (f2:∀R':List PV,PartI (ltC c) l R' p (i+1) (j-1)→i<j→K .normal ⟨[(0,.own id l.length 0 l.length),(1,AI 0),(4,.fn g caps),(12,AI (i+1:Nat)),(13,AI (j-1:Nat))],h.set id (.row (some 8) R' 0),[]⟩) :
 NW (cA X) X.gl TP ⟨[(0,.own id l.length 0 l.length),(1,AI 0),(4,.fn g caps),(12,AI i),(13,AI j),z1],h.set id (.row (some 8) R 0),[]⟩ K:=by
 rw[uT];have hst:∀o,(h.set id o)[id]?=some o:=fun o=>tD hid
 have hjn:=hP.jn
 have hn:=hP.lens
 by_cases hij:j<i
 ·simp only[EL,go_sem,hij]
  exact f1 hij _
 ·have hile:i≤j:=by omega
  obtain⟨x,y,gi,nx,gj,ny⟩:=ex hile;obtain⟨sw,hlt⟩:=hP.sw hile gi gj nx ny;have hji:¬j<i:=by omega
  have mx:=List.mem_of_getElem? gi
  have my:=List.mem_of_getElem? gj
  have sR:=hP.shp hs
  have cx:=cC (sR x mx)
  have cy:=cC (sR y my)
  have t1:=fun k xs h1=>RD (sR y my) (sR x mx) id k 0 xs h1
  have t2:=fun k xs h1=>RD (sR x mx) (sR y my) id k 0 xs h1
  have lx:=QD (sR x mx)
  have ly:=QD (sR y my)
  have sx:=PD (sR x mx)
  have sy:=PD (sR y my)
  simp only[gA]at lx ly;have g3:(R.set i y)[j]?=some y:=by rw[List.getElem?_set_ne (by omega),gj]
  have li:i<l.length:=by omega
  have lj:j<l.length:=by omega
  have w1:IntKind.i64.wrap ((i:Int)+1)=((i+1:Nat):Int):=BA _ (by omega) (by omega)
  have w2:IntKind.i64.wrap ((j:Int)-1)=((j-1:Nat):Int):=by rw[BA _ (by omega) (by omega)];omega
  simp only[EL,go_sem,hji,hst,hn,li,lj,gi,gj,g3,cx,cy,t1,t2,lx,ly,sx,sy,w1,w2];exact f2 _ sw hlt
theorem zh7 (hid:id<h.length)(hs:TB (some 8) l)(hl:l.length≤1000)(hc:fE g caps c l)(hP:PartI (ltC c) l R p i j)(fin:KQ K id (some 8) h l p (ltC c)) :
 YA (cA X) X.gl zK (OA 4 (TA (cA X) X.gl wM K)) [(0,.own id l.length 0 l.length),(1,AI 0),(4,.fn g caps),(12,AI i),(13,AI j)] (h.set id (.row (some 8) R 0)) []:=by
 refine qB (fun t:List PV×Nat×Nat=>⟨[(0,.own id l.length 0 l.length),(1,AI 0),(4,.fn g caps),(12,AI t.2.1),(13,AI t.2.2)],h.set id (.row (some 8) t.1 0),[]⟩) (fun t=>PartI (ltC c) l t.1 p t.2.1 t.2.2) (fun t=>t.2.2+1-t.2.1) (R,i,j) rfl hP ?_
 rintro⟨R,i,j⟩ hP
 dsimp only at hP ⊢;rw[wT];simp only[HL,go_sem];refine z2F hid (hP.shp hs) hP.lens hP.mems hl hc hP _ 6 (.inr ⟨rfl,rfl⟩) fun i' z hP' hii hx=>?_
 simp only[go_sem];rw[vT];simp only[FL,go_sem];refine z2E hid (hP'.shp hs) hP'.lens hP'.mems hl hc hP' _ 8 (.inr ⟨rfl,rfl⟩) fun j' z hQ hjj hy=>?_
 simp only[go_sem];refine zh6 hid hs hl hQ (fun hle=>?_) (fun hlt z=>?_) (fun R' hR hlt=>?_)
 ·obtain⟨x,gx,nx⟩:=hx.resolve_left (by omega)
  obtain⟨y,gy,ny⟩:=hy.resolve_left (by omega)
  exact⟨x,y,gx,nx,gy,ny⟩
 ·simp only[go_sem]
  exact zh8 hid (hQ.shp hs) hQ.lens hQ hlt rfl rfl rfl fin
 ·simp only[go_sem]
  exact⟨(R',i'+1,j'-1),rfl,hR,by dsimp only;omega⟩
theorem zh9 (hid:id<h.length)(hs:TB (some 8) l)(hl:l.length≤1000)(hc:fE g caps c l)(hP:PartI (ltC c) l R p i j)(ex:i≤j→∃ x y,R[i]?=some x∧ltC c x p=false∧R[j]?=some y∧ltC c y p=true){z:Nat × AV}(fin:KQ K id (some 8) h l p (ltC c)) :
 NW (cA X) X.gl UP ⟨[(0,.own id l.length 0 l.length),(1,AI 0),(4,.fn g caps),(12,AI i),(13,AI j),z],h.set id (.row (some 8) R 0),[]⟩ K:=by
 rw[yT];have hst:∀o,(h.set id o)[id]?=some o:=fun o=>tD hid
 have hjn:=hP.jn
 have hn:=hP.lens
 have sR:=hP.shp hs
 by_cases hij:j<i
 ·have gj:=List.getElem?_eq_getElem hjn
  have g0:=hP.z
  obtain⟨A,B,q1,q2,q3,q4,q5⟩:=hP.done hij gj;generalize R[j]=y at *;have my:=List.mem_of_getElem? gj
  have mp:=List.mem_of_getElem? g0
  have cx:=cC (sR p mp)
  have cy:=cC (sR y my)
  have l0:0<l.length:=by omega
  have lj:j<l.length:=by omega
  have t1:=fun i xs h1=>RD (sR p mp) (sR y my) id i 0 xs h1
  have t2:=fun i xs h1=>RD (sR y my) (sR p mp) id i 0 xs h1
  have lx:=QD (sR p mp)
  have ly:=QD (sR y my)
  have sx:=PD (sR p mp)
  have sy:=PD (sR y my)
  simp only[gA]at lx ly;have g3:(R.set j p)[0]?=some (if j=0 then p else p):=by
   by_cases e:j=0
   ·subst e;rw[List.getElem?_set_self hjn];simp
   ·rw[List.getElem?_set_ne e,g0];simp
  rw[ite_self]at g3;have Z:=fin A B true q3 q4 q5
  rw[q2]at Z;simp only[gJ,go_sem,hij,hst,hn,l0,lj,g0,gj,g3,cx,cy,t1,t2,lx,ly,sx,sy,q1];exact Z
 ·have hile:i≤j:=by omega
  obtain⟨x,y,gi,nx,gj,ny⟩:=ex hile;obtain⟨sw,hlt⟩:=hP.sw hile gi gj nx ny;have mx:=List.mem_of_getElem? gi
  have my:=List.mem_of_getElem? gj
  have cx:=cC (sR x mx)
  have cy:=cC (sR y my)
  have t1:=fun k xs h1=>RD (sR y my) (sR x mx) id k 0 xs h1
  have t2:=fun k xs h1=>RD (sR x mx) (sR y my) id k 0 xs h1
  have lx:=QD (sR x mx)
  have ly:=QD (sR y my)
  have sx:=PD (sR x mx)
  have sy:=PD (sR y my)
  simp only[gA]at lx ly;have g3:(R.set i y)[j]?=some y:=by rw[List.getElem?_set_ne (by omega),gj]
  have li:i<l.length:=by omega
  have lj:j<l.length:=by omega
  have w1:IntKind.i64.wrap ((i:Int)+1)=((i+1:Nat):Int):=BA _ (by omega) (by omega)
  have w2:IntKind.i64.wrap ((j:Int)-1)=((j-1:Nat):Int):=by rw[BA _ (by omega) (by omega)];omega
  simp only[gJ,go_sem,hij,hst,hn,li,lj,gi,gj,g3,cx,cy,t1,t2,lx,ly,sx,sy,w1,w2];exact zh7 hid hs hl hc sw fin
end
theorem zhA (id q:Nat)(l:List PV)(hs:TB (some 8) l)(hl:l.length≤1000)(hl2:2≤l.length)(hh:h[id]?=some (.row (some 8) l 0))(hq:q<l.length){g:Nat}{caps:List AV}{c:PV→PV→Int}(hc:fE g caps c l) :
 ∃(A B:List PV) (b:Bool),(A++l[q]::B).Perm l∧(∀a∈A,ltC c a l[q]=true)∧(∀b∈B,ltC c b l[q]=false) ∧
  ∀K:jA,cA X oH [.own id l.length 0 l.length,AI 0,AI l.length,AI q,.fn g caps] h K=K (.tup [AI (A.length:Nat),AB b]) (h.set id (.row (some 8) (A++l[q]::B) 0)) []:=by
 have gq:=List.getElem?_eq_getElem hq
 generalize l[q]=p at *;obtain⟨Q,hQ⟩:∃Q:jA,Q=fun v h' x=>∃(A B:List PV) (b:Bool),v = .tup [AI (A.length:Nat),AB b]∧h'=h.set id (.row (some 8) (A++p::B) 0)∧x=[]∧(A++p::B).Perm l∧(∀a∈A,ltC c a p=true)∧(∀b∈B,ltC c b p=false):=⟨_,rfl⟩
 have H:cA X oH [.own id l.length 0 l.length,AI 0,AI l.length,AI q,.fn g caps] h Q:=by
  rw[z97];have hid:=xE hh
  have hst:∀o,(h.set id o)[id]?=some o:=fun o=>tD hid
  have l0:0<l.length:=by omega
  have g0:=List.getElem?_eq_getElem l0
  generalize l[0]=y at g0;have my:=List.mem_of_getElem? g0
  have mp:=List.mem_of_getElem? gq
  have cx:=cC (hs p mp)
  have cy:=cC (hs y my)
  have t1:=fun i xs h1=>RD (hs p mp) (hs y my) id i 0 xs h1
  have t2:=fun i xs h1=>RD (hs y my) (hs p mp) id i 0 xs h1
  have lx:=QD (hs p mp)
  have ly:=QD (hs y my)
  have sx:=PD (hs p mp)
  have sy:=PD (hs y my)
  simp only[gA]at lx ly;have g3:(l.set 0 p)[q]?=some p:=by
   by_cases e:q=0
   ·subst e;rw[List.getElem?_set_self hq]
   ·rw[List.getElem?_set_ne (by omega),gq]
  have w1:IntKind.i64.wrap ((0:Int)+1)=((1:Nat):Int):=rfl
  have w2:IntKind.i64.wrap ((l.length:Int)-1)=((l.length-1:Nat):Int):=by rw[BA _ (by omega) (by omega)];omega
  have hP:PartI (ltC c) l ((l.set 0 p).set q y) p 1 (l.length-1):=by
   refine⟨LV g0 gq,?_,by omega,by omega,by simp;omega,fun t h1 h2=>by omega,fun t h1 z hz=>?_⟩
   ·by_cases e:q=0
    ·subst e
     rw[g0]at gq;cases gq
     rw[List.getElem?_set_self (by simp;omega)]
    ·rw[List.getElem?_set_ne (by omega),List.getElem?_set_self (by omega)]
   ·have:=(List.getElem?_eq_some_iff.1 hz).1
    simp at this;omega
  simp only[nO,go_sem,hh,hst,hq,l0,g0,gq,g3,cx,cy,t1,t2,lx,ly,sx,sy,w1,w2];refine z2F hid (hP.shp hs) hP.lens hP.mems hl hc hP _ 0 (.inl ⟨rfl,rfl⟩) fun i' z hP' hii hx=>?_
  simp only[go_sem];rw[tT];simp only[DL,go_sem];refine z2E hid (hP'.shp hs) hP'.lens hP'.mems hl hc hP' _ 2 (.inl ⟨rfl,rfl⟩) fun j' z hR hjj hy=>?_
  simp only[go_sem];refine zh9 hid hs hl hc hR (fun hle=>?_) (fun A B b q3 q4 q5=>?_)
  ·obtain⟨x,gx,nx⟩:=hx.resolve_left (by omega)
   obtain⟨y,gy,ny⟩:=hy.resolve_left (by omega)
   exact⟨x,y,gx,nx,gy,ny⟩
  ·simp only[go_sem]
   rw[hQ];exact⟨A,B,b,rfl,rfl,rfl,q3,q4,q5⟩
 rw[hQ]at H;obtain⟨v,h',x,⟨A,B,b,rfl,rfl,rfl,q3,q4,q5⟩,gK⟩:=cA.one XM H;exact⟨A,B,b,q3,q4,q5,gK⟩
end Go.Am
end
