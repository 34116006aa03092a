import Derived.Shelf.Strings.Repeat
import Derived.Shelf.Strings.SlTrimAscii
import Derived.Shelf.Spec.TrailingZeros
import Derived.Shelf.Strings.Count
import Derived.Shelf.Strings.OnBuilder
import Derived.Test.YthofcepomhnpdaaGreatlawST6
set_option linter.all false
set_option maxRecDepth 100000
set_option maxHeartbeats 0
namespace Go.Am
section
abbrev Nm:=List UInt8
section
variable {β:Type}
def mA (l:List (Nm × β))(k:Nm):Option β:=(l.find? λe=>decide (e.1=k)).map (·.2)
def JA (l:List (Nm × β))(k:Nm)(v:β):List (Nm×β):=if l.any (λe=>decide (e.1=k)) then l.map (λe=>if e.1=k then(k,v) else e) else l++[(k,v)]
def gH (l:List (Nm × β))(k:Nm):List (Nm×β):=l.filter λe=>!decide (e.1=k)
theorem gG (e:Nm × β)(l:List (Nm × β))(k:Nm):mA (e::l) k=if e.1=k then some e.2 else mA l k:=by
 unfold mA;rw[List.find?_cons];by_cases h:e.1=k <;> simp [h]
theorem zoP {l:List (Nm × β)}{k:Nm}(h:l.any (λe=>decide (e.1=k))=false):mA l k=none:=by
 unfold mA;rw[List.find?_eq_none.2 (λx hx=>by rw[List.any_eq_false]at h;exact h x hx)]
 rfl
theorem zoN (l m:List (Nm × β))(k:Nm):mA (l++m) k=(mA l k).or (mA m k):=by
 unfold mA;rw[List.find?_append];cases l.find? (λe=>decide (e.1=k)) <;> rfl
theorem zoO (l:List (Nm × β))(k:Nm)(v:β)(j:Nm):mA (l.map λe=>if e.1=k then(k,v) else e) j=if j=k then(mA l k).map (λ_=>v) else mA l j:=by
 induction l with
 | nil=>simp [mA]
 | cons e l ih=>
  rw[List.map_cons,gG,ih,gG,gG];by_cases h1:e.1=k
  ·rw[if_pos h1]
   by_cases h2:j=k
   ·subst h2;simp [h1]
   ·have h3:¬k=j:=λq=>h2 q.symm
    simp [h1,h2,h3]
  ·rw[if_neg h1]
   by_cases h2:j=k
   ·subst h2;simp [h1]
   ·simp [h2]
theorem aJ (l:List (Nm × β))(k:Nm)(v:β)(j:Nm):mA (JA l k v) j=if j=k then some v else mA l j:=by
 unfold JA;cases h:l.any (λe=>decide (e.1=k)) with
 | true=>
  rw[if_pos rfl,zoO];by_cases hj:j=k
  ·rw[if_pos hj,if_pos hj]
   obtain⟨e,he,hk⟩:=List.any_eq_true.1 h;have:mA l k≠none:=by
    unfold mA;intro hn;rw[Option.map_eq_none_iff,List.find?_eq_none]at hn;exact hn e he hk
   cases hg:mA l k with
   | none=>exact absurd hg this
   | some x=>rfl
  ·rw[if_neg hj,if_neg hj]
 | false=>
  rw[if_neg (by simp),zoN,gG]
  by_cases hj:j=k
  ·subst hj
   rw[zoP h,if_pos rfl,if_pos rfl];rfl
  ·rw[if_neg (λq=>hj q.symm),if_neg hj]
   cases mA l j <;> rfl
theorem z5c (l:List (Nm × β))(k j:Nm):mA (gH l k) j=if j=k then none else mA l j:=by
 induction l with
 | nil=>simp [mA,gH]
 | cons e l ih=>
  unfold gH at ih ⊢;rw[List.filter_cons,gG];by_cases h1:e.1=k
  ·rw[if_neg (by simp [h1]),ih]
   by_cases h2:j=k
   ·rw[if_pos h2,if_pos h2]
   ·rw[if_neg h2,if_neg h2,if_neg (by rw[h1];exact λq=>h2 q.symm)]
  ·rw[if_pos (by simp [h1]),gG,ih]
   by_cases h2:e.1=j
   ·rw[if_pos h2,if_pos h2,if_neg (λq=>h1 (h2.trans q))]
   ·rw[if_neg h2,if_neg h2]
end
structure Sta where
 state:Int
 since:Int
 step:Nm
 site:Nm
 failed:Int
 deriving DecidableEq
structure EndP where
 board:Nm
 step:Nm
 frm:Int
 til:Int
 pass:Bool
 deriving DecidableEq
structure RunP where
 site:Nm
 frm:Int
 til:Int
 deriving DecidableEq
structure RanQ where
 board:Nm
 site:Nm
 step:Nm
 frm:Int
 til:Int
 pass:Bool
 deriving DecidableEq
def RanQ.run (r:RanQ):RunP:=⟨r.site,r.frm,r.til⟩
def RanQ.fin (r:RanQ):EndP:=⟨r.board,r.step,r.frm,r.til,r.pass⟩
structure FlP where
 bs:List (Nm×Sta)
 sites:List (Nm×Nm)
 ends:List EndP
 runs:List RunP
structure FlQ where
 bs:List (Nm×Sta)
 runs:List RanQ
def OC (steps:List Nm)(tries:Int)(s:Sta)(at_:Int)(pass:Bool):Sta:=
 if pass then(if steps.findIdx (λy=>decide (y=s.step))+1=steps.length then⟨4,at_,[],[],0⟩ else⟨1,at_,(steps[steps.findIdx (λy=>decide (y=s.step))+1]?).getD [],[],0⟩)
 else⟨if s.failed+1=tries then 5 else 3,at_,s.step,[],s.failed+1⟩
def bD (l:List RunP)(site:Nm)(at_:Int):List RunP:=l.map λr=>if r.site=site/\r.til<0 then { r with til:=at_ } else r
def tE (l:List RanQ)(board:Nm)(at_:Int)(pass:Bool):List RanQ:=l.map λr=>if r.board=board/\r.til<0 then { r with til:=at_,pass:=pass } else r
def EE (l:List RanQ)(board:Nm)(at_:Int):List RanQ:=l.map λr=>if r.board=board/\r.til<0 then { r with til:=at_,board:=[] } else r
def EC (steps:List Nm)(tries:Int)(w:FlP)(x:Ent):FlP×Int:=
 if x.kind=1 then(match mA w.bs x.board with|some _=>(w,6)|none=>({ w with bs:=JA w.bs x.board ⟨1,x.time,steps.headD [],[],0⟩ },0))
 else match mA w.bs x.board with
 | none=>(w,8)
 | some b=>
  if x.kind=2 then(if b.state≠1 then(w,11) else if x.step≠b.step then(w,3) else if(mA w.sites x.site).isSome then(w,12)
   else({ w with bs:=JA w.bs x.board { b with state:=2,since:=x.time,site:=x.site },sites:=JA w.sites x.site x.board,runs:=w.runs++[⟨x.site,x.time,-1⟩] },0))
  else if x.kind=3∨x.kind=4 then(if b.state≠2 then(w,11) else if b.site≠x.site then(w,13)
   else({ bs:=JA w.bs x.board (OC steps tries b x.time (decide (x.kind=3))),sites:=gH w.sites b.site,ends:=w.ends++[⟨x.board,b.step,b.since,x.time,decide (x.kind=3)⟩],runs:=bD w.runs b.site x.time },0))
  else if x.kind=5 then(if b.state≠3 then(w,11) else({ w with bs:=JA w.bs x.board { b with state:=1,since:=x.time } },0))
  else if b.state=4∨b.state=5 then(w,11)
  else if b.state=2 then({ w with bs:=JA w.bs x.board { b with state:=5,since:=x.time,site:=[] },sites:=gH w.sites b.site,runs:=bD w.runs b.site x.time },0)
  else({ w with bs:=JA w.bs x.board { b with state:=5,since:=x.time } },0)
def GJ (bs:List (Nm × Sta))(site:Nm):Prop:=∃b st,mA bs b=some st/\st.state=2/\st.site=site
theorem ZI {β:Type}{l:List (Nm × β)}{k:Nm}{v:β}(h:mA l k=some v):(k,v)∈l:=by
 unfold mA at h;obtain⟨e,h1,h2⟩:=Option.map_eq_some_iff.1 h;have hm:=List.mem_of_find?_eq_some h1
 have hk:e.1=k:=by simpa using List.find?_some h1
 subst hk h2;exact hm
theorem zgy (bs:List (Nm × Sta))(site:Nm):(bs.any λe=>decide (mA bs e.1=some e.2)&&(decide (e.2.state=2)&&decide (e.2.site=site)))=true↔GJ bs site:=by
 rw[List.any_eq_true];constructor
 ·rintro⟨e,_,h⟩
  simp only[Bool.and_eq_true,decide_eq_true_eq]at h;exact⟨e.1,e.2,h.1,h.2.1,h.2.2⟩
 ·rintro⟨b,st,h1,h2,h3⟩
  exact⟨(b,st),ZI h1,by simp [h1,h2,h3]⟩
instance (bs:List (Nm × Sta)) (site:Nm):Decidable (GJ bs site):=decidable_of_iff _ (zgy bs site)
def doQ (steps:List Nm)(tries:Int)(w:FlQ)(x:Ent):FlQ×Int:=
 if x.kind=7 then(w,0)
 else if x.kind=1 then(match mA w.bs x.board with|some _=>(w,6)|none=>({ w with bs:=JA w.bs x.board ⟨1,x.time,steps.headD [],[],0⟩ },0))
 else match mA w.bs x.board with
 | none=>(w,8)
 | some b=>
  if x.kind=2 then(if b.state≠1 then(w,11) else if b.step≠x.step then(w,3) else if GJ w.bs x.site then(w,12)
   else({ bs:=JA w.bs x.board { b with state:=2,since:=x.time,site:=x.site },runs:=w.runs++[⟨x.board,x.site,x.step,x.time,-1,false⟩] },0))
  else if x.kind=3∨x.kind=4 then(if b.state≠2 then(w,11) else if b.site≠x.site then(w,13)
   else({ bs:=JA w.bs x.board (OC steps tries b x.time (decide (x.kind=3))),runs:=tE w.runs x.board x.time (decide (x.kind=3)) },0))
  else if x.kind=5 then(if b.state≠3 then(w,11) else({ w with bs:=JA w.bs x.board { b with state:=1,since:=x.time } },0))
  else if b.state=4∨b.state=5 then(w,11)
  else({ bs:=JA w.bs x.board { b with state:=5,since:=x.time,site:=[] },runs:=EE w.runs x.board x.time },0)
def JM (bs:List (Nm × Sta))(b s:Nm):Prop:=∃st,mA bs b=some st/\st.state=2/\st.site=s
structure Inv (p:FlP) (q:FlQ):Prop where
 bs:p.bs=q.bs
 sts:∀s b,mA p.sites s=some b↔JM p.bs b s
 idle:∀b st,mA p.bs b=some st->st.state≠2->st.site=[]
 name:∀st,mA p.bs []≠some st
 runs:p.runs=q.runs.map RanQ.run
 gone:∀r∈q.runs,r.board=[]->0<=r.til
 brd:∀b,b≠[]->∃C:List RanQ,(∀r∈C,0<=r.til)/\p.ends.filter (λe=>decide (e.board=b))=C.map RanQ.fin /\
  (((∀st,mA p.bs b=some st->st.state≠2)/\q.runs.filter (λr=>decide (r.board=b))=C) ∨
   (∃st,mA p.bs b=some st/\st.state=2/\q.runs.filter (λr=>decide (r.board=b))=C++[⟨b,st.site,st.step,st.since,-1,false⟩]))
theorem Inv.busy {p:FlP}{q:FlQ}(I:Inv p q)(s:Nm):(mA p.sites s).isSome=true↔GJ q.bs s:=by
 rw[Option.isSome_iff_exists];constructor
 ·rintro⟨b,h⟩
  obtain⟨st,h1,h2,h3⟩:=(I.sts s b).1 h;exact⟨b,st,by rw[<-I.bs];exact h1,h2,h3⟩
 ·rintro⟨b,st,h1,h2,h3⟩
  exact⟨b,(I.sts s b).2 ⟨st,by rw[I.bs];exact h1,h2,h3⟩⟩
theorem Inv.opened {p:FlP}{q:FlQ}(I:Inv p q){r:RanQ}(hr:r∈q.runs)(ho:r.til<0):∃st,mA p.bs r.board=some st/\st.state=2/\r=⟨r.board,st.site,st.step,st.since,-1,false⟩:=by
 have hb:r.board≠[]:=λe=>by have:=I.gone r hr e;omega
 obtain⟨C,c1,c2,h⟩:=I.brd r.board hb;have hm:r∈q.runs.filter (λx=>decide (x.board=r.board)):=List.mem_filter.2 ⟨hr,by simp⟩
 rcases h with⟨_,h⟩|⟨st,h1,h2,h⟩
 ·rw[h]at hm
  have:=c1 r hm;omega
 ·rw[h]at hm
  rcases List.mem_append.1 hm with hm|hm
  ·have:=c1 r hm
   omega
  ·exact⟨st,h1,h2,List.mem_singleton.1 hm⟩
theorem Inv.close {p:FlP}{q:FlQ}(I:Inv p q){board:Nm}{st:Sta}(h1:mA p.bs board=some st)(h2:st.state=2)(at_:Int){f:RanQ->RanQ}(hf:∀ r,r.til<0->(f r).run=⟨r.site,r.frm,at_⟩) :
 bD p.runs st.site at_=(q.runs.map λr=>if r.board=board/\r.til<0 then f r else r).map RanQ.run:=by
 unfold bD;rw[I.runs,List.map_map,List.map_map];apply List.map_congr_left
 intro r hr;simp only[Function.comp];by_cases ho:r.til<0
 ·obtain⟨st',a1,a2,a3⟩:=I.opened hr ho
  by_cases hb:r.board=board
  ·have e:st'=st:=by rw[hb,h1]at a1;exact(Option.some.inj a1).symm
   have hs:r.site=st.site:=by rw[a3,e]
   rw[if_pos (show(RanQ.run r).site=st.site/\(RanQ.run r).til<0 from⟨hs,ho⟩),if_pos ⟨hb,ho⟩,hf r ho]
   rfl
  ·rw[if_neg (c:=r.board=board/\r.til<0) (λz=>hb z.1),if_neg]
   rintro⟨z1,_⟩
   have z2:r.site=st.site:=z1
   have z3:r.site=st'.site:=by rw[a3]
   have u1:=(I.sts st.site board).2 ⟨st,h1,h2,rfl⟩
   have u2:=(I.sts st.site r.board).2 ⟨st',a1,a2,by rw[<-z3,z2]⟩
   rw[u1]at u2;exact hb (Option.some.inj u2).symm
 ·rw[if_neg (λz=>ho z.2),if_neg (λz=>ho z.2)]
theorem zbg {l:List RanQ}{f:RanQ->RanQ}(hf:∀ r∈l,(f r).board=r.board)(b:Nm):(l.map f).filter (λr=>decide (r.board=b))=(l.filter λr=>decide (r.board=b)).map f:=by
 rw[List.filter_map];congr 1
 apply List.filter_congr
 intro r hr;simp only[Function.comp];rw[hf r hr]
theorem UV (steps:List Nm)(tries:Int){p:FlP}{q:FlQ}(I:Inv p q)(x:Ent)(hb:x.kind≠7->x.board≠[])(hs:x.kind=2->x.site≠[])(ht:0<=x.time)(hk:1<=x.kind/\x.kind<=7)(h7:x.kind≠7) :
 (EC steps tries p x).2=(doQ steps tries q x).2/\Inv (EC steps tries p x).1 (doQ steps tries q x).1:=by
 have hb0:=hb h7
 unfold EC doQ;rw[if_neg h7,I.bs];by_cases k1:x.kind=1
 ·rw[if_pos k1,if_pos k1]
  cases hg:mA q.bs x.board with
  | some s=>exact⟨rfl,I⟩
  | none=>
   refine⟨rfl,?_⟩;have hgp:mA p.bs x.board=none:=by rw[I.bs];exact hg
   have upd:∀b,mA (JA q.bs x.board ⟨1,x.time,steps.headD [],[],0⟩) b=if b=x.board then some ⟨1,x.time,steps.headD [],[],0⟩ else mA p.bs b:=λb=>by rw[aJ,I.bs]
   refine⟨rfl,λs b=>?_,λb st h1 h2=>?_,λst=>?_,I.runs,I.gone,λb h=>?_⟩
   ·rw[I.sts s b]
    unfold JM;show _↔∃st,mA (JA q.bs _ _) b=some st/\_
    rw[upd b];by_cases e:b=x.board
    ·rw[if_pos e,e,hgp]
     constructor
     ·rintro⟨_,h,_⟩;cases h
     ·rintro⟨st,h,h2,_⟩;cases h;cases h2
    ·rw[if_neg e]
   ·change mA (JA q.bs _ _) b=some st at h1
    rw[upd b]at h1;split at h1
    ·cases h1;rfl
    ·exact I.idle b st h1 h2
   ·show mA (JA q.bs _ _) []≠some st
    rw[upd [],if_neg (λe=>hb0 e.symm)]
    exact I.name st
   ·obtain⟨C,c1,c2,c3⟩:=I.brd b h
    refine⟨C,c1,c2,?_⟩;show((∀st,mA (JA q.bs _ _) b=some st->_)/\_)∨∃st,mA (JA q.bs _ _) b=some st/\_
    rw[upd b];by_cases e:b=x.board
    ·rw[if_pos e]
     left;refine⟨λst h=>by cases h;show(1:Int)≠2;decide,?_⟩
     rcases c3 with⟨_,c3⟩|⟨st,c3,_⟩
     ·exact c3
     ·rw[e,hgp]at c3;cases c3
    ·rw[if_neg e];exact c3
 rw[if_neg k1,if_neg k1];cases hg:mA q.bs x.board with
 | none=>exact⟨rfl,I⟩
 | some b=>
  have hgp:mA p.bs x.board=some b:=by rw[I.bs];exact hg
  -- a board that does not run,and does not run behind it
  have quiet:∀s:Sta,b.state≠2->s.state≠2->s.site=[]->Inv { p with bs:=JA q.bs x.board s } { q with bs:=JA q.bs x.board s }:=λs n1 n2 n3=>by
   have upd:∀c,mA (JA q.bs x.board s) c=if c=x.board then some s else mA p.bs c:=λc=>by rw[aJ,I.bs]
   refine⟨rfl,λs' c=>?_,λc st h1 h2=>?_,λst=>?_,I.runs,I.gone,λc h=>?_⟩
   ·rw[I.sts s' c]
    unfold JM;show _↔∃st,mA (JA q.bs _ _) c=some st/\_
    rw[upd c];by_cases e:c=x.board
    ·rw[if_pos e,e,hgp]
     constructor
     ·rintro⟨_,h,h2,_⟩;cases h;exact absurd h2 n1
     ·rintro⟨_,h,h2,_⟩;cases h;exact absurd h2 n2
    ·rw[if_neg e]
   ·change mA (JA q.bs _ _) c=some st at h1
    rw[upd c]at h1;split at h1
    ·cases h1;exact n3
    ·exact I.idle c st h1 h2
   ·show mA (JA q.bs _ _) []≠some st
    rw[upd [],if_neg (λe=>hb0 e.symm)]
    exact I.name st
   ·obtain⟨C,c1,c2,c3⟩:=I.brd c h
    refine⟨C,c1,c2,?_⟩;show((∀st,mA (JA q.bs _ _) c=some st->_)/\_)∨∃st,mA (JA q.bs _ _) c=some st/\_
    rw[upd c];by_cases e:c=x.board
    ·rw[if_pos e]
     left;refine⟨λst h=>by cases h;exact n2,?_⟩
     rcases c3 with⟨_,c3⟩|⟨st,c3,c4,_⟩
     ·exact c3
     ·rw[e,hgp]at c3;cases c3;exact absurd c4 n1
    ·rw[if_neg e];exact c3
  by_cases k2:x.kind=2
  ·dsimp only
   rw[if_pos k2,if_pos k2];by_cases e1:b.state≠1
   ·rw[if_pos e1,if_pos e1];exact⟨rfl,I⟩
   rw[if_neg e1,if_neg e1];have e1':b.state=1:=by simpa using e1
   by_cases e2:x.step≠b.step
   ·rw[if_pos e2,if_pos (λq=>e2 q.symm)];exact⟨rfl,I⟩
   have e2':x.step=b.step:=by simpa using e2
   rw[if_neg (c:=x.step≠b.step) e2,if_neg (c:=b.step≠x.step) (λz=>z e2'.symm)]
   by_cases e3:(mA p.sites x.site).isSome=true
   ·rw[if_pos e3,if_pos ((I.busy _).1 e3)];exact⟨rfl,I⟩
   rw[if_neg e3,if_neg (λz=>e3 ((I.busy _).2 z))]
   refine⟨rfl,?_⟩;have e3':mA p.sites x.site=none:=by simpa using e3
   have upd:∀c,mA (JA q.bs x.board { b with state:=2,since:=x.time,site:=x.site }) c=if c=x.board then some { b with state:=2,since:=x.time,site:=x.site } else mA p.bs c:=λc=>by rw[aJ,I.bs]
   refine⟨rfl,λs c=>?_,λc st h1 h2=>?_,λst=>?_,?_,λr hr=>?_,λc h=>?_⟩
   ·show mA (JA p.sites x.site x.board) s=some c↔∃st,mA (JA q.bs _ _) c=some st/\_
    rw[aJ,upd c];by_cases es:s=x.site
    ·rw[if_pos es]
     by_cases ec:c=x.board
     ·rw[if_pos ec,ec]
      exact⟨λ_=>⟨_,rfl,rfl,es.symm⟩,λ_=>rfl⟩
     ·rw[if_neg ec]
      constructor
      ·intro h;exact absurd (Option.some.inj h).symm ec
      ·intro h
       have:=(I.sts s c).2 h;rw[es,e3']at this;cases this
    ·rw[if_neg es,I.sts s c]
     unfold JM;by_cases ec:c=x.board
     ·rw[if_pos ec,ec,hgp]
      constructor
      ·rintro⟨_,h,h2,_⟩;cases h;omega
      ·rintro⟨_,h,_,h3⟩;cases h;exact absurd h3.symm es
     ·rw[if_neg ec]
   ·change mA (JA q.bs _ _) c=some st at h1
    rw[upd c]at h1;split at h1
    ·cases h1;exact absurd rfl h2
    ·exact I.idle c st h1 h2
   ·show mA (JA q.bs _ _) []≠some st
    rw[upd [],if_neg (λe=>hb0 e.symm)]
    exact I.name st
   ·show p.runs++[_]=(q.runs++[_]).map RanQ.run
    rw[List.map_append,I.runs];rfl
   ·intro he
    rcases List.mem_append.1 hr with hr|hr
    ·exact I.gone r hr he
    ·rw[List.mem_singleton.1 hr]at he;exact absurd he hb0
   ·obtain⟨C,c1,c2,c3⟩:=I.brd c h
    refine⟨C,c1,c2,?_⟩;dsimp only;rw[upd c,List.filter_append];by_cases ec:c=x.board
    ·rw[if_pos ec]
     right;refine⟨_,rfl,rfl,?_⟩
     rcases c3 with⟨_,c3⟩|⟨st,c3,c4,_⟩
     ·rw[c3,ec,e2'];simp
     ·rw[ec,hgp]at c3;cases c3;omega
    ·rw[if_neg ec]
     have e0:([(⟨x.board,x.site,x.step,x.time,-1,false⟩:RanQ)]:List RanQ).filter (λr=>decide (r.board=c))=[]:=by have ec':¬x.board=c:=λz=>ec z.symm;simp [ec']
     rw[e0,List.append_nil];exact c3
  dsimp only;rw[if_neg k2,if_neg k2];by_cases k3:x.kind=3∨x.kind=4
  ·rw[if_pos k3,if_pos k3]
   by_cases e1:b.state≠2
   ·rw[if_pos e1,if_pos e1];exact⟨rfl,I⟩
   rw[if_neg e1,if_neg e1];have e1':b.state=2:=by simpa using e1
   by_cases e2:b.site≠x.site
   ·rw[if_pos e2,if_pos e2];exact⟨rfl,I⟩
   rw[if_neg e2,if_neg e2];refine⟨rfl,?_⟩;generalize hps:decide (x.kind=3)=ps;have s2:(OC steps tries b x.time ps).state≠2/\(OC steps tries b x.time ps).site=[]:=by
    unfold OC;split
    ·split
     ·exact⟨by show(4:Int)≠2;decide,rfl⟩
     ·exact⟨by show(1:Int)≠2;decide,rfl⟩
    ·refine⟨?_,rfl⟩;dsimp only;split <;> decide
   generalize OC steps tries b x.time ps=s at s2;obtain⟨n2,n3⟩:=s2;have upd:∀c,mA (JA q.bs x.board s) c=if c=x.board then some s else mA p.bs c:=λc=>by rw[aJ,I.bs]
   have cb:∀r∈q.runs,(if r.board=x.board/\r.til<0 then { r with til:=x.time,pass:=ps } else r:RanQ).board=r.board:=λr _=>by split <;> rfl
   refine⟨rfl,λs' c=>?_,λc st h1 h2=>?_,λst=>?_,?_,λr hr=>?_,λc h=>?_⟩
   ·show mA (gH p.sites b.site) s'=some c↔∃st,mA (JA q.bs _ _) c=some st/\_
    rw[z5c,upd c];by_cases es:s'=b.site
    ·rw[if_pos es]
     constructor
     ·intro h;cases h
     ·by_cases ec:c=x.board
      ·rw[if_pos ec];rintro⟨_,h,h2,_⟩;cases h;exact absurd h2 n2
      ·rw[if_neg ec]
       intro h;have u1:=(I.sts s' c).2 h
       have u2:=(I.sts b.site x.board).2 ⟨b,hgp,e1',rfl⟩
       rw[es,u2]at u1;exact absurd (Option.some.inj u1).symm ec
    ·rw[if_neg es,I.sts s' c]
     unfold JM;by_cases ec:c=x.board
     ·rw[if_pos ec,ec,hgp]
      constructor
      ·rintro⟨_,h,_,h3⟩;cases h;exact absurd h3.symm es
      ·rintro⟨_,h,h2,_⟩;cases h;exact absurd h2 n2
     ·rw[if_neg ec]
   ·change mA (JA q.bs _ _) c=some st at h1
    rw[upd c]at h1;split at h1
    ·cases h1;exact n3
    ·exact I.idle c st h1 h2
   ·show mA (JA q.bs _ _) []≠some st
    rw[upd [],if_neg (λe=>hb0 e.symm)]
    exact I.name st
   ·exact I.close hgp e1' x.time (f:=λr=>{ r with til:=x.time,pass:=ps }) (λr _=>rfl)
   ·intro he
    obtain⟨r0,hr0,rfl⟩:=List.mem_map.1 hr;rw[cb r0 hr0]at he;have:=I.gone r0 hr0 he;rw[if_neg (λz=>by omega)];exact this
   ·obtain⟨C,c1,c2,c3⟩:=I.brd c h
    by_cases ec:c=x.board
    ·subst ec
     rcases c3 with⟨c3,_⟩|⟨st,c3,c4,c5⟩
     ·exact absurd e1' (c3 b hgp)
     rw[hgp]at c3;cases c3
     refine⟨C++[⟨x.board,b.site,b.step,b.since,x.time,ps⟩],λr hr=>?_,?_,.inl ⟨λst hst=>?_,?_⟩⟩
     ·rcases List.mem_append.1 hr with hr|hr
      ·exact c1 r hr
      ·rw[List.mem_singleton.1 hr];exact ht
     ·show(p.ends++[_]).filter _=_
      rw[List.filter_append,c2,List.map_append];simp [RanQ.fin]
     ·change mA (JA q.bs _ _) x.board=some st at hst
      rw[upd,if_pos rfl]at hst;cases hst;exact n2
     ·show(tE q.runs x.board x.time ps).filter _=_
      unfold tE;rw[zbg cb,c5,List.map_append];congr 1
      ·conv=>rhs;rw[<-List.map_id C]
       apply List.map_congr_left
       intro r hr;have:=c1 r hr;rw[if_neg (λz=>by omega)];rfl
      ·simp
    ·refine⟨C,c1,?_,?_⟩
     ·show(p.ends++[_]).filter _=_
      rw[List.filter_append,c2];have ec':¬x.board=c:=λz=>ec z.symm
      simp [ec']
     ·dsimp only
      rw[upd c,if_neg ec];have same:(tE q.runs x.board x.time ps).filter (λr=>decide (r.board=c))=q.runs.filter (λr=>decide (r.board=c)):=by
       unfold tE;rw[zbg cb];conv=>rhs;rw[<-List.map_id (q.runs.filter _)]
       apply List.map_congr_left
       intro r hr;have hrb:r.board=c:=by simpa using (List.mem_filter.1 hr).2
       rw[if_neg (λz=>ec (hrb.symm.trans z.1))];rfl
      rw[same];exact c3
  rw[if_neg k3,if_neg k3];by_cases k5:x.kind=5
  ·rw[if_pos k5,if_pos k5]
   by_cases e1:b.state≠3
   ·rw[if_pos e1,if_pos e1];exact⟨rfl,I⟩
   rw[if_neg e1,if_neg e1];have e1':b.state=3:=by simpa using e1
   exact⟨rfl,quiet _ (by omega) (by show(1:Int)≠2;decide) (I.idle x.board b hgp (by omega))⟩
  rw[if_neg k5,if_neg k5];by_cases e45:b.state=4∨b.state=5
  ·rw[if_pos e45,if_pos e45];exact⟨rfl,I⟩
  rw[if_neg e45,if_neg e45];by_cases e2:b.state=2
  ·rw[if_pos e2]
   refine⟨rfl,?_⟩;have upd:∀c,mA (JA q.bs x.board { b with state:=5,since:=x.time,site:=[] }) c=if c=x.board then some { b with state:=5,since:=x.time,site:=[] } else mA p.bs c:=λc=>by rw[aJ,I.bs]
   refine⟨rfl,λs' c=>?_,λc st h1 h2=>?_,λst=>?_,?_,λr hr=>?_,λc h=>?_⟩
   ·show mA (gH p.sites b.site) s'=some c↔∃st,mA (JA q.bs _ _) c=some st/\_
    rw[z5c,upd c];by_cases es:s'=b.site
    ·rw[if_pos es]
     constructor
     ·intro h;cases h
     ·by_cases ec:c=x.board
      ·rw[if_pos ec];rintro⟨_,h,h2,_⟩;cases h;cases h2
      ·rw[if_neg ec]
       intro h;have u1:=(I.sts s' c).2 h
       have u2:=(I.sts b.site x.board).2 ⟨b,hgp,e2,rfl⟩
       rw[es,u2]at u1;exact absurd (Option.some.inj u1).symm ec
    ·rw[if_neg es,I.sts s' c]
     unfold JM;by_cases ec:c=x.board
     ·rw[if_pos ec,ec,hgp]
      constructor
      ·rintro⟨_,h,_,h3⟩;cases h;exact absurd h3.symm es
      ·rintro⟨_,h,h2,_⟩;cases h;cases h2
     ·rw[if_neg ec]
   ·change mA (JA q.bs _ _) c=some st at h1
    rw[upd c]at h1;split at h1
    ·cases h1;rfl
    ·exact I.idle c st h1 h2
   ·show mA (JA q.bs _ _) []≠some st
    rw[upd [],if_neg (λe=>hb0 e.symm)]
    exact I.name st
   ·exact I.close hgp e2 x.time (f:=λr=>{ r with til:=x.time,board:=[] }) (λr _=>rfl)
   ·intro he
    obtain⟨r0,hr0,rfl⟩:=List.mem_map.1 hr;by_cases z:r0.board=x.board/\r0.til<0
    ·rw[if_pos z];exact ht
    ·rw[if_neg z]at he ⊢;exact I.gone r0 hr0 he
   ·obtain⟨C,c1,c2,c3⟩:=I.brd c h
    have fl:(EE q.runs x.board x.time).filter (λr=>decide (r.board=c))=(q.runs.filter (λr=>decide (r.board=c))).filter (λr=>!(decide (r.board=x.board)&&decide (r.til<0))):=by
     unfold EE;rw[List.filter_filter];induction q.runs with
     | nil=>rfl
     | cons r l ih=>
      rw[List.map_cons,List.filter_cons,List.filter_cons,ih];by_cases z:r.board=x.board/\r.til<0
      ·rw[if_pos z]
       have z2:(!(decide (r.board=x.board)&&decide (r.til<0))&&decide (r.board=c))=false:=by simp [z.1,z.2]
       have h':¬([]:List UInt8)=c:=λz=>h z.symm
       simp [h',z.1,z.2]
      ·rw[if_neg z]
       have z3:(!(decide (r.board=x.board)&&decide (r.til<0)))=true:=by
        rw[<-Bool.decide_and];simp [z]
       rw[z3,Bool.true_and]
    refine⟨C,c1,c2,?_⟩;dsimp only;rw[upd c,fl];have keepC:C.filter (λr=>!(decide (r.board=x.board)&&decide (r.til<0)))=C:=by
     rw[List.filter_eq_self];intro r hr;have:=c1 r hr;have z:¬r.til<0:=by omega
     simp [z]
    by_cases ec:c=x.board
    ·subst ec
     rw[if_pos rfl];left;refine⟨λst hst=>by cases hst;show(5:Int)≠2;decide,?_⟩
     rcases c3 with⟨c3,_⟩|⟨st,c3,c4,c5⟩
     ·exact absurd e2 (c3 b hgp)
     ·rw[c5,List.filter_append,keepC];simp
    ·rw[if_neg ec]
     rcases c3 with⟨c3,c5⟩|⟨st,c3,c4,c5⟩
     ·left;exact⟨c3,by rw[c5,keepC]⟩
     ·right
      refine⟨st,c3,c4,?_⟩;rw[c5,List.filter_append,keepC];simp [ec]
  ·rw[if_neg e2]
   refine⟨rfl,?_⟩;have e0:=I.idle x.board b hgp e2
   have eb:({ b with state:=5,since:=x.time,site:=[] }:Sta)={ b with state:=5,since:=x.time }:=by rw[<-e0]
   have same:EE q.runs x.board x.time=q.runs:=by
    unfold EE;conv=>rhs;rw[<-List.map_id q.runs]
    apply List.map_congr_left
    intro r hr;rw[if_neg]
    ·rfl
    ·rintro⟨z1,z2⟩
     obtain⟨st',a1,a2,_⟩:=I.opened hr z2;rw[z1,hgp]at a1;cases a1
     exact e2 a2
   rw[eb,same];exact quiet _ e2 (by show(5:Int)≠2;decide) e0
theorem inv0:Inv ⟨[],[],[],[]⟩ ⟨[],[]⟩ where
 bs:=rfl
 sts s b:=⟨λh=>(by cases h),λh=>(by obtain⟨_,h,_⟩:=h;cases h)⟩
 idle b st h:=by cases h
 name st h:=by cases h
 runs:=rfl
 gone r hr:=by cases hr
 brd b _:=⟨[],λr hr=>(by cases hr),rfl,.inl ⟨λst h=>(by cases h),rfl⟩⟩
end
def SB (step:Nm):List Nm->List EndP->Nat×Nat
 | _,[]=>(0,0)
 | seen,e::r=>if e.step≠step∨e.board∈seen then SB step seen r else
  ((SB step (e.board::seen) r).1+(if e.pass then 1 else 0),(SB step (e.board::seen) r).2+1)
def isE (step k:Nm)(e:EndP):Bool:=decide (e.board=k)&&decide (e.step=step)
def fF (step k:Nm)(l:List EndP):Bool:=match l.find? (isE step k) with
 | some e=>e.pass
 | none=>false
theorem zem {α:Type}[DecidableEq α]{N:List α}(hN:N.Nodup){a:α}(ha:a∈N)(p q:α->Bool)(hq:q a=false)(hpq:∀ x,x≠a->p x=q x):(N.filter p).length=(N.filter q).length+(if p a then 1 else 0):=by
 induction N with
 | nil=>cases ha
 | cons x N ih=>
  rw[List.nodup_cons]at hN;rw[List.filter_cons,List.filter_cons];by_cases e:x=a
  ·subst e
   have same:N.filter p=N.filter q:=List.filter_congr λy hy=>hpq y (λe=>hN.1 (e ▸ hy))
   rw[same,hq];cases p x <;> simp
  ·have ha':a∈N:=by
    rcases List.mem_cons.1 ha with h|h
    ·exact absurd h.symm e
    ·exact h
   have:=ih hN.2 ha';rw[hpq x e];cases q x
   ·simpa using this
   ·simp only[if_true,List.length_cons];omega
theorem EY (step:Nm){N:List Nm}(hN:N.Nodup):∀(l:List EndP) (seen:List Nm),(∀e∈l,e.board∈N) ->
 (SB step seen l).2=(N.filter λk=>!decide (k∈seen)&&l.any (isE step k)).length /\
 (SB step seen l).1=(N.filter λk=>!decide (k∈seen)&&fF step k l).length
 | [],seen,_=>by
  have e1:N.filter (λk=>!decide (k∈seen)&&([]:List EndP).any (isE step k))=[]:=by
   rw[List.filter_eq_nil_iff];intro x _;simp
  have e2:N.filter (λk=>!decide (k∈seen)&&fF step k [])=[]:=by
   rw[List.filter_eq_nil_iff];intro x _;simp [fF]
  rw[e1,e2];exact⟨rfl,rfl⟩
 | e::r,seen,h=>by
  have hr:=λx hx=>h x (List.mem_cons_of_mem e hx)
  unfold SB;by_cases hs:e.step≠step∨e.board∈seen
  ·rw[if_pos hs]
   obtain⟨i1,i2⟩:=EY step hN r seen hr;have g:∀k,k∉seen->isE step k e=false:=λk hk=>by
    unfold isE;rcases hs with hs|hs
    ·simp [hs]
    ·have:¬e.board=k:=λq=>hk (q ▸ hs)
     simp [this]
   constructor
   ·rw[i1]
    congr 1
    apply List.filter_congr
    intro k _;by_cases hk:k∈seen
    ·simp [hk]
    ·simp [hk,g k hk]
   ·rw[i2]
    congr 1
    apply List.filter_congr
    intro k _;by_cases hk:k∈seen
    ·simp [hk]
    ·have e2:fF step k (e::r)=fF step k r:=by unfold fF;rw[List.find?_cons,g k hk]
     simp [hk,e2]
  ·rw[if_neg hs]
   rw[not_or]at hs;have hst:e.step=step:=by simpa using hs.1
   have hb:=h e (List.mem_cons_self ..)
   obtain⟨i1,i2⟩:=EY step hN r (e.board::seen) hr;have own:isE step e.board e=true:=by simp [isE,hst]
   have other:∀k,k≠e.board->isE step k e=false:=λk hk=>by
    have:¬e.board=k:=λq=>hk q.symm
    simp [isE,this]
   constructor
   ·rw[i1,zem hN hb (λk=>!decide (k∈seen)&&(e::r).any (isE step k)) (λk=>!decide (k∈e.board::seen)&&r.any (isE step k)) (by simp) (λk hk=>by simp [hk,other k hk])]
    have:(!decide (e.board∈seen)&&(e::r).any (isE step e.board))=true:=by simp [hs.2,own]
    rw[this];rfl
   ·have fo:∀k,k≠e.board->fF step k (e::r)=fF step k r:=λk hk=>by unfold fF;rw[List.find?_cons,other k hk]
    have fe:fF step e.board (e::r)=e.pass:=by unfold fF;rw[List.find?_cons,own]
    rw[i2,zem hN hb (λk=>!decide (k∈seen)&&fF step k (e::r)) (λk=>!decide (k∈e.board::seen)&&fF step k r) (by simp) (λk hk=>by simp [hk,fo k hk])]
    rw[fe];cases e.pass <;> simp [hs.2]
def qD (step k:Nm)(runs:List RanQ):Option RanQ:=runs.find? λr=>decide (r.board=k)&&decide (r.step=step)&&decide (0<=r.til)
def BC (step:Nm)(N:List Nm)(runs:List RanQ):Nat×Nat:=((N.filter λk=>match qD step k runs with|some r=>r.pass|none=>false).length,(N.filter λk=>(qD step k runs).isSome).length)
theorem LV {α:Type}(p q:α->Bool):∀l:List α,l.find? (λx=>p x&&q x)=(l.filter p).find? q
 | []=>rfl
 | x::l=>by
  rw[List.find?_cons,List.filter_cons];cases hp:p x with
  | true=>
   rw[if_pos rfl,List.find?_cons];cases hq:q x with
   | true=>rfl
   | false=>exact LV p q l
  | false=>exact LV p q l
theorem zbo {p:FlP}{q:FlQ}(I:Inv p q)(step:Nm){k:Nm}(hk:k≠[]):p.ends.find? (isE step k)=(qD step k q.runs).map RanQ.fin:=by
 obtain⟨C,c1,c2,c3⟩:=I.brd k hk;have e1:p.ends.find? (isE step k)=(p.ends.filter λe=>decide (e.board=k)).find? λe=>decide (e.step=step):=LV _ _ _
 have e2:qD step k q.runs=(q.runs.filter λr=>decide (r.board=k)).find? λr=>decide (r.step=step)&&decide (0<=r.til):=by
  rw[<-LV];unfold qD;congr 1
  funext r
  rw[Bool.and_assoc]
 have e3:C.find? (λr=>decide (r.step=step)&&decide (0<=r.til))=C.find? λr=>decide (r.step=step):=by
  clear c2 c3 e1 e2;induction C with
  | nil=>rfl
  | cons x C ih=>
   have:=c1 x (List.mem_cons_self ..);rw[List.find?_cons,List.find?_cons,decide_eq_true this,Bool.and_true,ih λr hr=>c1 r (List.mem_cons_of_mem x hr)]
 rw[e1,e2,c2];have e4:(C.map RanQ.fin).find? (λe=>decide (e.step=step))=(C.find? λr=>decide (r.step=step)).map RanQ.fin:=by
  rw[List.find?_map];rfl
 rw[e4];rcases c3 with⟨_,c3⟩|⟨st,_,_,c3⟩
 ·rw[c3,e3]
 ·rw[c3,List.find?_append,e3]
  have:([(⟨k,st.site,st.step,st.since,-1,false⟩:RanQ)]:List RanQ).find? (λr=>decide (r.step=step)&&decide (0<=r.til))=none:=by simp
  rw[this];cases C.find? (λr=>decide (r.step=step)) <;> rfl
theorem zrD {p:FlP}{q:FlQ}(I:Inv p q)(step:Nm){N:List Nm}(hN:N.Nodup)(h0:[]∉N)(hm:∀ e∈p.ends,e.board∈N):SB step [] p.ends=BC step N q.runs:=by
 obtain⟨a,b⟩:=EY step hN p.ends [] hm;unfold BC;rw[Prod.ext_iff];constructor
 ·rw[b]
  congr 1
  apply List.filter_congr
  intro k hk;have e:=zbo I step (k:=k) (λz=>h0 (z ▸ hk))
  unfold fF;rw[e];cases qD step k q.runs <;> simp [RanQ.fin]
 ·rw[a]
  congr 1
  apply List.filter_congr
  intro k hk;have e:=zbo I step (k:=k) (λz=>h0 (z ▸ hk))
  have e2:p.ends.any (isE step k)=(p.ends.find? (isE step k)).isSome:=by
   rw[Bool.eq_iff_iff,List.find?_isSome,List.any_eq_true]
  rw[e2,e];cases qD step k q.runs <;> simp
def pI (y x:Ent):Bool:=decide (y.kind=7)&&decide (y.of=x.site)&&decide (y.other=x.no)
def SA:List Ent->List Bool
 | []=>[]
 | x::r=>(!((r.zip (SA r)).any λy=>y.2&&pI y.1 x))::SA r
theorem UE:∀ l,(SA l).length=l.length
 | []=>rfl
 | x::r=>by simp [SA,UE r]
theorem z11:∀ (l:List Ent)(k:Nat),(SA l).drop k=SA (l.drop k)
 | [],k=>by simp [SA]
 | x::r,0=>rfl
 | x::r,k+1=>by simpa [SA] using z11 r k
def nD:List Ent->List (Nm×Int)
 | []=>[]
 | x::r=>if decide ((x.site,x.no)∈nD r)=false/\x.kind=7 then(x.of,x.other)::nD r else nD r
theorem ze8:∀ (l:List Ent)(s:Nm)(n:Int),(s,n)∈nD l↔((l.zip (SA l)).any λy=>y.2&&(decide (y.1.kind=7)&&decide (y.1.of=s)&&decide (y.1.other=n)))=true
 | [],s,n=>by simp [nD,SA]
 | x::r,s,n=>by
  have ih:=ze8 r
  have hb:decide ((x.site,x.no)∈nD r)=((r.zip (SA r)).any λy=>y.2&&pI y.1 x):=by
   rw[Bool.eq_iff_iff,decide_eq_true_eq,ih x.site x.no];rfl
  unfold nD;rw[SA,List.zip_cons_cons,List.any_cons,<-hb];cases hd:decide ((x.site,x.no)∈nD r) with
  | true=>
   rw[if_neg (by simp),ih s n]
   simp
  | false=>
   by_cases h7:x.kind=7
   ·rw[if_pos ⟨rfl,h7⟩,List.mem_cons,ih s n,Bool.or_eq_true]
    have:((s,n)=(x.of,x.other))↔((!false&&(decide (x.kind=7)&&decide (x.of=s)&&decide (x.other=n)))=true):=by
     simp only[Prod.mk.injEq,Bool.not_false,Bool.true_and,h7,decide_true,Bool.and_eq_true,decide_eq_true_eq];exact⟨λh=>⟨h.1.symm,h.2.symm⟩,λh=>⟨h.1.symm,h.2.symm⟩⟩
    rw[this]
   ·rw[if_neg (λz=>h7 z.2),ih s n]
    simp [h7]
theorem zi7 (x:Ent)(r:List Ent):SA (x::r)=(!decide ((x.site,x.no)∈nD r))::SA r:=by
 have hb:decide ((x.site,x.no)∈nD r)=((r.zip (SA r)).any λy=>y.2&&pI y.1 x):=by
  rw[Bool.eq_iff_iff,decide_eq_true_eq,ze8 r x.site x.no];rfl
 rw[hb];rfl
structure AllP where
 w:FlP
 ref:List Nat
 why:List Int
structure AllQ where
 w:FlQ
 ref:List Nat
 why:List Int
def goP (steps:List Nm)(tries:Int):AllP->Nat->List (Ent×Bool)->AllP
 | a,_,[]=>a
 | a,i,(x,c)::r=>if c=false∨x.kind=7 then goP steps tries a (i+1) r
  else goP steps tries (if(EC steps tries a.w x).2≠0 then⟨(EC steps tries a.w x).1,a.ref++[i],a.why++[(EC steps tries a.w x).2]⟩ else⟨(EC steps tries a.w x).1,a.ref,a.why⟩) (i+1) r
def goQ (steps:List Nm)(tries:Int):AllQ->Nat->List (Ent×Bool)->AllQ
 | a,_,[]=>a
 | a,i,(x,c)::r=>if c=false then goQ steps tries a (i+1) r
  else goQ steps tries (if(doQ steps tries a.w x).2≠0 then⟨(doQ steps tries a.w x).1,a.ref++[i],a.why++[(doQ steps tries a.w x).2]⟩ else⟨(doQ steps tries a.w x).1,a.ref,a.why⟩) (i+1) r
structure EntW (x:Ent):Prop where
 b:x.kind≠7->x.board≠[]
 s:x.kind=2->x.site≠[]
 t:0<=x.time
 k:1<=x.kind/\x.kind<=7
theorem z5s {s:List UInt8}(h:oB s=true):s≠[]:=by
 intro e;subst e;revert h
 decide
theorem BV {x:Ent}(h:TB x=0):EntW x:=by
 unfold TB at h;split at h
 ·cases h
 rename_i h1;split at h
 ·cases h
 rename_i h2;split at h
 ·cases h
 rename_i h3;split at h
 ·cases h
 rename_i h4;have k1:1<=x.kind/\x.kind<=7:=by
  have:inB 1 x.kind 7=true:=by simpa using h3
  unfold inB at this;simpa using this
 have t1:0<=x.time:=by
  rw[not_or]at h2;have:KF x.time=true:=by simpa using h2.2
  unfold KF inB at this;simp at this;exact this.1
 have hs:x.site≠[]:=z5s (by simpa using h1)
 have hn:hJ x=true:=by simpa using h4
 refine⟨λh7=>?_,λ_=>hs,t1,k1⟩
 unfold hJ at hn;rw[if_neg h7]at hn;split at hn
 ·rw[Bool.and_eq_true]at hn;exact z5s hn.1
 ·exact z5s hn
theorem PQ (steps:List Nm)(tries:Int):∀(l:List (Ent×Bool)) (a:AllP) (b:AllQ) (i:Nat),(∀y∈l,EntW y.1)->Inv a.w b.w->a.ref=b.ref->a.why=b.why ->
 Inv (goP steps tries a i l).w (goQ steps tries b i l).w/\(goP steps tries a i l).ref=(goQ steps tries b i l).ref/\(goP steps tries a i l).why=(goQ steps tries b i l).why
 | [],a,b,i,_,I,h1,h2=>⟨I,h1,h2⟩
 | (x,c)::r,a,b,i,hw,I,h1,h2=>by
  have hr:=λy hy=>hw y (List.mem_cons_of_mem (x,c) hy)
  obtain⟨w1,w2,w3,w4⟩:=hw (x,c) (List.mem_cons_self ..);unfold goP goQ;cases c with
  | false=>rw[if_pos (.inl rfl),if_pos rfl];exact PQ steps tries r a b (i+1) hr I h1 h2
  | true=>
   rw[if_neg (c:=true=false) (by simp)]
   by_cases h7:x.kind=7
   ·rw[if_pos (.inr h7)]
    have e:doQ steps tries b.w x=(b.w,0):=by unfold doQ;rw[if_pos h7]
    rw[e,if_neg (by simp)]
    exact PQ steps tries r a b (i+1) hr I h1 h2
   ·rw[if_neg (c:=true=false∨x.kind=7) (by simp [h7])]
    obtain⟨e1,I2⟩:=UV steps tries I x w1 w2 w3 w4 h7;rw[e1];by_cases h0:(doQ steps tries b.w x).2≠0
    ·rw[if_pos h0,if_pos h0]
     exact PQ steps tries r _ _ (i+1) hr I2 (by dsimp only;rw[h1]) (by dsimp only;rw[h2])
    ·rw[if_neg h0,if_neg h0]
     exact PQ steps tries r _ _ (i+1) hr I2 h1 h2
section
variable {h:aA} {K:jA}
def FH (h:aA)(o0 o1 o2 o3 o4 o5 o6 o7:Obj)(B l:aA):aA:=h++o0::o1::o2::o3::o4::o5::o6::o7::(B++l)
section
variable {o0 o1 o2 o3 o4 o5 o6 o7 o o':Obj} {B l l2:aA} {n:Nat}
theorem ID:(FH h o0 o1 o2 o3 o4 o5 o6 o7 B l).length=h.length+(8+B.length+l.length):=by unfold FH;simp;omega
theorem WD:FH h o0 o1 o2 o3 o4 o5 o6 o7 B l++l2=FH h o0 o1 o2 o3 o4 o5 o6 o7 B (l++l2):=by unfold FH;simp
theorem wH (n:Nat):(FH h o0 o1 o2 o3 o4 o5 o6 o7 B l)[h.length+n]?=(o0::o1::o2::o3::o4::o5::o6::o7::(B++l))[n]?:=by unfold FH;rw[List.getElem?_append_right (by omega)];simp
theorem xH (n:Nat):(FH h o0 o1 o2 o3 o4 o5 o6 o7 B l).set (h.length+n) o=h++(o0::o1::o2::o3::o4::o5::o6::o7::(B++l)).set n o:=by unfold FH;rw[List.set_append_right _ _ (by omega)];simp
theorem kE:(FH h o0 o1 o2 o3 o4 o5 o6 o7 B l)[h.length+1]?=some o1:=wH 1
theorem KE:(FH h o0 o1 o2 o3 o4 o5 o6 o7 B l)[h.length+2]?=some o2:=wH 2
theorem oF:(FH h o0 o1 o2 o3 o4 o5 o6 o7 B l)[h.length+3]?=some o3:=wH 3
theorem UF:(FH h o0 o1 o2 o3 o4 o5 o6 o7 B l)[h.length+4]?=some o4:=wH 4
theorem pG:(FH h o0 o1 o2 o3 o4 o5 o6 o7 B l)[h.length+5]?=some o5:=wH 5
theorem qG:(FH h o0 o1 o2 o3 o4 o5 o6 o7 B l)[h.length+6]?=some o6:=wH 6
theorem pF:(FH h o0 o1 o2 o3 o4 o5 o6 o7 B l)[h.length+7]?=some o7:=wH 7
theorem rG:(FH h o0 o1 o2 o3 o4 o5 o6 o7 B l).set (h.length+1) o=FH h o0 o o2 o3 o4 o5 o6 o7 B l:=xH 1
theorem sG:(FH h o0 o1 o2 o3 o4 o5 o6 o7 B l).set (h.length+2) o=FH h o0 o1 o o3 o4 o5 o6 o7 B l:=xH 2
theorem tG:(FH h o0 o1 o2 o3 o4 o5 o6 o7 B l).set (h.length+3) o=FH h o0 o1 o2 o o4 o5 o6 o7 B l:=xH 3
theorem uG:(FH h o0 o1 o2 o3 o4 o5 o6 o7 B l).set (h.length+4) o=FH h o0 o1 o2 o3 o o5 o6 o7 B l:=xH 4
theorem vG:(FH h o0 o1 o2 o3 o4 o5 o6 o7 B l).set (h.length+5) o=FH h o0 o1 o2 o3 o4 o o6 o7 B l:=xH 5
theorem xG:(FH h o0 o1 o2 o3 o4 o5 o6 o7 B l).set (h.length+6) o=FH h o0 o1 o2 o3 o4 o5 o o7 B l:=xH 6
theorem yG:(FH h o0 o1 o2 o3 o4 o5 o6 o7 B l).set (h.length+7) o=FH h o0 o1 o2 o3 o4 o5 o6 o B l:=xH 7
theorem uI (n:Nat):(FH h o0 o1 o2 o3 o4 o5 o6 o7 B l)[h.length+(8+B.length+n)]?=l[n]?:=by
 rw[wH,show 8+B.length+n=(B.length+n)+8 by omega]
 show(B++l)[B.length+n]?=_
 rw[List.getElem?_append_right (by omega)]
 simp
theorem qP (n:Nat):(FH h o0 o1 o2 o3 o4 o5 o6 o7 B l).set (h.length+(8+B.length+n)) o=FH h o0 o1 o2 o3 o4 o5 o6 o7 B (l.set n o):=by
 rw[xH,show 8+B.length+n=(B.length+n)+8 by omega]
 unfold FH;congr 1
 simp only[List.set_cons_succ];rw[List.set_append_right _ _ (by omega)]
 simp
theorem vI (n:Nat):(FH h o0 o1 o2 o3 o4 o5 o6 o7 B l).take (h.length+(8+B.length+n))=FH h o0 o1 o2 o3 o4 o5 o6 o7 B (l.take n):=by
 unfold FH;rw[show h.length+(8+B.length+n)=h.length+((B.length+n)+8) by omega,List.take_append,List.take_of_length_le (by omega)]
 congr 1
 simp only[Nat.add_sub_cancel_left,List.take_succ_cons];rw[List.take_append,List.take_of_length_le (show B.length<=B.length+n by omega)]
 simp
end
def Ent.bx (x:Ent):Obj:=.box [AS x.site,AI x.no,AI x.time,AI x.kind,AS x.board,AS x.step,AS x.of,AI x.other]
def Sta.bx (s:Sta):Obj:=.box [AI s.state,AI s.since,AS s.step,AS s.site,AI s.failed]
def Sta.pv (s:Sta):PV:=.agg [eI s.state,eI s.since,.str s.step,.str s.site,eI s.failed]
abbrev nB:=List (Ent × Sta)
def xA:nB->aA
 | []=>[]
 | e::r=>e.1.bx::e.1.bx::e.2.bx::xA r
theorem fD:∀ bs:nB,(xA bs).length=3*bs.length
 | []=>rfl
 | e::r=>by simp [xA,fD r];omega
theorem z9D:∀ a b:nB,xA (a++b)=xA a++xA b
 | [],b=>rfl
 | e::r,b=>by simp [xA,z9D r b]
theorem z9E:∀ (bs:nB)(i:Nat)(e:Ent × Sta),bs[i]?=some e->(xA bs)[3*i+2]?=some e.2.bx
 | [],i,e,h=>by simp at h
 | y::r,0,e,h=>by simp at h;subst h;rfl
 | y::r,i+1,e,h=>by
  have:=z9E r i e (by simpa using h)
  rw[show 3*(i+1)+2=(3*i+2)+3 by omega]
  exact this
theorem z9F:∀ (bs:nB)(i:Nat)(e:Ent × Sta)(s:Sta),bs[i]?=some e->(xA bs).set (3*i+2) s.bx=xA (bs.set i (e.1,s))
 | [],i,e,s,h=>by simp at h
 | y::r,0,e,s,h=>by simp at h;subst h;rfl
 | y::r,i+1,e,s,h=>by
  have:=z9F r i e s (by simpa using h)
  rw[show 3*(i+1)+2=(3*i+2)+3 by omega]
  simp only[xA,List.set_cons_succ,this]
def qB (h:aA)(i:Nat):Nat:=h.length+(8+(3*i+2))
section
variable {o0 o1 o2 o3 o4 o5 o6 o7:Obj} {l:aA} {bs:nB} {i:Nat} {e:Ent × Sta}
theorem pP (hi:bs[i]?=some e):(FH h o0 o1 o2 o3 o4 o5 o6 o7 (xA bs) l)[qB h i]?=some e.2.bx:=by
 unfold qB;rw[wH,show 8+(3*i+2)=(3*i+2)+8 by omega]
 show(xA bs++l)[3*i+2]?=_
 have hl:i<bs.length:=by
  rcases Nat.lt_or_ge i bs.length with h|h
  ·exact h
  ·rw[List.getElem?_eq_none h]at hi;cases hi
 rw[List.getElem?_append_left (by rw[fD];omega)]
 exact z9E bs i e hi
theorem z8D (hi:bs[i]?=some e)(s:Sta):(FH h o0 o1 o2 o3 o4 o5 o6 o7 (xA bs) l).set (qB h i) s.bx=FH h o0 o1 o2 o3 o4 o5 o6 o7 (xA (bs.set i (e.1,s))) l:=by
 unfold qB;rw[xH,show 8+(3*i+2)=(3*i+2)+8 by omega]
 unfold FH;congr 1
 simp only[List.set_cons_succ];have hl:i<bs.length:=by
  rcases Nat.lt_or_ge i bs.length with h|h
  ·exact h
  ·rw[List.getElem?_eq_none h]at hi;cases hi
 rw[List.set_append_left _ _ (by rw[fD];omega),z9F bs i e s hi]
end
def cC (q:Nat):AV:=.ref q 0
def rB:Nat->nB->List (Nm × Nat)
 | _,[]=>[]
 | q,e::r=>(e.1.board,q+2)::rB (q+3) r
theorem z5z:∀ (q:Nat)(bs:nB),(rB q bs).length=bs.length
 | q,[]=>rfl
 | q,e::r=>by simp [rB,z5z (q+3) r]
theorem zc1:∀ (q:Nat)(bs:nB)(e:Ent × Sta),rB q (bs++[e])=rB q bs++[(e.1.board,q+3*bs.length+2)]
 | q,[],e=>by simp [rB]
 | q,y::r,e=>by
  have:=zc1 (q+3) r e;simp only[List.cons_append,rB,this,List.length_cons];rw[show q+3+3*r.length+2=q+3*(r.length+1)+2 by omega]
theorem bR:∀ (q:Nat)(bs:nB)(i:Nat)(e:Ent × Sta)(s:Sta),bs[i]?=some e->rB q (bs.set i (e.1,s))=rB q bs
 | q,[],i,e,s,h=>by simp at h
 | q,y::r,0,e,s,h=>by simp at h;subst h;rfl
 | q,y::r,i+1,e,s,h=>by
  have:=bR (q+3) r i e s (by simpa using h)
  simp only[List.set_cons_succ,rB,this]
def asA (bs:nB):List (Nm×Sta):=bs.map λe=>(e.1.board,e.2)
def ixB (k:Nm):nB->Option Nat
 | []=>none
 | e::r=>if k=e.1.board then some 0 else(ixB k r).map (· + 1)
theorem aR (k:Nm):∀(q:Nat) (bs:nB),iB k (rB q bs)=(ixB k bs).map λi=>q+(3*i+2)
 | q,[]=>rfl
 | q,e::r=>by
  unfold rB iB ixB;by_cases h:k=e.1.board
  ·simp [h]
  ·rw[if_neg h,if_neg h,aR k (q+3) r]
   cases ixB k r with
   | none=>rfl
   | some i=>simp;omega
theorem dJ (k:Nm):∀(bs:nB),(ixB k bs=none->mA (asA bs) k=none)/\∀i,ixB k bs=some i->∃e,bs[i]?=some e/\e.1.board=k/\mA (asA bs) k=some e.2
 | []=>⟨λ_=>rfl,λi h=>by cases h⟩
 | e::r=>by
  obtain⟨i1,i2⟩:=dJ k r;unfold ixB;by_cases h:k=e.1.board
  ·refine⟨λz=>by simp [h]at z,λi hi=>?_⟩
   rw[if_pos h]at hi;cases hi;exact⟨e,rfl,h.symm,by unfold asA;rw[List.map_cons,gG,if_pos h.symm]⟩
  ·have hn:¬e.1.board=k:=λz=>h z.symm
   rw[if_neg h];refine⟨λz=>?_,λi hi=>?_⟩
   ·unfold asA
    rw[List.map_cons,gG,if_neg hn];exact i1 (by simpa using z)
   ·obtain⟨j,hj,e2⟩:=Option.map_eq_some_iff.1 hi
    obtain⟨y,y1,y2,y3⟩:=i2 j hj;subst e2;refine⟨y,by simpa using y1,y2,?_⟩
    unfold asA;rw[List.map_cons,gG,if_neg hn];exact y3
theorem zfU {bs:nB}{k:Nm}{i:Nat}{e:Ent × Sta}(hi:ixB k bs=some i)(he:bs[i]?=some e)(hu:(bs.map λe=>e.1.board).Nodup)(s:Sta):asA (bs.set i (e.1,s))=JA (asA bs) k s:=by
 induction bs generalizing i with
 | nil=>cases hi
 | cons y r ih=>
  unfold ixB at hi;rw[List.map_cons,List.nodup_cons]at hu;by_cases h:k=y.1.board
  ·rw[if_pos h]at hi
   cases hi;simp at he
   subst he;unfold JA asA;rw[if_pos (by simp [h])]
   simp only[List.set_cons_zero,List.map_cons,h,if_true];congr 1
   rw[List.map_map];apply List.map_congr_left
   intro z hz;have:¬z.1.board=y.1.board:=λq=>hu.1 (q ▸ List.mem_map_of_mem hz)
   simp [this]
  ·rw[if_neg h]at hi
   obtain⟨j,hj,e2⟩:=Option.map_eq_some_iff.1 hi;subst e2;have hn:¬y.1.board=k:=λz=>h z.symm
   have he':r[j]?=some e:=by simpa using he
   have q:=ih hj he' hu.2
   simp only[List.set_cons_succ];unfold JA asA at q ⊢;simp only[List.map_cons,List.any_cons,decide_eq_false hn,Bool.false_or,if_neg hn];rw[q];split
   ·rfl
   ·rfl
theorem zfT {bs:nB}{k:Nm}(hi:ixB k bs=none)(x:Ent)(hx:x.board=k)(s:Sta):asA (bs++[(x,s)])=JA (asA bs) k s:=by
 have:(asA bs).any (λe=>decide (e.1=k))=false:=by
  induction bs with
  | nil=>rfl
  | cons y r ih=>
   unfold ixB at hi;by_cases h:k=y.1.board
   ·rw[if_pos h]at hi;cases hi
   ·rw[if_neg h]at hi
    have hn:¬y.1.board=k:=λz=>h z.symm
    have q:=ih (by simpa using hi)
    unfold asA at q ⊢;rw[List.map_cons,List.any_cons,q];simp [hn]
 unfold JA;rw[if_neg (by simp [this])]
 unfold asA;simp [hx]
abbrev XD:=List ((Nm × Nm) × Nat)
def pC (m:XD)(c:Nat):Obj:=.amap (m.map λe=>⟨.str e.1.1,AS e.1.2,e.2⟩) c
def asS (m:XD):List (Nm×Nm):=m.map (·.1)
def AE (k:Nm):XD->Option Nat
 | []=>none
 | e::r=>if k=e.1.1 then some 0 else(AE k r).map (· + 1)
theorem fW (k:Nm):∀m:XD,QC (.str k) (m.map λe=>(⟨.str e.1.1,AS e.1.2,e.2⟩:ME))=some (AE k m)
 | []=>rfl
 | e::r=>by
  have hk:PV.eqv (.str k) (.str e.1.1)=some (decide (k=e.1.1)):=rfl
  simp only[List.map_cons,QC,hk,AE];by_cases h:k=e.1.1
  ·simp [h]
  ·simp [h,fW k r]
theorem z4Q (k:Nm):∀m:XD,(AE k m).bind (λi=>m[i]?)=m.find? (λe=>decide (e.1.1=k))
 | []=>rfl
 | e::r=>by
  unfold AE;rw[List.find?_cons];by_cases h:k=e.1.1
  ·simp [h]
  ·have hn:¬e.1.1=k:=λz=>h z.symm
   rw[if_neg h,decide_eq_false hn];have:=z4Q k r;cases hf:AE k r with
   | none=>rw[hf]at this;simpa using this
   | some i=>rw[hf]at this;simpa using this
theorem z4R (k:Nm):∀(m:XD) (i:Nat),AE k m=some i->(m[i]?).isSome=true
 | [],i,h=>by cases h
 | e::r,i,h=>by
  unfold AE at h;split at h
  ·cases h;rfl
  ·obtain⟨j,hj,e2⟩:=Option.map_eq_some_iff.1 h
   subst e2;have:=z4R k r j hj;simpa using this
theorem zqP {id:Nat}{hp:aA}{m:XD}{c:Nat}{k:Nm}(hh:hp[id]?=some (pC m c)) :
 UA (none,[2]) true (AS []) (.mp id) (AS k) hp=some (.tup [AS ((mA (asS m) k).getD []),AB (mA (asS m) k).isSome]):=by
 have e1:cD (none,[2]) (AS k)=some (.str k):=iF
 have e2:mC hp (.mp id)=some (id,m.map λe=>(⟨.str e.1.1,AS e.1.2,e.2⟩:ME),c):=by simp only[mC,hh,pC]
 have e3:mA (asS m) k=(m.find? λe=>decide (e.1.1=k)).map (λe=>e.1.2):=by
  unfold mA asS;rw[List.find?_map];cases h:m.find? (λe=>decide (e.1.1=k)) with
  | none=>rw[show(List.find? ((λe=>decide (e.1=k)) ∘ λx=>x.1) m)=m.find? (λe=>decide (e.1.1=k)) from rfl,h];rfl
  | some x=>rw[show(List.find? ((λe=>decide (e.1=k)) ∘ λx=>x.1) m)=m.find? (λe=>decide (e.1.1=k)) from rfl,h];rfl
 simp only[UA,e1,e2,Option.map_some,fW];have e4:=z4Q k m
 rw[e3,<-e4];cases hf:AE k m with
 | none=>rfl
 | some i=>
  simp only[Option.bind_some,List.getElem?_map];have hs:(m[i]?).isSome=true:=z4R k m i hf
  obtain⟨y,hy⟩:=Option.isSome_iff_exists.1 hs;rw[hy];rfl
end
structure Flt where
 kind:Int
 nets:List Int
 deriving DecidableEq
def vD:Ent:=⟨[],0,0,0,[],[],[],0⟩
section
variable {h:aA} {K:jA}
def orL:List Int->Int
 | []=>0
 | x::r=>if x≠0 then x else orL r
theorem zdN (l:List Int)(hl:l.length<=1000):gA X ZJ [AL l] h K=K (AI (orL l)) h []:=by
 refine sA ?_;rw[zgA rfl];simp only[UT,go_sem];refine DA (λk:Nat=>⟨[(3,AI 0),(6,AL l),(7,AI l.length),(8,AI k)],h,[]⟩) (λk=>k<=l.length/\orL (l.drop k)=orL l) (λk=>l.length-k) 0 rfl ⟨by omega,rfl⟩ ?_
 rintro k ⟨hk,hp⟩
 rcases Nat.lt_or_ge k l.length with hlt|hge
 ·have g2:=sB eI hlt
  have w2:IntKind.i64.wrap ((k:Int)+1)=((k+1:Nat):Int):=rA _ (by omega) (by omega)
  rw[List.drop_eq_getElem_cons hlt,orL]at hp;by_cases hz:l[k]=0
  ·rw[if_neg (by simp [hz])]at hp
   simp only[go_sem,hlt,g2,hz,w2];exact⟨k+1,rfl,⟨by omega,hp⟩,by omega⟩
  ·rw[if_pos hz]at hp
   simp only[go_sem,hlt,g2,hz];rw[hp]
 ·have ek:k=l.length:=by omega
  subst ek;rw[List.drop_length]at hp;simp only[go_sem,Nat.lt_irrefl];rw[<-hp];rfl
end
section
variable {h:aA} {K:jA}
abbrev EA (l:List Ent):AV:=.p (.sl (some 8) (l.map Ent.pv))
theorem zaB {l:List Ent}:VD (some 8) (l.map Ent.pv):=λx hx=>by obtain⟨n,_,rfl⟩:=List.mem_map.1 hx;rfl
theorem iH {x:Ent}:NA (some 8) 0 x.pv=some x.pv:=rfl
structure EntOk (x:Ent):Prop where
 s:x.site.length<=1000000
 b:x.board.length<=1000000
 p:x.step.length<=1000000
 o:x.of.length<=1000000
structure EntB (x:Ent):Prop where
 n:1<=x.no/\x.no<=1000000
 t:0<=x.time/\x.time<=345686399999
theorem YP {x:Ent}(h:TB x=0):EntB x:=by
 unfold TB at h;split at h
 ·cases h
 split at h
 ·cases h
 rename_i h2;rw[not_or]at h2;have a:noB x.no=true:=by simpa using h2.1
 have b:KF x.time=true:=by simpa using h2.2
 unfold noB inB at a;unfold KF inB at b;simp at a b;exact⟨a,b⟩
theorem zsT (a b:Ent):gA X sM [.p a.pv,.p b.pv] h K=K (AI (xC a b)) h []:=by
 refine sA ?_;rw[zhW rfl];have o:=λh K=>zdN (h:=h) (K:=K) [uB a.time b.time,LA a.site b.site,uB a.no b.no] (by simp)
 simp only[AL,List.map_cons,List.map_nil]at o;have e:orL [uB a.time b.time,LA a.site b.site,uB a.no b.no]=xC a b:=by
  unfold xC;simp only[orL];split
  ·rfl
  ·split
   ·rfl
   ·split
    ·rfl
    ·rename_i h;simp only[ne_eq,Decidable.not_not]at h;rw[h]
 rw[e]at o;simp only[iV,Ent.pv,go_sem,zdM,XY,o]
theorem zs2 (a b:Ent)(ha:EntB a)(hb:EntB b):gA X VH [.p a.pv,.p b.pv] h K=K (AI (xC a b)) h []:=by
 refine sA ?_;rw[z9J rfl];have a1:=ha.t
 have a2:=hb.t
 have a3:=ha.n
 have a4:=hb.n
 have w:IntKind.i64.wrap (a.time-b.time)=a.time-b.time:=rA _ (by omega) (by omega)
 have w2:IntKind.i64.wrap (a.no-b.no)=a.no-b.no:=rA _ (by omega) (by omega)
 unfold xC;by_cases he:a.time=b.time
 ·have:uB a.time b.time=0:=by rw[he];unfold uB;simp
  rw[if_neg (by simp [this])]
  by_cases hs:a.site=b.site
  ·have hc:LA a.site b.site=0:=by rw[hs];exact AP _
   rw[if_neg (by simp [hc]),ET]
   simp only[NH,Ent.pv,go_sem,he,hs,w2,aS]
  ·have hc:LA a.site b.site≠0:=λe=>hs (uE e)
   rw[if_pos hc];simp only[NH,Ent.pv,go_sem,he,hs,XY]
 ·have hc:uB a.time b.time≠0:=by unfold uB;split <;> (try split) <;> omega
  rw[if_pos hc];rw[ET];simp only[NH,Ent.pv,go_sem,he,w,aS]
theorem ztm (a b:Ent):gA X sQ [.p a.pv,.p b.pv] h K=K (AB (AD a b)) h []:=by
 refine sA ?_;rw[zh3 rfl];unfold AD;by_cases h1:a.site=b.site
 ·simp only[NP,Ent.pv,go_sem,h1]
 ·simp only[NP,Ent.pv,go_sem,h1]
end
section
variable {h:aA} {K:jA}
attribute [-go_sem] TA
theorem eqa8 (ks:List Nat)(hk:ks=[2,0,0,0,2,2,2,0])(neg:Bool)(c d:Ent):TA ks neg (.p c.pv) (.p d.pv)=some (AB (bif neg then !decide (c=d) else decide (c=d))):=by
 subst hk;obtain⟨a1,a2,a3,a4,a5,a6,a7,a8⟩:=c;obtain⟨b1,b2,b3,b4,b5,b6,b7,b8⟩:=d;have e:decide ((⟨a1,a2,a3,a4,a5,a6,a7,a8⟩:Ent)=⟨b1,b2,b3,b4,b5,b6,b7,b8⟩)=(decide (a1=b1)&&(decide (a2=b2)&&(decide (a3=b3)&&(decide (a4=b4)&&(decide (a5=b5)&&(decide (a6=b6)&&(decide (a7=b7)&&(decide (a8=b8)&&true)))))))):=by
  rw[Bool.eq_iff_iff];simp [Ent.mk.injEq]
 rw[e];rfl
theorem eqa8n (c d:Ent):TA [2,0,0,0,2,2,2,0] true (.p c.pv) (.p d.pv)=some (AB (!decide (c=d))):=eqa8 _ rfl true c d
def Ent.box (x:Ent):Obj:=.box [AS x.site,AI x.no,AI x.time,AI x.kind,AS x.board,AS x.step,AS x.of,AI x.other]
def refE (x u:Ent)(nm:Bool):Int:=if oB x.site=false then 5 else if noB x.no=false∨KF x.time=false then 1 else if inB 1 x.kind 7=false then 4
 else if nm=false then 5 else if x.kind=7/\noB x.other=false then 1 else if x≠u then 3 else 0
theorem zrT (x:Ent):refE x (kZ x) (hJ x)=TB x:=rfl
theorem znQ (x u:Ent)(nm:Bool)(hs:x.site.length<=1000000)(K':Ex->St->Prop) :
 XE (gA X) X.gl (.ref h.length 0) (.ref (h.length+1) 0) (AB nm) (h++[x.box,u.box]) [] K'=K' .ret ⟨[(2,AI (refE x u nm))],h++[x.box,u.box],[]⟩:=by
 have k1:=λh K=>WO (h:=h) (K:=K) x.site (by omega)
 have hq:=eqa8n x u
 unfold refE noB;unfold Ent.box;simp only[Ent.pv]at hq;cases h1:oB x.site with
 | false=>simp only[XE,go_sem,or_false,false_or,true_or,or_true,true_and,and_true,false_and,and_false,not_true_eq_false,not_false_eq_true,↓k1,k1,h1]
 | true=>
  cases h2:inB 1 x.no 1000000 with
  | false=>simp only[XE,go_sem,or_false,false_or,true_or,or_true,true_and,and_true,false_and,and_false,not_true_eq_false,not_false_eq_true,↓k1,k1,lG,h1,h2]
  | true=>
   cases h3:KF x.time with
   | false=>simp only[XE,go_sem,or_false,false_or,true_or,or_true,true_and,and_true,false_and,and_false,not_true_eq_false,not_false_eq_true,↓k1,k1,lG,tH,h1,h2,h3]
   | true=>
    cases h4:inB 1 x.kind 7 with
    | false=>simp only[XE,go_sem,or_false,false_or,true_or,or_true,true_and,and_true,false_and,and_false,not_true_eq_false,not_false_eq_true,↓k1,k1,lG,tH,h1,h2,h3,h4]
    | true=>
     cases nm with
     | false=>simp only[XE,go_sem,or_false,false_or,true_or,or_true,true_and,and_true,false_and,and_false,not_true_eq_false,not_false_eq_true,↓k1,k1,lG,tH,h1,h2,h3,h4]
     | true=>
      by_cases h7:x.kind=7
      ·cases h6:inB 1 x.other 1000000 with
       | false=>simp only[XE,go_sem,or_false,false_or,true_or,or_true,true_and,and_true,false_and,and_false,not_true_eq_false,not_false_eq_true,↓k1,k1,lG,tH,h1,h2,h3,h4,eq_true h7,h6]
       | true=>
        by_cases e:x=u
        ·rw[decide_eq_true e]at hq
         simp only[XE,go_sem,or_false,false_or,true_or,or_true,true_and,and_true,false_and,and_false,not_true_eq_false,not_false_eq_true,↓k1,k1,lG,tH,h1,h2,h3,h4,eq_true h7,h6,hq,eq_true e]
        ·rw[decide_eq_false e]at hq
         simp only[XE,go_sem,or_false,false_or,true_or,or_true,true_and,and_true,false_and,and_false,not_true_eq_false,not_false_eq_true,↓k1,k1,lG,tH,h1,h2,h3,h4,eq_true h7,h6,hq,e]
      ·by_cases e:x=u
       ·rw[decide_eq_true e]at hq
        simp only[XE,go_sem,or_false,false_or,true_or,or_true,true_and,and_true,false_and,and_false,not_true_eq_false,not_false_eq_true,↓k1,k1,lG,tH,h1,h2,h3,h4,h7,hq,eq_true e]
       ·rw[decide_eq_false e]at hq
        simp only[XE,go_sem,or_false,false_or,true_or,or_true,true_and,and_true,false_and,and_false,not_true_eq_false,not_false_eq_true,↓k1,k1,lG,tH,h1,h2,h3,h4,h7,hq,e]
attribute [-go_sem] XE
theorem zs1 (x:Ent)(hx:EntOk x):gA X jQ [.p x.pv] h K=K (AI (TB x)) h []:=by
 refine sA ?_;rw[zhb rfl];have k2:=λh K=>WO (h:=h) (K:=K) x.board (by have:=hx.b;omega)
 have k3:=λh K=>WO (h:=h) (K:=K) x.step (by have:=hx.p;omega)
 have k4:=λh K=>WO (h:=h) (K:=K) x.of (by have:=hx.o;omega)
 rw[<-zrT];have hs:x.site.length<=1000000:=hx.s
 have Q:=λu nm K'=>znQ (h:=h) x u nm hs K'
 unfold Ent.box at Q;unfold kZ hJ;by_cases h7:x.kind=7
 ·have q:=Q ⟨x.site,x.no,x.time,x.kind,[],[],x.of,x.other⟩ (oB x.of)
  dsimp only at q;simp only[MI,Ent.pv,go_sem,↓k4,k4,h7]at q ⊢;simp only[MI,Ent.pv,go_sem,↓k4,k4,q,h7]
 ·by_cases h2:x.kind=2
  ·cases hb:oB x.board with
   | false=>
    have q:=Q ⟨x.site,x.no,x.time,x.kind,x.board,x.step,[],0⟩ false
    simp only[MI,Ent.pv,go_sem,↓k2,k2,↓k3,k3,h7,eq_true h2,hb,q]
   | true=>
    have q:=Q ⟨x.site,x.no,x.time,x.kind,x.board,x.step,[],0⟩ (oB x.step)
    simp only[MI,Ent.pv,go_sem,↓k2,k2,↓k3,k3,h7,eq_true h2,hb,q]
  ·have q:=Q ⟨x.site,x.no,x.time,x.kind,x.board,[],[],0⟩ (oB x.board)
   simp only[MI,Ent.pv,go_sem,↓k2,k2,↓k3,k3,h7,h2,q]
end
section
variable {h:aA} {K:jA}
theorem zsY (x:Ent)(hx:EntOk x):gA X uM [.p x.pv] h K=K (AI (TB x)) h []:=by
 refine sA ?_;rw[zhY rfl];have k1:=λh K=>MO (h:=h) (K:=K) x.site (by have:=hx.s;omega)
 have k2:=λh K=>MO (h:=h) (K:=K) x.board (by have:=hx.b;omega)
 have k3:=λh K=>MO (h:=h) (K:=K) x.step (by have:=hx.p;omega)
 have k4:=λh K=>MO (h:=h) (K:=K) x.of (by have:=hx.o;omega)
 obtain⟨site,no,time,kind,board,step,of,other⟩:=x;dsimp only at k1 k2 k3 k4;unfold TB hJ kZ noB;dsimp only;cases h1:oB site with
 | false=>
  simp only[Ent.pv,go_sem,Ent.mk.injEq,or_false,false_or,true_or,or_true,true_and,and_true,and_self,false_and,and_false,not_true_eq_false,not_false_eq_true,Bool.not_true,Bool.not_false,fH,↓k1,k1,dE,lI,h1]
 | true=>
  cases h2:inB 1 no 1000000 with
  | false=>
   simp only[Ent.pv,go_sem,Ent.mk.injEq,or_false,false_or,true_or,or_true,true_and,and_true,and_self,false_and,and_false,not_true_eq_false,not_false_eq_true,Bool.not_true,Bool.not_false,fH,↓k1,k1,dE,lI,h1,h2]
  | true=>
   cases h3:KF time with
   | false=>
    simp only[Ent.pv,go_sem,Ent.mk.injEq,or_false,false_or,true_or,or_true,true_and,and_true,and_self,false_and,and_false,not_true_eq_false,not_false_eq_true,Bool.not_true,Bool.not_false,fH,↓k1,k1,dE,lI,h1,h2,h3]
   | true=>
    cases h4:inB 1 kind 7 with
    | false=>
     simp only[Ent.pv,go_sem,Ent.mk.injEq,or_false,false_or,true_or,or_true,true_and,and_true,and_self,false_and,and_false,not_true_eq_false,not_false_eq_true,Bool.not_true,Bool.not_false,fH,↓k1,k1,dE,lI,h1,h2,h3,h4]
    | true=>
     by_cases h7:kind=7
     ·have h72:¬kind=2:=by omega
      simp only[Ent.pv,go_sem,Ent.mk.injEq,or_false,false_or,true_or,or_true,true_and,and_true,and_self,false_and,and_false,not_true_eq_false,not_false_eq_true,Bool.not_true,Bool.not_false,fH,↓k1,k1,dE,lI,h1,h2,h3,h4,eq_true h7,h72];cases h5:oB of with
      | false=>
       simp only[Ent.pv,go_sem,Ent.mk.injEq,or_false,false_or,true_or,or_true,true_and,and_true,and_self,false_and,and_false,not_true_eq_false,not_false_eq_true,Bool.not_true,Bool.not_false,↓k4,k4,h5,eq_true h7,h72]
      | true=>
       cases h6:inB 1 other 1000000 with
       | false=>
        simp only[Ent.pv,go_sem,Ent.mk.injEq,or_false,false_or,true_or,or_true,true_and,and_true,and_self,false_and,and_false,not_true_eq_false,not_false_eq_true,Bool.not_true,Bool.not_false,↓k4,k4,dE,h5,h6,eq_true h7,h72]
       | true=>
        by_cases e1:board=[]
        ·by_cases e2:step=[]
         ·simp only[Ent.pv,go_sem,Ent.mk.injEq,or_false,false_or,true_or,or_true,true_and,and_true,and_self,false_and,and_false,not_true_eq_false,not_false_eq_true,Bool.not_true,Bool.not_false,↓k4,k4,dE,h5,h6,eq_true e1,eq_true e2,eq_true h7,h72]
         ·simp only[Ent.pv,go_sem,Ent.mk.injEq,or_false,false_or,true_or,or_true,true_and,and_true,and_self,false_and,and_false,not_true_eq_false,not_false_eq_true,Bool.not_true,Bool.not_false,↓k4,k4,dE,h5,h6,eq_true e1,e2,eq_true h7,h72]
        ·simp only[Ent.pv,go_sem,Ent.mk.injEq,or_false,false_or,true_or,or_true,true_and,and_true,and_self,false_and,and_false,not_true_eq_false,not_false_eq_true,Bool.not_true,Bool.not_false,↓k4,k4,dE,h5,h6,e1,eq_true h7,h72]
     ·by_cases h2k:kind=2
      ·simp only[Ent.pv,go_sem,Ent.mk.injEq,or_false,false_or,true_or,or_true,true_and,and_true,and_self,false_and,and_false,not_true_eq_false,not_false_eq_true,Bool.not_true,Bool.not_false,fH,↓k1,k1,dE,lI,h1,h2,h3,h4,h7,eq_true h2k]
       cases h5:oB board with
       | false=>
        simp only[Ent.pv,go_sem,Ent.mk.injEq,or_false,false_or,true_or,or_true,true_and,and_true,and_self,false_and,and_false,not_true_eq_false,not_false_eq_true,Bool.not_true,Bool.not_false,↓k2,k2,h5,h7,eq_true h2k]
       | true=>
        simp only[Ent.pv,go_sem,Ent.mk.injEq,or_false,false_or,true_or,or_true,true_and,and_true,and_self,false_and,and_false,not_true_eq_false,not_false_eq_true,Bool.not_true,Bool.not_false,↓k2,k2,h5,h7,eq_true h2k];cases h6:oB step with
        | false=>
         simp only[Ent.pv,go_sem,Ent.mk.injEq,or_false,false_or,true_or,or_true,true_and,and_true,and_self,false_and,and_false,not_true_eq_false,not_false_eq_true,Bool.not_true,Bool.not_false,↓k3,k3,h6,h7,eq_true h2k]
        | true=>
         by_cases e1:of=[]
         ·by_cases e2:other=0
          ·simp only[Ent.pv,go_sem,Ent.mk.injEq,or_false,false_or,true_or,or_true,true_and,and_true,and_self,false_and,and_false,not_true_eq_false,not_false_eq_true,Bool.not_true,Bool.not_false,↓k3,k3,h6,eq_true e1,eq_true e2,h7,eq_true h2k]
          ·simp only[Ent.pv,go_sem,Ent.mk.injEq,or_false,false_or,true_or,or_true,true_and,and_true,and_self,false_and,and_false,not_true_eq_false,not_false_eq_true,Bool.not_true,Bool.not_false,↓k3,k3,h6,eq_true e1,e2,h7,eq_true h2k]
         ·simp only[Ent.pv,go_sem,Ent.mk.injEq,or_false,false_or,true_or,or_true,true_and,and_true,and_self,false_and,and_false,not_true_eq_false,not_false_eq_true,Bool.not_true,Bool.not_false,↓k3,k3,h6,e1,h7,eq_true h2k]
      ·simp only[Ent.pv,go_sem,Ent.mk.injEq,or_false,false_or,true_or,or_true,true_and,and_true,and_self,false_and,and_false,not_true_eq_false,not_false_eq_true,Bool.not_true,Bool.not_false,fH,↓k1,k1,dE,lI,h1,h2,h3,h4,h7,h2k]
       cases h5:oB board with
       | false=>
        simp only[Ent.pv,go_sem,Ent.mk.injEq,or_false,false_or,true_or,or_true,true_and,and_true,and_self,false_and,and_false,not_true_eq_false,not_false_eq_true,Bool.not_true,Bool.not_false,↓k2,k2,h5,h7,h2k]
       | true=>
        by_cases e0:step=[]
        ·by_cases e1:of=[]
         ·by_cases e2:other=0
          ·simp only[Ent.pv,go_sem,Ent.mk.injEq,or_false,false_or,true_or,or_true,true_and,and_true,and_self,false_and,and_false,not_true_eq_false,not_false_eq_true,Bool.not_true,Bool.not_false,↓k2,k2,h5,eq_true e0,eq_true e1,eq_true e2,h7,h2k]
          ·simp only[Ent.pv,go_sem,Ent.mk.injEq,or_false,false_or,true_or,or_true,true_and,and_true,and_self,false_and,and_false,not_true_eq_false,not_false_eq_true,Bool.not_true,Bool.not_false,↓k2,k2,h5,eq_true e0,eq_true e1,e2,h7,h2k]
         ·simp only[Ent.pv,go_sem,Ent.mk.injEq,or_false,false_or,true_or,or_true,true_and,and_true,and_self,false_and,and_false,not_true_eq_false,not_false_eq_true,Bool.not_true,Bool.not_false,↓k2,k2,h5,eq_true e0,e1,h7,h2k]
        ·simp only[Ent.pv,go_sem,Ent.mk.injEq,or_false,false_or,true_or,or_true,true_and,and_true,and_self,false_and,and_false,not_true_eq_false,not_false_eq_true,Bool.not_true,Bool.not_false,↓k2,k2,h5,e0,h7,h2k]
end
section
variable {h:aA} {K:jA}
def gE (s:List UInt8 × Int):PV:=.agg [.str s.1,.int .i64 s.2]
def lC (b:Bool):AV:=.p (.bool b)
theorem WV:gL gE:=λa b=>by
 obtain⟨a1,a2⟩:=a;obtain⟨b1,b2⟩:=b;have e:decide ((a1,a2)=(b1,b2))=(decide (a1=b1)&&(decide (a2=b2)&&true)):=by rw[Bool.eq_iff_iff];simp
 rw[e];rfl
theorem XV {s:List UInt8 × Int}:cD (some 2,[2,0]) (.p (gE s))=some (gE s):=by simp [gE,cD,PV.key,PV.shp,PV.sc,PV.cells,PV.kind]
def mG (l:List Ent):List ((List UInt8×Int)×Bool):=l.map λx=>((x.site,x.no),true)
theorem z5f (x:Ent):∀l:List Ent,iB (x.site,x.no) (mG l)=if l.any (λo=>AD o x) then some true else none
 | []=>rfl
 | y::l=>by
  have ih:=z5f x l
  unfold mG at ih ⊢;rw[List.map_cons];unfold iB;rw[ih,List.any_cons];have e:((x.site,x.no)=(y.site,y.no))↔AD y x=true:=by
   unfold AD;simp only[Prod.mk.injEq,Bool.and_eq_true,decide_eq_true_eq];exact⟨λh=>⟨h.1.symm,h.2.symm⟩,λh=>⟨h.1.symm,h.2.symm⟩⟩
  by_cases hc:AD y x=true
  ·rw[if_pos (e.2 hc),hc];rfl
  ·have hf:AD y x=false:=by simpa using hc
   rw[if_neg (λz=>hc (e.1 z)),hf,Bool.false_or]
theorem zuW (l:List Ent)(x:Ent)(h:l.any (λo=>AD o x)=false):IB (x.site,x.no) true (mG l)=mG (l++[x]):=by
 have:eD (x.site,x.no) (mG l)=none:=by
  have e:=zeI (k:=(x.site,x.no)) (l:=mG l)
  rw[z5f,h]at e;simpa using e
 rw[jZ this];unfold mG;simp
attribute [-go_sem] UA ZA
theorem ztw (l:List Ent)(hn:l.length<=1000000):gA X CM [EA l] h K=K (AB (HE [] l)) h []:=by
 refine sA ?_;rw[zik rfl];simp only[sV,go_sem];refine DA (λk:Nat=>⟨[(3,.mp h.length),(8,EA l),(9,AI l.length),(10,AI k)],h++[lA gE lC (mG (l.take k))],[]⟩) (λk=>k<=l.length/\HE (l.take k) (l.drop k)=HE [] l) (λk=>l.length-k) 0 rfl ⟨by omega,rfl⟩ ?_
 rintro k ⟨hkl,hp⟩
 rcases Nat.lt_or_ge k l.length with hlt|hge
 ·have hg:=sB Ent.pv hlt
  have w2:IntKind.i64.wrap ((k:Int)+1)=((k+1:Nat):Int):=rA _ (by omega) (by omega)
  have cx:=iH (x:=l[k])
  rw[List.drop_eq_getElem_cons hlt,HE,<-List.take_succ_eq_append_getElem hlt]at hp;have ek:l.take (k+1)=l.take k++[l[k]]:=List.take_succ_eq_append_getElem hlt
  generalize hx:l[k]=x at *;generalize l.take k=S at *;have lk:=λ(hp:aA) (e:hp[h.length]?=some (lA gE lC (mG S)))=>qH (kk:=(some 2,[2,0])) (k:=(x.site,x.no)) WV e XV (ok:=false) (z:=lC false)
  have up:=λ(hp:aA) (e:hp[h.length]?=some (lA gE lC (mG S)))=>HK (kk:=(some 2,[2,0])) (k:=(x.site,x.no)) WV e XV (v:=true) rfl
  have l1:=λt=>lk (h++lA gE lC (mG S)::t) (by simp)
  have u1:=λt=>up (h++lA gE lC (mG S)::t) (by simp)
  rw[z5f]at l1;simp only[lC,gE,cond_false,dC,AV.top]at l1 u1;cases hc:S.any (λo=>AD o x) with
  | true=>
   rw[hc,if_pos rfl]at hp;rw[hc]at l1;simp only[if_true,Option.map_some,Option.getD_some,lC]at l1;simp only[go_sem,hlt,hg,cx,Ent.pv,splice,l1];rw[<-hp]
  | false=>
   rw[hc,if_neg (by simp)]at hp
   rw[hc]at l1;have us:=zuW S x hc
   simp only[Bool.false_eq_true,if_false,Option.map_none,Option.getD_none]at l1;have nl0:¬h.length<0:=by omega
   simp only[nl0,if_false]at u1;rw[us]at u1;simp only[go_sem,hlt,hg,cx,Ent.pv,splice,l1,u1,w2];refine⟨k+1,?_,⟨by omega,?_⟩,by omega⟩
   ·rw[ek]
   ·rw[ek];rw[<-ek];exact hp
 ·have ek:k=l.length:=by omega
  subst ek;rw[List.drop_length]at hp;simp only[go_sem,Nat.lt_irrefl];rw[<-hp];rfl
theorem zaE {p:Option Ent}{x:Ent}{r:List Ent}:wD p (x::r)=if TB x≠0 then TB x else if(match p with|some q=>decide (xC x q<=0)|none=>false)=true then 7 else wD (some x) r:=rfl
theorem zd7 (r:List Ent)(hr:∀ x∈r,EntOk x)(hn:r.length<=1000000):gA X qK [EA r] h K=K (AI (PB r)) h []:=by
 refine sA ?_;rw[zhP rfl];have tw:=λh K=>ztw (h:=h) (K:=K) r hn
 unfold PB;by_cases h1:(2000:Int)<r.length
 ·simp only[RP,go_sem,h1]
 simp only[RP,go_sem,h1];refine DA (λk:Nat=>⟨[(0,EA r),(9,EA r),(10,AI r.length),(11,AI k)],h,[]⟩) (λk=>k<=r.length/\wD (r.take k).getLast? (r.drop k)=wD none r) (λk=>r.length-k) 0 rfl ⟨by omega,rfl⟩ ?_
 rintro k ⟨hkl,hp⟩
 rcases Nat.lt_or_ge k r.length with hlt|hge
 ·have hg:=sB Ent.pv hlt
  have w2:IntKind.i64.wrap ((k:Int)+1)=((k+1:Nat):Int):=rA _ (by omega) (by omega)
  have hx:=hr _ (List.getElem_mem hlt)
  have hlast:(r.take (k+1)).getLast?=some r[k]:=by rw[List.take_succ_eq_append_getElem hlt];exact List.getLast?_concat
  rw[List.drop_eq_getElem_cons hlt,zaE]at hp;have cx:=iH (x:=r[k])
  have rf:=λh K=>zsY (h:=h) (K:=K) r[k] hx
  simp only[Ent.pv]at rf;by_cases h2:TB r[k]=0
  ·rw[if_neg (by simp [h2])]at hp
   cases k with
   | zero=>
    simp only[List.take_zero,List.getLast?_nil,reduceCtorEq,if_false]at hp;have hlt0:(0:Int)<r.length:=by omega
    simp only[go_sem,hlt0,hg,cx,Ent.pv,rf,h2,Int.lt_irrefl,splice,show IntKind.i64.wrap 1=1 from rfl]
    exact⟨0+1,rfl,⟨by omega,by rw[hlast];exact hp⟩,by omega⟩
   | succ j=>
    have hj:j<r.length:=by omega
    have hgj:=sB Ent.pv hj
    have cj:=iH (x:=r[j])
    have hlj:(r.take (j+1)).getLast?=some r[j]:=by rw[List.take_succ_eq_append_getElem hj];exact List.getLast?_concat
    have w3:IntKind.i64.wrap (((j+1:Nat):Int)-1)=(j:Int):=by rw[rA _ (by omega) (by omega)];omega
    have p1:(0:Int)<((j+1:Nat):Int):=by omega
    have bt:=λh K=>zsT (h:=h) (K:=K) r[j+1] r[j]
    simp only[Ent.pv]at bt;rw[hlj]at hp;by_cases h3:xC r[j+1] r[j]<=0
    ·simp only[h3,decide_true,if_true]at hp
     simp only[go_sem,hlt,hj,hg,hgj,cx,cj,Ent.pv,rf,h2,p1,w3,bt,h3,splice];rw[<-hp];rfl
    ·simp only[h3,decide_false,reduceCtorEq,if_false]at hp
     simp only[go_sem,hlt,hj,hg,hgj,cx,cj,Ent.pv,rf,h2,p1,w3,bt,h3,w2,splice];exact⟨j+1+1,rfl,⟨by omega,by rw[hlast];exact hp⟩,by omega⟩
  ·rw[if_pos h2]at hp
   simp only[go_sem,hlt,hg,cx,Ent.pv,rf,h2,splice];rw[<-hp,if_pos h2]
 ·have ek:k=r.length:=by omega
  subst ek;rw[List.drop_length]at hp;have hz:wD none r=0:=by rw[<-hp];cases (r.take r.length).getLast? <;> rfl
  rw[if_neg (by simp [hz])]
  cases ht:HE [] r with
  | true=>
   rw[ht]at tw;simp only[go_sem,Nat.lt_irrefl,tw];first|done|rfl
  | false=>
   rw[ht]at tw;simp only[go_sem,Nat.lt_irrefl,tw];first|done|rfl
end
section
attribute [-go_sem] PV.cells splice
variable {h:aA} {K:jA}
theorem zpi (id n:Nat)(l tl:List PV)(hn:n=l.length+tl.length)(hs:VD (some 8) l)(hl:l.length<=1000)(hh:h[id]?=some (.row (some 8) (l++tl) 0)){g:Nat}{caps:List AV}{c:PV->PV->Int}(hc:oP g caps c l id h) :
 gA X XH [.own id n 0 l.length,AI 0,AI l.length,.fn g caps] h K=K (.tup []) (h.set id (.row (some 8) (xB (ltC c) l++tl) 0)) []:=by
 refine sA ?_;rw[z9K];have hid:=oH hh
 have hst:∀o,(h.set id o)[id]?=some o:=λo=>nI hid
 simp only[PP,go_sem,show IntKind.i64.wrap 1=1 from rfl]
 refine DA (λi:Nat=>⟨[(0,.own id n 0 l.length),(1,AI 0),(2,AI l.length),(3,.fn g caps),(8,AI i)],h.set id (.row (some 8) ((DD (ltC c) (l.take i)).reverse++(l.drop i++tl)) 0),[]⟩) (λi=>1<=i/\(i<=l.length∨i=1)) (λi=>l.length-i) 1 ?_ (by simp) ?_
 ·have:(DD (ltC c) (l.take 1)).reverse++(l.drop 1++tl)=l++tl:=by cases l <;> rfl
  rw[this,XK hh];rfl
 rintro i ⟨hi1,hi2⟩
 rcases Nat.lt_or_ge i l.length with hlt|hge
 ·simp only[go_sem,hlt]
  have hxl:l[i]∈l:=List.getElem_mem hlt
  generalize hx:l[i]=x at *;generalize hR:DD (ltC c) (l.take i)=R;have hRl:R.length=i:=by rw[<-hR,z5m];simp;omega
  have hRm:∀z∈R,z∈l:=λz hz=>List.mem_of_mem_take ((TQ (ltC c) (l.take i)).mem_iff.1 (by rw[hR];exact hz))
  have hdrop:l.drop i=x::l.drop (i+1):=by rw[<-hx];exact List.drop_eq_getElem_cons hlt
  have hnext:DD (ltC c) (l.take (i+1))=VB (ltC c) x R:=by rw[z5n _ _ _ hlt,hR,hx]
  refine DA (λt:List PV×List PV=>⟨[(0,.own id n 0 l.length),(1,AI 0),(2,AI l.length),(3,.fn g caps),(8,AI i),(9,AI t.1.length)],h.set id (.row (some 8) (t.1.reverse++x::t.2) 0),[]⟩)
   (λt=>∃B,R=B++t.1/\t.2=B.reverse++(l.drop (i+1)++tl)/\∀b∈B,ltC c x b=true) (λt=>t.1.length) (R,l.drop (i+1)++tl) (by rw[hdrop,hRl];rfl) ⟨[],rfl,rfl,by simp⟩ ?_
  rintro⟨A,C⟩ ⟨B,q1,q2,q3⟩
  dsimp only at q1 q2 q3;have hlen:(A.reverse++x::C).length=n:=by
   have:R.length=B.length+A.length:=by rw[q1];simp
   rw[q2];simp;omega
  have hBA:B.length+A.length<l.length:=by
   have:R.length=B.length+A.length:=by rw[q1];simp
   omega
  have hln:l.length<=n:=by omega
  have w1:IntKind.i64.wrap ((i:Int)+1)=((i+1:Nat):Int):=rA _ (by omega) (by omega)
  cases A with
  | nil=>
   have hd:VB (ltC c) x R=B++[x]:=by rw[q1];exact IM (ltC c) x [] B q3 (λy r h=>by cases h)
   simp only[go_sem,Int.lt_irrefl,w1];refine⟨i+1,?_,by omega,by omega⟩
   simp only[hnext,hd,q2,List.reverse_append,List.reverse_nil,List.nil_append,List.reverse_cons,List.append_assoc,List.cons_append]
  | cons y A=>
   have hyl:y∈l:=hRm y (by rw[q1];simp)
   have g1:=z5j (y::A) C x
   have g2:=z5k A C x y
   have sw:=z5l A C x y
   simp only[List.length_cons]at hBA;generalize hrow:(y::A).reverse++x::C=row at *;simp only[List.length_cons]at g1;have w2:IntKind.i64.wrap (((A.length+1:Nat):Int)-1)=(A.length:Int):=by rw[rA _ (by omega) (by omega)];omega
   have p1:(0:Int)<((A.length+1:Nat):Int):=by omega
   have b1:A.length+1<l.length:=by omega
   have b2:A.length<l.length:=by omega
   have cx:=oI (hs x hxl)
   have cy:=oI (hs y hyl)
   have hcc:=λo K=>hc o x hxl y hyl K
   by_cases hxy:c x y<0
   ·have g3:(row.set (A.length+1) y)[A.length]?=some y:=by rw[List.getElem?_set_ne (by omega),g2]
    have lx:=ZK (hs x hxl)
    have ly:=ZK (hs y hyl)
    have sx:=YK (hs x hxl)
    have sy:=YK (hs y hyl)
    simp only[kA]at lx ly;have t1:=λi xs h1=>aL (hs x hxl) (hs y hyl) id i 0 xs h1
    have t2:=λi xs h1=>aL (hs y hyl) (hs x hxl) id i 0 xs h1
    simp only[go_sem,hst,p1,hlen,g1,g2,g3,w2,b1,b2,hln,cx,cy,hcc,hxy,lx,ly,sx,sy,t1,t2,sw];refine⟨(A,y::C),rfl,⟨B++[y],by simp [q1],by simp [q2],λb hb=>?_⟩,by simp⟩
    rw[List.mem_append,List.mem_singleton]at hb;rcases hb with hb|rfl
    ·exact q3 b hb
    ·simpa [ltC] using hxy
   ·have hd:VB (ltC c) x R=B++x::y::A:=by rw[q1];exact IM (ltC c) x (y::A) B q3 (λz r h=>by cases h;simpa [ltC] using hxy)
    simp only[go_sem,hst,p1,hlen,g1,g2,w2,b1,b2,hln,cx,cy,hcc,hxy,w1];refine⟨i+1,?_,by omega,by omega⟩
    simp only[hnext,hd,<-hrow,q2,List.reverse_append,List.reverse_cons,List.append_assoc,List.cons_append,List.nil_append]
 ·have hge':¬i<l.length:=by omega
  have e1:l.take i=l:=List.take_of_length_le hge
  have e2:l.drop i=[]:=List.drop_of_length_le hge
  simp only[go_sem,hge',e1,e2];rfl
theorem zpj (id n:Nat)(hn:n<=1000){g:Nat}{caps:List AV} :
 gA X XH [.own id n 0 n,AI n,AI n,.fn g caps] h K=K (.tup []) h []:=by
 refine sA ?_;rw[z9K];have w1:IntKind.i64.wrap ((n:Int)+1)=((n+1:Nat):Int):=rA _ (by omega) (by omega)
 have b1:¬((n+1:Nat):Int)<(n:Int):=by omega
 simp only[PP,go_sem,w1];refine DA (λ_:Unit=>⟨[(0,.own id n 0 n),(1,AI n),(2,AI n),(3,.fn g caps),(8,AI ((n+1:Nat):Int))],h,[]⟩) (λ_=>True) (λ_=>0) () rfl trivial ?_
 intro _ _;simp only[go_sem,b1]
theorem zuh (id:Nat)(l:List PV)(hs:VD (some 8) l)(hl:l.length<=20)(hh:h[id]?=some (.row (some 8) l 0)){g:Nat}{caps:List AV}{c:PV->PV->Int}(hc:oP g caps c l id h) :
 gA X qM [.own id l.length 0 l.length,.fn g caps] h K=K (.tup []) (h.set id (.row (some 8) (xB (ltC c) l) 0)) []:=by
 refine sA ?_;rw[zhF];have key:∀K:jA,gA X BQ [.own id l.length 0 l.length,AI l.length,.fn g caps] h K=K (.tup []) (h.set id (.row (some 8) (xB (ltC c) l) 0)) []:=by
  intro K;refine sA ?_;rw[zhM];have is:=λK=>zpi (h:=h) (K:=K) id l.length l [] rfl hs (by omega) (by rw[List.append_nil];exact hh) hc
  have i0:=λK=>zpj (h:=h.set id (.row (some 8) (xB (ltC c) l) 0)) (K:=K) (g:=g) (caps:=caps) id l.length (by omega)
  simp only[List.append_nil]at is;have b2:¬((20:Int)<(l.length:Int)):=by omega
  simp only[eV,go_sem];refine DA (λt:Bool=>⟨[(0,.own id l.length 0 l.length),(1,AI l.length),(2,.fn g caps),(6,AI 20),(7,AI (if t=true then 20 else 0)),(8,AI (if t=true then 40 else 20))],if t=true then h.set id (.row (some 8) (xB (ltC c) l) 0) else h,[]⟩) (λt=>t=true->l.length=20) (λt=>if t=true then 0 else 1) false rfl (λe=>by cases e) ?_
  intro t ht;cases t with
  | false=>
   by_cases he:l.length=20
   ·have e20:((l.length:Nat):Int)=20:=by omega
    have gen:∀z:Int,z=(l.length:Int)->∀K:jA,gA X XH [.own id l.length 0 l.length,AI 0,AI z,.fn g caps] h K=K (.tup []) (h.set id (.row (some 8) (xB (ltC c) l) 0)) []:=λz hz K=>by subst hz;exact is K
    have is':=gen 20 (by omega)
    have b1:(20:Int)<=(l.length:Int):=by omega
    simp only[go_sem,if_true,if_false,Bool.false_eq_true,b1,is',show IntKind.i64.wrap ((20:Int)+20)=40 from rfl]
    exact⟨true,rfl,λ_=>he,by decide⟩
   ·have b1:¬((20:Int)<=(l.length:Int)):=by omega
    simp only[go_sem,if_true,if_false,Bool.false_eq_true,b1,is];refine DA (λ_:Unit=>⟨[(0,.own id l.length 0 l.length),(1,AI l.length),(2,.fn g caps),(6,AI 20)],h.set id (.row (some 8) (xB (ltC c) l) 0),[]⟩) (λ_=>True) (λ_=>0) () rfl trivial ?_
    intro _ _;simp only[go_sem,b2]
  | true=>
   have he:=ht rfl
   have e20:((l.length:Nat):Int)=20:=by omega
   have gen:∀z:Int,z=(l.length:Int)->∀K:jA,gA X XH [.own id l.length 0 l.length,AI z,AI l.length,.fn g caps] (h.set id (.row (some 8) (xB (ltC c) l) 0)) K=K (.tup []) (h.set id (.row (some 8) (xB (ltC c) l) 0)) []:=λz hz K=>by subst hz;exact i0 K
   have i0':=gen 20 (by omega)
   have b1:¬((40:Int)<=(l.length:Int)):=by omega
   simp only[go_sem,if_true,if_false,Bool.false_eq_true,b1,i0'];refine DA (λ_:Unit=>⟨[(0,.own id l.length 0 l.length),(1,AI l.length),(2,.fn g caps),(6,AI 20)],h.set id (.row (some 8) (xB (ltC c) l) 0),[]⟩) (λ_=>True) (λ_=>0) () rfl trivial ?_
   intro _ _;simp only[go_sem,b2]
 simp only[XU,go_sem,key]
theorem zfx {v:AV}{g:Nat}{caps:List AV}{p:PV->Bool}{xs:List PV}(hv:Shows (some 8) v xs h)(hp:KZ g caps p xs h)(hl:xs.length<=1000000000) :
 gA X wQ [v,.fn g caps] h K=K (AI (iG p xs)) h []:=by
 refine sA ?_;rw[zhB];have vl:=hv.len
 simp only[TU,go_sem,vl];refine DA (λk:Nat=>⟨[(0,v),(1,.fn g caps),(7,AI xs.length),(8,AI k)],h,[]⟩) (λk=>k<=xs.length/\∀x∈xs.take k,p x=false) (λk=>xs.length-k) 0 rfl (by simp) ?_
 rintro k ⟨hk,hn⟩
 rcases Nat.lt_or_ge k xs.length with hlt|hge
 ·obtain⟨a,ha,hb⟩:=hv.get k hlt
  have w2:IntKind.i64.wrap ((k:Int)+1)=((k+1:Nat):Int):=rA _ (by omega) (by omega)
  have ht:=hp _ (List.getElem_mem hlt)
  cases hpk:p xs[k]with
  | true=>
   have hf:xs.findIdx p=k:=by
    rw[List.findIdx_eq hlt];refine⟨hpk,λj hj=>?_⟩
    have:=hn xs[j] (by rw[List.mem_take_iff_getElem];exact⟨j,by omega,rfl⟩)
    simpa using this
   simp only[go_sem,hlt,ha,hb,ht,hpk,w2];simp only[iG,hf,hlt,if_true]
  | false=>
   simp only[go_sem,hlt,ha,hb,ht,hpk,w2];refine⟨k+1,rfl,⟨by omega,λx hx=>?_⟩,by omega⟩
   rw[List.take_succ_eq_append_getElem hlt,List.mem_append,List.mem_singleton]at hx;rcases hx with hx|hx
   ·exact hn x hx
   ·rw[hx];exact hpk
 ·have e1:k=xs.length:=by omega
  subst e1;simp only[go_sem,Nat.lt_irrefl];rw[List.take_length]at hn;have:¬xs.findIdx p<xs.length:=by
   rw[Nat.not_lt,Nat.le_iff_lt_or_eq];right
   exact(List.findIdx_eq_length.2 (λx hx=>by simp [hn x hx])).symm
  simp [iG,this]
theorem zfa {g:Nat}{caps:List AV}{p:PV->Bool}{xs:List PV}(hp:KZ g caps p xs h)(hs:VD (some 8) xs)(hl:xs.length<=1000000000) :
 gA X uQ [.p (.sl (some 8) xs),.fn g caps] h K=K (AB (xs.any p)) h []:=by
 refine sA ?_;rw[zh6];have vi:=λK=>zfx (h:=h) (K:=K) (zeh hs) hp hl
 simp only[OU,go_sem,vi,zpc]
end
section
variable {h:aA} {K:jA}
attribute [-go_sem] TA
def bL:PV->Ent
 | .agg [.str a,.int _ b,.int _ c,.int _ d,.str e,.str f,.str g,.int _ i]=>⟨a,b,c,d,e,f,g,i⟩
 | _=>vD
theorem z8t (x:Ent):bL x.pv=x:=rfl
theorem s_EF1 (o x:Ent)(id:Nat)(hx:h[id]?=some x.box):gA X dM [.p o.pv,.ref id 0] h K=K (AB (AD o x)) h []:=by
 refine sA ?_;rw[zha rfl];have q:=λh K=>ztm (h:=h) (K:=K) o x
 have hl:=oH hx
 have hx2:∀t,(h++t)[id]?=some x.box:=λt=>by rw[List.getElem?_append_left hl];exact hx
 simp only[Ent.pv]at q;unfold Ent.box at hx hx2;simp only[rU,Ent.pv,go_sem,hx,hx2,q]
attribute [-go_sem] z48
theorem zs0 (r:List Ent)(hr:∀ x∈r,EntOk x)(hn:r.length<=1000000):gA X iQ [EA r] h K=K (AI (PB r)) h []:=by
 refine sA ?_;rw[zgZ rfl];unfold PB;by_cases h1:(2000:Int)<r.length
 ·simp only[JP,go_sem,h1]
 simp only[JP,go_sem,h1];refine DA (λk:Nat=>⟨[(0,EA r),(11,EA r),(12,AI r.length),(13,AI k)],h,[]⟩) (λk=>k<=r.length/\wD (r.take k).getLast? (r.drop k)=wD none r/\∀x∈r.take k,TB x=0) (λk=>r.length-k) 0 rfl ⟨by omega,rfl,by simp⟩ ?_
 rintro k ⟨hkl,hp,hz⟩
 rcases Nat.lt_or_ge k r.length with hlt|hge
 ·have hg:=sB Ent.pv hlt
  have w2:IntKind.i64.wrap ((k:Int)+1)=((k+1:Nat):Int):=rA _ (by omega) (by omega)
  have hx:=hr _ (List.getElem_mem hlt)
  have hlast:(r.take (k+1)).getLast?=some r[k]:=by rw[List.take_succ_eq_append_getElem hlt];exact List.getLast?_concat
  rw[List.drop_eq_getElem_cons hlt,zaE]at hp;have cx:=iH (x:=r[k])
  have rf:=λh K=>zs1 (h:=h) (K:=K) r[k] hx
  simp only[Ent.pv]at rf;by_cases h2:TB r[k]=0
  ·rw[if_neg (by simp [h2])]at hp
   have hz':∀x∈r.take (k+1),TB x=0:=λx hx=>by
    rw[List.take_succ_eq_append_getElem hlt,List.mem_append,List.mem_singleton]at hx;rcases hx with hx|rfl
    ·exact hz x hx
    ·exact h2
   cases k with
   | zero=>
    simp only[List.take_zero,List.getLast?_nil,reduceCtorEq,if_false]at hp;have hlt0:(0:Int)<r.length:=by omega
    simp only[go_sem,hlt0,hg,cx,Ent.pv,rf,h2,Int.lt_irrefl,splice,show IntKind.i64.wrap 1=1 from rfl]
    exact⟨0+1,rfl,⟨by omega,by rw[hlast];exact hp,hz'⟩,by omega⟩
   | succ j=>
    have hj:j<r.length:=by omega
    have hgj:=sB Ent.pv hj
    have cj:=iH (x:=r[j])
    have hlj:(r.take (j+1)).getLast?=some r[j]:=by rw[List.take_succ_eq_append_getElem hj];exact List.getLast?_concat
    have w3:IntKind.i64.wrap (((j+1:Nat):Int)-1)=(j:Int):=by rw[rA _ (by omega) (by omega)];omega
    have p1:(0:Int)<((j+1:Nat):Int):=by omega
    have t1:=YP h2
    have t2:=YP (hz r[j] (by rw[List.mem_take_iff_getElem];exact⟨j,by omega,rfl⟩))
    have bt:=λh K=>zs2 (h:=h) (K:=K) r[j] r[j+1] t2 t1
    simp only[Ent.pv]at bt;rw[hlj]at hp;have hneg:=znO r[j+1] r[j]
    by_cases h3:xC r[j+1] r[j]<=0
    ·have h3':0<=xC r[j] r[j+1]:=by omega
     simp only[h3,decide_true,if_true]at hp;simp only[go_sem,hlt,hj,hg,hgj,cx,cj,Ent.pv,rf,h2,p1,w3,bt,h3',splice];rw[<-hp];rfl
    ·have h3':¬0<=xC r[j] r[j+1]:=by omega
     simp only[h3,decide_false,reduceCtorEq,if_false]at hp;simp only[go_sem,hlt,hj,hg,hgj,cx,cj,Ent.pv,rf,h2,p1,w3,bt,h3',w2,splice];exact⟨j+1+1,rfl,⟨by omega,by rw[hlast];exact hp,hz'⟩,by omega⟩
  ·rw[if_pos h2]at hp
   simp only[go_sem,hlt,hg,cx,Ent.pv,rf,h2,splice];rw[<-hp,if_pos h2]
 ·have ek:k=r.length:=by omega
  subst ek;rw[List.drop_length]at hp;have hz0:wD none r=0:=by rw[<-hp];cases (r.take r.length).getLast? <;> rfl
  rw[if_neg (by simp [hz0])]
  simp only[go_sem,Nat.lt_irrefl];rw[z48];simp only[qU,go_sem];refine DA (λk:Nat=>⟨[(0,EA r),(36,EA r),(37,AI r.length),(38,AI k)],h,[]⟩) (λk=>k<=r.length/\HE (r.take k) (r.drop k)=HE [] r) (λk=>r.length-k) 0 rfl ⟨by omega,rfl⟩ ?_
  rintro k ⟨hkl2,hp2⟩
  rcases Nat.lt_or_ge k r.length with hlt|hge
  ·have hg:=sB Ent.pv hlt
   have w2:IntKind.i64.wrap ((k:Int)+1)=((k+1:Nat):Int):=rA _ (by omega) (by omega)
   have cx:=iH (x:=r[k])
   rw[List.drop_eq_getElem_cons hlt,HE,<-List.take_succ_eq_append_getElem hlt]at hp2;have cf:=λK=>zfa (h:=h++[r[k].box]) (K:=K) (g:=dM) (caps:=[.ref h.length 0]) (p:=λv=>AD (bL v) r[k]) (xs:=(r.take k).map Ent.pv)
    (λv hv K=>by
     obtain⟨o,_,rfl⟩:=List.mem_map.1 hv;dsimp only;rw[z8t];exact s_EF1 o r[k] h.length (by simp)) zaB (by simp;omega)
   have ea:((r.take k).map Ent.pv).any (λv=>AD (bL v) r[k])=(r.take k).any (λo=>AD o r[k]):=by
    rw[List.any_map];rfl
   rw[ea]at cf;have hw:win (r.map Ent.pv) 0 k=(r.take k).map Ent.pv:=by simp [win,List.map_take]
   have hkl3:k<=r.length:=by omega
   unfold Ent.box at cf;cases hc:(r.take k).any (λo=>AD o r[k]) with
   | true=>
    rw[hc,if_pos rfl]at hp2;rw[hc]at cf;simp only[go_sem,hlt,hg,cx,Ent.pv,splice,hkl3,hw,↓cf,cf];rw[<-hp2];first|done|rfl
   | false=>
    rw[hc,if_neg (by simp)]at hp2
    rw[hc]at cf;simp only[go_sem,hlt,hg,cx,Ent.pv,splice,hkl3,hw,↓cf,cf,w2];exact⟨k+1,rfl,⟨by omega,hp2⟩,by omega⟩
  ·have ek:k=r.length:=by omega
   subst ek;rw[List.drop_length]at hp2;have:HE [] r=false:=by rw[<-hp2];rfl
   simp only[go_sem,Nat.lt_irrefl,this];first|done|rfl
end
section
variable {h:aA} {K:jA}
end
section
variable {h:aA} {K:jA}
theorem zu5 (k:Nat)(hk:k<256):∃b,([0,1,2,2,3,3,3,3,4,4,4,4,4,4,4,4,5,5,5,5,5,5,5,5,5,5,5,5,5,5,5,5,6,6,6,6,6,6,6,6,6,6,6,6,6,6,6,6,6,6,6,6,6,6,6,6,6,6,6,6,6,6,6,6,7,7,7,7,7,7,7,7,7,7,7,7,7,7,7,7,7,7,7,7,7,7,7,7,7,7,7,7,7,7,7,7,7,7,7,7,7,7,7,7,7,7,7,7,7,7,7,7,7,7,7,7,7,7,7,7,7,7,7,7,7,7,7,7,8,8,8,8,8,8,8,8,8,8,8,8,8,8,8,8,8,8,8,8,8,8,8,8,8,8,8,8,8,8,8,8,8,8,8,8,8,8,8,8,8,8,8,8,8,8,8,8,8,8,8,8,8,8,8,8,8,8,8,8,8,8,8,8,8,8,8,8,8,8,8,8,8,8,8,8,8,8,8,8,8,8,8,8,8,8,8,8,8,8,8,8,8,8,8,8,8,8,8,8,8,8,8,8,8,8,8,8,8,8,8,8,8,8,8,8,8,8,8,8,8,8,8,8,8,8,8,8]:List UInt8)[k]?=some b:=⟨_,List.getElem?_eq_getElem (Nat.lt_of_lt_of_eq hk (by kernel_rfl))⟩
theorem zco (x:Int)(h0:0<=x)(h1:x<256):∃m:Int,∀(h:aA) (K:jA),gA X VL [AU x] h K=K (AI m) h []:=by
 obtain⟨b,hb⟩:=zu5 x.toNat (by omega)
 refine⟨IntKind.i64.wrap (0+IntKind.i64.wrap b.toNat),λh K=>?_⟩
 have w:IntKind.u8.wrap x=x:=by simp [IntKind.wrap,IntKind.bits,IntKind.signed];omega
 have b1:¬(4294967296<=x):=by omega
 have b2:¬(65536<=x):=by omega
 have b3:¬(256<=x):=by omega
 have hn:=jW (k:=.u8) h0
 have key:∀(h:aA) (K:jA),gA X gQ [AU x] h K=K (AI (IntKind.i64.wrap (0+IntKind.i64.wrap b.toNat))) h []:=by
  intro h K;refine sA ?_;rw[zgH rfl];simp only[bU,go_sem,b1,b2,b3,w,hn,hb]
 refine sA ?_;rw[zgG rfl];simp only[aU,go_sem,key]
end
section
attribute [-go_sem] PV.cells splice
variable {h:aA} {K:jA}
theorem zpk (id n:Nat)(l tl:List PV)(hn:n=l.length+tl.length)(hs:VD none l)(hl:l.length<=1000)(hh:h[id]?=some (.row none (l++tl) 0)){lt:PV->PV->Bool}(hc:∀ x∈l,∀ y∈l,∀ (h:aA) (K:jA),gA X TH [.p x,.p y] h K=K (AB (lt x y)) h []) :
 gA X AQ [.own id n 0 l.length,AI 0,AI l.length] h K=K (.tup []) (h.set id (.row none (xB lt l++tl) 0)) []:=by
 refine sA ?_;rw[zhJ];have hid:=oH hh
 have hst:∀o,(h.set id o)[id]?=some o:=λo=>nI hid
 simp only[bV,go_sem,show IntKind.i64.wrap 1=1 from rfl]
 refine DA (λi:Nat=>⟨[(0,.own id n 0 l.length),(1,AI 0),(2,AI l.length),(6,AI i)],h.set id (.row none ((DD lt (l.take i)).reverse++(l.drop i++tl)) 0),[]⟩) (λi=>1<=i/\(i<=l.length∨i=1)) (λi=>l.length-i) 1 ?_ (by simp) ?_
 ·have:(DD lt (l.take 1)).reverse++(l.drop 1++tl)=l++tl:=by cases l <;> rfl
  rw[this,XK hh];rfl
 rintro i ⟨hi1,hi2⟩
 rcases Nat.lt_or_ge i l.length with hlt|hge
 ·simp only[go_sem,hlt]
  have hxl:l[i]∈l:=List.getElem_mem hlt
  generalize hx:l[i]=x at *;generalize hR:DD lt (l.take i)=R;have hRl:R.length=i:=by rw[<-hR,z5m];simp;omega
  have hRm:∀z∈R,z∈l:=λz hz=>List.mem_of_mem_take ((TQ lt (l.take i)).mem_iff.1 (by rw[hR];exact hz))
  have hdrop:l.drop i=x::l.drop (i+1):=by rw[<-hx];exact List.drop_eq_getElem_cons hlt
  have hnext:DD lt (l.take (i+1))=VB lt x R:=by rw[z5n _ _ _ hlt,hR,hx]
  refine DA (λt:List PV×List PV=>⟨[(0,.own id n 0 l.length),(1,AI 0),(2,AI l.length),(6,AI i),(7,AI t.1.length)],h.set id (.row none (t.1.reverse++x::t.2) 0),[]⟩)
   (λt=>∃B,R=B++t.1/\t.2=B.reverse++(l.drop (i+1)++tl)/\∀b∈B,lt x b=true) (λt=>t.1.length) (R,l.drop (i+1)++tl) (by rw[hdrop,hRl];rfl) ⟨[],rfl,rfl,by simp⟩ ?_
  rintro⟨A,C⟩ ⟨B,q1,q2,q3⟩
  dsimp only at q1 q2 q3;have hlen:(A.reverse++x::C).length=n:=by
   have:R.length=B.length+A.length:=by rw[q1];simp
   rw[q2];simp;omega
  have hBA:B.length+A.length<l.length:=by
   have:R.length=B.length+A.length:=by rw[q1];simp
   omega
  have hln:l.length<=n:=by omega
  have w1:IntKind.i64.wrap ((i:Int)+1)=((i+1:Nat):Int):=rA _ (by omega) (by omega)
  cases A with
  | nil=>
   have hd:VB lt x R=B++[x]:=by rw[q1];exact IM lt x [] B q3 (λy r h=>by cases h)
   simp only[go_sem,Int.lt_irrefl,w1];refine⟨i+1,?_,by omega,by omega⟩
   simp only[hnext,hd,q2,List.reverse_append,List.reverse_nil,List.nil_append,List.reverse_cons,List.append_assoc,List.cons_append]
  | cons y A=>
   have hyl:y∈l:=hRm y (by rw[q1];simp)
   have g1:=z5j (y::A) C x
   have g2:=z5k A C x y
   have sw:=z5l A C x y
   simp only[List.length_cons]at hBA;generalize hrow:(y::A).reverse++x::C=row at *;simp only[List.length_cons]at g1;have w2:IntKind.i64.wrap (((A.length+1:Nat):Int)-1)=(A.length:Int):=by rw[rA _ (by omega) (by omega)];omega
   have p1:(0:Int)<((A.length+1:Nat):Int):=by omega
   have b1:A.length+1<l.length:=by omega
   have b2:A.length<l.length:=by omega
   have cx:=oI (hs x hxl)
   have cy:=oI (hs y hyl)
   have hcc:=λh K=>hc x hxl y hyl h K
   cases hxy:lt x y with
   | false=>
    have hd:VB lt x R=B++x::y::A:=by rw[q1];exact IM lt x (y::A) B q3 (λz r h=>by cases h;exact hxy)
    simp only[go_sem,hst,p1,hlen,g1,g2,w2,b1,b2,hln,cx,cy,hcc,hxy,w1];refine⟨i+1,?_,by omega,by omega⟩
    simp only[hnext,hd,<-hrow,q2,List.reverse_append,List.reverse_cons,List.append_assoc,List.cons_append,List.nil_append]
   | true=>
    have g3:(row.set (A.length+1) y)[A.length]?=some y:=by rw[List.getElem?_set_ne (by omega),g2]
    have lx:=ZK (hs x hxl)
    have ly:=ZK (hs y hyl)
    have sx:=YK (hs x hxl)
    have sy:=YK (hs y hyl)
    simp only[kA]at lx ly;have t1:=λi xs h1=>aL (hs x hxl) (hs y hyl) id i 0 xs h1
    have t2:=λi xs h1=>aL (hs y hyl) (hs x hxl) id i 0 xs h1
    simp only[go_sem,hst,p1,hlen,g1,g2,g3,w2,b1,b2,hln,cx,cy,hcc,hxy,lx,ly,sx,sy,t1,t2,sw];refine⟨(A,y::C),rfl,⟨B++[y],by simp [q1],by simp [q2],λb hb=>?_⟩,by simp⟩
    rw[List.mem_append,List.mem_singleton]at hb;rcases hb with hb|rfl
    ·exact q3 b hb
    ·exact hxy
 ·have hge':¬i<l.length:=by omega
  have e1:l.take i=l:=List.take_of_length_le hge
  have e2:l.drop i=[]:=List.drop_of_length_le hge
  simp only[go_sem,hge',e1,e2];rfl
theorem zf5 (id n:Nat)(l tl:List PV)(hn:n=l.length+tl.length)(hs:VD none l)(hl:l.length<=12)(hh:h[id]?=some (.row none (l++tl) 0)){lt:PV->PV->Bool}(hc:∀ x∈l,∀ y∈l,∀ (h:aA) (K:jA),gA X TH [.p x,.p y] h K=K (AB (lt x y)) h []) :
 gA X rM [.own id n 0 l.length] h K=K (.tup []) (h.set id (.row none (xB lt l++tl) 0)) []:=by
 refine sA ?_;rw[zhH];have w0:IntKind.u64.wrap (l.length:Int)=l.length:=ze6 _ (by omega) (by omega)
 obtain⟨m,hm⟩:=zco (l.length:Int) (by omega) (by omega)
 have is:=λh' (hq:h'=h) K=>zpk (h:=h) (K:=K) id n l tl hn hs (by omega) hh hc
 have key:∀K:jA,gA X nK [.own id n 0 l.length,AI 0,AI l.length,AI m] h K=K (.tup []) (h.set id (.row none (xB lt l++tl) 0)) []:=by
  intro K;refine sA ?_;rw[zhL];simp only[dV,go_sem];refine DA (λ_:Unit=>⟨[(0,.own id n 0 l.length),(1,AI 0),(2,AI l.length),(3,AI m),(8,AB true),(9,AB true)],h,[]⟩) (λ_=>True) (λ_=>0) () rfl trivial ?_
  intro _ _;have w1:IntKind.i64.wrap ((l.length:Int)-0)=l.length:=by rw[rA _ (by omega) (by omega)];omega
  have b1:((l.length:Int)<=12):=by omega
  simp only[go_sem,w1,b1,is _ rfl]
 simp only[ZU,go_sem,w0,hm,key]
end
section
variable {L:List Int} {a:Int}
theorem NQ (hp:XA 14 a)(u v:Int)(huv:u<=v)(hu : -1000000000000<=u)(hv:v<=1000000000000):∃k a2:Int,a<=a2/\a2<=a+2 /\ -1099511627776<=k/\k<=1099511627776 /\
 Gen aF [AI u,AI v] L a a2 (AI k):=by
 have w1:IntKind.i64.wrap (u-1)=u-1:=rA _ (by omega) (by omega)
 have w2:IntKind.i64.wrap (v+1)=v+1:=rA _ (by omega) (by omega)
 by_cases hf:eC L a 12=0
 ·have hm:=HY (L:=L) (a:=a+1) (l:=[u-1,v+1,u,v,-1099511627776,1099511627776]) (by simp) (by simp)
  simp only[List.mem_cons,List.not_mem_nil,or_false]at hm;refine⟨zD [u-1,v+1,u,v,-1099511627776,1099511627776] L (a+1),a+1+1,by omega,by omega,by omega,by omega,Gen.of λh id hid=>?_⟩
  rw[rT rfl];simp only[PJ,go_sem,hid,gI hp,hf,w1,w2]
 ·have hm:=UR L (a+1) huv (by omega)
  refine⟨rD u v L (a+1),a+1+1,by omega,by omega,by omega,by omega,Gen.of λh id hid=>?_⟩
  rw[rT rfl];simp only[PJ,go_sem,hid,gI hp,hf,w1,w2,huv,show -1152921504606846976<=u by omega,show v<=1152921504606846976 by omega]
end
section
variable {L:List Int} {a:Int} {h l:aA} {id:Nat} {K:jA}
def isS:PV->Bool
 | .str _=>true
 | _=>false
def unS:PV->List UInt8
 | .str s=>s
 | _=>[]
def aC (l:List (List UInt8))(L:List Int)(a:Int):List UInt8:=l.getD (eC L a l.length).toNat []
theorem SK {l:List (List UInt8)}{L:List Int}{a:Int}(hl:0<l.length)(hl2:l.length<4611686018427387904):aC l L a∈l:=by
 obtain⟨b1,b2⟩:=fR L a l.length (by omega) (by omega)
 unfold aC;have:(eC L a l.length).toNat<l.length:=by omega
 simp only[List.getD,List.getElem?_eq_getElem this,Option.getD_some];exact List.getElem_mem _
theorem zuR {xs:List PV}(h:xs.all isS=true):xs=(xs.map unS).map PV.str:=by
 induction xs with
 | nil=>rfl
 | cons x r ih=>
  simp only[List.all_cons,Bool.and_eq_true]at h;simp only[List.map_cons];rw[<-ih h.2];cases x <;> first|rfl|cases h.1
theorem zbJ (hp:XA 0 a)(xs:List PV)(hx:xs.all isS=true)(hl:0<xs.length)(hl2:xs.length<4611686018427387904) :
 Gen yC [.p (.sl none xs)] L a (a+1) (AS (aC (xs.map unS) L a)):=by
 refine Gen.of λh id hid=>?_
 rw[zgW rfl];obtain⟨b1,b2⟩:=fR L a xs.length (by omega) (by omega)
 have e4:=jW (k:=.i64) b1
 have e5:xs[(eC L a xs.length).toNat]?=some (.str (aC (xs.map unS) L a)):=by
  have hm:=zuR hx
  generalize hq:xs.map unS=q at *;subst hm;simp only[List.length_map]at *;rw[sB PV.str (show(eC L a q.length).toNat<q.length by omega)]
  simp [aC,List.getD,show(eC L a q.length).toNat<q.length by omega]
 simp only[nU,go_sem,SO hid hp,e4,e5]
theorem zdK (hid:id<h.length)(hp:XA 0 a){xs:List PV}(hx:xs.all isS=true)(hl:0<xs.length)(hl2:xs.length<4611686018427387904) :
 gA X yC [.ref id 0,.p (.sl none xs)] (h.set id (GA L a)++l) K=K (AS (aC (xs.map unS) L a)) (h.set id (GA L (a+1))++l) []:=(zbJ hp xs hx hl hl2).app hid
theorem zdL (hp:XA 0 a){xs:List PV}(hx:xs.all isS=true)(hl:0<xs.length)(hl2:xs.length<4611686018427387904) :
 gA X yC [.ref 0 0,.p (.sl none xs)] (GA L a::l) K=K (AS (aC (xs.map unS) L a)) (GA L (a+1)::l) []:=(zbJ hp xs hx hl hl2).hd
attribute [go_sem ↓] zdK zdL
attribute [go_sem] zdK zdL isS unS
end
section
variable {L:List Int} {a:Int} {h l:aA} {id:Nat} {K:jA}
end
section
attribute [-go_sem] PV.cells splice
variable {h:aA} {K:jA}
end
section
attribute [-go_sem] PV.cells splice
variable {h:aA} {K:jA}
end
section
variable {L:List Int} {a:Int} {h l:aA} {id:Nat} {K:jA}
theorem zaa {b:Nat}{x:Esc}(hx:∀ y∈x,b<=y.1):∀k,close k x b=b:=by
 have hb:DG x b=b:=by
  unfold DG;induction x with
  | nil=>rfl
  | cons y r ih=>
   simp only[List.foldl_cons];rw[if_neg (by have:=hx y (by simp);omega)]
   exact ih (λz hz=>hx z (by simp [hz]))
 intro k;induction k with
 | zero=>rfl
 | succ k ih=>unfold close;rw[hb,ih]
theorem z8r {b:Nat}{x0 x:Esc}{e:List (Nat × AV)}{h:aA}(hx:∀ y∈x,b<=y.1):GE b x0 ⟨e,h,x⟩=⟨FG b e,h.take b,x0⟩:=by
 unfold GE;simp only[zaa hx];have hc:YB x b=true:=by
  unfold YB;rw[List.all_eq_true];intro y hy;simp [hx y hy]
 have hf:x.filter (λy=>decide (y.1<b))=[]:=by
  rw[List.filter_eq_nil_iff];intro y hy;have:=hx y hy;simp;omega
 rw[if_pos hc,hf,List.nil_append]
theorem zuO {b i t:Nat}{x0:Esc}{e:List (Nat × AV)}{h:aA}(hi:i<b):GE b x0 ⟨e,h,[(i,t)]⟩=⟨FG (max b t) e,h.take (max b t),(i,t)::x0⟩:=by
 unfold GE;have hb:close [(i,t)].length [(i,t)] b=max b t:=by simp [close,DG,hi]
 simp only[hb];have hc:YB [(i,t)] (max b t)=true:=by simp [YB];omega
 have hf:[(i,t)].filter (λy=>decide (y.1<max b t))=[(i,t)]:=by simp;omega
 rw[if_pos hc,hf];rfl
end
section
variable {α:Type}
structure Ordr (c:α->α->Int):Prop where
 neg:∀a b,c b a = - c a b
 trans:∀a b d,c a b<=0->c b d<=0->c a d<=0
theorem Ordr.refl {c:α->α->Int}(o:Ordr c)(a:α):c a a=0:=by have:=o.neg a a;omega
def ltO (c:α->α->Int)(a b:α):Bool:=decide (c a b<0)
theorem Ordr.weak {c:α->α->Int}(o:Ordr c):Weak (ltO c):=by
 refine⟨λa b h=>?_,λa b d h1 h2=>?_⟩
 ·simp only[ltO,decide_eq_true_eq,decide_eq_false_iff_not]at h ⊢
  have:=o.neg a b;omega
 ·simp only[ltO,decide_eq_false_iff_not]at h1 h2 ⊢
  have q1:=o.neg a b
  have q2:=o.neg b d
  have q3:=o.trans a b d (by omega) (by omega)
  have q4:=o.neg a d
  omega
def DJ (c:α->α->Int)(l:List α):Prop:=l.Pairwise λx y=>c x y<0
theorem iS {c:α->α->Int}(o:Ordr c):∀{l m:List α},DJ c l->DJ c m->(∀x,x∈l↔x∈m)->l=m
 | [],[],_,_,_=>rfl
 | [],y::m,_,_,h=>absurd ((h y).2 (by simp)) (by simp)
 | x::l,[],_,_,h=>absurd ((h x).1 (by simp)) (by simp)
 | x::l,y::m,h1,h2,h=>by
  have a1:=List.pairwise_cons.1 h1
  have a2:=List.pairwise_cons.1 h2
  have e:x=y:=by
   rcases List.mem_cons.1 ((h x).1 (by simp)) with e|e
   ·exact e
   ·rcases List.mem_cons.1 ((h y).2 (by simp)) with e'|e'
    ·exact e'.symm
    ·have b1:=a2.1 x e
     have b2:=a1.1 y e'
     have:=o.neg x y;omega
  subst e;rw[iS o a1.2 a2.2 λz=>?_]
  constructor
  ·intro hz
   rcases List.mem_cons.1 ((h z).1 (by simp [hz])) with e|e
   ·subst e;have:=a1.1 z hz;have:=o.refl z;omega
   ·exact e
  ·intro hz
   rcases List.mem_cons.1 ((h z).2 (by simp [hz])) with e|e
   ·subst e;have:=a2.1 z hz;have:=o.refl z;omega
   ·exact e
variable {c:α->α->Int} {q:α->α->Bool} {a b:List α}
theorem iP (o:Ordr c){l:List α}(hl:l.Pairwise λx y=>c x y≠0):DJ c (xB (ltO c) l):=by
 have h1:=zpp o.weak l
 have h2:(xB (ltO c) l).Pairwise λx y=>c x y≠0:=((z5p (ltO c) l).pairwise_iff (λ{x y} h=>by have:=o.neg x y;omega)).2 hl
 refine(h1.and h2).imp λ{x y} h=>?_
 have:=h.1;simp only[ltO,decide_eq_false_iff_not]at this;have h3:=o.neg x y
 have:=h.2;omega
end
section
variable {h:aA} {K:jA}
def z8b (a b:Rec):Bool:=decide (a.unit=b.unit)&&(decide (a.time=b.time)&&(decide (a.site=b.site)&&decide (a.res=b.res)))
theorem zt1 (a b:Rec):z8b a b=true↔a=b:=by
 cases a;cases b
 simp [z8b]
theorem sH {b:Nat}{P:jA}{vs:List AV}{h:aA}{x:Esc}(hx:∀ y∈x,b<=y.1){v:AV}(h1:aB b h (dB vs)=some v)(h2:v.top<=b):kD false b P (some vs) h x=P v (h.take b) []:=by
 have e:max b v.top=b:=by omega
 have c:YB x b=true:=by
  unfold YB;rw[List.all_eq_true];intro y hy;simp [hx y hy]
 have f:x.filter (λy=>decide (y.1<b))=[]:=by
  rw[List.filter_eq_nil_iff];intro y hy;have:=hx y hy;simp;omega
 simp only[kD,h1,e,zaa hx,c,if_true,f];exact propext ⟨λh=>h.2,λh=>⟨h2,h⟩⟩
theorem zdA (l:List Int)(hl:l.length<=1000):gA X WJ [AL l] h K=K (AI (orL l)) h []:=by
 refine sA ?_;rw[zgz rfl];simp only[LT,go_sem];refine DA (λk:Nat=>⟨[(5,AL l),(6,AI l.length),(7,AI k)],h,[]⟩) (λk=>k<=l.length/\orL (l.drop k)=orL l) (λk=>l.length-k) 0 rfl ⟨by omega,rfl⟩ ?_
 rintro k ⟨hk,hp⟩
 rcases Nat.lt_or_ge k l.length with hlt|hge
 ·have g2:=sB eI hlt
  have w2:IntKind.i64.wrap ((k:Int)+1)=((k+1:Nat):Int):=rA _ (by omega) (by omega)
  rw[List.drop_eq_getElem_cons hlt,orL]at hp;by_cases hz:l[k]=0
  ·rw[if_neg (by simp [hz])]at hp
   simp only[go_sem,hlt,g2,hz,w2];exact⟨k+1,rfl,⟨by omega,hp⟩,by omega⟩
  ·rw[if_pos hz]at hp
   simp only[go_sem,hlt,g2,hz];rw[hp]
 ·have ek:k=l.length:=by omega
  subst ek;rw[List.drop_length]at hp;simp only[go_sem,Nat.lt_irrefl];rw[<-hp];rfl
end
section
attribute [-go_sem] PV.cells splice
variable {h:aA} {K:jA}
end
section
variable {h:aA} {K:jA}
end
section
variable {h:aA} {K:jA}
instance:DecidableEq Rec:=λa b=>decidable_of_iff (z8b a b=true) (zt1 a b)
theorem zbq {ls:List (List PV)}{k:Nat}(hk:k<ls.length):(ls.take (k+1)).flatten=(ls.take k).flatten++ls[k]:=by
 rw[List.take_succ_eq_append_getElem hk,List.flatten_append];simp
theorem z4S:∀ (ls:List (List PV))(k:Nat),(ls.take k).flatten.length<=ls.flatten.length
 | [],k=>by simp
 | x::r,0=>by simp
 | x::r,k+1=>by
  have:=z4S r k;simp only[List.take_succ_cons,List.flatten_cons,List.length_append];omega
end
section
variable {h:aA} {K:jA}
theorem zi4 {a b c:List UInt8}(h1:LA a b<=0)(h2:LA b c<=0):LA a c<=0:=by
 by_cases e1:LA a b=0
 ·rw[uE e1];exact h2
 ·by_cases e2:LA b c=0
  ·rw[<-uE e2];exact h1
  ·have:=FT (a:=a) (b:=b) (c:=c) (by omega) (by omega)
   omega
end
def ltS (a b:List UInt8):Bool:=decide (LA a b<0)
theorem tR:Ordr LA:=⟨λa b=>zP a b,λa b d h1 h2=>zi4 h1 h2⟩
theorem zcy:ltS=ltO LA:=rfl
section
variable {h:aA} {K:jA}
abbrev OA (us:List (List UInt8)):AV:=.p (.sl none (us.map PV.str))
theorem fP {us:List (List UInt8)}:VD none (us.map PV.str):=λx hx=>by obtain⟨n,_,rfl⟩:=List.mem_map.1 hx;rfl
def RF:PV->List UInt8
 | .str s=>s
 | _=>[]
theorem z1r:∀ a b:List UInt8,Op.bytesLess a b=ltS a b
 | [],[]=>rfl
 | [],_::_=>rfl
 | _::_,[]=>rfl
 | a::x,b::y=>by
  have ih:=z1r x y
  unfold ltS at ih ⊢;unfold Op.bytesLess LA;rw[ih];by_cases h1:a<b
  ·simp [h1]
  ·by_cases h2:b<a
   ·have:¬a=b:=λe=>by subst e;exact UInt8.lt_irrefl _ h2
    simp [h1,h2,this]
   ·have:a=b:=by
     rcases UInt8.lt_or_lt_of_ne (a:=a) (b:=b) |> λf=>Classical.em (a=b) with e|e
     ·exact e
     ·rcases UInt8.lt_or_lt_of_ne e with h|h
      ·exact absurd h h1
      ·exact absurd h h2
    simp [h1,h2,this]
def ltPS (x y:PV):Bool:=ltS (RF x) (RF y)
theorem zpq (us:List (List UInt8)):xB ltPS (us.map PV.str)=(xB ltS us).map PV.str:=z5o PV.str (λa b=>rfl) us
end
section
variable {P:Program} {gl:Nat->Option PV}
open Go.Shelf
end
section
variable {P:Program} {gl:Nat->Option PV}
open Go.Shelf
end
section
variable {h:aA} {K:jA}
end
section
variable {h:aA} {K:jA}
end
section
variable {h:aA} {K:jA}
end
section
variable {h:aA} {K:jA}
end
section
variable {h:aA} {K:jA}
end
section
variable {h:aA} {K:jA}
end
section
variable {h:aA} {K:jA}
def Flt.pv (f:Flt):PV:=.agg [eI f.kind,.sl none (f.nets.map eI)]
end
section
variable {h:aA} {K:jA}
theorem AZ {v:AV}(l:List (List UInt8))(hv:Shows none v (l.map PV.str) h)(x:List UInt8)(hl:l.length<=1000000):gA X WI [v,AS x] h K=K (AI (if l.findIdx (λy=>decide (y=x))<l.length then(l.findIdx (λy=>decide (y=x)):Int) else -1)) h []:=by
 refine sA ?_;rw[zhD];have vl:=hv.len
 rw[List.length_map]at vl;simp only[VU,go_sem,vl];refine DA (λk:Nat=>⟨[(0,v),(1,AS x),(7,AI l.length),(8,AI k)],h,[]⟩) (λk=>k<=l.length/\∀y∈l.take k,decide (y=x)=false) (λk=>l.length-k) 0 rfl (by simp) ?_
 rintro k ⟨hk,hn⟩
 rcases Nat.lt_or_ge k l.length with hlt|hge
 ·obtain⟨a,ha,hb⟩:=hv.get k (by simpa using hlt)
  rw[List.getElem_map]at hb;have w2:IntKind.i64.wrap ((k:Int)+1)=((k+1:Nat):Int):=rA _ (by omega) (by omega)
  by_cases hpk:x=l[k]
  ·have hf:l.findIdx (λy=>decide (y=x))=k:=by
    rw[List.findIdx_eq hlt];refine⟨by simp [hpk],λj hj=>?_⟩
    have:=hn l[j] (by rw[List.mem_take_iff_getElem];exact⟨j,by omega,rfl⟩)
    simpa using this
   simp only[go_sem,hlt,ha,hb,hpk.symm,w2];simp only[hf,hlt,if_true]
  ·simp only[go_sem,hlt,ha,hb,hpk,w2]
   refine⟨k+1,rfl,⟨by omega,λy hy=>?_⟩,by omega⟩
   rw[List.take_succ_eq_append_getElem hlt,List.mem_append,List.mem_singleton]at hy;rcases hy with hy|hy
   ·exact hn y hy
   ·rw[hy];simp;exact λe=>hpk e.symm
 ·have e1:k=l.length:=by omega
  subst e1;simp only[go_sem,Nat.lt_irrefl];rw[List.take_length]at hn;have:¬l.findIdx (λy=>decide (y=x))<l.length:=by
   rw[Nat.not_lt,Nat.le_iff_lt_or_eq];right
   exact(List.findIdx_eq_length.2 (λy hy=>by simp [hn y hy])).symm
  rw[if_neg this]
theorem nS {v:AV}(l:List (List UInt8))(hv:∀ h':aA,h'=h->Shows none v (l.map PV.str) h')(x:List UInt8)(hl:l.length<=1000000):gA X WH [v,AS x] h K=K (AB (l.contains x)) h []:=by
 refine sA ?_;rw[zh7];have e:=λK=>AZ (h:=h) (K:=K) l (hv h rfl) x hl
 have hd:decide (0<=(if l.findIdx (λy=>decide (y=x))<l.length then(l.findIdx (λy=>decide (y=x)):Int) else -1))=l.contains x:=by
  rw[Bool.eq_iff_iff,decide_eq_true_eq,List.contains_iff_mem];constructor
  ·intro hq
   split at hq
   ·rename_i hlt
    have:=List.findIdx_getElem (w:=hlt);simp only[decide_eq_true_eq]at this;exact this ▸ List.getElem_mem hlt
   ·omega
  ·intro hm
   rw[if_pos (List.findIdx_lt_length_of_exists ⟨x,hm,by simp⟩)];omega
 simp only[PU,go_sem,e,hd]
theorem eP (ws:List (List UInt8)){h:aA}:Shows none (OA ws) (ws.map PV.str) h:=zeh fP
end
section
variable {h:aA} {K:jA}
end
section
variable {h:aA} {K:jA}
theorem ztF {o:Obj}{id:Nat}(hh:h[id]?=some o):h.set id o=h:=by
 apply List.ext_getElem?
 intro j;by_cases e:id=j
 ·subst e;rw[List.getElem?_set_self (oH hh),hh]
 ·rw[List.getElem?_set_ne e]
end
section
variable {h:aA} {K:jA}
end
section
variable {h:aA} {K:jA}
end
section
variable {h:aA} {K:jA}
end
theorem z93 {X:Ctx}{f:Nat}{F:AFun}{a:List AV}{vs:List PV}{h h1:aA}{P:jA}(hf:X.fn f=some F)(hr:F.byref=false)(hp:oA h a=some (vs.map .p,h1))(hq:oA h1 (vs.map .p)=some (vs.map .p,h1))(hl:vs.length=F.nparams)(hlen:h1.length=h.length):gA X f a h P=gA X f (vs.map .p) h1 P:=by
 cases hd:F.isDet with
 | false=>rw[tA hf hr hp (by simpa using hl) hd,tA hf hr hq (by simpa using hl) hd,hlen]
 | true=>rw[FI hf hr hp (by simpa using hl) hd,FI hf hr hq (by simpa using hl) hd,hlen]
theorem zbz {h:aA}{id k:Nat}:(frz h id k).length=h.length:=by
 unfold frz;split <;> simp
section
variable {h:aA} {K:jA}
end
section
variable {h:aA} {K:jA}
end
section
attribute [-go_sem] PV.cells splice
variable {h:aA} {K:jA}
end
section
variable {L:List Int} {a:Int} {h l:aA} {id:Nat} {K:jA}
def GenK (f:Nat)(args:List AV)(L:List Int)(a:Int)(sh:Sh)(Q:List PV->Int->Prop):Prop:=∀(h:aA) (id:Nat),h[id]?=some (GA L a)->∃xs a2,Q xs a2/\∀K:jA,gA X f (.ref id 0::args) h K=K (.own h.length xs.length 0 xs.length) (h.set id (GA L a2)++[.row sh xs 0]) []
theorem GenK.of {f:Nat}{args:List AV}{L:List Int}{a:Int}{sh:Sh}{Q:List PV->Int->Prop}(H:∀ (h:aA) (id:Nat),id<h.length->gA X f (.ref id 0::args) (h.set id (GA L a)) λv1 h1 x1=>∃ xs a2,Q xs a2/\v1 = .own h.length xs.length 0 xs.length/\h1=h.set id (GA L a2)++[.row sh xs 0]/\x1=[]):GenK f args L a sh Q:=by
 intro h id hh;have hid:=oH hh
 have k:=H h id hid
 rw[XK hh]at k;obtain⟨v,h',x,⟨xs,a2,q,e0,e1,e2⟩,r⟩:=gA.one z9m k;subst e0;subst e1;subst e2
 exact⟨xs,a2,q,r⟩
end
section
variable {L:List Int} {a:Int} {h l:aA} {id:Nat} {K:jA}
end
section
variable {h:aA} {K:jA}
theorem zaD:∀ {rs:List Ent}{p:Option Ent},wD p rs=0->∀r∈rs,TB r=0
 | [],p,_,r,hr=>by cases hr
 | x::rs,p,hf,r,hr=>by
  have e:wD p (x::rs)=(if TB x≠0 then TB x else if(p.elim false λq=>decide (xC x q<=0))=true then 7 else wD (some x) rs):=by cases p <;> rfl
  have hf':=hf
  rw[e]at hf';by_cases h1:TB x=0
  ·rw[if_neg (by simp [h1])]at hf'
   by_cases h2:(p.elim false λq=>decide (xC x q<=0))=true
   ·rw[if_pos h2]at hf';exact absurd hf' (by decide)
   ·rw[if_neg h2]at hf'
    rcases List.mem_cons.1 hr with e|e
    ·rw[e];exact h1
    ·exact zaD hf' r e
  ·rw[if_pos h1]at hf';exact absurd hf' h1
theorem znT {rs:List Ent}(hf:PB rs=0):∀r∈rs,TB r=0:=by
 unfold PB at hf;split at hf
 ·cases hf
 split at hf
 ·rename_i h;exact absurd hf h
 ·rename_i h
  exact zaD (by simpa using h)
end
section
variable {h:aA} {K:jA}
end
section
variable {h:aA} {K:jA}
end
section
variable {h:aA} {K:jA}
end
section
variable {h:aA} {K:jA}
end
section
variable {L:List Int} {a:Int} {h l:aA} {id:Nat} {K:jA}
end
section
attribute [-go_sem] PV.cells splice
variable {h:aA} {K:jA}
attribute [-go_sem] AV.cells cut
attribute [go_sem] AV.cells cut
end
section
variable {L:List Int} {a:Int} {h l:aA} {id:Nat} {K:jA}
end
section
attribute [-go_sem] PV.cells splice
variable {h:aA} {K:jA}
end
section
variable {L:List Int} {a:Int} {h:aA} {K:jA}
end
section
variable {h:aA} {K:jA}
end
section
variable {h:aA} {K:jA}
end
section
variable {h:aA} {K:jA}
end
section
variable {h:aA} {K:jA}
end
section
variable {h:aA} {K:jA}
end
section
variable {h:aA} {K:jA}
end
section
variable {h:aA} {K:jA}
end
section
variable {h:aA} {K:jA}
end
section
variable {h:aA} {K:jA}
end
section
variable {L:List Int} {a:Int} {h l:aA} {id:Nat} {K:jA}
attribute [-go_sem] TA
def JD:List (List UInt8):=[[],[65],[98,49],[98,50],[98,51],[98,52]]
structure EntV (x:Ent):Prop where
 s:x.site.length<=1000
 b:x.board.length<=1000
 p:x.step.length<=1000
 o:x.of.length<=1000
 n : -100000000000000000<=x.no/\x.no<=100000000000000000
 t : -100000000000000000<=x.time/\x.time<=100000000000000000
 z:x.site≠[122,122]/\(x.time<=1000∨345686399999<x.time)
 w:x.board∈JD
theorem zoM (hp:XA 14 a)(u v:Int)(huv:u<=v)(hu : -1000000000000<=u)(hv:v<=1000000000000):∃k a2:Int,a<=a2/\a2<=a+2 /\ -1099511627776<=k/\k<=1099511627776/\(k<=v+1∨k=1099511627776) /\
 Gen aF [AI u,AI v] L a a2 (AI k):=by
 have w1:IntKind.i64.wrap (u-1)=u-1:=rA _ (by omega) (by omega)
 have w2:IntKind.i64.wrap (v+1)=v+1:=rA _ (by omega) (by omega)
 by_cases hf:eC L a 12=0
 ·have hm:=HY (L:=L) (a:=a+1) (l:=[u-1,v+1,u,v,-1099511627776,1099511627776]) (by simp) (by simp)
  simp only[List.mem_cons,List.not_mem_nil,or_false]at hm;refine⟨zD [u-1,v+1,u,v,-1099511627776,1099511627776] L (a+1),a+1+1,by omega,by omega,by omega,by omega,by omega,Gen.of λh id hid=>?_⟩
  rw[rT rfl];simp only[PJ,go_sem,hid,gI hp,hf,w1,w2]
 ·have hm:=UR L (a+1) huv (by omega)
  refine⟨rD u v L (a+1),a+1+1,by omega,by omega,by omega,by omega,by omega,Gen.of λh id hid=>?_⟩
  rw[rT rfl];simp only[PJ,go_sem,hid,gI hp,hf,w1,w2,huv,show -1152921504606846976<=u by omega,show v<=1152921504606846976 by omega]
theorem EntV.ok {x:Ent}(v:EntV x):EntOk x:=⟨by have:=v.s;omega,by have:=v.b;omega,by have:=v.p;omega,by have:=v.o;omega⟩
theorem zs3 (a b:Ent)(ha:EntV a)(hb:EntV b):gA X VH [.p a.pv,.p b.pv] h K=K (AI (xC a b)) h []:=by
 refine sA ?_;rw[z9J rfl];have a1:=ha.t
 have a2:=hb.t
 have a3:=ha.n
 have a4:=hb.n
 have w:IntKind.i64.wrap (a.time-b.time)=a.time-b.time:=rA _ (by omega) (by omega)
 have w2:IntKind.i64.wrap (a.no-b.no)=a.no-b.no:=rA _ (by omega) (by omega)
 unfold xC;by_cases he:a.time=b.time
 ·have:uB a.time b.time=0:=by rw[he];unfold uB;simp
  rw[if_neg (by simp [this])]
  by_cases hs:a.site=b.site
  ·have hc:LA a.site b.site=0:=by rw[hs];exact AP _
   rw[if_neg (by simp [hc]),ET]
   simp only[NH,Ent.pv,go_sem,he,hs,w2,aS]
  ·have hc:LA a.site b.site≠0:=λe=>hs (uE e)
   rw[if_pos hc];simp only[NH,Ent.pv,go_sem,he,hs,XY]
 ·have hc:uB a.time b.time≠0:=by unfold uB;split <;> (try split) <;> omega
  rw[if_pos hc];rw[ET];simp only[NH,Ent.pv,go_sem,he,w,aS]
theorem rJ {l:List (List UInt8)}(hl:0<l.length)(hl2:l.length<100)(m:Nat)(h:∀ s∈l,s.length<=m):(aC l L a).length<=m:=h _ (SK hl (by omega))
theorem z4F (hid:id<h.length)(hp:XA 60 a)(es:List Ent)(hes:es.length<=1000)(x:Ent)(hx:EntV x)(M:Obj)(v6 v11 v12:AV)(K:Ex->St->Prop)
 (hK:∀(x':Ent) (a':Int) (J:aA),EntV x'->a<=a'->a'<=a+10 ->
  K .normal ⟨[(0,.ref id 0),(5,.own h.length (es.length+1) 0 (es.length+1)),(6,v6),(7,.mp (h.length+1)),(11,v11),(12,v12)],h.set id (GA L a') ++ .row (some 8) (es.map Ent.pv++[x'.pv]) 0::M::J,[]⟩) :
 eH (gA X) X.gl OW (.ref id 0) (.own h.length es.length 0 es.length) v6 (.mp (h.length+1)) (.ref (h.length+2) 0) v11 v12
  (h.set id (GA L a)++[.row (some 8) (es.map Ent.pv) 0,M,x.box]) [] K:=by
 have P:=gI (fC hp (Int.le_refl a) (by omega))
 have hmx:es.length+1<=bB:=by unfold bB;omega
 have e1:h.length+1<h.length+3+1:=by omega
 obtain⟨site,no,time,kind,board,step,of,other⟩:=x;obtain⟨xs,xb,xp,xo,xn,xt,xz,xw⟩:=hx;dsimp only at xs xb xp xo xn xt xz xw;unfold Ent.box;dsimp only;by_cases hf:eC L a 100=0
 ·by_cases h0:eC L (a+1) 3=0
  ·obtain⟨kv,a3,c1,c2,c3,c4,O⟩:=NQ (L:=L) (a:=a+1+1+1) (fC hp (by omega) (by omega)) 1 9 (by omega) (by omega) (by omega)
   have O':=λl K=>O.app (h:=h) (id:=id) (l:=l) (K:=K) hid
   obtain⟨kv2,a4,d1,d2,d3,d4,d5,O2⟩:=zoM (L:=L) (a:=a3) (fC hp (by omega) (by omega)) 0 100 (by omega) (by omega) (by omega)
   have O2':=λl K=>O2.app (h:=h) (id:=id) (l:=l) (K:=K) hid
   have p1:(aC [[],site] L (a+1+1)).length<=1000:=rJ (by simp) (by simp) 1000 (λs hs=>by simp only[List.mem_cons,List.not_mem_nil,or_false]at hs;rcases hs with e|e <;> rw[e] <;> first|omega|simp)
   have p9:aC [[],site] L (a+1+1)≠[122,122]:=λe=>by
    have:=SK (l:=[[],site]) (L:=L) (a:=a+1+1) (by simp) (by simp)
    simp only[List.mem_cons,List.not_mem_nil,or_false]at this;rw[e]at this;rcases this with h|h
    ·cases h
    ·exact xz.1 h.symm
   simp only[eH,go_sem,hid,P,hf,h0,↓O',O',↓O2',O2',hmx];exact hK ⟨aC [[],site] L (a+1+1),kv,kv2,kind,board,step,of,other⟩ a4 _ ⟨p1,xb,xp,xo,by dsimp only;omega,by dsimp only;omega,⟨p9,by dsimp only;omega⟩,xw⟩ (by omega) (by omega)
  ·by_cases h1:eC L (a+1) 3=1
   ·obtain⟨kv,a3,c1,c2,c3,c4,O⟩:=NQ (L:=L) (a:=a+1+1) (fC hp (by omega) (by omega)) 1 7 (by omega) (by omega) (by omega)
    have O':=λl K=>O.app (h:=h) (id:=id) (l:=l) (K:=K) hid
    have P2:=gI (fC hp (show a<=a3 by omega) (show a3+14<=a+60 by omega))
    have p1:(aC [[],[65],board] L a3).length<=1000:=rJ (by simp) (by simp) 1000 (λs hs=>by simp only[List.mem_cons,List.not_mem_nil,or_false]at hs;rcases hs with e|e|e <;> rw[e] <;> first|omega|simp)
    have p2:(aC [[],[115,99,97,110]] L (a3+1)).length<=1000:=rJ (by simp) (by simp) 1000 (λs hs=>by simp only[List.mem_cons,List.not_mem_nil,or_false]at hs;rcases hs with e|e <;> rw[e] <;> simp)
    have pw:aC [[],[65],board] L a3∈JD:=by
     have:=SK (l:=[[],[65],board]) (L:=L) (a:=a3) (by simp) (by simp)
     simp only[List.mem_cons,List.not_mem_nil,or_false]at this;rcases this with h|h|h
     ·rw[h];simp [JD]
     ·rw[h];simp [JD]
     ·rw[h];exact xw
    simp only[eH,go_sem,hid,P,P2,hf,h0,h1,↓O',O',hmx];exact hK ⟨site,no,time,kv,aC [[],[65],board] L a3,aC [[],[115,99,97,110]] L (a3+1),of,other⟩ (a3+1+1) _ ⟨xs,p1,p2,xo,xn,xt,xz,pw⟩ (by omega) (by omega)
   ·obtain⟨kv,a3,c1,c2,c3,c4,O⟩:=NQ (L:=L) (a:=a+1+1+1) (fC hp (by omega) (by omega)) 0 5 (by omega) (by omega) (by omega)
    have O':=λl K=>O.app (h:=h) (id:=id) (l:=l) (K:=K) hid
    have p1:(aC [[],[115,97]] L (a+1+1)).length<=1000:=rJ (by simp) (by simp) 1000 (λs hs=>by simp only[List.mem_cons,List.not_mem_nil,or_false]at hs;rcases hs with e|e <;> rw[e] <;> simp)
    simp only[eH,go_sem,hid,P,hf,h0,h1,↓O',O',hmx];exact hK ⟨site,no,time,kind,board,step,aC [[],[115,97]] L (a+1+1),kv⟩ a3 _ ⟨xs,xb,xp,p1,xn,xt,xz,xw⟩ (by omega) (by omega)
 ·simp only[eH,go_sem,hid,P,hf,hmx]
  exact hK ⟨site,no,time,kind,board,step,of,other⟩ (a+1) _ ⟨xs,xb,xp,xo,xn,xt,xz,xw⟩ (by omega) (by omega)
end
section
variable {L:List Int} {a:Int} {h l:aA} {id:Nat} {K:jA}
attribute [-go_sem] TA UA ZA eH KL
def WC (n:Int):AV:=.p (.int .i64 n)
def MB (m:Int)(l:List (List UInt8 × Int)):Prop:=∀s v,iB s l=some v->0<=v/\v<=m
theorem MB.upd {m:Int}{l:List (List UInt8 × Int)}(H:MB m l)(s:List UInt8){c:Int}(h0:0<=c)(h1:c<=m+1):MB (m+1) (IB s c l):=λs' v hv=>by
 rw[FM]at hv;split at hv
 ·cases hv;exact⟨h0,h1⟩
 ·have:=H s' v hv;omega
abbrev EH (h:aA)(id:Nat)(L:List Int)(a:Int)(es:List Ent)(M:List (List UInt8 × Int))(x:Ent):aA:=h.set id (GA L a)++[.row (some 8) (es.map Ent.pv) 0,lA PV.str WC M,x.box]
theorem zaC (hid:id<h.length)(hp:XA 80 a)(es:List Ent)(hes:es.length<=1000)(x:Ent)(hx:EntV x)(M:List (List UInt8 × Int))(v6 v11 v12:AV)(K:Ex->St->Prop)
 (hK:∀(x':Ent) (a':Int) (J:aA),EntV x'->a<=a'->a'<=a+12 ->
  K .normal ⟨[(0,.ref id 0),(5,.own h.length (es.length+1) 0 (es.length+1)),(6,v6),(7,.mp (h.length+1)),(11,v11),(12,v12)],h.set id (GA L a') ++ .row (some 8) (es.map Ent.pv++[x'.pv]) 0::lA PV.str WC M::J,[]⟩) :
 NW (gA X) X.gl yR ⟨[(0,.ref id 0),(5,.own h.length es.length 0 es.length),(6,v6),(7,.mp (h.length+1)),(9,.ref (h.length+2) 0),(11,v11),(12,v12)],EH h id L a es M x,[]⟩ (iC 2 (mD (gA X) X.gl zR K)):=by
 have P:=gI (fC hp (Int.le_refl a) (by omega))
 obtain⟨site,no,time,kind,board,step,of,other⟩:=x;obtain⟨xs,xb,xp,xo,xn,xt,xz,xw⟩:=hx;dsimp only at xs xb xp xo xn xt xz xw;unfold EH Ent.box;dsimp only;by_cases k2:kind=2
 ·have p1:(aC [[115,99,97,110],[115,99,97,110],[102,108,97,115,104],[98,117,114,110]] L a).length<=1000:=rJ (by simp) (by simp) 1000 (λs hs=>by simp only[List.mem_cons,List.not_mem_nil,or_false]at hs;rcases hs with e|e|e|e <;> rw[e] <;> simp)
  simp only[go_sem,hid,P,eq_true k2];rw[KL];refine z4F hid (fC hp (by omega) (by omega)) es hes ⟨site,no,time,kind,board,aC [[115,99,97,110],[115,99,97,110],[102,108,97,115,104],[98,117,114,110]] L a,of,other⟩ ⟨xs,xb,p1,xo,xn,xt,xz,xw⟩ (lA PV.str WC M) v6 v11 v12 K (λx' a' J h1 h2 h3=>hK x' a' J h1 (by omega) (by omega))
 ·simp only[go_sem,hid,P,k2]
  rw[KL];refine z4F hid (fC hp (by omega) (by omega)) es hes ⟨site,no,time,kind,board,step,of,other⟩ ⟨xs,xb,xp,xo,xn,xt,xz,xw⟩ (lA PV.str WC M) v6 v11 v12 K (λx' a' J h1 h2 h3=>hK x' a' J h1 (by omega) (by omega))
attribute [-go_sem] z45
theorem znR (hid:id<h.length)(hp:XA 120 a)(es:List Ent)(hes:es.length<=1000)(x:Ent)(hx:EntV x)(M:List (List UInt8 × Int))(m:Int)(hm:0<=m/\m<=1000)(hM:MB m M)(k:Nat)(v6 v11 v12:AV)(K:Ex->St->Prop)
 (hK:∀(x':Ent) (a':Int) (M':List (List UInt8×Int)) (J:aA),EntV x'->a<=a'->a'<=a+15->MB (m+1) M' ->
  K .normal ⟨[(0,.ref id 0),(5,.own h.length (es.length+1) 0 (es.length+1)),(6,v6),(7,.mp (h.length+1)),(11,v11),(12,v12)],h.set id (GA L a') ++ .row (some 8) (es.map Ent.pv++[x'.pv]) 0::lA PV.str WC M'::J,[]⟩) :
 OJ (gA X) X.gl yR zR (.ref id 0) (.own h.length es.length 0 es.length) v6 (.mp (h.length+1)) (AI k) (.ref (h.length+2) 0) v11 v12 (EH h id L a es M x) [] K:=by
 have P:=gI (fC hp (Int.le_refl a) (by omega))
 obtain⟨site,no,time,kind,board,step,of,other⟩:=x;obtain⟨xs,xb,xp,xo,xn,xt,xz,xw⟩:=hx;dsimp only at xs xb xp xo xn xt xz xw;obtain⟨c,hc,c0,c1⟩:∃c,(iB site M).getD 0=c/\0<=c/\c<=m:=by
  cases hg:iB site M with
  | none=>exact⟨0,rfl,by omega,hm.1⟩
  | some v=>exact⟨v,rfl,hM site v hg⟩
 have wc:IntKind.i64.wrap (c+1)=c+1:=rA _ (by omega) (by omega)
 have hM':=hM.upd site (c:=c+1) (by omega) (by omega)
 have gu:iB site (IB site (c+1) M)=some (c+1):=by rw[FM,if_pos rfl]
 have lk:=λ(hp:aA) (M:List (List UInt8×Int)) (e:hp[h.length+1]?=some (lA PV.str WC M))=>qH (kk:=(none,[2])) (k:=site) PG e iF (ok:=false) (z:=WC 0)
 have up:=λ(hp:aA) (e:hp[h.length+1]?=some (lA PV.str WC M))=>HK (kk:=(none,[2])) (k:=site) PG e iF (v:=c+1) rfl
 have gt:∀(R:Obj) (M:List (List UInt8×Int)) (t:aA),(h.set id (GA L a)++R::lA PV.str WC M::t)[h.length+1]?=some (lA PV.str WC M):=λR M t=>by
  rw[List.getElem?_append_right (by simp)];simp
 have l1:=λR t=>lk (h.set id (GA L a)++R::lA PV.str WC M::t) M (gt R M t)
 have l2:=λR t=>lk (h.set id (GA L a)++R::lA PV.str WC (IB site (c+1) M)::t) _ (gt R _ t)
 have u1:=λR t=>up (h.set id (GA L a)++R::lA PV.str WC M::t) (gt R M t)
 have eo:(Option.map WC (iB site M)).getD (WC 0)=AI c:=by
  rw[<-hc];cases iB site M <;> rfl
 have es0:∀(R:Obj) (t:aA) (o:Obj),(h.set id (GA L a)++R::lA PV.str WC M::t).set (h.length+1) o=h.set id (GA L a)++R::o::t:=λR t o=>by
  rw[List.set_append_right _ _ (by simp)];simp
 simp only[cond_false,eo]at l1;simp only[cond_false,gu,Option.map_some,Option.getD_some,WC,dC,AV.top,Nat.not_lt_zero,if_false,es0]at l1 l2 u1;unfold EH Ent.box;dsimp only;by_cases k7:kind=7
 ·have p1:(aC [[115,97],[115,98]] L a).length<=1000:=rJ (by simp) (by simp) 1000 (λs hs=>by simp only[List.mem_cons,List.not_mem_nil,or_false]at hs;rcases hs with e|e <;> rw[e] <;> simp)
  simp only[OJ,go_sem,hid,P,eq_true k7,l1,l2,u1,wc];rw[KL];refine z4F hid (fC hp (by omega) (by omega)) es hes ⟨site,c+1,time,kind,board,step,aC [[115,97],[115,98]] L a,rD 1 8 L (a+1)⟩ ⟨xs,xb,xp,p1,by dsimp only;omega,xt,xz,xw⟩ (lA PV.str WC (IB site (c+1) M)) v6 v11 v12 K (λx' a' J h1 h2 h3=>hK x' a' _ J h1 (by omega) (by omega) hM')
 ·obtain⟨bb,gb,lb,wb⟩:∃bb:List UInt8,([.str [98,49],.str [98,50],.str [98,51]]:List PV)[k%3]?=some (.str bb)/\bb.length<=1000/\bb∈JD:=by
   have h3:k%3<3:=Nat.mod_lt _ (by omega)
   generalize k%3=j at h3;match j,h3 with
   | 0,_=>exact⟨_,rfl,by simp,by simp [JD]⟩
   | 1,_=>exact⟨_,rfl,by simp,by simp [JD]⟩
   | 2,_=>exact⟨_,rfl,by simp,by simp [JD]⟩
  have tm:(k:Int).tmod 3=((k%3:Nat):Int):=by
   rw[Int.tmod_eq_emod_of_nonneg (by omega)];omega
  have hk3:k%3<3:=Nat.mod_lt _ (by omega)
  have cw:∀v:List UInt8,NA none 0 (PV.str v)=some (PV.str v):=λ_=>rfl
  by_cases k3:(3:Int)<=(k:Int)
  ·have p1:(aC [[98,49],[98,49],[98,50],[98,51],[98,52]] L a).length<=1000:=rJ (by simp) (by simp) 1000 (λs hs=>by simp only[List.mem_cons,List.not_mem_nil,or_false]at hs;rcases hs with e|e|e|e|e <;> rw[e] <;> simp)
   have pw:aC [[98,49],[98,49],[98,50],[98,51],[98,52]] L a∈JD:=by
    have:=SK (l:=[[98,49],[98,49],[98,50],[98,51],[98,52]]) (L:=L) (a:=a) (by simp) (by simp)
    simp only[List.mem_cons,List.not_mem_nil,or_false]at this;rcases this with e|e|e|e|e <;> rw[e] <;> simp [JD]
   simp only[OJ,go_sem,hid,P,k7,l1,l2,u1,wc,tm,gb,hk3,cw,k3];exact zaC hid (fC hp (by omega) (by omega)) es hes ⟨site,c+1,time,kind,aC [[98,49],[98,49],[98,50],[98,51],[98,52]] L a,step,of,other⟩ ⟨xs,p1,xp,xo,by dsimp only;omega,xt,xz,pw⟩ (IB site (c+1) M) v6 v11 v12 K (λx' a' J h1 h2 h3=>hK x' a' _ J h1 (by omega) (by omega) hM')
  ·simp only[OJ,go_sem,hid,P,k7,l1,l2,u1,wc,tm,gb,hk3,cw,k3]
   exact zaC hid (fC hp (by omega) (by omega)) es hes ⟨site,c+1,time,kind,bb,step,of,other⟩ ⟨xs,lb,xp,xo,by dsimp only;omega,xt,xz,wb⟩ (IB site (c+1) M) v6 v11 v12 K (λx' a' J h1 h2 h3=>hK x' a' _ J h1 (by omega) (by omega) hM')
end
section
variable {L:List Int} {a:Int} {h l:aA} {id:Nat} {K:jA}
attribute [-go_sem] TA UA ZA eH KL z45 z47
theorem zaG {P:Ent->Prop}:∀{xs:List PV},(∀x∈xs,∃r,P r/\x=Ent.pv r)->∃rs:List Ent,(∀r∈rs,P r)/\xs=rs.map Ent.pv
 | [],_=>⟨[],by simp,rfl⟩
 | x::xs,h=>by
  obtain⟨r,h1,h2⟩:=h x (by simp)
  obtain⟨rs,h3,h4⟩:=zaG (xs:=xs) (λy hy=>h y (List.mem_cons_of_mem _ hy))
  refine⟨r::rs,λz hz=>?_,by rw[h2,h4];rfl⟩
  rcases List.mem_cons.1 hz with rfl|hz
  ·exact h1
  ·exact h3 z hz
theorem zoK (hp:XA 4000 a)(n:Nat)(hn:n<=20) :
 VF aM [AI n] L a (λv a2=>a<=a2/\a2<=a+1000/\∃rs:List Ent,rs.length<=n/\(∀r∈rs,EntV r)/\v=EA rs):=by
 refine VF.of λh id hid=>?_
 rw[zgQ rfl];simp only[iU,go_sem,hid];refine DA (λt:List Ent×Int×Int×List (List UInt8×Int)=>⟨[(0,.ref id 0),(5,.own h.length t.1.length 0 t.1.length),(6,AI t.2.1),(7,.mp (h.length+1)),(11,AI n),(12,AI t.1.length)],h.set id (GA L t.2.2.1)++[.row (some 8) (t.1.map Ent.pv) 0,lA PV.str WC t.2.2.2],[]⟩)
  (λt=>t.1.length<=n/\(∀r∈t.1,EntV r)/\(a<=t.2.2.1/\t.2.2.1<=a+40*t.1.length)/\(0<=t.2.1/\t.2.1<=10*t.1.length)/\MB t.1.length t.2.2.2) (λt=>n-t.1.length) ([],0,a,[]) rfl ⟨by simp,by simp,by simp,by simp,λs v h=>by simp [iB]at h⟩ ?_
 rintro⟨es,t,b,M⟩ ⟨q1,q2,⟨q3,q4⟩,⟨q5,q6⟩,q7⟩
 dsimp only at q1 q2 q3 q4 q5 q6 q7;rcases Nat.lt_or_ge es.length n with hlt|hge
 ·have P:=gI (fC hp q3 (show b+14<=a+4000 by omega))
  have w1:IntKind.i64.wrap ((es.length:Int)+1)=((es.length+1:Nat):Int):=rA _ (by omega) (by omega)
  have m1:=HY (L:=L) (a:=b) (l:=[0,1,1,3,10]) (by simp) (by simp)
  have b1:0<=zD [0,1,1,3,10] L b/\zD [0,1,1,3,10] L b<=10:=by
   simp only[List.mem_cons,List.not_mem_nil,or_false]at m1;omega
  have w2:IntKind.i64.wrap (t+zD [0,1,1,3,10] L b)=t+zD [0,1,1,3,10] L b:=rA _ (by omega) (by omega)
  have ps:(aC [[115,97],[115,97],[115,98]] L (b+1)).length<=1000:=rJ (by simp) (by simp) 1000 (λs hs=>by simp only[List.mem_cons,List.not_mem_nil,or_false]at hs;rcases hs with e|e|e <;> rw[e] <;> simp)
  have pz:aC [[115,97],[115,97],[115,98]] L (b+1)≠[122,122]:=λe=>by
   have:=SK (l:=[[115,97],[115,97],[115,98]]) (L:=L) (a:=b+1) (by simp) (by simp)
   rw[e]at this;revert this;decide
  obtain⟨t',ht'⟩:∃t',t+zD [0,1,1,3,10] L b=t':=⟨_,rfl⟩;have ht2:0<=t'/\t'<=10*(es.length+1):=by omega
  rw[ht']at w2;have fin:∀(kd:Int),NW (gA X) X.gl PW ⟨[(0,.ref id 0),(5,.own h.length es.length 0 es.length),(6,AI t'),(7,.mp (h.length+1)),(8,AI es.length),(9,.ref (h.length+2) 0),(11,AI n),(12,AI es.length)],EH h id L (b+1+1+1) es M ⟨aC [[115,97],[115,97],[115,98]] L (b+1),0,t',kd,[],[],[],0⟩,[]⟩
   (iC 1 (mD (gA X) X.gl QW (z8c (h.length+2) [] (ZQ
    (λt:List Ent×Int×Int×List (List UInt8×Int)=>⟨[(0,.ref id 0),(5,.own h.length t.1.length 0 t.1.length),(6,AI t.2.1),(7,.mp (h.length+1)),(11,AI n),(12,AI t.1.length)],h.set id (GA L t.2.2.1)++[.row (some 8) (t.1.map Ent.pv) 0,lA PV.str WC t.2.2.2],[]⟩)
    (λt=>t.1.length<=n/\(∀r∈t.1,EntV r)/\(a<=t.2.2.1/\t.2.2.1<=a+40*t.1.length)/\(0<=t.2.1/\t.2.1<=10*t.1.length)/\MB t.1.length t.2.2.2) (λt=>n-t.1.length)
    (iC 0 (mD (gA X) X.gl AR (nA [.t 4] false h.length (λv1 h1 x1=>∃a2,(a<=a2/\a2<=a+1000/\∃rs:List Ent,rs.length<=n/\(∀r∈rs,EntV r)/\v1=EA rs)/\h1=h.set id (GA L a2)/\x1=[])))) (es,t,b,M))))):=by
   intro kd;rw[z47];refine znR hid (fC hp (by omega) (by omega)) es (by omega) ⟨aC [[115,97],[115,97],[115,98]] L (b+1),0,t',kd,[],[],[],0⟩ ⟨ps,by simp,by simp,by simp,by dsimp only;omega,by dsimp only;omega,⟨pz,by dsimp only;omega⟩,by simp [JD]⟩ M es.length ⟨by omega,by omega⟩ q7 es.length (AI t') (AI n) (AI es.length) _ (λx' a' M' J r1 r2 r3 r4=>?_)
   have f1:id+1<=h.length+2:=by omega
   have f2:h.length+1<=h.length+2:=by omega
   have f3:h.length+1+1<=h.length+2:=by omega
   simp only[go_sem,w1,f1,f2,f3];refine⟨(es++[x'],t',a',M'),?_,⟨by simp;omega,λr hr=>?_,⟨by dsimp only;omega,by simp;omega⟩,⟨by dsimp only;omega,by simp;omega⟩,by simpa using r4⟩,by simp;omega⟩
   ·simp only[List.length_append,List.length_cons,List.length_nil,List.map_append,List.map_cons,List.map_nil]
   ·rcases List.mem_append.1 hr with hr|hr
    ·exact q2 r hr
    ·rw[List.mem_singleton]at hr;rw[hr];exact r1
  unfold EH Ent.box at fin;dsimp only at fin;by_cases k3:(es.length:Int)<3
  ·have:=fin 1
   simp only[go_sem,hid,P,hlt,w2,ht',k3,splice];exact this
  ·have:=fin (zD [2,2,2,3,3,4,4,5,5,6,7,1] L (b+1+1))
   simp only[go_sem,hid,P,hlt,w2,ht',k3,splice];exact this
 ·have en:es.length=n:=by omega
  have hb2:¬(es.length<n):=by omega
  have hh:(h.set id (GA L b)++[Obj.row (some 8) (es.map Ent.pv) 0,lA PV.str WC M])[h.length]?=some (.row (some 8) (es.map Ent.pv) 0):=by rw[List.getElem?_append_right (by simp)];simp
  have st:=λK=>zuh (h:=h.set id (GA L b)++[Obj.row (some 8) (es.map Ent.pv) 0,lA PV.str WC M]) (K:=K) h.length (es.map Ent.pv) zaB (by simp;omega) hh (g:=VH) (caps:=[]) (c:=λx y=>xC (bL x) (bL y))
   (λo x hx y hy K=>by
    obtain⟨p,hp,rfl⟩:=List.mem_map.1 hx;obtain⟨q,hq,rfl⟩:=List.mem_map.1 hy;dsimp only;rw[z8t,z8t];exact zs3 p q (q2 p hp) (q2 q hq))
  have hsm:∀x∈xB (ltC λx y=>xC (bL x) (bL y)) (es.map Ent.pv),∃r,EntV r/\x=Ent.pv r:=λx hx=>by
   obtain⟨r,hr,rfl⟩:=List.mem_map.1 (OG.1 hx);exact⟨r,q2 r hr,rfl⟩
  obtain⟨ss,s1,s2⟩:=zaG hsm;have hsl:ss.length=es.length:=by have:=congrArg List.length s2;simp [VV]at this;omega
  simp only[List.length_map,s2]at st;have e0:∀o,(h.set id (GA L b)++[Obj.row (some 8) (es.map Ent.pv) 0,lA PV.str WC M]).set h.length o=h.set id (GA L b)++[o,lA PV.str WC M]:=λo=>by rw[List.set_append_right _ _ (by simp)];simp
  simp only[e0]at st;have hw:win (ss.map Ent.pv) 0 es.length=ss.map Ent.pv:=WG (by simp [hsl])
  have hcr:es.length<=es.length:=Nat.le_refl _
  have hll:(ss.map Ent.pv).length=es.length:=by simp [hsl]
  simp only[go_sem,hb2,↓st,st,hll,hw,hsl];exact⟨b,⟨q3,by omega,ss,by omega,s1,rfl⟩,rfl⟩
end
section
variable {h:aA} {K:jA}
attribute [-go_sem] TA UA ZA splice
attribute [local go_sem] ID WD kE KE oF UF pG qG pF rG sG tG uG vG xG yG
structure Flo where
 bs:nB
 sm:XD
 ck:Nat
 ends:List EndP
 runs:List RunP
 ref:List Int
 why:List Int
def Flo.P (S:Flo):FlP:=⟨asA S.bs,asS S.sm,S.ends,S.runs⟩
def EndP.pv (e:EndP):PV:=.agg [.str e.board,.str e.step,eI e.frm,eI e.til,.bool e.pass]
def RunP.pv (r:RunP):PV:=.agg [.str r.site,eI r.frm,eI r.til]
def wbx (h:aA)(steps:List Nm)(tries:Int)(a b c d:Nat):Obj:=.box [OA steps,AI tries,.mp (h.length+1),.mp (h.length+2),.own (h.length+3) a 0 a,.own (h.length+4) b 0 b,.own (h.length+5) c 0 c,.own (h.length+6) d 0 d]
def FS (h:aA)(fb:Obj)(steps:List Nm)(tries:Int)(S:Flo)(l:aA):aA:=
 FH h fb (lA PV.str cC (rB (h.length+8) S.bs)) (pC S.sm S.ck) (.row (some 5) (S.ends.map EndP.pv) 0) (.row (some 3) (S.runs.map RunP.pv) 0) (.row none (S.ref.map eI) 0) (.row none (S.why.map eI) 0)
  (wbx h steps tries S.ends.length S.runs.length S.ref.length S.why.length) (xA S.bs) l
def GG (site:Nm)(at_:Int)(r:RunP):RunP:=if r.site=site/\r.til<0 then { r with til:=at_ } else r
def sE (l:List RunP)(site:Nm)(at_:Int)(k:Nat):List RunP:=(l.take k).map (GG site at_)++l.drop k
theorem zi0 (l:List RunP)(site:Nm)(at_:Int):sE l site at_ 0=l:=by simp [sE]
theorem z9X (l:List RunP)(site:Nm)(at_:Int)(k:Nat):(sE l site at_ k).length=l.length:=by simp [sE];omega
theorem zi1 (l:List RunP)(site:Nm)(at_:Int):sE l site at_ l.length=bD l site at_:=by
 unfold sE bD;rw[List.take_length,List.drop_length,List.append_nil];rfl
theorem z9W {l:List RunP}{site:Nm}{at_:Int}{k:Nat}(hk:k<l.length):(sE l site at_ k)[k]?=some l[k]:=by
 unfold sE;rw[List.getElem?_append_right (by simp;omega)]
 have:k-((l.take k).map (GG site at_)).length=0:=by simp;omega
 rw[this,List.getElem?_drop];simp [hk]
theorem z9Y {l:List RunP}{site:Nm}{at_:Int}{k:Nat}(hk:k<l.length):sE l site at_ (k+1)=(sE l site at_ k).set k (GG site at_ l[k]):=by
 unfold sE;rw[List.take_succ_eq_append_getElem hk,List.map_append,List.set_append_right _ _ (by simp;omega)]
 have:k-((l.take k).map (GG site at_)).length=0:=by simp;omega
 rw[this,List.drop_eq_getElem_cons (i:=k) hk,List.append_assoc];rfl
theorem zi2 {l:List RunP}{site:Nm}{at_:Int}{k:Nat}(hk:k<l.length)(e:GG site at_ l[k]=l[k]):sE l site at_ (k+1)=sE l site at_ k:=by
 rw[z9Y hk,e];apply List.ext_getElem?
 intro i;rw[List.getElem?_set];split
 ·rename_i hi;subst hi
  rw[z9X,if_pos hk,z9W hk]
 ·rfl
def aG (m:XD)(k:Nm):XD:=match AE k m with
 | some i=>m.eraseIdx i
 | none=>m
theorem zaw {m:XD}{k:Nm}(hu:(m.map λe=>e.1.1).Nodup):asS (aG m k)=gH (asS m) k/\((aG m k).map λe=>e.1.1).Nodup:=by
 have main:aG m k=m.filter λe=>!decide (e.1.1=k):=by
  unfold aG;induction m with
  | nil=>rfl
  | cons y r ih=>
   rw[List.map_cons,List.nodup_cons]at hu;have q:=ih hu.2
   unfold AE;rw[List.filter_cons];by_cases h:k=y.1.1
   ·rw[if_pos h]
    have:r.filter (λe=>!decide (e.1.1=k))=r:=by
     rw[List.filter_eq_self];intro z hz;have:¬z.1.1=k:=λe=>hu.1 (by rw[<-h,<-e];exact List.mem_map_of_mem hz)
     simp [this]
    rw[if_neg (by simp [h.symm]),this]
    rfl
   ·have hn:¬y.1.1=k:=λz=>h z.symm
    rw[if_neg h,if_pos (by simp [hn]),<-q]
    cases AE k r with
    | none=>rfl
    | some i=>rfl
 rw[main];constructor
 ·unfold asS gH
  rw[List.filter_map];rfl
 ·exact List.Nodup.sublist (List.Sublist.map _ List.filter_sublist) hu
theorem zra {id:Nat}{hp:aA}{m:XD}{c:Nat}{k:Nm}(hh:hp[id]?=some (pC m c)) :
 CB (none,[2]) (.mp id) (AS k) hp=some (.und,hp.set id (pC (aG m k) c),[]):=by
 have e1:cD (none,[2]) (AS k)=some (.str k):=iF
 have e2:mC hp (.mp id)=some (id,m.map λe=>(⟨.str e.1.1,AS e.1.2,e.2⟩:ME),c):=by simp only[mC,hh,pC]
 simp only[CB,e1,e2,fW];unfold aG;cases hf:AE k m with
 | none=>
  have:hp.set id (pC m c)=hp:=ztF hh
  rw[this]
 | some i=>
  simp only[pC];have e3:∀(m:XD) (i:Nat),(m.map λe=>(⟨.str e.1.1,AS e.1.2,e.2⟩:ME)).eraseIdx i=(m.eraseIdx i).map λe=>(⟨.str e.1.1,AS e.1.2,e.2⟩:ME):=by
   intro m;induction m with
   | nil=>intro i;rfl
   | cons y r ih=>
    intro i;cases i with
    | zero=>rfl
    | succ i=>simp only[List.map_cons,List.eraseIdx_cons_succ,ih i]
  rw[e3]
attribute [-go_sem] CB
theorem zdR (fb:Obj)(steps:List Nm)(tries:Int)(S:Flo)(l:aA)(i:Nat)(e:Ent × Sta)(hi:S.bs[i]?=some e)(hr:S.runs.length<=1000000)(at_:Int) :
 gA X yK [.ref (h.length+7) 0,.ref (qB h i) 0,AI at_] (FS h fb steps tries S l) K=K (.tup []) (FS h fb steps tries { S with bs:=S.bs.set i (e.1,{ e.2 with site:=[] }),sm:=aG S.sm e.2.site,runs:=bD S.runs e.2.site at_ } l) []:=by
 refine sA ?_;rw[zic rfl];obtain⟨bs,sm,ck,ends,runs,ref,why⟩:=S;obtain⟨x,st,si,sp,ss,sf⟩:=e;dsimp only at hi hr ⊢;have gq:=λ(o0 o1 o2 o3 o4 o5 o6 o7:Obj) (l:aA)=>pP (h:=h) (o0:=o0) (o1:=o1) (o2:=o2) (o3:=o3) (o4:=o4) (o5:=o5) (o6:=o6) (o7:=o7) (l:=l) hi
 have sq:=λ(o0 o1 o2 o3 o4 o5 o6 o7:Obj) (l:aA)=>z8D (h:=h) (o0:=o0) (o1:=o1) (o2:=o2) (o3:=o3) (o4:=o4) (o5:=o5) (o6:=o6) (o7:=o7) (l:=l) hi ⟨st,si,sp,[],sf⟩
 unfold Sta.bx at gq sq;dsimp only at gq sq;unfold FS wbx;dsimp only;simp only[nV,go_sem];refine DA (λk:Nat=>⟨[(0,.ref (h.length+7) 0),(1,.ref (qB h i) 0),(2,AI at_),(11,AI runs.length),(12,AI k)],
  FH h fb (lA PV.str cC (rB (h.length+8) bs)) (pC sm ck) (.row (some 5) (ends.map EndP.pv) 0) (.row (some 3) ((sE runs ss at_ k).map RunP.pv) 0) (.row none (ref.map eI) 0) (.row none (why.map eI) 0)
   (.box [OA steps,AI tries,.mp (h.length+1),.mp (h.length+2),.own (h.length+3) ends.length 0 ends.length,.own (h.length+4) runs.length 0 runs.length,.own (h.length+5) ref.length 0 ref.length,.own (h.length+6) why.length 0 why.length]) (xA bs) l,[]⟩) (λk=>k<=runs.length) (λk=>runs.length-k) 0 (by rw[zi0];rfl) (by omega) ?_
 intro k hk;rcases Nat.lt_or_ge k runs.length with hlt|hge
 ·have w1:IntKind.i64.wrap ((k:Int)+1)=((k+1:Nat):Int):=rA _ (by omega) (by omega)
  have hl:=z9X runs ss at_ k
  have hg:((sE runs ss at_ k).map RunP.pv)[k]?=some (RunP.pv runs[k]):=by rw[List.getElem?_map,z9W hlt];rfl
  have c0:NA none 0 (RunP.pv runs[k])=some (.str runs[k].site):=rfl
  have c2:NA none 2 (RunP.pv runs[k])=some (eI runs[k].til):=rfl
  have hs1:=z9Y (l:=runs) (site:=ss) (at_:=at_) hlt
  have hs2:=λe=>zi2 (l:=runs) (site:=ss) (at_:=at_) hlt e
  by_cases h1:runs[k].site=ss
  ·by_cases h2:runs[k].til<0
   ·have e1:GG ss at_ runs[k]=⟨runs[k].site,runs[k].frm,at_⟩:=by unfold GG;rw[if_pos ⟨h1,h2⟩]
    rw[e1]at hs1;have fp:RunP.pv runs[k] = .agg [.str runs[k].site,eI runs[k].frm,eI runs[k].til]:=rfl
    rw[fp]at hg c0 c2;simp only[go_sem,hlt,gq,hl,hg,c0,c2,h1,h2,w1,splice];refine⟨k+1,?_,by omega,by omega⟩
    rw[hs1,List.map_set,<-h1];rfl
   ·have e1:GG ss at_ runs[k]=runs[k]:=by unfold GG;rw[if_neg (by intro z;exact h2 z.2)]
    simp only[go_sem,hlt,gq,hl,hg,c0,c2,h1,h2,w1];exact⟨k+1,by rw[hs2 e1],by omega,by omega⟩
  ·have e1:GG ss at_ runs[k]=runs[k]:=by unfold GG;rw[if_neg (by intro z;exact h1 z.1)]
   simp only[go_sem,hlt,gq,hl,hg,c0,c2,h1,w1];exact⟨k+1,by rw[hs2 e1],by omega,by omega⟩
 ·have ek:k=runs.length:=by omega
  subst ek;rw[zi1];have md:=λ(o0 o1 o3 o4 o5 o6 o7:Obj) (B l:aA)=>zra (id:=h.length+2) (hp:=FH h o0 o1 (pC sm ck) o3 o4 o5 o6 o7 B l) (m:=sm) (c:=ck) (k:=ss) KE
  have s3:∀v:AV,splice [AI st,AI si,AS sp,AS ss,AI sf] 3 [v]=[AI st,AI si,AS sp,v,AI sf]:=λ_=>rfl
  have cl:(bD runs ss at_).length=runs.length:=by simp [bD]
  have ml:=bR (h.length+8) bs i _ ⟨st,si,sp,[],sf⟩ hi
  have bl:(xA (bs.set i (x,⟨st,si,sp,[],sf⟩))).length=(xA bs).length:=by rw[fD,fD,List.length_set]
  simp only[go_sem,Nat.lt_irrefl,gq,md,s3,sq,cl,ml];exact List.take_of_length_le (by rw[ID,bl];exact Nat.le_refl _)
end
section
variable {h:aA} {K:jA}
attribute [-go_sem] TA UA ZA CB
attribute [local go_sem] ID WD kE KE oF UF pG qG pF rG sG tG uG vG xG yG
theorem zrj {id:Nat}{hp:aA}{m:XD}{c:Nat}{k v:Nm}(hh:hp[id]?=some (pC m c))(hn:mA (asS m) k=none) :
 ZA (none,[2]) (.mp id) (AS k) (AS v) hp=some (.und,hp.set id (pC (m++[((k,v),c)]) (c+1)),[]):=by
 have e1:cD (none,[2]) (AS k)=some (.str k):=iF
 have e2:mC hp (.mp id)=some (id,m.map λe=>(⟨.str e.1.1,AS e.1.2,e.2⟩:ME),c):=by simp only[mC,hh,pC]
 have e3:fI (AS v)=true:=rfl
 have e4:AE k m=none:=by
  cases hf:AE k m with
  | none=>rfl
  | some i=>
   exfalso;have h1:=z4Q k m
   rw[hf,Option.bind_some]at h1;obtain⟨y,hy⟩:=Option.isSome_iff_exists.1 (z4R k m i hf);rw[hy]at h1;have h2:(m.find? λe=>decide (e.1.1=k))=some y:=h1.symm
   unfold mA asS at hn;rw[List.find?_map,Option.map_map,Option.map_eq_none_iff]at hn;have h3:(m.find? λe=>decide (e.1.1=k))=none:=hn
   rw[h3]at h2;cases h2
 simp only[ZA,e1,e2,e3,fW,e4];simp [pC,dC,AV.top]
theorem z1q {bs:nB}{i:Nat}{x0:Ent}{st:Sta}(hi:bs[i]?=some (x0,st)):∃Bx:Sta->aA,xA bs=Bx st/\(∀s,xA (bs.set i (x0,s))=Bx s)/\(∀s,(Bx s).length=3*bs.length) /\
 (∀a b c d e o0 o1 o2 o3 o4 o5 o6 o7 l,(FH h o0 o1 o2 o3 o4 o5 o6 o7 (Bx ⟨a,b,c,d,e⟩) l)[qB h i]?=some (.box [AI a,AI b,AS c,AS d,AI e])) /\
 (∀s a b c d e o0 o1 o2 o3 o4 o5 o6 o7 l,(FH h o0 o1 o2 o3 o4 o5 o6 o7 (Bx s) l).set (qB h i) (.box [AI a,AI b,AS c,AS d,AI e])=FH h o0 o1 o2 o3 o4 o5 o6 o7 (Bx ⟨a,b,c,d,e⟩) l) /\
 (∀s o o0 o1 o2 o3 o4 o5 o6 o7 l,(FH h o0 o1 o2 o3 o4 o5 o6 o7 (Bx s) (l++[o]))[h.length+(8+3*bs.length+l.length)]?=some o) /\
 (∀s o0 o1 o2 o3 o4 o5 o6 o7 l l2,(FH h o0 o1 o2 o3 o4 o5 o6 o7 (Bx s) (l++l2)).take (h.length+(8+3*bs.length+l.length))=FH h o0 o1 o2 o3 o4 o5 o6 o7 (Bx s) l):=by
 have hl:i<bs.length:=by
  rcases Nat.lt_or_ge i bs.length with h|h
  ·exact h
  ·rw[List.getElem?_eq_none h]at hi;cases hi
 have hs:∀s,(bs.set i (x0,s))[i]?=some (x0,s):=λs=>by rw[List.getElem?_set];simp [hl]
 have hlen:∀s,(xA (bs.set i (x0,s))).length=3*bs.length:=λs=>by rw[fD,List.length_set]
 refine⟨λs=>xA (bs.set i (x0,s)),?_,λs=>rfl,hlen,λa b c d e o0 o1 o2 o3 o4 o5 o6 o7 l=>?_,λs a b c d e o0 o1 o2 o3 o4 o5 o6 o7 l=>?_,λs o o0 o1 o2 o3 o4 o5 o6 o7 l=>?_,λs o0 o1 o2 o3 o4 o5 o6 o7 l l2=>?_⟩
 ·have:bs.set i (x0,st)=bs:=by
   apply List.ext_getElem?
   intro j;rw[List.getElem?_set];split
   ·rename_i e;subst e;rw[hi]
   ·rfl
  dsimp only;rw[this]
 ·exact pP (hs ⟨a,b,c,d,e⟩)
 ·have:=z8D (h:=h) (o0:=o0) (o1:=o1) (o2:=o2) (o3:=o3) (o4:=o4) (o5:=o5) (o6:=o6) (o7:=o7) (l:=l) (hs s) ⟨a,b,c,d,e⟩
  rw[List.set_set]at this;exact this
 ·have:=uI (h:=h) (o0:=o0) (o1:=o1) (o2:=o2) (o3:=o3) (o4:=o4) (o5:=o5) (o6:=o6) (o7:=o7) (B:=xA (bs.set i (x0,s))) (l:=l++[o]) l.length
  rw[hlen s]at this;rw[this];simp
 ·have:=vI (h:=h) (o0:=o0) (o1:=o1) (o2:=o2) (o3:=o3) (o4:=o4) (o5:=o5) (o6:=o6) (o7:=o7) (B:=xA (bs.set i (x0,s))) (l:=l++l2) l.length
  rw[hlen s]at this;rw[this];simp
def Flo.start (S:Flo)(i:Nat)(x0:Ent)(st:Sta)(x:Ent):Flo:=
 { S with bs:=S.bs.set i (x0,⟨2,x.time,st.step,x.site,st.failed⟩),sm:=S.sm++[((x.site,x.board),S.ck)],ck:=S.ck+1,runs:=S.runs++[⟨x.site,x.time,-1⟩] }
def Flo.startR (S:Flo)(i:Nat)(x0:Ent)(st:Sta)(x:Ent):Int×Flo:=
 if st.state≠1 then(11,S) else if x.step≠st.step then(3,S) else if(mA (asS S.sm) x.site).isSome=true then(12,S) else(0,S.start i x0 st x)
theorem esc7 (h:aA):∀k n o m,k<7->dC (h.length+7) (.own (h.length+k) n o m)=[]:=λk n o m hk=>by unfold dC;rw[z8o,if_neg (by omega)]
theorem zto (fb:Obj)(steps:List Nm)(tries:Int)(S:Flo)(l:aA)(i:Nat)(x0:Ent)(st:Sta)(hi:S.bs[i]?=some (x0,st))(hr:S.runs.length<=1000000)(x:Ent) :
 gA X yM [.ref (h.length+7) 0,.ref (qB h i) 0,.p x.pv] (FS h fb steps tries S l) K =
  K (AI (S.startR i x0 st x).1) (FS h fb steps tries (S.startR i x0 st x).2 l) []:=by
 refine sA ?_;rw[zie rfl];obtain⟨Bx,b1,b2,b3,G,Sq,T,Tk⟩:=z1q (h:=h) hi;obtain⟨bs,sm,ck,ends,runs,ref,why⟩:=S;obtain⟨s1,s2,s3,s4,s5⟩:=st;obtain⟨site,no,time,kind,board,step,of,other⟩:=x;unfold Flo.startR FS wbx Flo.start;dsimp only at hi hr b1 b2 b3 T Tk ⊢;have ml:=λs=>bR (h.length+8) bs i _ s hi
 rw[b1];have lk:=λ(o0 o1 o3 o4 o5 o6 o7:Obj) (B l:aA)=>zqP (id:=h.length+2) (hp:=FH h o0 o1 (pC sm ck) o3 o4 o5 o6 o7 B l) (m:=sm) (c:=ck) (k:=site) KE
 have m1:runs.length+1<=bB:=by unfold bB;omega
 have e5:=λn o m=>esc7 h 4 n o m (by decide)
 by_cases h1:s1=1
 ·subst h1
  rw[if_neg (by simp)]
  by_cases h2:step=s3
  ·subst h2
   rw[if_neg (by simp)]
   cases hg:mA (asS sm) site with
   | some v=>
    rw[if_pos (show(some v).isSome=true from rfl)]
    rw[hg]at lk;simp only[Option.isSome_some,Option.getD_some]at lk;simp only[UJ,Ent.pv,go_sem,b3,T,G,lk];rw[b1];exact Tk _ _ _ _ _ _ _ _ _ _ _
   | none=>
    rw[if_neg (show ¬(none:Option Nm).isSome=true by simp)]
    rw[hg]at lk;have up:=λ(o0 o1 o3 o4 o5 o6 o7:Obj) (B l:aA)=>zrj (id:=h.length+2) (hp:=FH h o0 o1 (pC sm ck) o3 o4 o5 o6 o7 B l) (m:=sm) (c:=ck) (k:=site) (v:=board) KE hg
    simp only[Option.isSome_none,Option.getD_none]at lk;simp only[UJ,Ent.pv,go_sem,b3,T,G,lk,up,Sq,splice,m1,e5];rw[Tk,b2,ml,List.map_append];rfl
  ·rw[if_pos h2]
   simp only[UJ,Ent.pv,go_sem,b3,T,G,lk,h2];rw[b1];exact Tk _ _ _ _ _ _ _ _ _ _ _
 ·rw[if_pos h1]
  simp only[UJ,Ent.pv,go_sem,b3,T,G,lk,h1];rw[b1];exact Tk _ _ _ _ _ _ _ _ _ _ _
end
end Go.Am
