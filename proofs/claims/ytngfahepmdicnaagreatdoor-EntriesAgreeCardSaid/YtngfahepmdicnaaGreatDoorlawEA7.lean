/- Texts of the proof, laid together: SpEnt2, SpMap, SpEnt4, SpSortE, SpEnt5, SpGenA, SpSome, SpGenL, SpSortRec, SpCompact, SpGenR, PMerge, SpMrgA, SpEMrg1, SpLen, SpEMrg2, SpArg, SpEMrg3, PSym, PSym2, SpSymE, PSym3, SpSymF, SpSymG, SpSymH, SpSymI, PFollow, PPass, PReplay, SpFlo1, SpIdx, SpStrs, SpSort, SpMrgB. -/
import Derived.Test.YtngfahepmdicnaaGreatDoorlawEA6
set_option linter.all false
section
/- What is wrong with an entry: the program. Printed by gen_ent.py. -/
open Go
set_option linter.all false
set_option maxRecDepth 100000
namespace Go.Am
variable {h:aA} {K:kA}
set_option maxHeartbeats 4000000 in
theorem zmh (x:Ent)(hx:EntOk x):bA X tJ [.p x.pv] h K=K (AI (mB x)) h []:=by
 refine xA ?_;rw[zaL rfl];have k1:=fun h K=>vS (h:=h) (K:=K) x.site (by have:=hx.s;omega)
 have k2:=fun h K=>vS (h:=h) (K:=K) x.board (by have:=hx.b;omega)
 have k3:=fun h K=>vS (h:=h) (K:=K) x.step (by have:=hx.p;omega)
 have k4:=fun h K=>vS (h:=h) (K:=K) x.of (by have:=hx.o;omega)
 obtain⟨site,no,time,kind,board,step,of,other⟩:=x;dsimp only at k1 k2 k3 k4;unfold mB fF mH noB;dsimp only;cases h1:kB site with
 | false=>
  simp only[Ent.pv,go_sem,Ent.mk.injEq,or_false,false_or,true_or,or_true,true_and,and_true,and_self,false_and,and_false,not_true_eq_false,not_false_eq_true,Bool.not_true,Bool.not_false,wF,↓k1,k1,NE,kG,h1]
 | true=>
  cases h2:inB 1 no 1000000 with
  | false=>
   simp only[Ent.pv,go_sem,Ent.mk.injEq,or_false,false_or,true_or,or_true,true_and,and_true,and_self,false_and,and_false,not_true_eq_false,not_false_eq_true,Bool.not_true,Bool.not_false,wF,↓k1,k1,NE,kG,h1,h2]
  | true=>
   cases h3:pD time with
   | false=>
    simp only[Ent.pv,go_sem,Ent.mk.injEq,or_false,false_or,true_or,or_true,true_and,and_true,and_self,false_and,and_false,not_true_eq_false,not_false_eq_true,Bool.not_true,Bool.not_false,wF,↓k1,k1,NE,kG,h1,h2,h3]
   | true=>
    cases h4:inB 1 kind 7 with
    | false=>
     simp only[Ent.pv,go_sem,Ent.mk.injEq,or_false,false_or,true_or,or_true,true_and,and_true,and_self,false_and,and_false,not_true_eq_false,not_false_eq_true,Bool.not_true,Bool.not_false,wF,↓k1,k1,NE,kG,h1,h2,h3,h4]
    | true=>
     by_cases h7:kind=7
     ·have h72:¬kind=2:=by omega
      simp only[Ent.pv,go_sem,Ent.mk.injEq,or_false,false_or,true_or,or_true,true_and,and_true,and_self,false_and,and_false,not_true_eq_false,not_false_eq_true,Bool.not_true,Bool.not_false,wF,↓k1,k1,NE,kG,h1,h2,h3,h4,eq_true h7,h72];cases h5:kB of with
      | false=>
       simp only[Ent.pv,go_sem,Ent.mk.injEq,or_false,false_or,true_or,or_true,true_and,and_true,and_self,false_and,and_false,not_true_eq_false,not_false_eq_true,Bool.not_true,Bool.not_false,↓k4,k4,h5,eq_true h7,h72]
      | true=>
       cases h6:inB 1 other 1000000 with
       | false=>
        simp only[Ent.pv,go_sem,Ent.mk.injEq,or_false,false_or,true_or,or_true,true_and,and_true,and_self,false_and,and_false,not_true_eq_false,not_false_eq_true,Bool.not_true,Bool.not_false,↓k4,k4,NE,h5,h6,eq_true h7,h72]
       | true=>
        by_cases e1:board=[]
        ·by_cases e2:step=[]
         ·simp only[Ent.pv,go_sem,Ent.mk.injEq,or_false,false_or,true_or,or_true,true_and,and_true,and_self,false_and,and_false,not_true_eq_false,not_false_eq_true,Bool.not_true,Bool.not_false,↓k4,k4,NE,h5,h6,eq_true e1,eq_true e2,eq_true h7,h72]
         ·simp only[Ent.pv,go_sem,Ent.mk.injEq,or_false,false_or,true_or,or_true,true_and,and_true,and_self,false_and,and_false,not_true_eq_false,not_false_eq_true,Bool.not_true,Bool.not_false,↓k4,k4,NE,h5,h6,eq_true e1,e2,eq_true h7,h72]
        ·simp only[Ent.pv,go_sem,Ent.mk.injEq,or_false,false_or,true_or,or_true,true_and,and_true,and_self,false_and,and_false,not_true_eq_false,not_false_eq_true,Bool.not_true,Bool.not_false,↓k4,k4,NE,h5,h6,e1,eq_true h7,h72]
     ·by_cases h2k:kind=2
      ·simp only[Ent.pv,go_sem,Ent.mk.injEq,or_false,false_or,true_or,or_true,true_and,and_true,and_self,false_and,and_false,not_true_eq_false,not_false_eq_true,Bool.not_true,Bool.not_false,wF,↓k1,k1,NE,kG,h1,h2,h3,h4,h7,eq_true h2k]
       cases h5:kB board with
       | false=>
        simp only[Ent.pv,go_sem,Ent.mk.injEq,or_false,false_or,true_or,or_true,true_and,and_true,and_self,false_and,and_false,not_true_eq_false,not_false_eq_true,Bool.not_true,Bool.not_false,↓k2,k2,h5,h7,eq_true h2k]
       | true=>
        simp only[Ent.pv,go_sem,Ent.mk.injEq,or_false,false_or,true_or,or_true,true_and,and_true,and_self,false_and,and_false,not_true_eq_false,not_false_eq_true,Bool.not_true,Bool.not_false,↓k2,k2,h5,h7,eq_true h2k];cases h6:kB step with
        | false=>
         simp only[Ent.pv,go_sem,Ent.mk.injEq,or_false,false_or,true_or,or_true,true_and,and_true,and_self,false_and,and_false,not_true_eq_false,not_false_eq_true,Bool.not_true,Bool.not_false,↓k3,k3,h6,h7,eq_true h2k]
        | true=>
         by_cases e1:of=[]
         ·by_cases e2:other=0
          ·simp only[Ent.pv,go_sem,Ent.mk.injEq,or_false,false_or,true_or,or_true,true_and,and_true,and_self,false_and,and_false,not_true_eq_false,not_false_eq_true,Bool.not_true,Bool.not_false,↓k3,k3,h6,eq_true e1,eq_true e2,h7,eq_true h2k]
          ·simp only[Ent.pv,go_sem,Ent.mk.injEq,or_false,false_or,true_or,or_true,true_and,and_true,and_self,false_and,and_false,not_true_eq_false,not_false_eq_true,Bool.not_true,Bool.not_false,↓k3,k3,h6,eq_true e1,e2,h7,eq_true h2k]
         ·simp only[Ent.pv,go_sem,Ent.mk.injEq,or_false,false_or,true_or,or_true,true_and,and_true,and_self,false_and,and_false,not_true_eq_false,not_false_eq_true,Bool.not_true,Bool.not_false,↓k3,k3,h6,e1,h7,eq_true h2k]
      ·simp only[Ent.pv,go_sem,Ent.mk.injEq,or_false,false_or,true_or,or_true,true_and,and_true,and_self,false_and,and_false,not_true_eq_false,not_false_eq_true,Bool.not_true,Bool.not_false,wF,↓k1,k1,NE,kG,h1,h2,h3,h4,h7,h2k]
       cases h5:kB board with
       | false=>
        simp only[Ent.pv,go_sem,Ent.mk.injEq,or_false,false_or,true_or,or_true,true_and,and_true,and_self,false_and,and_false,not_true_eq_false,not_false_eq_true,Bool.not_true,Bool.not_false,↓k2,k2,h5,h7,h2k]
       | true=>
        by_cases e0:step=[]
        ·by_cases e1:of=[]
         ·by_cases e2:other=0
          ·simp only[Ent.pv,go_sem,Ent.mk.injEq,or_false,false_or,true_or,or_true,true_and,and_true,and_self,false_and,and_false,not_true_eq_false,not_false_eq_true,Bool.not_true,Bool.not_false,↓k2,k2,h5,eq_true e0,eq_true e1,eq_true e2,h7,h2k]
          ·simp only[Ent.pv,go_sem,Ent.mk.injEq,or_false,false_or,true_or,or_true,true_and,and_true,and_self,false_and,and_false,not_true_eq_false,not_false_eq_true,Bool.not_true,Bool.not_false,↓k2,k2,h5,eq_true e0,eq_true e1,e2,h7,h2k]
         ·simp only[Ent.pv,go_sem,Ent.mk.injEq,or_false,false_or,true_or,or_true,true_and,and_true,and_self,false_and,and_false,not_true_eq_false,not_false_eq_true,Bool.not_true,Bool.not_false,↓k2,k2,h5,eq_true e0,e1,h7,h2k]
        ·simp only[Ent.pv,go_sem,Ent.mk.injEq,or_false,false_or,true_or,or_true,true_and,and_true,and_self,false_and,and_false,not_true_eq_false,not_false_eq_true,Bool.not_true,Bool.not_false,↓k2,k2,h5,e0,h7,h2k]
end Go.Am
end
section
/- Maps,asv lists of keys with values. -/
open Go
set_option linter.all false
namespace Go.Am
section
variable {α β:Type} [DecidableEq α]
def nE (key:α→PV)(val:β→AV):Nat→List (α×β)→List ME
 | _,[]=>[]
 | n,e::r=>⟨key e.1,val e.2,n⟩::nE key val (n+1) r
def JA (key:α→PV)(val:β→AV)(l:List (α × β)):Obj:=.amap (nE key val 0 l) l.length
def qC (k:α):List (α×β)→Option Nat
 | []=>none
 | e::r=>if k=e.1 then some 0 else(qC k r).map (· + 1)
def RA (k:α):List (α×β)→Option β
 | []=>none
 | e::r=>if k=e.1 then some e.2 else RA k r
def VB (k:α)(v:β):List (α×β)→List (α×β)
 | []=>[(k,v)]
 | e::r=>if k=e.1 then(k,v)::r else e::VB k v r
def JI (key:α→PV):Prop:=∀a b,PV.eqv (key a) (key b)=some (decide (a=b))
theorem z4Q:JI PV.str:=fun a b=>rfl
theorem cY:JI (fun n:Int=>PV.int .i64 n):=fun a b=>by simp [PV.eqv,PV.eq1]
theorem z4R {s:List UInt8}:CC (none,[2]) (.p (.str s))=some (.str s):=by simp [CC,PV.key,PV.shp,PV.sc,PV.cells,PV.kind]
theorem dY {n:Int}{k:IntKind}:CC (none,[0]) (.p (.int k n))=some (.int k n):=by simp [CC,PV.key,PV.shp,PV.sc,PV.cells,PV.kind]
variable {key:α→PV} {val:β→AV}
theorem jY (hk:JI key)(k:α):∀(l:List (α×β)) (n:Nat),iC (key k) (nE key val n l)=some (qC k l)
 | [],n=>rfl
 | e::r,n=>by
  simp only[nE,iC,hk k e.1,qC];by_cases h:k=e.1
  ·simp [h]
  ·simp [h,jY hk k r (n+1)]
theorem CQ:∀ (l:List (α × β))(n i:Nat),(nE key val n l)[i]?=(l[i]?).map fun e=>⟨key e.1,val e.2,n+i⟩
 | [],n,i=>rfl
 | e::r,n,0=>rfl
 | e::r,n,i+1=>by simp only[nE,List.getElem?_cons_succ,CQ r (n+1) i];rw[show n+1+i=n+(i+1) by omega]
theorem z7d {k:α}:∀{l:List (α×β)} {i:Nat},qC k l=some i→i<l.length
 | [],i,h=>by cases h
 | e::r,i,h=>by
  unfold qC at h;split at h
  ·cases h;simp
  ·obtain⟨j,hj,e2⟩:=Option.map_eq_some_iff.1 h
   have:=z7d hj;simp;omega
theorem z0H {k:α}:∀{l:List (α×β)} {i:Nat},qC k l=some i→l[i]?=(RA k l).map fun v=>(k,v)
 | [],i,h=>by cases h
 | e::r,i,h=>by
  unfold qC at h;unfold RA;split at h
  ·rename_i hk;cases h;simp [hk]
  ·rename_i hk
   obtain⟨j,hj,e2⟩:=Option.map_eq_some_iff.1 h;subst e2;rw[if_neg hk,List.getElem?_cons_succ];exact z0H hj
theorem z0I {k:α}:∀{l:List (α×β)},qC k l=none→RA k l=none
 | [],h=>rfl
 | e::r,h=>by
  unfold qC at h;unfold RA;split at h
  ·cases h
  ·rename_i hk
   rw[if_neg hk];exact z0I (by simpa using h)
theorem z0J {k:α}:∀{l:List (α×β)} {i:Nat},qC k l=some i→(RA k l).isSome=true
 | [],i,h=>by cases h
 | e::r,i,h=>by
  unfold qC at h;unfold RA;split at h
  ·rename_i hk;simp [hk]
  ·rename_i hk
   obtain⟨j,hj,e2⟩:=Option.map_eq_some_iff.1 h;rw[if_neg hk];exact z0J hj
theorem znP {k:α}{l:List (α × β)}:(qC k l).isSome=(RA k l).isSome:=by
 generalize h:qC k l=o;cases o with
 | none=>rw[z0I h];rfl
 | some i=>rw[z0J h];rfl
theorem zh5 {k:α}{l:List (α × β)}{n:Nat}:((qC k l).bind fun i=>(nE key val n l)[i]?).map ME.val=(RA k l).map val:=by
 cases h:qC k l with
 | none=>rw[z0I h];rfl
 | some i=>
  simp only[Option.bind_some,CQ,z0H h];cases RA k l <;> rfl
theorem z0G {k:α}{v:β}:∀{l:List (α×β)},qC k l=none→VB k v l=l++[(k,v)]
 | [],h=>rfl
 | e::r,h=>by
  unfold qC at h;unfold VB;split at h
  ·cases h
  ·rename_i hk
   rw[if_neg hk,z0G (by simpa using h)];rfl
theorem z6W {k:α}{v:β}:∀{l:List (α×β)} {i:Nat},qC k l=some i→VB k v l=l.set i (k,v)
 | [],i,h=>by cases h
 | e::r,i,h=>by
  unfold qC at h;unfold VB;split at h
  ·rename_i hk;cases h;simp [hk]
  ·rename_i hk
   obtain⟨j,hj,e2⟩:=Option.map_eq_some_iff.1 h;subst e2;rw[if_neg hk,z6W hj];rfl
theorem z5i (k:α)(v:β):∀(l:List (α×β)) (n:Nat),nE key val n (l++[(k,v)])=nE key val n l++[⟨key k,val v,n+l.length⟩]
 | [],n=>rfl
 | e::r,n=>by simp only[List.cons_append,nE,z5i k v r (n+1),List.length_cons];rw[show n+1+r.length=n+(r.length+1) by omega]
theorem zhD {k:α}{v:β}{l:List (α × β)}{i n:Nat}(h:qC k l=some i):(nE key val n l).modify i (fun e=>{ e with val:=val v })=nE key val n (l.set i (k,v)):=by
 apply List.ext_getElem?
 intro j;rw[List.getElem?_modify,CQ,CQ,List.getElem?_set];have hi:=z7d h
 have hg:=z0H h
 by_cases hij:i=j
 ·subst hij
  rw[hg];simp only[if_true,hi];obtain⟨w,hw⟩:=Option.isSome_iff_exists.1 (z0J h);rw[hw];rfl
 ·simp [hij]
variable {h:aA} {id:Nat} {l:List (α × β)} {kk:Sh × List Nat} {k:α}
theorem z5j (hh:h[id]?=some (JA key val l)):bC h (.mp id)=some (id,nE key val 0 l,l.length):=by
 simp only[bC,hh,JA]
theorem TM (hk:JI key)(hh:h[id]?=some (JA key val l))(hq:CC kk (.p (key k))=some (key k)){ok:Bool}{z:AV} :
 vB kk ok z (.mp id) (.p (key k)) h=some (bif ok then .tup [((RA k l).map val).getD z,AV.p (.bool (RA k l).isSome)] else((RA k l).map val).getD z):=by
 simp only[vB,hq,z5j hh,Option.map_some,jY hk,zh5,Option.isSome_map];rfl
theorem EQ (hk:JI key)(hh:h[id]?=some (JA key val l))(hq:CC kk (.p (key k))=some (key k)){v:β}(hv:ZG (val v)=true) :
 EB kk (.mp id) (.p (key k)) (val v) h=some (.und,h.set id (JA key val (VB k v l)),PC id (val v)):=by
 simp only[EB,hq,z5j hh,hv,jY hk];cases hw:qC k l with
 | none=>
  simp only[JA,z0G hw,z5i,List.length_append,List.length_cons,List.length_nil,Nat.zero_add]
 | some i=>
  simp only[JA,z6W hw,zhD hw,List.length_set]
theorem nQ (k k':α)(v:β):∀(l:List (α×β)),RA k' (VB k v l)=if k'=k then some v else RA k' l
 | []=>by simp [VB,RA]
 | e::r=>by
  unfold VB;by_cases h1:k=e.1
  ·rw[if_pos h1];simp only[RA]
   by_cases h2:k'=k
   ·simp [h2]
   ·rw[if_neg h2,if_neg h2,if_neg (by rw[←h1];exact h2)]
  ·rw[if_neg h1];simp only[RA,nQ k k' v r]
   by_cases h2:k'=e.1
   ·rw[if_pos h2,if_pos h2,if_neg (by rw[h2];exact fun h=>h1 h.symm)]
   ·rw[if_neg h2,if_neg h2]
end
end Go.Am
end
section
/- Lists of entries: what is wrong with them,the program. -/
open Go
set_option linter.all false
set_option maxRecDepth 100000
namespace Go.Am
variable {h:aA} {K:kA}
def sD (s:List UInt8 × Int):PV:=.agg [.str s.1,.int .i64 s.2]
def NC (b:Bool):AV:=.p (.bool b)
theorem tQ:JI sD:=fun a b=>by
 obtain⟨a1,a2⟩:=a;obtain⟨b1,b2⟩:=b;have e:decide ((a1,a2)=(b1,b2))=(decide (a1=b1)&&(decide (a2=b2)&&true)):=by rw[Bool.eq_iff_iff];simp
 rw[e];rfl
theorem uQ {s:List UInt8 × Int}:CC (some 2,[2,0]) (.p (sD s))=some (sD s):=by simp [sD,CC,PV.key,PV.shp,PV.sc,PV.cells,PV.kind]
def OE (l:List Ent):List ((List UInt8×Int)×Bool):=l.map fun x=>((x.site,x.no),true)
theorem WX (x:Ent):∀l:List Ent,RA (x.site,x.no) (OE l)=if l.any (fun o=>rB o x) then some true else none
 | []=>rfl
 | y::l=>by
  have ih:=WX x l
  unfold OE at ih ⊢;rw[List.map_cons];unfold RA;rw[ih,List.any_cons];have e:((x.site,x.no)=(y.site,y.no))↔rB y x=true:=by
   unfold rB;simp only[Prod.mk.injEq,Bool.and_eq_true,decide_eq_true_eq];exact⟨fun h=>⟨h.1.symm,h.2.symm⟩,fun h=>⟨h.1.symm,h.2.symm⟩⟩
  by_cases hc:rB y x=true
  ·rw[if_pos (e.2 hc),hc];rfl
  ·have hf:rB y x=false:=by simpa using hc
   rw[if_neg (fun z=>hc (e.1 z)),hf,Bool.false_or]
theorem znJ (l:List Ent)(x:Ent)(h:l.any (fun o=>rB o x)=false):VB (x.site,x.no) true (OE l)=OE (l++[x]):=by
 have:qC (x.site,x.no) (OE l)=none:=by
  have e:=znP (k:=(x.site,x.no)) (l:=OE l)
  rw[WX,h]at e;simpa using e
 rw[z0G this];unfold OE;simp
attribute [-go_sem] vB EB
theorem z6y (l:List Ent)(hn:l.length≤1000000):bA X cG [lB l] h K=K (AB (xC [] l)) h []:=by
 refine xA ?_;rw[zaQ rfl];simp only[xP,go_sem];refine NA (fun k:Nat=>⟨[(3,.mp h.length),(8,lB l),(9,AI l.length),(10,AI k)],h++[JA sD NC (OE (l.take k))],[]⟩) (fun k=>k≤l.length∧xC (l.take k) (l.drop k)=xC [] l) (fun k=>l.length-k) 0 rfl ⟨by omega,rfl⟩ ?_
 rintro k ⟨hkl,hp⟩
 rcases Nat.lt_or_ge k l.length with hlt|hge
 ·have hg:=TB Ent.pv hlt
  have w2:IntKind.i64.wrap ((k:Int)+1)=((k+1:Nat):Int):=nA _ (by omega) (by omega)
  have cx:=AE (x:=l[k])
  rw[List.drop_eq_getElem_cons hlt,xC,←List.take_succ_eq_append_getElem hlt]at hp;have ek:l.take (k+1)=l.take k++[l[k]]:=List.take_succ_eq_append_getElem hlt
  generalize hx:l[k]=x at *;generalize l.take k=S at *;have lk:=fun(hp:aA) (e:hp[h.length]?=some (JA sD NC (OE S)))=>TM (kk:=(some 2,[2,0])) (k:=(x.site,x.no)) tQ e uQ (ok:=false) (z:=NC false)
  have up:=fun(hp:aA) (e:hp[h.length]?=some (JA sD NC (OE S)))=>EQ (kk:=(some 2,[2,0])) (k:=(x.site,x.no)) tQ e uQ (v:=true) rfl
  have l1:=fun t=>lk (h++JA sD NC (OE S)::t) (by simp)
  have u1:=fun t=>up (h++JA sD NC (OE S)::t) (by simp)
  rw[WX]at l1;simp only[NC,sD,cond_false,PC,AV.top]at l1 u1;cases hc:S.any (fun o=>rB o x) with
  | true=>
   rw[hc,if_pos rfl]at hp;rw[hc]at l1;simp only[if_true,Option.map_some,Option.getD_some,NC]at l1;simp only[go_sem,hlt,hg,cx,Ent.pv,splice,l1];rw[←hp]
  | false=>
   rw[hc,if_neg (by simp)]at hp
   rw[hc]at l1;have us:=znJ S x hc
   simp only[Bool.false_eq_true,if_false,Option.map_none,Option.getD_none]at l1;have nl0:¬h.length<0:=by omega
   simp only[nl0,if_false]at u1;rw[us]at u1;simp only[go_sem,hlt,hg,cx,Ent.pv,splice,l1,u1,w2];refine⟨k+1,?_,⟨by omega,?_⟩,by omega⟩
   ·rw[ek]
   ·rw[ek];rw[←ek];exact hp
 ·have ek:k=l.length:=by omega
  subst ek;rw[List.drop_length]at hp;simp only[go_sem,Nat.lt_irrefl];rw[←hp];rfl
theorem z29 {p:Option Ent}{x:Ent}{r:List Ent}:BC p (x::r)=if mB x≠0 then mB x else if(match p with|some q=>decide (EA x q≤0)|none=>false)=true then 7 else BC (some x) r:=rfl
theorem CN (r:List Ent)(hr:∀ x∈r,EntOk x)(hn:r.length≤1000000):bA X FE [lB r] h K=K (AI (WA r)) h []:=by
 refine xA ?_;rw[zaD rfl];have tw:=fun h K=>z6y (h:=h) (K:=K) r hn
 unfold WA;by_cases h1:(2000:Int)<r.length
 ·simp only[BL,go_sem,h1]
 simp only[BL,go_sem,h1];refine NA (fun k:Nat=>⟨[(0,lB r),(9,lB r),(10,AI r.length),(11,AI k)],h,[]⟩) (fun k=>k≤r.length∧BC (r.take k).getLast? (r.drop k)=BC none r) (fun k=>r.length-k) 0 rfl ⟨by omega,rfl⟩ ?_
 rintro k ⟨hkl,hp⟩
 rcases Nat.lt_or_ge k r.length with hlt|hge
 ·have hg:=TB Ent.pv hlt
  have w2:IntKind.i64.wrap ((k:Int)+1)=((k+1:Nat):Int):=nA _ (by omega) (by omega)
  have hx:=hr _ (List.getElem_mem hlt)
  have hlast:(r.take (k+1)).getLast?=some r[k]:=by rw[List.take_succ_eq_append_getElem hlt];exact List.getLast?_concat
  rw[List.drop_eq_getElem_cons hlt,z29]at hp;have cx:=AE (x:=r[k])
  have rf:=fun h K=>zmh (h:=h) (K:=K) r[k] hx
  simp only[Ent.pv]at rf;by_cases h2:mB r[k]=0
  ·rw[if_neg (by simp [h2])]at hp
   cases k with
   | zero=>
    simp only[List.take_zero,List.getLast?_nil,reduceCtorEq,if_false]at hp;have hlt0:(0:Int)<r.length:=by omega
    simp only[go_sem,hlt0,hg,cx,Ent.pv,rf,h2,Int.lt_irrefl,splice,show IntKind.i64.wrap 1=1 from rfl]
    exact⟨0+1,rfl,⟨by omega,by rw[hlast];exact hp⟩,by omega⟩
   | succ j=>
    have hj:j<r.length:=by omega
    have hgj:=TB Ent.pv hj
    have cj:=AE (x:=r[j])
    have hlj:(r.take (j+1)).getLast?=some r[j]:=by rw[List.take_succ_eq_append_getElem hj];exact List.getLast?_concat
    have w3:IntKind.i64.wrap (((j+1:Nat):Int)-1)=(j:Int):=by rw[nA _ (by omega) (by omega)];omega
    have p1:(0:Int)<((j+1:Nat):Int):=by omega
    have bt:=fun h K=>z6v (h:=h) (K:=K) r[j+1] r[j]
    simp only[Ent.pv]at bt;rw[hlj]at hp;by_cases h3:EA r[j+1] r[j]≤0
    ·simp only[h3,decide_true,if_true]at hp
     simp only[go_sem,hlt,hj,hg,hgj,cx,cj,Ent.pv,rf,h2,p1,w3,bt,h3,splice];rw[←hp];rfl
    ·simp only[h3,decide_false,reduceCtorEq,if_false]at hp
     simp only[go_sem,hlt,hj,hg,hgj,cx,cj,Ent.pv,rf,h2,p1,w3,bt,h3,w2,splice];exact⟨j+1+1,rfl,⟨by omega,by rw[hlast];exact hp⟩,by omega⟩
  ·rw[if_pos h2]at hp
   simp only[go_sem,hlt,hg,cx,Ent.pv,rf,h2,splice];rw[←hp,if_pos h2]
 ·have ek:k=r.length:=by omega
  subst ek;rw[List.drop_length]at hp;have hz:BC none r=0:=by rw[←hp];cases (r.take r.length).getLast? <;> rfl
  rw[if_neg (by simp [hz])]
  cases ht:xC [] r with
  | true=>
   rw[ht]at tw;simp only[go_sem,Nat.lt_irrefl,tw];first|done|rfl
  | false=>
   rw[ht]at tw;simp only[go_sem,Nat.lt_irrefl,tw];first|done|rfl
end Go.Am
end
section
/- Lists of entries: sorted,looked through: printed by program. -/
open Go
set_option linter.unusedSimpArgs false
namespace Go.Am
attribute [-go_sem] PV.cells splice
variable {h:aA} {K:kA}
theorem zgh (id n:Nat)(l tl:List PV)(hn:n=l.length+tl.length)(hs:LC (some 8) l)(hl:l.length≤1000)(hh:h[id]?=some (.row (some 8) (l++tl) 0)){g:Nat}{caps:List AV}{c:PV→PV→Int}(hc:JD g caps c l id h) :
 bA X EE [.own id n 0 l.length,AI 0,AI l.length,.fn g caps] h K=K (.tup []) (h.set id (.row (some 8) (FA (ltC c) l++tl) 0)) []:=by
 refine xA ?_;rw[tU];have hid:=mD hh
 have hst:∀o,(h.set id o)[id]?=some o:=fun o=>WD hid
 simp only[WI,go_sem,show IntKind.i64.wrap 1=1 from rfl]
 refine NA (fun i:Nat=>⟨[(0,.own id n 0 l.length),(1,AI 0),(2,AI l.length),(3,.fn g caps),(8,AI i)],h.set id (.row (some 8) ((aD (ltC c) (l.take i)).reverse++(l.drop i++tl)) 0),[]⟩) (fun i=>1≤i∧(i≤l.length∨i=1)) (fun i=>l.length-i) 1 ?_ (by simp) ?_
 ·have:(aD (ltC c) (l.take 1)).reverse++(l.drop 1++tl)=l++tl:=by cases l <;> rfl
  rw[this,fH hh];rfl
 rintro i ⟨hi1,hi2⟩
 rcases Nat.lt_or_ge i l.length with hlt|hge
 ·simp only[go_sem,hlt]
  have hxl:l[i]∈l:=List.getElem_mem hlt
  generalize hx:l[i]=x at *;generalize hR:aD (ltC c) (l.take i)=R;have hRl:R.length=i:=by rw[←hR,z4H];simp;omega
  have hRm:∀z∈R,z∈l:=fun z hz=>List.mem_of_mem_take ((rQ (ltC c) (l.take i)).mem_iff.1 (by rw[hR];exact hz))
  have hdrop:l.drop i=x::l.drop (i+1):=by rw[←hx];exact List.drop_eq_getElem_cons hlt
  have hnext:aD (ltC c) (l.take (i+1))=jB (ltC c) x R:=by rw[z4K _ _ _ hlt,hR,hx]
  refine NA (fun t:List PV×List PV=>⟨[(0,.own id n 0 l.length),(1,AI 0),(2,AI l.length),(3,.fn g caps),(8,AI i),(9,AI t.1.length)],h.set id (.row (some 8) (t.1.reverse++x::t.2) 0),[]⟩)
   (fun t=>∃B,R=B++t.1∧t.2=B.reverse++(l.drop (i+1)++tl)∧∀b∈B,ltC c x b=true) (fun t=>t.1.length) (R,l.drop (i+1)++tl) (by rw[hdrop,hRl];rfl) ⟨[],rfl,rfl,by simp⟩ ?_
  rintro⟨A,C⟩ ⟨B,q1,q2,q3⟩
  dsimp only at q1 q2 q3;have hlen:(A.reverse++x::C).length=n:=by
   have:R.length=B.length+A.length:=by rw[q1];simp
   rw[q2];simp;omega
  have hBA:B.length+A.length<l.length:=by
   have:R.length=B.length+A.length:=by rw[q1];simp
   omega
  have hln:l.length≤n:=by omega
  have w1:IntKind.i64.wrap ((i:Int)+1)=((i+1:Nat):Int):=nA _ (by omega) (by omega)
  cases A with
  | nil=>
   have hd:jB (ltC c) x R=B++[x]:=by rw[q1];exact MM (ltC c) x [] B q3 (fun y r h=>by cases h)
   simp only[go_sem,Int.lt_irrefl,w1];refine⟨i+1,?_,by omega,by omega⟩
   simp only[hnext,hd,q2,List.reverse_append,List.reverse_nil,List.nil_append,List.reverse_cons,List.append_assoc,List.cons_append]
  | cons y A=>
   have hyl:y∈l:=hRm y (by rw[q1];simp)
   have g1:=z4E (y::A) C x
   have g2:=z4F A C x y
   have sw:=z4G A C x y
   simp only[List.length_cons]at hBA;generalize hrow:(y::A).reverse++x::C=row at *;simp only[List.length_cons]at g1;have w2:IntKind.i64.wrap (((A.length+1:Nat):Int)-1)=(A.length:Int):=by rw[nA _ (by omega) (by omega)];omega
   have p1:(0:Int)<((A.length+1:Nat):Int):=by omega
   have b1:A.length+1<l.length:=by omega
   have b2:A.length<l.length:=by omega
   have cx:=wC (hs x hxl)
   have cy:=wC (hs y hyl)
   have hcc:=fun o K=>hc o x hxl y hyl K
   by_cases hxy:c x y<0
   ·have g3:(row.set (A.length+1) y)[A.length]?=some y:=by rw[List.getElem?_set_ne (by omega),g2]
    have lx:=oF (hs x hxl)
    have ly:=oF (hs y hyl)
    have sx:=mF (hs x hxl)
    have sy:=mF (hs y hyl)
    simp only[jA]at lx ly;have t1:=fun i xs h1=>rE (hs x hxl) (hs y hyl) id i 0 xs h1
    have t2:=fun i xs h1=>rE (hs y hyl) (hs x hxl) id i 0 xs h1
    simp only[go_sem,hst,p1,hlen,g1,g2,g3,w2,b1,b2,hln,cx,cy,hcc,hxy,lx,ly,sx,sy,t1,t2,sw];refine⟨(A,y::C),rfl,⟨B++[y],by simp [q1],by simp [q2],fun b hb=>?_⟩,by simp⟩
    rw[List.mem_append,List.mem_singleton]at hb;rcases hb with hb|rfl
    ·exact q3 b hb
    ·simpa [ltC] using hxy
   ·have hd:jB (ltC c) x R=B++x::y::A:=by rw[q1];exact MM (ltC c) x (y::A) B q3 (fun z r h=>by cases h;simpa [ltC] using hxy)
    simp only[go_sem,hst,p1,hlen,g1,g2,w2,b1,b2,hln,cx,cy,hcc,hxy,w1];refine⟨i+1,?_,by omega,by omega⟩
    simp only[hnext,hd,←hrow,q2,List.reverse_append,List.reverse_cons,List.append_assoc,List.cons_append,List.nil_append]
 ·have hge':¬i<l.length:=by omega
  have e1:l.take i=l:=List.take_of_length_le hge
  have e2:l.drop i=[]:=List.drop_of_length_le hge
  simp only[go_sem,hge',e1,e2];rfl
theorem zgi (id n:Nat)(hn:n≤1000){g:Nat}{caps:List AV} :
 bA X EE [.own id n 0 n,AI n,AI n,.fn g caps] h K=K (.tup []) h []:=by
 refine xA ?_;rw[tU];have w1:IntKind.i64.wrap ((n:Int)+1)=((n+1:Nat):Int):=nA _ (by omega) (by omega)
 have b1:¬((n+1:Nat):Int)<(n:Int):=by omega
 simp only[WI,go_sem,w1];refine NA (fun _:Unit=>⟨[(0,.own id n 0 n),(1,AI n),(2,AI n),(3,.fn g caps),(8,AI ((n+1:Nat):Int))],h,[]⟩) (fun _=>True) (fun _=>0) () rfl trivial ?_
 intro _ _;simp only[go_sem,b1]
theorem z6G (id:Nat)(l:List PV)(hs:LC (some 8) l)(hl:l.length≤20)(hh:h[id]?=some (.row (some 8) l 0)){g:Nat}{caps:List AV}{c:PV→PV→Int}(hc:JD g caps c l id h) :
 bA X MG [.own id l.length 0 l.length,.fn g caps] h K=K (.tup []) (h.set id (.row (some 8) (FA (ltC c) l) 0)) []:=by
 refine xA ?_;rw[z1E];have key:∀K:kA,bA X qJ [.own id l.length 0 l.length,AI l.length,.fn g caps] h K=K (.tup []) (h.set id (.row (some 8) (FA (ltC c) l) 0)) []:=by
  intro K;refine xA ?_;rw[z1F];have is:=fun K=>zgh (h:=h) (K:=K) id l.length l [] rfl hs (by omega) (by rw[List.append_nil];exact hh) hc
  have i0:=fun K=>zgi (h:=h.set id (.row (some 8) (FA (ltC c) l) 0)) (K:=K) (g:=g) (caps:=caps) id l.length (by omega)
  simp only[List.append_nil]at is;have b2:¬((20:Int)<(l.length:Int)):=by omega
  simp only[zL,go_sem];refine NA (fun t:Bool=>⟨[(0,.own id l.length 0 l.length),(1,AI l.length),(2,.fn g caps),(6,AI 20),(7,AI (if t=true then 20 else 0)),(8,AI (if t=true then 40 else 20))],if t=true then h.set id (.row (some 8) (FA (ltC c) l) 0) else h,[]⟩) (fun t=>t=true→l.length=20) (fun t=>if t=true then 0 else 1) false rfl (fun e=>by cases e) ?_
  intro t ht;cases t with
  | false=>
   by_cases he:l.length=20
   ·have e20:((l.length:Nat):Int)=20:=by omega
    have gen:∀z:Int,z=(l.length:Int)→∀K:kA,bA X EE [.own id l.length 0 l.length,AI 0,AI z,.fn g caps] h K=K (.tup []) (h.set id (.row (some 8) (FA (ltC c) l) 0)) []:=fun z hz K=>by subst hz;exact is K
    have is':=gen 20 (by omega)
    have b1:(20:Int)≤(l.length:Int):=by omega
    simp only[go_sem,if_true,if_false,Bool.false_eq_true,b1,is',show IntKind.i64.wrap ((20:Int)+20)=40 from rfl]
    exact⟨true,rfl,fun _=>he,by decide⟩
   ·have b1:¬((20:Int)≤(l.length:Int)):=by omega
    simp only[go_sem,if_true,if_false,Bool.false_eq_true,b1,is];refine NA (fun _:Unit=>⟨[(0,.own id l.length 0 l.length),(1,AI l.length),(2,.fn g caps),(6,AI 20)],h.set id (.row (some 8) (FA (ltC c) l) 0),[]⟩) (fun _=>True) (fun _=>0) () rfl trivial ?_
    intro _ _;simp only[go_sem,b2]
  | true=>
   have he:=ht rfl
   have e20:((l.length:Nat):Int)=20:=by omega
   have gen:∀z:Int,z=(l.length:Int)→∀K:kA,bA X EE [.own id l.length 0 l.length,AI z,AI l.length,.fn g caps] (h.set id (.row (some 8) (FA (ltC c) l) 0)) K=K (.tup []) (h.set id (.row (some 8) (FA (ltC c) l) 0)) []:=fun z hz K=>by subst hz;exact i0 K
   have i0':=gen 20 (by omega)
   have b1:¬((40:Int)≤(l.length:Int)):=by omega
   simp only[go_sem,if_true,if_false,Bool.false_eq_true,b1,i0'];refine NA (fun _:Unit=>⟨[(0,.own id l.length 0 l.length),(1,AI l.length),(2,.fn g caps),(6,AI 20)],h.set id (.row (some 8) (FA (ltC c) l) 0),[]⟩) (fun _=>True) (fun _=>0) () rfl trivial ?_
   intro _ _;simp only[go_sem,b2]
 simp only[yL,go_sem,key]
theorem z7B {v:AV}{g:Nat}{caps:List AV}{p:PV→Bool}{xs:List PV}(hv:Shows (some 8) v xs h)(hp:z1j g caps p xs h)(hl:xs.length≤1000000000) :
 bA X nM [v,.fn g caps] h K=K (AI (LM p xs)) h []:=by
 refine xA ?_;rw[za9];have vl:=hv.len
 simp only[oP,go_sem,vl];refine NA (fun k:Nat=>⟨[(0,v),(1,.fn g caps),(7,AI xs.length),(8,AI k)],h,[]⟩) (fun k=>k≤xs.length∧∀x∈xs.take k,p x=false) (fun k=>xs.length-k) 0 rfl (by simp) ?_
 rintro k ⟨hk,hn⟩
 rcases Nat.lt_or_ge k xs.length with hlt|hge
 ·obtain⟨a,ha,hb⟩:=hv.get k hlt
  have w2:IntKind.i64.wrap ((k:Int)+1)=((k+1:Nat):Int):=nA _ (by omega) (by omega)
  have ht:=hp _ (List.getElem_mem hlt)
  cases hpk:p xs[k]with
  | true=>
   have hf:xs.findIdx p=k:=by
    rw[List.findIdx_eq hlt];refine⟨hpk,fun j hj=>?_⟩
    have:=hn xs[j] (by rw[List.mem_take_iff_getElem];exact⟨j,by omega,rfl⟩)
    simpa using this
   simp only[go_sem,hlt,ha,hb,ht,hpk,w2];simp only[LM,hf,hlt,if_true]
  | false=>
   simp only[go_sem,hlt,ha,hb,ht,hpk,w2];refine⟨k+1,rfl,⟨by omega,fun x hx=>?_⟩,by omega⟩
   rw[List.take_succ_eq_append_getElem hlt,List.mem_append,List.mem_singleton]at hx;rcases hx with hx|hx
   ·exact hn x hx
   ·rw[hx];exact hpk
 ·have e1:k=xs.length:=by omega
  subst e1;simp only[go_sem,Nat.lt_irrefl];rw[List.take_length]at hn;have:¬xs.findIdx p<xs.length:=by
   rw[Nat.not_lt,Nat.le_iff_lt_or_eq];right
   exact(List.findIdx_eq_length.2 (fun x hx=>by simp [hn x hx])).symm
  simp [LM,this]
theorem z7y {g:Nat}{caps:List AV}{p:PV→Bool}{xs:List PV}(hp:z1j g caps p xs h)(hs:LC (some 8) xs)(hl:xs.length≤1000000000) :
 bA X lM [.p (.sl (some 8) xs),.fn g caps] h K=K (AB (xs.any p)) h []:=by
 refine xA ?_;rw[za6];have vi:=fun K=>z7B (h:=h) (K:=K) (z6A hs) hp hl
 simp only[mP,go_sem,vi,zfZ]
end Go.Am
end
section
/- Lists of entries: what is wrong with them,the reference. -/
open Go
set_option linter.all false
set_option maxRecDepth 100000
namespace Go.Am
variable {h:aA} {K:kA}
attribute [-go_sem] ZA
def TC:PV→Ent
 | .agg [.str a,.int _ b,.int _ c,.int _ d,.str e,.str f,.str g,.int _ i]=>⟨a,b,c,d,e,f,g,i⟩
 | _=>OC
theorem z0E (x:Ent):TC x.pv=x:=rfl
theorem s_EF1 (o x:Ent)(id:Nat)(hx:h[id]?=some x.box):bA X mJ [.p o.pv,.ref id 0] h K=K (AB (rB o x)) h []:=by
 refine xA ?_;rw[zaw rfl];have q:=fun h K=>zmq (h:=h) (K:=K) o x
 have hl:=mD hx
 have hx2:∀t,(h++t)[id]?=some x.box:=fun t=>by rw[List.getElem?_append_left hl];exact hx
 simp only[Ent.pv]at q;unfold Ent.box at hx hx2;simp only[fP,Ent.pv,go_sem,hx,hx2,q]
attribute [-go_sem] oX
theorem zlR (r:List Ent)(hr:∀ x∈r,EntOk x)(hn:r.length≤1000000):bA X eM [lB r] h K=K (AI (WA r)) h []:=by
 refine xA ?_;rw[zav rfl];unfold WA;by_cases h1:(2000:Int)<r.length
 ·simp only[uL,go_sem,h1]
 simp only[uL,go_sem,h1];refine NA (fun k:Nat=>⟨[(0,lB r),(11,lB r),(12,AI r.length),(13,AI k)],h,[]⟩) (fun k=>k≤r.length∧BC (r.take k).getLast? (r.drop k)=BC none r∧∀x∈r.take k,mB x=0) (fun k=>r.length-k) 0 rfl ⟨by omega,rfl,by simp⟩ ?_
 rintro k ⟨hkl,hp,hz⟩
 rcases Nat.lt_or_ge k r.length with hlt|hge
 ·have hg:=TB Ent.pv hlt
  have w2:IntKind.i64.wrap ((k:Int)+1)=((k+1:Nat):Int):=nA _ (by omega) (by omega)
  have hx:=hr _ (List.getElem_mem hlt)
  have hlast:(r.take (k+1)).getLast?=some r[k]:=by rw[List.take_succ_eq_append_getElem hlt];exact List.getLast?_concat
  rw[List.drop_eq_getElem_cons hlt,z29]at hp;have cx:=AE (x:=r[k])
  have rf:=fun h K=>zlS (h:=h) (K:=K) r[k] hx
  simp only[Ent.pv]at rf;by_cases h2:mB r[k]=0
  ·rw[if_neg (by simp [h2])]at hp
   have hz':∀x∈r.take (k+1),mB x=0:=fun x hx=>by
    rw[List.take_succ_eq_append_getElem hlt,List.mem_append,List.mem_singleton]at hx;rcases hx with hx|rfl
    ·exact hz x hx
    ·exact h2
   cases k with
   | zero=>
    simp only[List.take_zero,List.getLast?_nil,reduceCtorEq,if_false]at hp;have hlt0:(0:Int)<r.length:=by omega
    simp only[go_sem,hlt0,hg,cx,Ent.pv,rf,h2,Int.lt_irrefl,splice,show IntKind.i64.wrap 1=1 from rfl]
    exact⟨0+1,rfl,⟨by omega,by rw[hlast];exact hp,hz'⟩,by omega⟩
   | succ j=>
    have hj:j<r.length:=by omega
    have hgj:=TB Ent.pv hj
    have cj:=AE (x:=r[j])
    have hlj:(r.take (j+1)).getLast?=some r[j]:=by rw[List.take_succ_eq_append_getElem hj];exact List.getLast?_concat
    have w3:IntKind.i64.wrap (((j+1:Nat):Int)-1)=(j:Int):=by rw[nA _ (by omega) (by omega)];omega
    have p1:(0:Int)<((j+1:Nat):Int):=by omega
    have t1:=TP h2
    have t2:=TP (hz r[j] (by rw[List.mem_take_iff_getElem];exact⟨j,by omega,rfl⟩))
    have bt:=fun h K=>zlT (h:=h) (K:=K) r[j] r[j+1] t2 t1
    simp only[Ent.pv]at bt;rw[hlj]at hp;have hneg:=z24 r[j+1] r[j]
    by_cases h3:EA r[j+1] r[j]≤0
    ·have h3':0≤EA r[j] r[j+1]:=by omega
     simp only[h3,decide_true,if_true]at hp;simp only[go_sem,hlt,hj,hg,hgj,cx,cj,Ent.pv,rf,h2,p1,w3,bt,h3',splice];rw[←hp];rfl
    ·have h3':¬0≤EA r[j] r[j+1]:=by omega
     simp only[h3,decide_false,reduceCtorEq,if_false]at hp;simp only[go_sem,hlt,hj,hg,hgj,cx,cj,Ent.pv,rf,h2,p1,w3,bt,h3',w2,splice];exact⟨j+1+1,rfl,⟨by omega,by rw[hlast];exact hp,hz'⟩,by omega⟩
  ·rw[if_pos h2]at hp
   simp only[go_sem,hlt,hg,cx,Ent.pv,rf,h2,splice];rw[←hp,if_pos h2]
 ·have ek:k=r.length:=by omega
  subst ek;rw[List.drop_length]at hp;have hz0:BC none r=0:=by rw[←hp];cases (r.take r.length).getLast? <;> rfl
  rw[if_neg (by simp [hz0])]
  simp only[go_sem,Nat.lt_irrefl];rw[oX];simp only[eP,go_sem];refine NA (fun k:Nat=>⟨[(0,lB r),(36,lB r),(37,AI r.length),(38,AI k)],h,[]⟩) (fun k=>k≤r.length∧xC (r.take k) (r.drop k)=xC [] r) (fun k=>r.length-k) 0 rfl ⟨by omega,rfl⟩ ?_
  rintro k ⟨hkl2,hp2⟩
  rcases Nat.lt_or_ge k r.length with hlt|hge
  ·have hg:=TB Ent.pv hlt
   have w2:IntKind.i64.wrap ((k:Int)+1)=((k+1:Nat):Int):=nA _ (by omega) (by omega)
   have cx:=AE (x:=r[k])
   rw[List.drop_eq_getElem_cons hlt,xC,←List.take_succ_eq_append_getElem hlt]at hp2;have cf:=fun K=>z7y (h:=h++[r[k].box]) (K:=K) (g:=mJ) (caps:=[.ref h.length 0]) (p:=fun v=>rB (TC v) r[k]) (xs:=(r.take k).map Ent.pv)
    (fun v hv K=>by
     obtain⟨o,_,rfl⟩:=List.mem_map.1 hv;dsimp only;rw[z0E];exact s_EF1 o r[k] h.length (by simp)) KL (by simp;omega)
   have ea:((r.take k).map Ent.pv).any (fun v=>rB (TC v) r[k])=(r.take k).any (fun o=>rB o r[k]):=by
    rw[List.any_map];rfl
   rw[ea]at cf;have hw:win (r.map Ent.pv) 0 k=(r.take k).map Ent.pv:=by simp [win,List.map_take]
   have hkl3:k≤r.length:=by omega
   unfold Ent.box at cf;cases hc:(r.take k).any (fun o=>rB o r[k]) with
   | true=>
    rw[hc,if_pos rfl]at hp2;rw[hc]at cf;simp only[go_sem,hlt,hg,cx,Ent.pv,splice,hkl3,hw,↓cf,cf];rw[←hp2];first|done|rfl
   | false=>
    rw[hc,if_neg (by simp)]at hp2
    rw[hc]at cf;simp only[go_sem,hlt,hg,cx,Ent.pv,splice,hkl3,hw,↓cf,cf,w2];exact⟨k+1,rfl,⟨by omega,hp2⟩,by omega⟩
  ·have ek:k=r.length:=by omega
   subst ek;rw[List.drop_length]at hp2;have:xC [] r=false:=by rw[←hp2];rfl
   simp only[go_sem,Nat.lt_irrefl,this];first|done|rfl
end Go.Am
end
section
/- What is drawn: numbers,measured values. -/
open Go
namespace Go.Am
variable {L:List Int} {a:Int}
theorem TX (hp:QA 14 a)(u v:Int)(huv:u≤v)(hu : -1000000000000≤u)(hv:v≤1000000000000):∃k a2:Int,a≤a2∧a2≤a+2 ∧ -1099511627776≤k∧k≤1099511627776 ∧
 Gen iE [AI u,AI v] L a a2 (AI k):=by
 have w1:IntKind.i64.wrap (u-1)=u-1:=nA _ (by omega) (by omega)
 have w2:IntKind.i64.wrap (v+1)=v+1:=nA _ (by omega) (by omega)
 by_cases hf:CB L a 12=0
 ·have hm:=z0h (L:=L) (a:=a+1) (l:=[u-1,v+1,u,v,-1099511627776,1099511627776]) (by simp) (by simp)
  simp only[List.mem_cons,List.not_mem_nil,or_false]at hm;refine⟨FD [u-1,v+1,u,v,-1099511627776,1099511627776] L (a+1),a+1+1,by omega,by omega,by omega,by omega,Gen.of fun h id hid=>?_⟩
  rw[qO rfl];simp only[LH,go_sem,hid,DF hp,hf,w1,w2]
 ·have hm:=yN L (a+1) huv (by omega)
  refine⟨KC u v L (a+1),a+1+1,by omega,by omega,by omega,by omega,Gen.of fun h id hid=>?_⟩
  rw[qO rfl];simp only[LH,go_sem,hid,DF hp,hf,w1,w2,huv,show -1152921504606846976≤u by omega,show v≤1152921504606846976 by omega]
end Go.Am
end
section
/- Strings that are drawn. -/
open Go
set_option linter.unusedSimpArgs false
namespace Go.Am
variable {L:List Int} {a:Int} {h l:aA} {id:Nat} {K:kA}
def isS:PV→Bool
 | .str _=>true
 | _=>false
def unS:PV→List UInt8
 | .str s=>s
 | _=>[]
def JB (l:List (List UInt8))(L:List Int)(a:Int):List UInt8:=l.getD (CB L a l.length).toNat []
theorem vN {l:List (List UInt8)}{L:List Int}{a:Int}(hl:0<l.length)(hl2:l.length<4611686018427387904):JB l L a∈l:=by
 obtain⟨b1,b2⟩:=NJ L a l.length (by omega) (by omega)
 unfold JB;have:(CB L a l.length).toNat<l.length:=by omega
 simp only[List.getD,List.getElem?_eq_getElem this,Option.getD_some];exact List.getElem_mem _
theorem znE {xs:List PV}(h:xs.all isS=true):xs=(xs.map unS).map PV.str:=by
 induction xs with
 | nil=>rfl
 | cons x r ih=>
  simp only[List.all_cons,Bool.and_eq_true]at h;simp only[List.map_cons];rw[←ih h.2];cases x <;> first|rfl|cases h.1
theorem zfG (hp:QA 0 a)(xs:List PV)(hx:xs.all isS=true)(hl:0<xs.length)(hl2:xs.length<4611686018427387904) :
 Gen uC [.p (.sl none xs)] L a (a+1) (AS (JB (xs.map unS) L a)):=by
 refine Gen.of fun h id hid=>?_
 rw[zau rfl];obtain⟨b1,b2⟩:=NJ L a xs.length (by omega) (by omega)
 have e4:=mY (k:=.i64) b1
 have e5:xs[(CB L a xs.length).toNat]?=some (.str (JB (xs.map unS) L a)):=by
  have hm:=znE hx
  generalize hq:xs.map unS=q at *;subst hm;simp only[List.length_map]at *;rw[TB PV.str (show(CB L a q.length).toNat<q.length by omega)]
  simp [JB,List.getD,show(CB L a q.length).toNat<q.length by omega]
 simp only[dP,go_sem,PK hid hp,e4,e5]
theorem z6t (hid:id<h.length)(hp:QA 0 a){xs:List PV}(hx:xs.all isS=true)(hl:0<xs.length)(hl2:xs.length<4611686018427387904) :
 bA X uC [.ref id 0,.p (.sl none xs)] (h.set id (BA L a)++l) K=K (AS (JB (xs.map unS) L a)) (h.set id (BA L (a+1))++l) []:=(zfG hp xs hx hl hl2).app hid
attribute [go_sem ↓] z6t
attribute [go_sem] z6t isS unS
end Go.Am
end
section
/- What is drawn: strings,limits. -/
open Go
set_option linter.unusedSimpArgs false
namespace Go.Am
variable {L:List Int} {a:Int} {h l:aA} {id:Nat} {K:kA}
end Go.Am
end
section
/- Sorting records: printed by program. -/
open Go
set_option linter.unusedSimpArgs false
namespace Go.Am
attribute [-go_sem] PV.cells splice
variable {h:aA} {K:kA}
end Go.Am
end
section
/- Leaving out what is alike: printed by program. -/
open Go
set_option linter.unusedSimpArgs false
namespace Go.Am
attribute [-go_sem] PV.cells splice
variable {h:aA} {K:kA}
end Go.Am
end
section
/- What is drawn: records. -/
open Go
set_option linter.unusedSimpArgs false
namespace Go.Am
variable {L:List Int} {a:Int} {h l:aA} {id:Nat} {K:kA}
end Go.Am
end
section
/- Merging two ordered lists: by sorting and leaving out what is alike,and by looking each one up. Plain lists. -/
namespace Go.Am
variable {α:Type}
structure Ordr (c:α→α→Int):Prop where
 neg:∀a b,c b a = - c a b
 trans:∀a b d,c a b≤0→c b d≤0→c a d≤0
theorem Ordr.refl {c:α→α→Int}(o:Ordr c)(a:α):c a a=0:=by have:=o.neg a a;omega
theorem Ordr.lt_le {c:α→α→Int}(o:Ordr c){a b d:α}(h1:c a b<0)(h2:c b d≤0):c a d<0:=by
 by_cases h:c a d<0
 ·exact h
 ·have h3:=o.neg a d
  have h4:=o.trans b d a h2 (by omega)
  have:=o.neg a b;omega
def ltO (c:α→α→Int)(a b:α):Bool:=decide (c a b<0)
theorem Ordr.weak {c:α→α→Int}(o:Ordr c):Weak (ltO c):=by
 refine⟨fun a b h=>?_,fun a b d h1 h2=>?_⟩
 ·simp only[ltO,decide_eq_true_eq,decide_eq_false_iff_not]at h ⊢
  have:=o.neg a b;omega
 ·simp only[ltO,decide_eq_false_iff_not]at h1 h2 ⊢
  have q1:=o.neg a b
  have q2:=o.neg b d
  have q3:=o.trans a b d (by omega) (by omega)
  have q4:=o.neg a d
  omega
def PF (c:α→α→Int)(l:List α):Prop:=l.Pairwise fun x y=>c x y<0
theorem z05 {c:α→α→Int}(o:Ordr c):∀{l m:List α},PF c l→PF c m→(∀x,x∈l↔x∈m)→l=m
 | [],[],_,_,_=>rfl
 | [],y::m,_,_,h=>absurd ((h y).2 (by simp)) (by simp)
 | x::l,[],_,_,h=>absurd ((h x).1 (by simp)) (by simp)
 | x::l,y::m,h1,h2,h=>by
  have a1:=List.pairwise_cons.1 h1
  have a2:=List.pairwise_cons.1 h2
  have e:x=y:=by
   rcases List.mem_cons.1 ((h x).1 (by simp)) with e|e
   ·exact e
   ·rcases List.mem_cons.1 ((h y).2 (by simp)) with e'|e'
    ·exact e'.symm
    ·have b1:=a2.1 x e
     have b2:=a1.1 y e'
     have:=o.neg x y;omega
  subst e;rw[z05 o a1.2 a2.2 fun z=>?_]
  constructor
  ·intro hz
   rcases List.mem_cons.1 ((h z).1 (by simp [hz])) with e|e
   ·subst e;have:=a1.1 z hz;have:=o.refl z;omega
   ·exact e
  ·intro hz
   rcases List.mem_cons.1 ((h z).2 (by simp [hz])) with e|e
   ·subst e;have:=a2.1 z hz;have:=o.refl z;omega
   ·exact e
theorem PU (q:α→α→Bool):∀(l:List α) (p:α),(GB q p l).Sublist l
 | [],_=>List.Sublist.slnil
 | x::r,p=>by
  unfold GB;cases q x p with
  | true=>exact(PU q r x).cons x
  | false=>exact(PU q r x).cons_cons x
theorem zbz (q:α→α→Bool):∀l:List α,(BB q l).Sublist l
 | []=>List.Sublist.slnil
 | x::r=>(PU q r x).cons_cons x
theorem OU {q:α→α→Bool}(hq:∀ x y,q x y=true→x=y):∀(l:List α) (p x:α),x∈l→x=p∨x∈GB q p l
 | [],_,x,hx=>by simp at hx
 | y::r,p,x,hx=>by
  unfold GB;cases h:q y p with
  | true=>
   have e:=hq _ _ h
   subst e;rcases List.mem_cons.1 hx with e|e
   ·exact .inl e
   ·exact OU hq r y x e
  | false=>
   rcases List.mem_cons.1 hx with e|e
   ·subst e;exact .inr (by simp)
   ·rcases OU hq r y x e with e|e
    ·subst e;exact .inr (by simp)
    ·exact .inr (by simp [e])
theorem zby {q:α→α→Bool}(hq:∀ x y,q x y=true→x=y):∀{l:List α} {x:α},x∈l→x∈BB q l
 | y::r,x,hx=>by
  rcases List.mem_cons.1 hx with e|e
  ·subst e;simp [BB]
  ·rcases OU hq r y x e with e|e
   ·subst e;simp [BB]
   ·simp [BB,e]
theorem NU {q:α→α→Bool}(hq:∀ x y,q x y=true↔x=y):∀(l:List α) (p:α) (i:Nat) (h:i+1<(p::GB q p l).length),(p::GB q p l)[i]≠(p::GB q p l)[i+1]
 | [],p,i,h=>by simp [GB]at h
 | x::r,p,i,h=>by
  cases hx:q x p with
  | true=>
   have e:=(hq _ _).1 hx
   subst e;have e2:GB q x (x::r)=GB q x r:=by rw[GB];rw[hx];rfl
   simp only[e2]at h ⊢;exact NU hq r x i h
  | false=>
   have e2:GB q p (x::r)=x::GB q x r:=by rw[GB];rw[hx];rfl
   simp only[e2]at h ⊢;cases i with
   | zero=>
    simp only[List.getElem_cons_zero,List.getElem_cons_succ];intro e;rw[(hq _ _).2 e.symm]at hx;cases hx
   | succ i=>
    simp only[List.getElem_cons_succ];exact NU hq r x i (by simpa using h)
theorem zbx {q:α→α→Bool}(hq:∀ x y,q x y=true↔x=y):∀(l:List α) (i:Nat) (h:i+1<(BB q l).length),(BB q l)[i]≠(BB q l)[i+1]
 | [],i,h=>by simp [BB]at h
 | x::r,i,h=>NU hq r x i h
def tB (c:α→α→Int)(q:α→α→Bool)(a b:List α):List α:=BB q (FA (ltO c) (a++b))
variable {c:α→α→Int} {q:α→α→Bool} {a b:List α}
theorem zhB (hq:∀ x y,q x y=true→x=y){x:α}:x∈tB c q a b↔x∈a∨x∈b:=by
 unfold tB;constructor
 ·intro h
  have:=EJ.1 (zbw h);simpa using this
 ·intro h
  exact zby hq (EJ.2 (by simpa using h))
theorem z5h (o:Ordr c):(tB c q a b).Pairwise fun x y=>c x y≤0:=by
 unfold tB;refine(List.Pairwise.sublist (zbz q _) (FJ o.weak _)).imp fun {x y} h=>?_
 simp only[ltO,decide_eq_false_iff_not]at h;have:=o.neg x y;omega
theorem z8Z (o:Ordr c){l:List α}(hle:l.Pairwise fun x y=>c x y≤0)(hadj:∀ i (h:i+1<l.length),c l[i+1] l[i]≠0):PF c l:=by
 rw[List.pairwise_iff_getElem]at hle;unfold PF;rw[List.pairwise_iff_getElem];intro i j hi hj hij;have h1:c l[i] l[i+1]<0:=by
  have:=hle i (i+1) hi (by omega) (by omega)
  have h2:=hadj i (by omega)
  have:=o.neg l[i] l[i+1];omega
 rcases Nat.lt_or_ge (i+1) j with h|h
 ·exact o.lt_le h1 (hle (i+1) j (by omega) hj h)
 ·have e:j=i+1:=by omega
  subst e;exact h1
theorem zhC (o:Ordr c)(hadj:∀ i (h:i+1<(tB c q a b).length),c (tB c q a b)[i+1] (tB c q a b)[i]≠0):PF c (tB c q a b):=z8Z o (z5h o) hadj
theorem z6J (o:Ordr c){l:List α}(hl:l.Pairwise fun x y=>c x y≠0):PF c (FA (ltO c) l):=by
 have h1:=FJ o.weak l
 have h2:(FA (ltO c) l).Pairwise fun x y=>c x y≠0:=((YX (ltO c) l).pairwise_iff (fun {x y} h=>by have:=o.neg x y;omega)).2 hl
 refine(h1.and h2).imp fun {x y} h=>?_
 have:=h.1;simp only[ltO,decide_eq_false_iff_not]at this;have h3:=o.neg x y
 have:=h.2;omega
end Go.Am
end
section
/- Records alike;copies;bins. -/
open Go
set_option linter.unusedSimpArgs false
namespace Go.Am
variable {h:aA} {K:kA}
def z0y (a b:Rec):Bool:=decide (a.unit=b.unit)&&(decide (a.time=b.time)&&(decide (a.site=b.site)&&decide (a.res=b.res)))
theorem zmz (a b:Rec):z0y a b=true↔a=b:=by
 cases a;cases b
 simp [z0y]
theorem z6h (l:List Int)(hl:l.length≤1000):bA X JG [AL l] h K=K (AI (orL l)) h []:=by
 refine xA ?_;rw[z9U rfl];simp only[KO,go_sem];refine NA (fun k:Nat=>⟨[(5,AL l),(6,AI l.length),(7,AI k)],h,[]⟩) (fun k=>k≤l.length∧orL (l.drop k)=orL l) (fun k=>l.length-k) 0 rfl ⟨by omega,rfl⟩ ?_
 rintro k ⟨hk,hp⟩
 rcases Nat.lt_or_ge k l.length with hlt|hge
 ·have g2:=TB eI hlt
  have w2:IntKind.i64.wrap ((k:Int)+1)=((k+1:Nat):Int):=nA _ (by omega) (by omega)
  rw[List.drop_eq_getElem_cons hlt,orL]at hp;by_cases hz:l[k]=0
  ·rw[if_neg (by simp [hz])]at hp
   simp only[go_sem,hlt,g2,hz,w2];exact⟨k+1,rfl,⟨by omega,hp⟩,by omega⟩
  ·rw[if_pos hz]at hp
   simp only[go_sem,hlt,g2,hz];rw[hp]
 ·have ek:k=l.length:=by omega
  subst ek;rw[List.drop_length]at hp;simp only[go_sem,Nat.lt_irrefl];rw[←hp];rfl
end Go.Am
end
section
/- Lists of entries joined. -/
open Go
set_option linter.unusedSimpArgs false
set_option linter.all false
namespace Go.Am
variable {h:aA} {K:kA}
theorem zlW (n:Nat)(hn:n≤1048576):bA X cQ [.sl0 (some 8),AI n] h K=K (.own h.length 0 0 0) (h++[.row (some 8) [] 0]) []:=by
 refine SM (X:=X) (by kernel_rfl) ?_
 show mE GRL PRL cQ [.sl0 (some 8),AI n] h=_
 exact zhr (by kernel_rfl) (by omega) (by omega)
def lsE (xs:List PV):PV:=.sl (some 8) xs
theorem z4a {ls:List (List PV)}{k:Nat}(hk:k<ls.length):(ls.take (k+1)).flatten=(ls.take k).flatten++ls[k]:=by
 rw[List.take_succ_eq_append_getElem hk,List.flatten_append];simp
theorem PX:∀ (ls:List (List PV))(k:Nat),(ls.take k).flatten.length≤ls.flatten.length
 | [],k=>by simp
 | x::r,0=>by simp
 | x::r,k+1=>by
  have:=PX r k;simp only[List.take_succ_cons,List.flatten_cons,List.length_append];omega
theorem zlK (ls:List (List PV))(hs:∀ l∈ls,LC (some 8) l)(hl:ls.length≤1000)(hn:ls.flatten.length≤1000000) :
 bA X kM [.p (.sl none (ls.map lsE))] h K=K (.own h.length ls.flatten.length 0 ls.flatten.length) (h++[.row (some 8) ls.flatten 0]) []:=by
 refine xA ?_;rw[za5 rfl];simp only[lP,go_sem];refine NA (fun k:Nat=>⟨[(0,.p (.sl none (ls.map lsE))),(3,AI (ls.take k).flatten.length),(9,.p (.sl none (ls.map lsE))),(10,AI ls.length),(11,AI k)],h,[]⟩) (fun k=>k≤ls.length) (fun k=>ls.length-k) 0 rfl (by omega) ?_
 intro k hk;rcases Nat.lt_or_ge k ls.length with hlt|hge
 ·have g2:=TB lsE hlt
  have f1:=z4a hlt
  have f2:=PX ls (k+1)
  have w2:IntKind.i64.wrap ((k:Int)+1)=((k+1:Nat):Int):=nA _ (by omega) (by omega)
  have w3:IntKind.i64.wrap (((ls.take k).flatten.length:Int)+(ls[k].length:Int))=((ls.take (k+1)).flatten.length:Int):=by
   rw[f1,List.length_append];have:(ls.take k).flatten.length+ls[k].length≤1000000:=by rw[f1,List.length_append]at f2;omega
   rw[nA _ (by omega) (by omega)];omega
  have b1:¬(((ls.take (k+1)).flatten.length:Int)<0):=by omega
  simp only[go_sem,hlt,g2,lsE,w3,b1,w2];exact⟨k+1,rfl,by omega,by omega⟩
 ·have ek:k=ls.length:=by omega
  subst ek;have q:=fun h K=>zlW (h:=h) (K:=K) ls.flatten.length (by omega)
  have tl:ls.take ls.length=ls:=List.take_length
  simp only[go_sem,Nat.lt_irrefl,tl,↓q,q];refine NA (fun k:Nat=>⟨[(6,.own h.length (ls.take k).flatten.length 0 (ls.take k).flatten.length),(25,.p (.sl none (ls.map lsE))),(26,AI ls.length),(27,AI k)],h++[.row (some 8) (ls.take k).flatten 0],[]⟩) (fun k=>k≤ls.length) (fun k=>ls.length-k) 0 rfl (by omega) ?_
  intro k hk;rcases Nat.lt_or_ge k ls.length with hlt|hge
  ·have g2:=TB lsE hlt
   have f1:=z4a hlt
   have f2:=PX ls (k+1)
   have w2:IntKind.i64.wrap ((k:Int)+1)=((k+1:Nat):Int):=nA _ (by omega) (by omega)
   have hm:(ls.take k).flatten.length+ls[k].length≤UA:=by rw[f1,List.length_append]at f2;unfold UA;omega
   have hm0:ls[k].length≤UA:=by omega
   simp only[go_sem,hlt,g2,lsE,w2,hm,hm0];exact⟨k+1,by rw[f1];simp,by omega,by omega⟩
  ·have ek:k=ls.length:=by omega
   subst ek;simp only[go_sem,Nat.lt_irrefl,tl];rw[List.take_of_length_le (by simp)]
end Go.Am
end
section
/- Lengths of numbers in bits,and comparisons of plain values. -/
open Go
namespace Go.Am
variable {h:aA} {K:kA}
set_option maxRecDepth 20000
end Go.Am
end
section
/- Entries: those alike beside each other are one: printed by program. -/
open Go
set_option linter.unusedSimpArgs false
namespace Go.Am
attribute [-go_sem] PV.cells splice
variable {h:aA} {K:kA}
attribute [-go_sem] ZA
theorem z7x (id:Nat)(l:List PV)(hs:LC (some 8) l)(hl:l.length≤100000)(hh:h[id]?=some (.row (some 8) l 0)){q:PV→PV→Bool}(hq1:∀ x∈l,∀ y∈l,ZA [2,0,0,0,2,2,2,0] false (.p x) (.p y)=some (AB (q x y)))(hq2:∀ x∈l,∀ y∈l,ZA [2,0,0,0,2,2,2,0] true (.p x) (.p y)=some (AB (!q x y))) :
 bA X jM [.own id l.length 0 l.length] h K=K (.own id l.length 0 (BB q l).length) (h.set id (.row (some 8) (BB q l++List.replicate (l.length-(BB q l).length) (PV.agg [.str [],.int .i64 0,.int .i64 0,.int .i64 0,.str [],.str [],.str [],.int .i64 0])) 0)) []:=by
 refine xA ?_;rw[za4];have hid:=mD hh
 have hst:∀o,(h.set id o)[id]?=some o:=fun o=>WD hid
 have hb:¬h.length≤id:=by omega
 have hb2:max h.length (id+1)=h.length:=by omega
 have hb3:id+1≤h.length:=hid
 by_cases h2:l.length<2
 ·have h2':(l.length:Int)<2:=by omega
  have e:BB q l=l:=by
   cases l with
   | nil=>rfl
   | cons x r=>
    have:r=[]:=List.length_eq_zero_iff.1 (by simp only[List.length_cons]at h2;omega)
    subst this;rfl
  simp only[wL,go_sem,h2',e,Nat.sub_self,List.replicate_zero,List.append_nil,hb,hb2,hb3];rw[fH hh]
 have h2':¬(l.length:Int)<2:=by omega
 simp only[wL,go_sem,h2'];refine NA (fun k:Nat=>⟨[(0,.own id l.length 0 l.length),(3,AI ((k+1:Nat):Int))],h,[]⟩) (fun k=>k+1≤l.length∧BB q (l.take (k+1))=l.take (k+1)) (fun k=>l.length-(k+1)) 0 rfl ⟨by omega,?_⟩ ?_
 ·cases l with
  | nil=>rfl
  | cons x r=>rfl
 rintro k ⟨hk,hc⟩
 rcases Nat.lt_or_ge (k+1) l.length with hlt|hge
 ·have hk0:k<l.length:=by omega
  have g1:l[k+1]?=some l[k+1]:=List.getElem?_eq_getElem hlt
  have g2:l[k]?=some l[k]:=List.getElem?_eq_getElem hk0
  have c1:=wC (QK hs hlt)
  have c2:=wC (QK hs hk0)
  have w1:IntKind.i64.wrap (((k+1:Nat):Int)-1)=(k:Int):=by rw[nA _ (by omega) (by omega)];omega
  have w2:IntKind.i64.wrap (((k+1:Nat):Int)+1)=((k+1+1:Nat):Int):=nA _ (by omega) (by omega)
  have hqk:=hq1 _ (List.getElem_mem hlt) _ (List.getElem_mem hk0)
  have hcs:=z1X q l k hlt
  cases hqx:q l[k+1] l[k]with
  | false=>
   rw[hqx]at hcs;simp only[go_sem,hh,hlt,hk0,g1,g2,c1,c2,w1,w2,hqk,hqx];exact⟨k+1,rfl,⟨by omega,by rw[hcs,hc,cond_false,List.take_succ_eq_append_getElem hlt]⟩,by omega⟩
  | true=>
   rw[hqx,cond_true,List.append_nil,hc]at hcs;have hle:k+1≤l.length:=by omega
   simp only[go_sem,hh,hlt,hk0,hle,g1,g2,c1,c2,w1,hqk,hqx];have e0:k+1+(l.length-(k+1))=l.length:=by omega
   refine NA (fun t:List PV×Nat×Nat=>⟨[(0,.own id l.length 0 l.length),(3,AI ((t.2.1:Nat):Int)),(4,.own id l.length (k+1) (l.length-(k+1))),(5,AI ((t.2.2+1:Nat):Int))],h.set id (.row (some 8) t.1 0),[]⟩)
    (fun t=>t.1.length=l.length∧LC (some 8) t.1∧t.2.1≤k+1+t.2.2∧k+1+t.2.2<l.length∧t.1.take t.2.1=BB q (l.take (k+1+t.2.2+1))∧t.1.drop (k+1+t.2.2)=l.drop (k+1+t.2.2)) (fun t=>l.length-t.2.2)
    (l,k+1,0) (by rw[fH hh];rfl) ⟨rfl,hs,by simp,by simpa using hlt,by simpa using hcs.symm,rfl⟩ ?_
   rintro⟨row,i,j⟩ ⟨r1,r2,r3,r4,r5,r6⟩
   dsimp only at r1 r2 r3 r4 r5 r6;rcases Nat.lt_or_ge (k+1+j+1) l.length with hlt2|hge2
   ·have a1:row[k+1+j+1]?=some l[k+1+j+1]:=by
     have:=congrArg (·[1]?) r6
     simp only[List.getElem?_drop]at this;rw[this,List.getElem?_eq_getElem hlt2]
    have a2:row[k+1+j]?=some l[k+1+j]:=by
     have:=congrArg (·[0]?) r6
     simp only[List.getElem?_drop,Nat.add_zero]at this;rw[this,List.getElem?_eq_getElem r4]
    have s1:=QK hs hlt2
    have d1:=wC s1
    have d2:=wC (QK hs r4)
    have hil:i<l.length:=by omega
    have hir:i<row.length:=by omega
    have g3:row[i]?=some row[i]:=List.getElem?_eq_getElem hir
    have t1:=fun xs h1=>rE s1 (QK r2 hir) id i 0 xs h1
    have lx:=oF s1
    have sx:=mF s1
    simp only[jA]at lx;have v1:IntKind.i64.wrap (((j+1:Nat):Int)-1)=(j:Int):=by rw[nA _ (by omega) (by omega)];omega
    have v2:IntKind.i64.wrap (((j+1:Nat):Int)+1)=((j+1+1:Nat):Int):=nA _ (by omega) (by omega)
    have v3:IntKind.i64.wrap ((i:Int)+1)=((i+1:Nat):Int):=nA _ (by omega) (by omega)
    have p1:j+1<l.length-(k+1):=by omega
    have p2:j<l.length-(k+1):=by omega
    have p3:k+1+(j+1)=k+1+j+1:=by omega
    have p4:k+1+(l.length-(k+1))≤l.length:=by omega
    have hqj:=hq2 _ (List.getElem_mem hlt2) _ (List.getElem_mem r4)
    have hcs2:=z1X q l (k+1+j) hlt2
    cases hqy:q l[k+1+j+1] l[k+1+j]with
    | true=>
     rw[hqy,cond_true,List.append_nil]at hcs2;simp only[go_sem,hst,r1,p1,p2,p3,p4,e0,a1,a2,d1,d2,v1,v2,hqj,hqy];refine⟨(row,i,j+1),rfl,⟨r1,r2,by dsimp only;omega,by dsimp only;omega,?_,?_⟩,by dsimp only;omega⟩
     ·dsimp only;rw[r5,←hcs2];rfl
     ·dsimp only;rw[show k+1+(j+1)=k+1+j+1 from rfl,←List.drop_drop,r6,List.drop_drop]
    | false=>
     rw[hqy,cond_false]at hcs2;simp only[go_sem,hst,r1,p1,p2,p3,p4,e0,a1,a2,g3,d1,d2,v1,v2,v3,hil,hqj,hqy,lx,sx,t1];refine⟨(row.set i l[k+1+j+1],i+1,j+1),rfl,⟨by simpa using r1,fun x hx=>?_,by dsimp only;omega,by dsimp only;omega,?_,?_⟩,by dsimp only;omega⟩
     ·rcases List.mem_or_eq_of_mem_set hx with hx|rfl
      ·exact r2 x hx
      ·exact s1
     ·dsimp only
      rw[show k+1+(j+1)+1=k+1+j+1+1 from rfl,hcs2,←r5,List.take_succ_eq_append_getElem (by simp;omega)]
      simp [List.take_set_of_le]
     ·dsimp only
      rw[List.drop_set_of_lt (by omega),show k+1+(j+1)=k+1+j+1 from rfl,←List.drop_drop,r6,List.drop_drop]
   ·have ej:k+1+j+1=l.length:=by omega
    rw[ej,List.take_length]at r5;have hil:i≤l.length:=by omega
    have hm:(BB q l).length=i:=by rw[←r5];simp;omega
    have p1:¬(j+1<l.length-(k+1)):=by omega
    have sp:splice row i (List.replicate (l.length-i) (PV.agg [.str [],.int .i64 0,.int .i64 0,.int .i64 0,.str [],.str [],.str [],.int .i64 0]))=BB q l++List.replicate (l.length-i) (PV.agg [.str [],.int .i64 0,.int .i64 0,.int .i64 0,.str [],.str [],.str [],.int .i64 0]):=by
     unfold splice;rw[r5,List.length_replicate,List.drop_of_length_le (by omega),List.append_nil]
    have rl:(BB q l++List.replicate (l.length-i) (PV.agg [.str [],.int .i64 0,.int .i64 0,.int .i64 0,.str [],.str [],.str [],.int .i64 0])).length=l.length:=by simp only[List.length_append,hm,List.length_replicate];omega
    rw[hm];generalize BB q l++List.replicate (l.length-i) (PV.agg [.str [],.int .i64 0,.int .i64 0,.int .i64 0,.str [],.str [],.str [],.int .i64 0])=row' at *;simp only[go_sem,hst,r1,rl,hil,p1,sp,show i+(l.length-i)=l.length by omega,hb,hb2,hb3]
 ·have ek:k+1=l.length:=by omega
  rw[ek,List.take_length]at hc;have hge':¬k+1<l.length:=by omega
  simp only[go_sem,hge',hc,Nat.sub_self,List.replicate_zero,List.append_nil,hb,hb2,hb3];rw[fH hh]
end Go.Am
end
section
/- Rows that are handed tov a function: it sees their values. -/
open Go
namespace Go.Am
theorem oU {X:Ctx}{f:Nat}{F:AFun}{a:List AV}{vs:List PV}{h h1:aA}{P:kA}(hf:X.fn f=some F)(hr:F.byref=false)(hp:mA h a=some (vs.map .p,h1))(hq:mA h1 (vs.map .p)=some (vs.map .p,h1))(hl:vs.length=F.nparams)(hlen:h1.length=h.length):bA X f a h P=bA X f (vs.map .p) h1 P:=by
 cases hd:F.isDet with
 | false=>rw[yA hf hr hp (by simpa using hl) hd,yA hf hr hq (by simpa using hl) hd,hlen]
 | true=>rw[vU hf hr hp (by simpa using hl) hd,vU hf hr hq (by simpa using hl) hd,hlen]
theorem RX {h:aA}{id k:Nat}:(frz h id k).length=h.length:=by
 unfold frz;split <;> simp
end Go.Am
end
section
/- Entries tB: station's walk. -/
open Go
set_option linter.all false
namespace Go.Am
variable {h:aA} {K:kA}
attribute [-go_sem] ZA
theorem zmv (l:List Ent)(xs:List PV)(id n fz:Nat)(hn:l.length≤1000000)(hx:xs.length=n)(hh:h[id]?=some (.row (some 8) xs fz))(hlx:l.length≤xs.length)(hw:win xs 0 l.length=l.map Ent.pv):bA X cG [.own id n 0 l.length] h K=K (AB (xC [] l)) (frz h id l.length) []:=by
 have e:=oU (X:=X) (f:=cG) (F:=aL) (a:=[.own id n 0 l.length]) (vs:=[.sl (some 8) (l.map Ent.pv)]) (h:=h) (h1:=frz h id l.length) (P:=K) z7j rfl
  (by
   subst hx;simp [mA,pur,rd,hh,hw,hlx]) rfl rfl RX
 rw[e];exact z6y l hn
def eqE (a b:Ent):Bool:=decide (a=b)
def KJ (a b:List Ent):List Ent×Int:=
 if orL [WA a,WA b]≠0 then([],orL [WA a,WA b])
 else if xC [] (tB EA eqE a b)=true then([],13) else(tB EA eqE a b,0)
theorem lH (x:Ent):TC x.pv=x:=by cases x;rfl
end Go.Am
end
section
/- Two sorted lists,tB: plainly. -/
set_option linter.all false
namespace Go.Am
section
variable {α:Type} (lt:α→α→Bool)
def mrg:List α→List α→List α
 | [],B=>B
 | a::A,[]=>a::A
 | a::A,b::B=>bif lt b a then b::mrg (a::A) B else a::mrg A (b::B)
termination_by A B=>A.length+B.length
theorem oE (A:List α):mrg lt A []=A:=by cases A <;> simp [mrg]
theorem IE (B:List α):mrg lt [] B=B:=by simp [mrg]
theorem qD (a b:α)(A B:List α):mrg lt (a::A) (b::B)=bif lt b a then b::mrg lt (a::A) B else a::mrg lt A (b::B):=by
 rw[mrg]
theorem nI:∀ (n:Nat)(A1 A2 B1 B2:List α),A1.length+B1.length=n→(∀a∈A1,∀b∈B2,lt b a=false)→(∀b∈B1,∀a∈A2,lt b a=true)→mrg lt (A1++A2) (B1++B2)=mrg lt A1 B1++mrg lt A2 B2
 | n,[],A2,[],B2,_,_,_=>by simp [IE]
 | n,[],[],b::B1,B2,_,_,_=>by simp [IE]
 | n,[],a::A2,b::B1,B2,hn,h1,h2=>by
  have hb:lt b a=true:=h2 b (by simp) a (by simp)
  simp only[List.length_nil,List.length_cons,Nat.zero_add]at hn;have ih:=nI (n-1) [] (a::A2) B1 B2 (by simp;omega) (by simp) (fun x hx y hy=>h2 x (List.mem_cons_of_mem _ hx) y hy)
  simp only[List.nil_append,IE]at ih ⊢;rw[List.cons_append,qD,hb,cond_true,ih];rfl
 | n,a::A1,A2,[],[],_,_,_=>by simp [oE]
 | n,a::A1,A2,[],b::B2,hn,h1,h2=>by
  have hb:lt b a=false:=h1 a (by simp) b (by simp)
  simp only[List.length_nil,List.length_cons,Nat.add_zero]at hn;have ih:=nI (n-1) A1 A2 [] (b::B2) (by simp;omega) (fun x hx y hy=>h1 x (List.mem_cons_of_mem _ hx) y hy) (by simp)
  simp only[List.nil_append,oE]at ih ⊢;rw[List.cons_append,qD,hb,cond_false,ih];rfl
 | n,a::A1,A2,b::B1,B2,hn,h1,h2=>by
  simp only[List.length_cons]at hn;simp only[List.cons_append];rw[qD,qD];cases hb:lt b a with
  | true=>
   have ih:=nI (n-1) (a::A1) A2 B1 B2 (by simp;omega) h1 (fun x hx y hy=>h2 x (List.mem_cons_of_mem _ hx) y hy)
   rw[cond_true,cond_true,←List.cons_append,ih];rfl
  | false=>
   have ih:=nI (n-1) A1 A2 (b::B1) B2 (by simp;omega) (fun x hx y hy=>h1 x (List.mem_cons_of_mem _ hx) y hy) h2
   rw[cond_false,cond_false,←List.cons_append,ih];rfl
theorem lY:∀ (n:Nat)(A B:List α),A.length+B.length=n→(mrg lt A B).length=n
 | n,[],B,h=>by rw[IE];simpa using h
 | n,a::A,[],h=>by rw[oE];simpa using h
 | n,a::A,b::B,h=>by
  simp only[List.length_cons]at h;rw[qD];cases lt b a with
  | true=>rw[cond_true,List.length_cons,lY (n-1) (a::A) B (by simp;omega)];omega
  | false=>rw[cond_false,List.length_cons,lY (n-1) A (b::B) (by simp;omega)];omega
theorem WM:∀ (n:Nat)(A B:List α),A.length+B.length=n→∀x,x∈mrg lt A B↔x∈A∨x∈B
 | n,[],B,_,x=>by rw[IE];simp
 | n,a::A,[],_,x=>by rw[oE];simp
 | n,a::A,b::B,h,x=>by
  simp only[List.length_cons]at h;rw[qD];cases lt b a with
  | true=>
   rw[cond_true,List.mem_cons,WM (n-1) (a::A) B (by simp;omega) x,List.mem_cons,List.mem_cons]
   exact⟨fun h=>by rcases h with h|(h|h)|h <;> simp [h],fun h=>by rcases h with(h|h)|h|h <;> simp [h]⟩
  | false=>
   rw[cond_false,List.mem_cons,WM (n-1) A (b::B) (by simp;omega) x,List.mem_cons,List.mem_cons]
   exact⟨fun h=>by rcases h with h|h|h|h <;> simp [h],fun h=>by rcases h with(h|h)|h|h <;> simp [h]⟩
theorem BJ (x:α)(l:List α)(h:∀ c∈l,lt x c=true):(jB lt x l.reverse).reverse=x::l:=by
 have:=MM lt x [] l.reverse (fun c hc=>h c (List.mem_reverse.1 hc)) (fun y r e=>by cases e)
 rw[List.append_nil]at this;rw[this];simp
theorem NM (x y:α)(l:List α)(hy:lt x y=false):(jB lt x (y::l).reverse).reverse=y::(jB lt x l.reverse).reverse:=by
 rw[List.reverse_cons];have:∀r:List α,jB lt x (r++[y])=jB lt x r++[y]:=by
  intro r;induction r with
  | nil=>simp [jB,hy]
  | cons z r ih2=>
   simp only[List.cons_append,jB];cases lt x z with
   | true=>simp only[cond_true,ih2,List.cons_append]
   | false=>simp only[cond_false,List.cons_append]
 rw[this];simp
variable {lt}
theorem QG (w:Weak lt){x a:α}{A:List α}(h:(a::A).Pairwise fun a b=>lt b a=false)(hx:lt x a=true):∀c∈a::A,lt x c=true:=by
 intro c hc;rcases List.mem_cons.1 hc with rfl|hc
 ·exact hx
 ·have h1:=(List.pairwise_cons.1 h).1 c hc
  cases h2:lt x c with
  | true=>rfl
  | false=>exact absurd hx (by rw[w.ntrans a c x h1 h2];simp)
theorem qQ (w:Weak lt)(x:α):∀(n:Nat) (A B:List α),A.length+B.length=n→A.Pairwise (fun a b=>lt b a=false)→B.Pairwise (fun a b=>lt b a=false) →
 (jB lt x (mrg lt A B).reverse).reverse=mrg lt A (jB lt x B.reverse).reverse
 | n,[],B,_,_,_=>by rw[IE,IE]
 | n,a::A,[],h,hA,_=>by
  simp only[List.length_cons,List.length_nil,Nat.add_zero]at h;have e:(jB lt x ([]:List α).reverse).reverse=[x]:=rfl
  rw[oE,e,qD];cases hx:lt x a with
  | true=>rw[cond_true,oE,BJ lt x (a::A) (QG w hA hx)]
  | false=>
   rw[cond_false,NM lt x a A hx];have ih:=qQ w x (n-1) A [] (by simp;omega) (List.pairwise_cons.1 hA).2 .nil
   rw[oE,e]at ih;rw[ih]
 | n,a::A,b::B,h,hA,hB=>by
  simp only[List.length_cons]at h;have pA:=List.pairwise_cons.1 hA
  have pB:=List.pairwise_cons.1 hB
  rw[qD];cases hb:lt b a with
  | true=>
   rw[cond_true];cases hx:lt x b with
   | true=>
    have hxa:lt x a=true:=by
     cases h2:lt x a with
     | true=>rfl
     | false=>exact absurd hx (by rw[w.ntrans b a x (w.asym b a hb) h2];simp)
    rw[BJ lt x (b::B) (QG w hB hx),qD,hxa,cond_true,qD,hb,cond_true];refine BJ lt x _ fun c hc=>?_
    rcases List.mem_cons.1 hc with rfl|hc
    ·exact hx
    ·rcases(WM lt _ (a::A) B rfl c).1 hc with hc|hc
     ·exact QG w hA hxa c hc
     ·exact QG w hB hx c (List.mem_cons_of_mem _ hc)
   | false=>
    rw[NM lt x b _ hx,NM lt x b _ hx,qD,hb,cond_true,qQ w x (n-1) (a::A) B (by simp;omega) hA pB.2]
  | false=>
   rw[cond_false];cases hx:lt x a with
   | true=>
    have hxb:lt x b=true:=by
     cases h2:lt x b with
     | true=>rfl
     | false=>exact absurd hx (by rw[w.ntrans a b x hb h2];simp)
    rw[BJ lt x (b::B) (QG w hB hxb),qD,hx,cond_true,qD,hb,cond_false];refine BJ lt x _ fun c hc=>?_
    rcases List.mem_cons.1 hc with rfl|hc
    ·exact hx
    ·rcases(WM lt _ A (b::B) rfl c).1 hc with hc|hc
     ·exact QG w hA hx c (List.mem_cons_of_mem _ hc)
     ·exact QG w hB hxb c hc
   | false=>
    rw[NM lt x a _ hx,qQ w x (n-1) A (b::B) (by simp;omega) pA.2 hB]
    have hne:∃c C,(jB lt x (b::B).reverse).reverse=c::C∧lt c a=false:=by
     cases hxb:lt x b with
     | true=>exact⟨x,b::B,BJ lt x (b::B) (QG w hB hxb),hx⟩
     | false=>exact⟨b,_,NM lt x b B hxb,hb⟩
    obtain⟨c,C,e,hc⟩:=hne;rw[e,qD,hc,cond_false]
theorem z4L (lt:α→α→Bool)(l:List α)(x:α):FA lt (l++[x])=(jB lt x (FA lt l).reverse).reverse:=by
 unfold FA aD;rw[List.foldl_append,List.reverse_reverse];rfl
theorem zgp (w:Weak lt)(l m:List α):FA lt (l++m)=mrg lt (FA lt l) (FA lt m):=by
 have key:∀n:Nat,∀m:List α,m.length=n→FA lt (l++m)=mrg lt (FA lt l) (FA lt m):=by
  intro n;induction n with
  | zero=>intro m h;rw[List.eq_nil_of_length_eq_zero h,List.append_nil];exact(oE lt _).symm
  | succ n ih=>
   intro m h;obtain⟨m',x,rfl⟩:∃m' x,m=m'++[x]:=⟨m.dropLast,m.getLast (by intro e;rw[e]at h;cases h),(List.dropLast_concat_getLast _).symm⟩
   rw[List.length_append,List.length_singleton]at h;rw[←List.append_assoc,z4L,ih m' (by omega),z4L]
   exact qQ w x _ _ _ rfl (FJ w l) (FJ w m')
 exact key _ m rfl
end
end Go.Am
end
section
/- Ranges exchanged,blocks rotated,two sorted lists tB in place: plainly. -/
set_option linter.all false
namespace Go.Am
section
variable {α:Type}
def tD (P U Q V S:List α)(k:Nat):List α:=P++(V.take k++U.drop k)++Q++(U.take k++V.drop k)++S
theorem zng (P U Q V S:List α):tD P U Q V S 0=P++U++Q++V++S:=by simp [tD]
theorem znl {P U Q V S:List α}(h:U.length=V.length):tD P U Q V S U.length=P++V++Q++U++S:=by
 unfold tD;rw[List.take_of_length_le (by omega),List.drop_eq_nil_of_le (Nat.le_refl _),List.take_of_length_le (Nat.le_refl _),List.drop_eq_nil_of_le (by omega)]
 simp
theorem znk {P U Q V S:List α}(h:U.length=V.length){k:Nat}(hk:k≤U.length):(tD P U Q V S k).length=(P++U++Q++V++S).length:=by
 simp [tD];omega
theorem z07 {P U Q V S:List α}(h:U.length=V.length){k:Nat}(hk:k<U.length) :
 tD P U Q V S k=(P++V.take k)++U[k]::(U.drop (k+1)++Q++U.take k++V[k]'(by omega)::(V.drop (k+1)++S)):=by
 unfold tD;rw[List.drop_eq_getElem_cons hk,List.drop_eq_getElem_cons (show k<V.length by omega)]
 simp only[List.append_assoc,List.cons_append]
theorem znj {P U Q V S:List α}(h:U.length=V.length){k:Nat}(hk:k<U.length) :
 tD P U Q V S k=(P++V.take k++U[k]::(U.drop (k+1)++Q++U.take k))++V[k]'(by omega)::(V.drop (k+1)++S):=by
 rw[z07 h hk];simp
theorem znh {P U Q V S:List α}(h:U.length=V.length){k:Nat}(hk:k<U.length):(tD P U Q V S k)[P.length+k]?=some U[k]:=by
 rw[z07 h hk,List.getElem?_append_right (by simp;omega)]
 have:P.length+k-(P++V.take k).length=0:=by simp;omega
 rw[this];rfl
theorem zni {P U Q V S:List α}(h:U.length=V.length){k:Nat}(hk:k<U.length):(tD P U Q V S k)[P.length+U.length+Q.length+k]?=some (V[k]'(by omega)):=by
 rw[znj h hk,List.getElem?_append_right (by simp;omega)]
 have:P.length+U.length+Q.length+k-(P++V.take k++U[k]::(U.drop (k+1)++Q++U.take k)).length=0:=by simp;omega
 rw[this];rfl
theorem znm {P U Q V S:List α}(h:U.length=V.length){k:Nat}(hk:k<U.length) :
 ((tD P U Q V S k).set (P.length+k) (V[k]'(by omega))).set (P.length+U.length+Q.length+k) U[k]=tD P U Q V S (k+1):=by
 have l1:(P++V.take k).length=P.length+k:=by simp;omega
 rw[z07 h hk,←l1,List.set_append_right _ _ (Nat.le_refl _),Nat.sub_self,List.set_cons_zero];have e:(P++V.take k)++V[k]'(by omega)::(U.drop (k+1)++Q++U.take k++V[k]'(by omega)::(V.drop (k+1)++S))=(P++V.take k++V[k]'(by omega)::(U.drop (k+1)++Q++U.take k))++V[k]'(by omega)::(V.drop (k+1)++S):=by simp
 rw[e];have l2:(P++V.take k++V[k]'(by omega)::(U.drop (k+1)++Q++U.take k)).length=P.length+U.length+Q.length+k:=by simp;omega
 rw[←l2,List.set_append_right _ _ (Nat.le_refl _),Nat.sub_self,List.set_cons_zero];unfold tD;rw[List.take_succ_eq_append_getElem (show k<V.length by omega),List.take_succ_eq_append_getElem hk]
 simp only[List.append_assoc,List.cons_append,List.nil_append]
theorem cut2 (l:List α)(n:Nat)(h:n≤l.length):∃a b,l=a++b∧a.length=n∧b.length=l.length-n:=⟨l.take n,l.drop n,by simp,by simp;omega,by simp⟩
end
section
variable {α:Type} {lt:α→α→Bool}
theorem zhK (w:Weak lt)(x:α):∀(B:List α) (k:Nat),k≤B.length→(∀b∈B.take k,lt b x=true)→(∀b∈B.drop k,lt b x=false)→mrg lt [x] B=B.take k++x::B.drop k
 | B,k,hk,h1,h2=>by
  have e:B=B.take k++B.drop k:=(List.take_append_drop k B).symm
  have m:=nI lt (0+(B.take k).length) [] [x] (B.take k) (B.drop k) (by simp) (by simp) (fun b hb a ha=>by rw[List.mem_singleton]at ha;rw[ha];exact h1 b hb)
  rw[List.nil_append,←e,IE]at m;rw[m];congr 1
  cases hd:B.drop k with
  | nil=>rw[oE]
  | cons b r=>
   have:=h2 b (by rw[hd];simp)
   rw[qD,this,cond_false,IE]
theorem zhL (x:α):∀(A:List α) (k:Nat),k≤A.length→(∀a∈A.take k,lt x a=false)→(∀a∈A.drop k,lt x a=true)→mrg lt A [x]=A.take k++x::A.drop k
 | A,k,hk,h1,h2=>by
  have e:A=A.take k++A.drop k:=(List.take_append_drop k A).symm
  have m:=nI lt ((A.take k).length+0) (A.take k) (A.drop k) [] [x] (by simp) (fun a ha b hb=>by rw[List.mem_singleton]at hb;rw[hb];exact h1 a ha) (by simp)
  rw[List.nil_append,←e,oE]at m;rw[m];congr 1
  cases hd:A.drop k with
  | nil=>rw[IE]
  | cons a r=>
   have:=h2 a (by rw[hd];simp)
   rw[qD,this,cond_true,oE]
end
end Go.Am
end
section
/- Two sorted parts of a row tB in place. -/
open Go
set_option linter.all false
set_option maxRecDepth 100000
namespace Go.Am
variable {h:aA} {K:kA}
attribute [-go_sem] PV.cells splice
theorem z06 (id n:Nat){P U Q V S:List PV}(hU:U.length=V.length)(hn:(P++U++Q++V++S).length=n)(hn2:n≤1000000)(hs:LC (some 8) (P++U++Q++V++S))(hh:h[id]?=some (.row (some 8) (P++U++Q++V++S) 0)){v4:AV} :
 bA X YH [.own id n 0 n,AI P.length,AI ((P.length+U.length+Q.length:Nat):Int),AI U.length,v4] h K=K (.tup []) (h.set id (.row (some 8) (P++V++Q++U++S) 0)) []:=by
 refine xA ?_;rw[zaC];have hid:=mD hh
 have hst:∀o,(h.set id o)[id]?=some o:=fun o=>WD hid
 have hss:∀o o',(h.set id o).set id o'=h.set id o':=fun o o'=>List.set_set ..
 simp only[rP,go_sem];refine NA (fun k:Nat=>⟨[(0,.own id n 0 n),(1,AI P.length),(2,AI ((P.length+U.length+Q.length:Nat):Int)),(3,AI U.length),(10,AI k)],h.set id (.row (some 8) (tD P U Q V S k) 0),[]⟩) (fun k=>k≤U.length) (fun k=>U.length-k) 0 (by rw[zng,fH hh];rfl) (by omega) ?_
 intro k hk;rcases Nat.lt_or_ge k U.length with hlt|hge
 ·have hk':k<V.length:=by omega
  have ga:=znh (P:=P) (Q:=Q) (S:=S) hU hlt
  have gb:=zni (P:=P) (Q:=Q) (S:=S) hU hlt
  have st:=znm (P:=P) (Q:=Q) (S:=S) hU hlt
  have sl:=znk (P:=P) (Q:=Q) (S:=S) hU (k:=k) (by omega)
  rw[hn]at sl;have lt2:P.length+U.length+Q.length+k<n:=by rw[←hn];simp;omega
  have sx:=hs U[k] (by simp)
  have sy:=hs V[k] (by simp)
  have w1:IntKind.i64.wrap ((P.length:Int)+k)=((P.length+k:Nat):Int):=nA _ (by omega) (by omega)
  have w2:IntKind.i64.wrap (((P.length+U.length+Q.length:Nat):Int)+k)=((P.length+U.length+Q.length+k:Nat):Int):=nA _ (by omega) (by omega)
  have w3:IntKind.i64.wrap ((k:Int)+1)=((k+1:Nat):Int):=nA _ (by omega) (by omega)
  generalize U[k]=u at *;generalize V[k]=v at *;have cx:=wC sx
  have cy:=wC sy
  have lx:=oF sx
  have ly:=oF sy
  have ax:=mF sx
  have ay:=mF sy
  simp only[jA]at lx ly;have t1:=fun i xs h1=>rE sy sx id i 0 xs h1
  have t2:=fun i xs h1=>rE sx sy id i 0 xs h1
  generalize tD P U Q V S k=l at *;have g3:∀z,(l.set (P.length+k) z)[P.length+U.length+Q.length+k]?=some v:=fun z=>by rw[List.getElem?_set_ne (by omega)];exact gb
  have l3:∀z,(l.set (P.length+k) z).length=n:=fun z=>by rw[List.length_set];exact sl
  have a1:P.length+k<n:=by omega
  simp only[go_sem,hlt,w1,w2,w3,hst,hss,sl,a1,lt2,ga,gb,g3,l3,cx,cy,lx,ly,ax,ay,t1,t2,st];exact⟨k+1,rfl,hlt,by omega⟩
 ·have e:k=U.length:=by omega
  subst e;rw[znl hU];simp only[go_sem,Nat.lt_irrefl]
theorem zlB (id n:Nat){P A B S l F:List PV}(hA:0<A.length)(hB:0<B.length)(hl:l=P++A++B++S)(hF:F=P++B++A++S)(hn:l.length=n)(hn2:n≤1000000)(hs:LC (some 8) l)(hh:h[id]?=some (.row (some 8) l 0)){v4:AV}(t4:v4.top≤h.length) :
 bA X oM [.own id n 0 n,AI P.length,AI ((P.length+A.length:Nat):Int),AI ((P.length+A.length+B.length:Nat):Int),v4] h K=K (.tup []) (h.set id (.row (some 8) F 0)) []:=by
 refine xA ?_;rw[zaB];have hid:=mD hh
 have hst:∀o,(h.set id o)[id]?=some o:=fun o=>WD hid
 have hss:∀o o',(h.set id o).set id o'=h.set id o':=fun o o'=>List.set_set ..
 have ml:P.length+A.length+B.length≤n:=by rw[←hn,hl];simp only[List.length_append];omega
 have w1:IntKind.i64.wrap (((P.length+A.length:Nat):Int)-P.length)=(A.length:Int):=by rw[nA _ (by omega) (by omega)];omega
 have w2:IntKind.i64.wrap (((P.length+A.length+B.length:Nat):Int)-((P.length+A.length:Nat):Int))=(B.length:Int):=by rw[nA _ (by omega) (by omega)];omega
 simp only[qP,go_sem,w1,w2];have mem0:∀x,x∈F→x∈l:=fun x hx=>by rw[hF]at hx;rw[hl];simp at hx ⊢;rcases hx with q|q|q|q <;> simp [q]
 generalize hm:P.length+A.length=m at *;refine NA (fun t:List PV×List PV×List PV×List PV×List PV=>⟨[(0,.own id n 0 n),(2,AI m),(4,v4),(10,AI t.2.2.1.length),(11,AI t.2.2.2.1.length)],h.set id (.row (some 8) t.1 0),[]⟩)
  (fun t=>t.1=t.2.1++t.2.2.1++t.2.2.2.1++t.2.2.2.2∧t.2.1.length+t.2.2.1.length=m∧0<t.2.2.1.length∧0<t.2.2.2.1.length∧t.2.1++t.2.2.2.1++t.2.2.1++t.2.2.2.2=F∧t.1.length=n) (fun t=>t.2.2.1.length+t.2.2.2.1.length) (l,P,A,B,S) (by rw[fH hh]) ⟨hl,hm,hA,hB,hF.symm,hn⟩ ?_
 rintro⟨cur,P',U,V,S'⟩ ⟨q0,q1,q2,q3,q4,q5⟩
 dsimp only at q0 q1 q2 q3 q4 q5 ⊢;have hs':∀x,x∈P'++V++U++S'→x.shp (some 8)=true:=fun x hx=>hs x (mem0 x (by rw[←q4];exact hx))
 have qn:P'.length+U.length+V.length+S'.length=n:=by rw[←q5,q0];simp only[List.length_append]
 by_cases he:U.length=V.length
 ·have he':((U.length:Int)=(V.length:Int))=True:=eq_true (by omega)
  have w3:IntKind.i64.wrap ((m:Int)-U.length)=(P'.length:Int):=by rw[nA _ (by omega) (by omega)];omega
  have SW:=fun K=>z06 (h:=h.set id (.row (some 8) cur 0)) (K:=K) id n (P:=P') (U:=U) (Q:=[]) (V:=V) (S:=S') he (by rw[List.append_nil,←q0];exact q5) hn2 (fun x hx=>hs' x (by simp at hx ⊢;rcases hx with q|q|q|q <;> simp [q])) (by rw[hst,List.append_nil,q0]) (v4:=v4)
  simp only[List.append_nil,List.length_nil,Nat.add_zero,q1,hss,q4]at SW;have he3:((U.length:Int)=(V.length:Int)):=by omega
  rw[he]at SW w3;simp only[go_sem,he3,w3,↓SW,SW,t4]
 ·have he':((U.length:Int)=(V.length:Int))=False:=eq_false (by omega)
  by_cases hgt:V.length<U.length
  ·have hgt':((V.length:Int)<(U.length:Int))=True:=eq_true (by omega)
   obtain⟨U1,U2,e1,e2,e3⟩:=cut2 U V.length (by omega)
   have ul:U.length=U1.length+U2.length:=by rw[e1,List.length_append]
   have w3:IntKind.i64.wrap ((m:Int)-(U.length:Int))=(P'.length:Int):=by rw[nA _ (by omega) (by omega)];omega
   have w4:IntKind.i64.wrap ((U.length:Int)-(V.length:Int))=(U2.length:Int):=by rw[nA _ (by omega) (by omega)];omega
   have eq1:P'++U1++U2++V++S'=cur:=by rw[q0,e1];simp only[List.append_assoc]
   have SW:=fun K=>z06 (h:=h.set id (.row (some 8) cur 0)) (K:=K) id n (P:=P') (U:=U1) (Q:=U2) (V:=V) (S:=S') e2 (by rw[eq1];exact q5) hn2 (fun x hx=>hs' x (by rw[e1];simp at hx ⊢;rcases hx with q|q|q|q|q <;> simp [q])) (by rw[hst,eq1]) (v4:=v4)
   rw[show P'.length+U1.length+U2.length=m by omega,e2]at SW
   obtain⟨nx,hnx⟩:∃nx,nx=P'++V++U2++U1++S':=⟨_,rfl⟩;simp only[hss,←hnx]at SW;simp only[go_sem,he',hgt',w3,w4,↓SW,SW,t4];refine⟨(nx,P'++V,U2,U1,S'),?_,⟨by dsimp only;rw[hnx];simp only[List.append_assoc],by simp only[List.length_append];omega,by dsimp only;omega,by dsimp only;omega,?_,?_⟩,by dsimp only;omega⟩
   ·dsimp only;rw[e2]
   ·dsimp only;rw[←q4,e1];simp only[List.append_assoc]
   ·dsimp only;rw[hnx];simp only[List.length_append];omega
  ·have hgt':((V.length:Int)<(U.length:Int))=False:=eq_false (by omega)
   obtain⟨V1,V2,e1,e2,e3⟩:=cut2 V (V.length-U.length) (by omega)
   have vl:V.length=V1.length+V2.length:=by rw[e1,List.length_append]
   have uv:U.length=V2.length:=by omega
   have w3:IntKind.i64.wrap ((m:Int)-(U.length:Int))=(P'.length:Int):=by rw[nA _ (by omega) (by omega)];omega
   have w5:IntKind.i64.wrap ((m:Int)+(V.length:Int))=((m+V.length:Nat):Int):=by rw[nA _ (by omega) (by omega)];omega
   have w6:IntKind.i64.wrap (((m+V.length:Nat):Int)-(U.length:Int))=((m+V1.length:Nat):Int):=by rw[nA _ (by omega) (by omega)];omega
   have w4:IntKind.i64.wrap ((V.length:Int)-(U.length:Int))=(V1.length:Int):=by rw[nA _ (by omega) (by omega)];omega
   have eq1:P'++U++V1++V2++S'=cur:=by rw[q0,e1];simp only[List.append_assoc]
   have SW:=fun K=>z06 (h:=h.set id (.row (some 8) cur 0)) (K:=K) id n (P:=P') (U:=U) (Q:=V1) (V:=V2) (S:=S') uv (by rw[eq1];exact q5) hn2 (fun x hx=>hs' x (by rw[e1];simp at hx ⊢;rcases hx with q|q|q|q|q <;> simp [q])) (by rw[hst,eq1]) (v4:=v4)
   rw[show P'.length+U.length+V1.length=m+V1.length by omega]at SW
   obtain⟨nx,hnx⟩:∃nx,nx=P'++V2++V1++U++S':=⟨_,rfl⟩;simp only[hss,←hnx]at SW;simp only[go_sem,he',hgt',w3,w5,w6,w4,↓SW,SW,t4];refine⟨(nx,P',V2,V1,U++S'),?_,⟨?_,by dsimp only;omega,by dsimp only;omega,by dsimp only;omega,?_,?_⟩,by dsimp only;omega⟩
   ·dsimp only;rw[uv]
   ·dsimp only;rw[hnx];simp only[List.append_assoc]
   ·dsimp only;rw[←q4,e1];simp only[List.append_assoc]
   ·dsimp only;rw[hnx];simp only[List.length_append];omega
end Go.Am
end
section
/- Binary searches UD a sorted row,the cut of a merge: plainly. -/
set_option linter.all false
namespace Go.Am
def YK (Q:Nat→Bool)(lo hi:Nat):Prop:=∀c c',lo≤c→c≤c'→c'<hi→Q c=true→Q c'=true
def XC (Q:Nat→Bool)(lo hi i j:Nat):Prop:=lo≤i∧i≤j∧j≤hi∧(∀c,lo≤c→c<i→Q c=false)∧(∀c,j≤c→c<hi→Q c=true)
theorem XC.init {Q:Nat→Bool}{lo hi:Nat}(h:lo≤hi):XC Q lo hi lo hi:=⟨by omega,h,by omega,fun c _ _=>by omega,fun c _ _=>by omega⟩
theorem XC.up {Q:Nat→Bool}{lo hi i j c:Nat}(m:YK Q lo hi)(I:XC Q lo hi i j)(h1:i≤c)(h2:c<j)(hq:Q c=false):XC Q lo hi (c+1) j:=by
 obtain⟨i1,i2,i3,i4,i5⟩:=I;refine⟨by omega,by omega,i3,fun d d1 d2=>?_,i5⟩
 cases hd:Q d with
 | false=>rfl
 | true=>have:=m d c d1 (by omega) (by omega) hd;rw[hq]at this;cases this
theorem XC.dn {Q:Nat→Bool}{lo hi i j c:Nat}(m:YK Q lo hi)(I:XC Q lo hi i j)(h1:i≤c)(h2:c<j)(hq:Q c=true):XC Q lo hi i c:=by
 obtain⟨i1,i2,i3,i4,i5⟩:=I;exact⟨i1,h1,by omega,i4,fun d d1 d2=>m c d (by omega) d1 d2 hq⟩
section
variable {α:Type} {lt:α→α→Bool}
def gC (lt:α→α→Bool):Option α→Option α→Bool
 | some x,some y=>lt x y
 | _,_=>false
abbrev Srt (lt:α→α→Bool)(l:List α):Prop:=l.Pairwise fun a b=>lt b a=false
theorem Weak.irr (w:Weak lt)(x:α):lt x x=false:=by
 cases h:lt x x with
 | false=>rfl
 | true=>have:=w.asym x x h;rw[h]at this;cases this
theorem zC {l X B Y:List α}(hl:l=X++B++Y){c:Nat}(h1:X.length≤c)(h2:c<X.length+B.length):l[c]?=some (B[c-X.length]'(by omega)):=by
 rw[hl,List.append_assoc,List.getElem?_append_right h1,List.getElem?_append_left (by omega),List.getElem?_eq_getElem]
theorem iH (w:Weak lt){l X B Y:List α}(sB:Srt lt B)(hl:l=X++B++Y){c c':Nat}{x y:α}(h1:X.length≤c)(h2:c≤c')(h3:c'<X.length+B.length)(hx:l[c]?=some x)(hy:l[c']?=some y):lt y x=false:=by
 rw[zC hl h1 (by omega)]at hx
 rw[zC hl (by omega) h3]at hy
 cases hx;cases hy
 rcases Nat.lt_or_ge c c' with h|h
 ·exact List.pairwise_iff_getElem.1 sB _ _ _ _ (by omega)
 ·have:c=c':=by omega
  subst this;exact w.irr _
theorem ES {l X B Y:List α}(hl:l=X++B++Y){k:Nat}{b:α}(hb:b∈B.take k):∃c,X.length≤c∧c<X.length+k∧c<X.length+B.length∧l[c]?=some b:=by
 obtain⟨i,hi,e⟩:=List.mem_take_iff_getElem.1 hb;refine⟨X.length+i,by omega,by omega,by omega,?_⟩
 rw[zC hl (by omega) (by omega),←e]
 congr 2
 omega
theorem PP {l X B Y:List α}(hl:l=X++B++Y){k:Nat}{b:α}(hb:b∈B.drop k):∃c,X.length+k≤c∧c<X.length+B.length∧l[c]?=some b:=by
 obtain⟨i,hi,e⟩:=List.mem_drop_iff_getElem.1 hb;refine⟨X.length+(k+i),by omega,by omega,?_⟩
 rw[zC hl (by omega) (by omega),←e]
 congr 2
 omega
theorem mono1 (w:Weak lt){l X B Y:List α}(sB:Srt lt B)(hl:l=X++B++Y)(x:α):YK (fun c=>!gC lt l[c]? (some x)) X.length (X.length+B.length):=by
 intro c c' h1 h2 h3 h;dsimp only at h ⊢;obtain⟨y,hy⟩:∃y,l[c]?=some y:=⟨_,zC hl h1 (by omega)⟩
 obtain⟨y',hy'⟩:∃y,l[c']?=some y:=⟨_,zC hl (by omega) h3⟩
 rw[hy]at h;rw[hy'];simp only[gC,Bool.not_eq_true']at h ⊢;exact w.ntrans x y y' h (iH w sB hl h1 h2 h3 hy hy')
theorem mono2 (w:Weak lt){l X B Y:List α}(sB:Srt lt B)(hl:l=X++B++Y)(x:α):YK (fun c=>gC lt (some x) l[c]?) X.length (X.length+B.length):=by
 intro c c' h1 h2 h3 h;dsimp only at h ⊢;obtain⟨y,hy⟩:∃y,l[c]?=some y:=⟨_,zC hl h1 (by omega)⟩
 obtain⟨y',hy'⟩:∃y,l[c']?=some y:=⟨_,zC hl (by omega) h3⟩
 rw[hy]at h;rw[hy'];simp only[gC]at h ⊢;cases h':lt x y' with
 | true=>rfl
 | false=>have:=w.ntrans y y' x (iH w sB hl h1 h2 h3 hy hy') h';rw[h]at this;cases this
theorem one_l (w:Weak lt){l X B Y:List α}(hl:l=X++B++Y){x:α}{i:Nat}(I:XC (fun c=>!gC lt l[c]? (some x)) X.length (X.length+B.length) i i):mrg lt [x] B=B.take (i-X.length)++x::B.drop (i-X.length):=by
 obtain⟨i1,_,i3,i4,i5⟩:=I;refine zhK w x B _ (by omega) (fun b hb=>?_) (fun b hb=>?_)
 ·obtain⟨c,c1,c2,c3,c4⟩:=ES hl hb
  have:=i4 c c1 (by omega)
  dsimp only at this;rw[c4]at this
  simpa [gC] using this
 ·obtain⟨c,c1,c2,c4⟩:=PP hl hb
  have:=i5 c (by omega) c2
  dsimp only at this;rw[c4]at this
  simpa [gC] using this
theorem one_r {l X A Y:List α}(hl:l=X++A++Y){x:α}{i:Nat}(I:XC (fun c=>gC lt (some x) l[c]?) X.length (X.length+A.length) i i):mrg lt A [x]=A.take (i-X.length)++x::A.drop (i-X.length):=by
 obtain⟨i1,_,i3,i4,i5⟩:=I;refine zhL x A _ (by omega) (fun b hb=>?_) (fun b hb=>?_)
 ·obtain⟨c,c1,c2,c3,c4⟩:=ES hl hb
  have:=i4 c c1 (by omega)
  dsimp only at this;rw[c4]at this
  simpa [gC] using this
 ·obtain⟨c,c1,c2,c4⟩:=PP hl hb
  have:=i5 c (by omega) c2
  dsimp only at this;rw[c4]at this
  simpa [gC] using this
def mvS (x:α)(P B S:List α)(t:Nat):List α:=P++(B.take t++x::B.drop t)++S
theorem z5p (x:α)(P B S:List α)(t:Nat):(mvS x P B S t).length=P.length+B.length+S.length+1:=by
 simp [mvS];omega
theorem z5m (x:α)(P B S:List α){t:Nat}(ht:t<B.length):mvS x P B S t=(P++B.take t)++x::B[t]::(B.drop (t+1)++S):=by
 unfold mvS;rw[List.drop_eq_getElem_cons ht];simp only[List.append_assoc,List.cons_append]
theorem z5n (x:α)(P B S:List α){t:Nat}(ht:t<B.length):mvS x P B S (t+1)=(P++B.take t)++B[t]::x::(B.drop (t+1)++S):=by
 unfold mvS;rw[List.take_succ_eq_append_getElem ht];simp only[List.append_assoc,List.cons_append,List.nil_append]
theorem mQ (Q R:List α)(x y:α){k:Nat}(hk:k=Q.length):(Q++x::y::R)[k]?=some x∧(Q++x::y::R)[k+1]?=some y:=by
 subst hk;constructor
 ·rw[List.getElem?_append_right (Nat.le_refl _),Nat.sub_self];rfl
 ·rw[List.getElem?_append_right (by omega),Nat.add_sub_cancel_left];rfl
theorem z67 (Q R:List α)(x y u v:α){k:Nat}(hk:k=Q.length):((Q++x::y::R).set k u).set (k+1) v=Q++u::v::R∧((Q++x::y::R).set (k+1) v).set k u=Q++u::v::R:=by
 subst hk;constructor
 ·rw[List.set_append_right _ _ (Nat.le_refl _),Nat.sub_self,List.set_cons_zero,List.set_append_right _ _ (by omega),Nat.add_sub_cancel_left];rfl
 ·rw[List.set_append_right _ _ (by omega),Nat.add_sub_cancel_left,List.set_append_right _ _ (Nat.le_refl _),Nat.sub_self];rfl
theorem z5o (P B:List α){t:Nat}(ht:t≤B.length):P.length+t=(P++B.take t).length:=by simp;omega
theorem zhN (x:α)(P B S:List α){t:Nat}(ht:t<B.length):(mvS x P B S t)[P.length+t]?=some x∧(mvS x P B S t)[P.length+t+1]?=some B[t]∧((mvS x P B S t).set (P.length+t) B[t]).set (P.length+t+1) x=mvS x P B S (t+1):=by
 rw[z5m x P B S ht,z5n x P B S ht];have k:=z5o P B (Nat.le_of_lt ht)
 exact⟨(mQ _ _ _ _ k).1,(mQ _ _ _ _ k).2,(z67 _ _ _ _ _ _ k).1⟩
theorem zhM (x:α)(P B S:List α){t:Nat}(ht:t<B.length):(mvS x P B S (t+1))[P.length+t+1]?=some x∧(mvS x P B S (t+1))[P.length+t]?=some B[t]∧((mvS x P B S (t+1)).set (P.length+t+1) B[t]).set (P.length+t) x=mvS x P B S t:=by
 rw[z5m x P B S ht,z5n x P B S ht];have k:=z5o P B (Nat.le_of_lt ht)
 exact⟨(mQ _ _ _ _ k).2,(mQ _ _ _ _ k).1,(z67 _ _ _ _ _ _ k).2⟩
theorem mono3 (w:Weak lt){l P A B S:List α}(sA:Srt lt A)(sB:Srt lt B)(hl:l=P++A++B++S){s0 r0 q:Nat}(h0:P.length≤s0)(h1:r0≤P.length+A.length)(h2:∀ c,s0≤c→c<r0→P.length+A.length≤q-c∧q-c<P.length+A.length+B.length):YK (fun c=>gC lt l[q-c]? l[c]?) s0 r0:=by
 intro c c' g1 g2 g3 h;dsimp only at h ⊢;have hA:l=P++A++(B++S):=by rw[hl];simp
 have hB:l=(P++A)++B++S:=hl
 have lpa:(P++A).length=P.length+A.length:=List.length_append
 have k:=h2 c g1 (by omega)
 have k':=h2 c' (by omega) g3
 obtain⟨v,hv⟩:∃y,l[c]?=some y:=⟨_,zC hA (by omega) (by omega)⟩
 obtain⟨v',hv'⟩:∃y,l[c']?=some y:=⟨_,zC hA (by omega) (by omega)⟩
 obtain⟨u,hu⟩:∃y,l[q-c]?=some y:=⟨_,zC hB (by omega) (by omega)⟩
 obtain⟨u',hu'⟩:∃y,l[q-c']?=some y:=⟨_,zC hB (by omega) (by omega)⟩
 rw[hv,hu]at h;rw[hv',hu'];simp only[gC]at h ⊢;cases h':lt u' v' with
 | true=>rfl
 | false=>
  have e1:=w.ntrans v v' u' (iH w sA hA (by omega) g2 (by omega) hv hv') h'
  have e2:=w.ntrans v u' u e1 (iH w sB hB (by omega) (by omega) (by omega) hu' hu)
  rw[h]at e2;cases e2
theorem znq (w:Weak lt){l P A B S:List α}(sA:Srt lt A)(sB:Srt lt B)(hl:l=P++A++B++S){mid s0 r0 s:Nat}
 (h0:(mid<P.length+A.length∧s0+B.length=mid∧r0=mid∧P.length≤s0)∨(P.length+A.length≤mid∧s0=P.length∧r0=P.length+A.length∧mid+P.length+A.length≤P.length+A.length+B.length+P.length))
 (I:XC (fun c=>gC lt l[mid+(P.length+A.length)-1-c]? l[c]?) s0 r0 s s):mrg lt A B=mrg lt (A.take (s-P.length)) (B.take (mid-s))++mrg lt (A.drop (s-P.length)) (B.drop (mid-s)):=by
 obtain⟨i1,_,i3,i4,i5⟩:=I;have hA:l=P++A++(B++S):=by rw[hl];simp
 have hB:l=(P++A)++B++S:=hl
 have lpa:(P++A).length=P.length+A.length:=List.length_append
 have m:=nI lt _ (A.take (s-P.length)) (A.drop (s-P.length)) (B.take (mid-s)) (B.drop (mid-s)) rfl ?_ ?_
 ·rw[List.take_append_drop,List.take_append_drop]at m
  exact m
 ·intro x hx y hy
  obtain⟨cx,x1,x2,x3,x4⟩:=ES hA hx;obtain⟨cy,y1,y2,y4⟩:=PP hB hy;have q:=i4 (s-1) (by omega) (by omega)
  dsimp only at q;obtain⟨v,hv⟩:∃z,l[s-1]?=some z:=⟨_,zC hA (by omega) (by omega)⟩
  obtain⟨u,hu⟩:∃z,l[mid+(P.length+A.length)-1-(s-1)]?=some z:=⟨_,zC hB (by omega) (by omega)⟩
  rw[hu,hv]at q;exact w.ntrans x u y (w.ntrans x v u (iH w sA hA (by omega) (by omega) (by omega) x4 hv) q) (iH w sB hB (by omega) (by omega) (by omega) hu y4)
 ·intro y hy x hx
  obtain⟨cy,y1,y2,y3,y4⟩:=ES hB hy;obtain⟨cx,x1,x2,x4⟩:=PP hA hx;have q:=i5 s (by omega) (by omega)
  dsimp only at q;obtain⟨v,hv⟩:∃z,l[s]?=some z:=⟨_,zC hA (by omega) (by omega)⟩
  obtain⟨u,hu⟩:∃z,l[mid+(P.length+A.length)-1-s]?=some z:=⟨_,zC hB (by omega) (by omega)⟩
  rw[hu,hv]at q;simp only[gC]at q;cases h:lt y x with
  | true=>rfl
  | false=>
   have e1:=w.ntrans v x y (iH w sA hA (by omega) (by omega) (by omega) hv x4) h
   have e2:=w.ntrans v y u e1 (iH w sB hB (by omega) (by omega) (by omega) y4 hu)
   rw[q]at e2;cases e2
end
end Go.Am
end
section
/- Two sorted parts of a row tB in place: the merge. -/
open Go
set_option linter.all false
set_option maxRecDepth 100000
namespace Go.Am
variable {h:aA} {K:kA}
attribute [-go_sem] PV.cells splice
theorem oQ (z:Nat)(h:z≤2000000):IntKind.u64.wrap ((z:Nat):Int)=(z:Int)∧DJ .u64 (z:Int) 1=((z / 2:Nat):Int)∧IntKind.i64.wrap ((z / 2:Nat):Int)=((z / 2:Nat):Int):=by
 refine⟨znC _ (by omega) (by omega),?_,nA _ (by omega) (by omega)⟩
 have:DJ .u64 (z:Int) 1=(z:Int).fdiv 2:=rfl
 rw[this,Int.fdiv_eq_ediv_of_nonneg _ (by omega)]
 omega
theorem znn (id n:Nat){P B S:List PV}{x:PV}(hn:(P++x::B++S).length=n)(hn2:n≤1000000)(hid:id<h.length){g:Nat}{caps:List AV}{c:PV→PV→Int}(w:Weak (ltC c))(sB:Srt (ltC c) B)(hs:LC (some 8) (x::B))(hc:JD g caps c (x::B) id h) :
 bA X ZE [.own id n 0 n,AI P.length,AI ((P.length+1:Nat):Int),AI ((P.length+1+B.length:Nat):Int),.fn g caps] (h.set id (.row (some 8) (P++x::B++S) 0)) K=K (.tup []) (h.set id (.row (some 8) (P++mrg (ltC c) [x] B++S) 0)) []:=by
 refine xA ?_;rw[uU];have hst:∀o,(h.set id o)[id]?=some o:=fun o=>WD hid
 have hss:∀o o',(h.set id o).set id o'=h.set id o':=fun o o'=>List.set_set ..
 have w1:IntKind.i64.wrap (((P.length+1:Nat):Int)-P.length)=1:=by rw[nA _ (by omega) (by omega)];omega
 obtain⟨l,hl⟩:∃l,l=P++x::B++S:=⟨_,rfl⟩;rw[←hl]at hn ⊢;have hl2:l=(P++[x])++B++S:=by rw[hl];simp
 have lpx:(P++[x]).length=P.length+1:=by simp
 have hnl:n=P.length+B.length+S.length+1:=by rw[←hn,hl];simp;omega
 have gx:l[P.length]?=some x:=by rw[hl,List.append_assoc,List.getElem?_append_right (Nat.le_refl _),Nat.sub_self];rfl
 have M:=mono1 w sB hl2 x
 have mx:x∈x::B:=by simp
 rw[lpx]at M;simp only[XI,go_sem,w1];refine NA (fun t:Nat×Nat=>⟨[(0,.own id n 0 n),(1,AI P.length),(4,.fn g caps),(10,AI t.1),(11,AI t.2)],h.set id (.row (some 8) l 0),[]⟩)
  (fun t=>XC (fun k=>!gC (ltC c) l[k]? (some x)) (P.length+1) (P.length+1+B.length) t.1 t.2) (fun t=>t.2-t.1) (P.length+1,P.length+1+B.length) rfl (XC.init (by omega)) ?_
 rintro⟨i,j⟩ I
 dsimp only at I ⊢;have I':=I
 obtain⟨i1,i2,i3,_,_⟩:=I';rcases Nat.lt_or_ge i j with hlt|hge
 ·have w2:IntKind.i64.wrap ((i:Int)+j)=((i+j:Nat):Int):=nA _ (by omega) (by omega)
  obtain⟨w3,w4,w5⟩:=oQ (i+j) (by omega)
  have d1:i≤(i+j) / 2:=by omega
  have d2:(i+j) / 2<j:=by omega
  generalize (i+j) / 2=k at *;have w6:IntKind.i64.wrap ((k:Int)+1)=((k+1:Nat):Int):=nA _ (by omega) (by omega)
  have gk:=zC hl2 (c:=k) (by omega) (by omega)
  obtain⟨y,hy,my⟩:∃y,l[k]?=some y∧y∈x::B:=⟨_,gk,List.mem_cons_of_mem _ (List.getElem_mem _)⟩;have cx:=wC (hs x mx)
  have cy:=wC (hs y my)
  have hcc:=fun o K=>hc o y my x mx K
  have b1:k<n:=by omega
  have b2:P.length<n:=by omega
  by_cases hxy:c y x<0
  ·simp only[go_sem,hlt,w2,w3,w4,w5,w6,hst,hn,hy,gx,b1,b2,cx,cy,hcc,hxy]
   exact⟨(k+1,j),rfl,I.up M d1 d2 (by simp [hy,gC,ltC,hxy]),by dsimp only;omega⟩
  ·simp only[go_sem,hlt,w2,w3,w4,w5,w6,hst,hn,hy,gx,b1,b2,cx,cy,hcc,hxy]
   exact⟨(i,k),rfl,I.dn M d1 d2 (by simp [hy,gC,ltC,hxy]),by dsimp only;omega⟩
 ·have e:j=i:=by omega
  subst e;have one:=one_l w hl2 (x:=x) (i:=j) (by rw[lpx];exact I)
  rw[lpx]at one;rw[one];obtain⟨t,rfl⟩:∃t,j=P.length+1+t:=⟨j-(P.length+1),by omega⟩
  rw[Nat.add_sub_cancel_left];simp only[go_sem,Nat.lt_irrefl];have w7:IntKind.i64.wrap (((P.length+1+t:Nat):Int)-1)=((P.length+t:Nat):Int):=by rw[nA _ (by omega) (by omega)];omega
  refine NA (fun u:Nat=>⟨[(0,.own id n 0 n),(10,AI ((P.length+1+t:Nat):Int)),(13,AI ((P.length+u:Nat):Int))],h.set id (.row (some 8) (mvS x P B S u) 0),[]⟩) (fun u=>u≤t) (fun u=>t-u) 0 (by rw[show mvS x P B S 0=l by rw[hl];simp [mvS]];rfl) (by omega) ?_
  intro u hu;rcases Nat.lt_or_ge u t with hut|hut
  ·have ub:u<B.length:=by omega
   obtain⟨q1,q2,q3⟩:=zhN x P B S ub;have ml:=z5p x P B S u
   have sx:=hs x mx
   have sy:=hs B[u] (by simp)
   generalize B[u]=y at *;generalize mvS x P B S u=r at *;have w8:IntKind.i64.wrap (((P.length+u:Nat):Int)+1)=((P.length+u+1:Nat):Int):=nA _ (by omega) (by omega)
   have cx:=wC sx
   have cy:=wC sy
   have lx:=oF sx
   have ly:=oF sy
   have ax:=mF sx
   have ay:=mF sy
   simp only[jA]at lx ly;have t1:=fun i xs h1=>rE sx sy id i 0 xs h1
   have t2:=fun i xs h1=>rE sy sx id i 0 xs h1
   have rl:r.length=n:=by omega
   have b1:P.length+u<n:=by omega
   have b2:P.length+u+1<n:=by omega
   have b3:((P.length+u:Nat):Int)<((P.length+t:Nat):Int):=by omega
   have g3:∀z,(r.set (P.length+u) z)[P.length+u+1]?=some y:=fun z=>by rw[List.getElem?_set_ne (by omega)];exact q2
   simp only[go_sem,w7,w8,b3,b1,b2,hst,hss,rl,q1,q2,g3,q3,cx,cy,lx,ly,ax,ay,t1,t2,List.length_set];exact⟨u+1,rfl,hut,by omega⟩
  ·have e:u=t:=by omega
   subst e;have b3:¬((P.length+u:Nat):Int)<((P.length+u:Nat):Int):=by omega
   simp only[go_sem,w7,b3];rw[mvS];simp only[List.append_assoc,List.cons_append]
theorem zno (id n:Nat){P A S:List PV}{x:PV}(hA:2≤A.length)(hn:(P++A++x::S).length=n)(hn2:n≤1000000)(hid:id<h.length){g:Nat}{caps:List AV}{c:PV→PV→Int}(w:Weak (ltC c))(sA:Srt (ltC c) A)(hs:LC (some 8) (x::A))(hc:JD g caps c (x::A) id h) :
 bA X ZE [.own id n 0 n,AI P.length,AI ((P.length+A.length:Nat):Int),AI ((P.length+A.length+1:Nat):Int),.fn g caps] (h.set id (.row (some 8) (P++A++x::S) 0)) K=K (.tup []) (h.set id (.row (some 8) (P++mrg (ltC c) A [x]++S) 0)) []:=by
 refine xA ?_;rw[uU];have hst:∀o,(h.set id o)[id]?=some o:=fun o=>WD hid
 have hss:∀o o',(h.set id o).set id o'=h.set id o':=fun o o'=>List.set_set ..
 obtain⟨l,hl⟩:∃l,l=P++A++x::S:=⟨_,rfl⟩;rw[←hl]at hn ⊢;have hnl:n=P.length+A.length+S.length+1:=by rw[←hn,hl];simp;omega
 have w1:IntKind.i64.wrap (((P.length+A.length:Nat):Int)-P.length)=(A.length:Int):=by rw[nA _ (by omega) (by omega)];omega
 have w1':IntKind.i64.wrap (((P.length+A.length+1:Nat):Int)-((P.length+A.length:Nat):Int))=1:=by rw[nA _ (by omega) (by omega)];omega
 have b0:¬(A.length:Int)=1:=by omega
 have gx:l[P.length+A.length]?=some x:=by rw[hl,List.getElem?_append_right (by simp)];simp
 have M:=mono2 w sA hl x
 have mx:x∈x::A:=by simp
 simp only[XI,go_sem,w1,w1',b0];refine NA (fun t:Nat×Nat=>⟨[(0,.own id n 0 n),(2,AI ((P.length+A.length:Nat):Int)),(4,.fn g caps),(14,AI t.1),(15,AI t.2)],h.set id (.row (some 8) l 0),[]⟩)
  (fun t=>XC (fun k=>gC (ltC c) (some x) l[k]?) P.length (P.length+A.length) t.1 t.2) (fun t=>t.2-t.1) (P.length,P.length+A.length) rfl (XC.init (by omega)) ?_
 rintro⟨i,j⟩ I
 dsimp only at I ⊢;have I':=I
 obtain⟨i1,i2,i3,_,_⟩:=I';rcases Nat.lt_or_ge i j with hlt|hge
 ·have w2:IntKind.i64.wrap ((i:Int)+j)=((i+j:Nat):Int):=nA _ (by omega) (by omega)
  obtain⟨w3,w4,w5⟩:=oQ (i+j) (by omega)
  have d1:i≤(i+j) / 2:=by omega
  have d2:(i+j) / 2<j:=by omega
  generalize (i+j) / 2=k at *;have w6:IntKind.i64.wrap ((k:Int)+1)=((k+1:Nat):Int):=nA _ (by omega) (by omega)
  have gk:=zC hl (c:=k) (by omega) (by omega)
  obtain⟨y,hy,my⟩:∃y,l[k]?=some y∧y∈x::A:=⟨_,gk,List.mem_cons_of_mem _ (List.getElem_mem _)⟩;have cx:=wC (hs x mx)
  have cy:=wC (hs y my)
  have hcc:=fun o K=>hc o x mx y my K
  have b1:k<n:=by omega
  have b2:P.length+A.length<n:=by omega
  by_cases hxy:c x y<0
  ·simp only[go_sem,hlt,w2,w3,w4,w5,w6,hst,hn,hy,gx,b1,b2,cx,cy,hcc,hxy]
   exact⟨(i,k),rfl,I.dn M d1 d2 (by simp [hy,gC,ltC,hxy]),by dsimp only;omega⟩
  ·simp only[go_sem,hlt,w2,w3,w4,w5,w6,hst,hn,hy,gx,b1,b2,cx,cy,hcc,hxy]
   exact⟨(k+1,j),rfl,I.up M d1 d2 (by simp [hy,gC,ltC,hxy]),by dsimp only;omega⟩
 ·have e:j=i:=by omega
  subst e;have one:=one_r hl (x:=x) (i:=j) I
  rw[one];obtain⟨t,rfl⟩:∃t,j=P.length+t:=⟨j-P.length,by omega⟩
  rw[Nat.add_sub_cancel_left];simp only[go_sem,Nat.lt_irrefl];refine NA (fun u:Nat=>⟨[(0,.own id n 0 n),(14,AI ((P.length+t:Nat):Int)),(17,AI ((P.length+u:Nat):Int))],h.set id (.row (some 8) (mvS x P A S u) 0),[]⟩) (fun u=>t≤u∧u≤A.length) (fun u=>u-t) A.length (by rw[show mvS x P A S A.length=l by rw[hl];simp [mvS]]) (by omega) ?_
  intro u hu;rcases Nat.lt_or_ge t u with hut|hut
  ·obtain⟨v,rfl⟩:∃v,u=v+1:=⟨u-1,by omega⟩
   have ub:v<A.length:=by omega
   obtain⟨q1,q2,q3⟩:=zhM x P A S ub;have ml:=z5p x P A S (v+1)
   have sx:=hs x mx
   have sy:=hs A[v] (by simp)
   generalize A[v]=y at *;generalize mvS x P A S (v+1)=r at *;have w8:IntKind.i64.wrap (((P.length+(v+1):Nat):Int)-1)=((P.length+v:Nat):Int):=by rw[nA _ (by omega) (by omega)];omega
   have cx:=wC sx
   have cy:=wC sy
   have lx:=oF sx
   have ly:=oF sy
   have ax:=mF sx
   have ay:=mF sy
   simp only[jA]at lx ly;have t1:=fun i xs h1=>rE sx sy id i 0 xs h1
   have t2:=fun i xs h1=>rE sy sx id i 0 xs h1
   rw[←Nat.add_assoc]at *;have rl:r.length=n:=by omega
   have b1:P.length+v<n:=by omega
   have b2:P.length+v+1<n:=by omega
   have b3:((P.length+t:Nat):Int)<((P.length+v+1:Nat):Int):=by omega
   have g3:∀z,(r.set (P.length+v+1) z)[P.length+v]?=some y:=fun z=>by rw[List.getElem?_set_ne (by omega)];exact q2
   simp only[go_sem,w8,b3,b1,b2,hst,hss,rl,q1,q2,g3,q3,cx,cy,lx,ly,ax,ay,t1,t2,List.length_set];exact⟨v,rfl,by omega,by omega⟩
  ·have e:u=t:=by omega
   subst e;have b3:¬((P.length+u:Nat):Int)<((P.length+u:Nat):Int):=by omega
   simp only[go_sem,b3];rw[mvS];simp only[List.append_assoc,List.cons_append]
end Go.Am
end
section
/- Two sorted parts of a row tB in place: the merge. -/
open Go
set_option linter.all false
set_option maxRecDepth 100000
set_option maxHeartbeats 4000000
namespace Go.Am
variable {h:aA} {K:kA}
attribute [-go_sem] PV.cells splice pX qX
theorem znp (id n:Nat)(hn2:n≤1000000)(hid:id<h.length){g:Nat}{caps:List AV}{c:PV→PV→Int}(w:Weak (ltC c))(es:List PV)(hes:LC (some 8) es)(hc:JD g caps c es id h)(tp:(AV.fn g caps).top≤h.length) :
 ∀(k:Nat) (P A B S:List PV),A.length+B.length≤k→0<A.length→0<B.length→Srt (ltC c) A→Srt (ltC c) B→(∀x∈P++A++B++S,x∈es)→(P++A++B++S).length=n→∀K:kA,
 bA X ZE [.own id n 0 n,AI P.length,AI ((P.length+A.length:Nat):Int),AI ((P.length+A.length+B.length:Nat):Int),.fn g caps] (h.set id (.row (some 8) (P++A++B++S) 0)) K=K (.tup []) (h.set id (.row (some 8) (P++mrg (ltC c) A B++S) 0)) []:=by
 have hst:∀o,(h.set id o)[id]?=some o:=fun o=>WD hid
 have hss:∀o o',(h.set id o).set id o'=h.set id o':=fun o o'=>List.set_set ..
 intro k;induction k with
 | zero=>intro P A B S hk hA;omega
 | succ k ih=>
  intro P A B S hk hA hB sA sB hm hn K;have hcc:∀es',(∀x∈es',x∈es)→JD g caps c es' id h:=fun es' he o x hx y hy K=>hc o x (he x hx) y (he y hy) K
  by_cases hA1:A.length=1
  ·obtain⟨x,rfl⟩:=List.length_eq_one_iff.1 hA1
   have mem:∀y∈x::B,y∈es:=fun y hy=>hm y (by simp at hy ⊢;rcases hy with q|q <;> simp [q])
   have e1:P++[x]++B++S=P++x::B++S:=by simp
   rw[e1]at hn ⊢;exact znn id n hn hn2 hid w sB (fun y hy=>hes y (mem y hy)) (hcc _ mem)
  by_cases hB1:B.length=1
  ·obtain⟨x,rfl⟩:=List.length_eq_one_iff.1 hB1
   have mem:∀y∈x::A,y∈es:=fun y hy=>hm y (by simp at hy ⊢;rcases hy with q|q <;> simp [q])
   have e1:P++A++[x]++S=P++A++x::S:=by simp
   rw[e1]at hn ⊢;exact zno id n (by omega) hn hn2 hid w sA (fun y hy=>hes y (mem y hy)) (hcc _ mem)
  refine xA ?_;rw[uU];obtain⟨l,hl⟩:∃l,l=P++A++B++S:=⟨_,rfl⟩;rw[←hl]at hm hn ⊢;have hA':l=P++A++(B++S):=by rw[hl];simp
  have hnl:n=P.length+A.length+B.length+S.length:=by rw[←hn,hl];simp;omega
  have lpa:(P++A).length=P.length+A.length:=List.length_append
  have w1:IntKind.i64.wrap (((P.length+A.length:Nat):Int)-P.length)=(A.length:Int):=by rw[nA _ (by omega) (by omega)];omega
  have w1':IntKind.i64.wrap (((P.length+A.length+B.length:Nat):Int)-((P.length+A.length:Nat):Int))=(B.length:Int):=by rw[nA _ (by omega) (by omega)];omega
  have b0:¬(A.length:Int)=1:=by omega
  have b0':¬(B.length:Int)=1:=by omega
  generalize hmm:P.length+A.length=m at *;have w2:IntKind.i64.wrap ((P.length:Int)+((m+B.length:Nat):Int))=((P.length+(m+B.length):Nat):Int):=by rw[nA _ (by omega) (by omega)];omega
  obtain⟨w3,w4,w5⟩:=oQ (P.length+(m+B.length)) (by omega)
  generalize hmid:(P.length+(m+B.length)) / 2=mid at *;have w6:IntKind.i64.wrap ((mid:Int)+(m:Int))=((mid+m:Nat):Int):=nA _ (by omega) (by omega)
  have w7:IntKind.i64.wrap (((mid+m:Nat):Int)-1)=((mid+m-1:Nat):Int):=by rw[nA _ (by omega) (by omega)];omega
  have am:P.length≤mid∧mid≤m+B.length:=by omega
  -- what follows from the search on
  have key:∀(K:kA),K (.tup []) (h.set id (.row (some 8) (P++mrg (ltC c) A B++S) 0)) []→∀(b s0 r0:Nat),b=h.length→((mid<m∧s0+B.length=mid∧r0=mid∧P.length≤s0)∨(m≤mid∧s0=P.length∧r0=m∧mid+m≤m+B.length+P.length)) →
   GA (bA X) X.gl uI (AC 8 (rD (bA X) X.gl qN (oA [] false b K))) [(0,.own id n 0 n),(1,AI P.length),(2,AI m),(3,AI ((m+B.length:Nat):Int)),(4,.fn g caps),(18,AI mid),(19,AI ((mid+m:Nat):Int)),(20,AI s0),(21,AI r0),(22,AI ((mid+m-1:Nat):Int))] (h.set id (.row (some 8) l 0)) []:=by
   intro K hK b s0 r0 hb h0;subst hb;have htk:∀o,(h.set id o).take h.length=h.set id o:=fun o=>List.take_of_length_le (by rw[List.length_set];exact Nat.le_refl _)
   have M:=mono3 w (l:=l) (P:=P) (A:=A) (B:=B) (S:=S) sA sB hl (s0:=s0) (r0:=r0) (q:=mid+m-1) (by omega) (by omega) (fun k k1 k2=>by omega)
   refine NA (fun t:Nat×Nat=>⟨[(0,.own id n 0 n),(1,AI P.length),(2,AI m),(3,AI ((m+B.length:Nat):Int)),(4,.fn g caps),(18,AI mid),(19,AI ((mid+m:Nat):Int)),(20,AI t.1),(21,AI t.2),(22,AI ((mid+m-1:Nat):Int))],h.set id (.row (some 8) l 0),[]⟩)
    (fun t=>XC (fun k=>gC (ltC c) l[mid+m-1-k]? l[k]?) s0 r0 t.1 t.2) (fun t=>t.2-t.1) (s0,r0) rfl (XC.init (by omega)) ?_
   rintro⟨i,j⟩ I
   dsimp only at I ⊢;have I':=I
   obtain⟨i1,i2,i3,_,_⟩:=I';rcases Nat.lt_or_ge i j with hlt|hge
   ·have v2:IntKind.i64.wrap ((i:Int)+j)=((i+j:Nat):Int):=nA _ (by omega) (by omega)
    obtain⟨v3,v4,v5⟩:=oQ (i+j) (by omega)
    have d1:i≤(i+j) / 2:=by omega
    have d2:(i+j) / 2<j:=by omega
    generalize (i+j) / 2=k at *;have v6:IntKind.i64.wrap ((k:Int)+1)=((k+1:Nat):Int):=nA _ (by omega) (by omega)
    have v7:IntKind.i64.wrap (((mid+m-1:Nat):Int)-(k:Int))=((mid+m-1-k:Nat):Int):=by rw[nA _ (by omega) (by omega)];omega
    obtain⟨x,hx⟩:∃x,l[k]?=some x:=⟨_,zC hA' (by omega) (by omega)⟩
    obtain⟨y,hy⟩:∃y,l[mid+m-1-k]?=some y:=⟨_,zC hl (by omega) (by omega)⟩
    have mx:=List.mem_of_getElem? hx
    have my:=List.mem_of_getElem? hy
    have cx:=wC (hes x (hm x mx))
    have cy:=wC (hes y (hm y my))
    have hcc:=fun o K=>hc o y (hm y my) x (hm x mx) K
    have b1:k<n:=by omega
    have b2:mid+m-1-k<n:=by omega
    by_cases hxy:c y x<0
    ·simp only[go_sem,hlt,v2,v3,v4,v5,v6,v7,hst,hn,hy,hx,b1,b2,cx,cy,hcc,hxy]
     exact⟨(i,k),rfl,I.dn M d1 d2 (by simp [hx,hy,gC,ltC,hxy]),by dsimp only;omega⟩
    ·simp only[go_sem,hlt,v2,v3,v4,v5,v6,v7,hst,hn,hy,hx,b1,b2,cx,cy,hcc,hxy]
     exact⟨(k+1,j),rfl,I.up M d1 d2 (by simp [hx,hy,gC,ltC,hxy]),by dsimp only;omega⟩
   ·have e:j=i:=by omega
    subst e;have cut:=znq w sA sB hl (mid:=mid) (s0:=s0) (r0:=r0) (s:=j) (by omega) (by rw[hmm];exact I)
    have eA:=(List.take_append_drop (j-P.length) A).symm
    have eB:=(List.take_append_drop (mid-j) B).symm
    have la1:(A.take (j-P.length)).length=j-P.length:=by simp;omega
    have la2:(A.drop (j-P.length)).length=m-j:=by simp;omega
    have lb1:(B.take (mid-j)).length=mid-j:=by simp;omega
    have lb2:(B.drop (mid-j)).length=B.length-(mid-j):=by simp
    have sA1:Srt (ltC c) (A.take (j-P.length)):=sA.sublist (List.take_sublist ..)
    have sA2:Srt (ltC c) (A.drop (j-P.length)):=sA.sublist (List.drop_sublist ..)
    have sB1:Srt (ltC c) (B.take (mid-j)):=sB.sublist (List.take_sublist ..)
    have sB2:Srt (ltC c) (B.drop (mid-j)):=sB.sublist (List.drop_sublist ..)
    rw[cut]at hK;generalize A.take (j-P.length)=A1 at *;generalize A.drop (j-P.length)=A2 at *;generalize B.take (mid-j)=B1 at *;generalize B.drop (mid-j)=B2 at *;have mM:(mrg (ltC c) A1 B1).length=mid-P.length:=by rw[lY (ltC c) _ A1 B1 rfl];omega
    have mem:∀x,(x∈P∨x∈A1∨x∈A2∨x∈B1∨x∈B2∨x∈S)→x∈es:=fun x hx=>hm x (by rw[hl,eA,eB];simp only[List.mem_append];rcases hx with q|q|q|q|q|q <;> simp [q])
    have e24:mid+m-j+(B.length-(mid-j))=m+B.length:=by omega
    -- the right half
    have k10:∀e:En,gA e 0 = .own id n 0 n→gA e 3=AI ((m+B.length:Nat):Int)→gA e 4 = .fn g caps→gA e 18=AI mid→gA e 24=AI ((mid+m-j:Nat):Int) →
     NW (bA X) X.gl oN ⟨e,h.set id (.row (some 8) (P++mrg (ltC c) A1 B1++(A2++B2)++S) 0),[]⟩ (oA [] false h.length K):=by
     intro e a0 a3 a4 a18 a24;rw[pX];have fin:mrg (ltC c) A2 B2=A2++B2→P++(mrg (ltC c) A1 B1++mrg (ltC c) A2 B2)++S=P++mrg (ltC c) A1 B1++(A2++B2)++S:=fun q=>by rw[q];simp only[List.append_assoc]
     by_cases c1:mid<mid+m-j
     ·by_cases c2:mid+m-j<m+B.length
      ·have I2:=fun K=>ih (P++mrg (ltC c) A1 B1) A2 B2 S (by omega) (by omega) (by omega) sA2 sB2 (fun x hx=>by
        simp only[List.mem_append,WM (ltC c) _ A1 B1 rfl]at hx;exact mem x (by rcases hx with(((q|q|q)|q)|q)|q <;> simp [q])) (by simp only[List.length_append];omega) K
       have l0:(P++mrg (ltC c) A1 B1).length=mid:=by rw[List.length_append,mM];omega
       have l1:mid+A2.length=mid+m-j:=by omega
       have l2:mid+m-j+B2.length=m+B.length:=by omega
       rw[l0,l1,l2]at I2;simp only[List.append_assoc]at I2 hK ⊢;simp only[YI,go_sem,a0,a3,a4,a18,a24,c1,c2,I2,htk];exact hK
      ·have:B2=[]:=List.eq_nil_of_length_eq_zero (by omega)
       rw[fin (by rw[this,oE,List.append_nil])]at hK
       simp only[YI,go_sem,a0,a3,a4,a18,a24,c1,c2,htk];simp only[List.append_assoc]at hK ⊢;exact hK
     ·have:A2=[]:=List.eq_nil_of_length_eq_zero (by omega)
      rw[fin (by rw[this,IE,List.nil_append])]at hK
      simp only[YI,go_sem,a0,a3,a4,a18,a24,c1,htk];simp only[List.append_assoc]at hK ⊢;exact hK
    -- the left half
    have k11:∀e:En,gA e 0 = .own id n 0 n→gA e 1=AI P.length→gA e 3=AI ((m+B.length:Nat):Int)→gA e 4 = .fn g caps→gA e 18=AI mid→gA e 20=AI j→gA e 24=AI ((mid+m-j:Nat):Int) →
     NW (bA X) X.gl pN ⟨e,h.set id (.row (some 8) (P++A1++B1++(A2++B2++S)) 0),[]⟩ (oA [] false h.length K):=by
     intro e a0 a1 a3 a4 a18 a20 a24;rw[qX];have fin:mrg (ltC c) A1 B1=A1++B1→P++A1++B1++(A2++B2++S)=P++mrg (ltC c) A1 B1++(A2++B2)++S:=fun q=>by rw[q];simp only[List.append_assoc]
     by_cases c1:P.length<j
     ·by_cases c2:j<mid
      ·have I2:=fun K=>ih P A1 B1 (A2++B2++S) (by omega) (by omega) (by omega) sA1 sB1 (fun x hx=>by
        simp only[List.mem_append]at hx;exact mem x (by rcases hx with((q|q)|q)|(q|q)|q <;> simp [q])) (by simp only[List.length_append];omega) K
       have l1:P.length+A1.length=j:=by omega
       have l2:j+B1.length=mid:=by omega
       rw[l1,l2,show P++mrg (ltC c) A1 B1++(A2++B2++S)=P++mrg (ltC c) A1 B1++(A2++B2)++S by simp only[List.append_assoc]]at I2
       obtain⟨r1,hr1⟩:∃r,r=P++A1++B1++(A2++B2++S):=⟨_,rfl⟩;obtain⟨r2,hr2⟩:∃r,r=P++mrg (ltC c) A1 B1++(A2++B2)++S:=⟨_,rfl⟩;simp only[←hr1,←hr2]at I2 k10;rw[←hr1]
       simp only[ZI,go_sem,a0,a1,a3,a4,a18,a20,a24,c1,c2,I2];refine k10 _ ?_ ?_ ?_ ?_ ?_ <;> rfl
      ·have:B1=[]:=List.eq_nil_of_length_eq_zero (by omega)
       rw[fin (by rw[this,oE,List.append_nil])]
       obtain⟨r2,hr2⟩:∃r,r=P++mrg (ltC c) A1 B1++(A2++B2)++S:=⟨_,rfl⟩;simp only[←hr2]at k10;rw[←hr2]
       simp only[ZI,go_sem,a0,a1,a3,a4,a18,a20,a24,c1,c2];refine k10 _ ?_ ?_ ?_ ?_ ?_ <;> rfl
     ·have:A1=[]:=List.eq_nil_of_length_eq_zero (by omega)
      rw[fin (by rw[this,IE,List.nil_append])]
      obtain⟨r2,hr2⟩:∃r,r=P++mrg (ltC c) A1 B1++(A2++B2)++S:=⟨_,rfl⟩;simp only[←hr2]at k10;rw[←hr2]
      simp only[ZI,go_sem,a0,a1,a3,a4,a18,a20,a24,c1];refine k10 _ ?_ ?_ ?_ ?_ ?_ <;> rfl
    have v9:IntKind.i64.wrap (((mid+m:Nat):Int)-(j:Int))=((mid+m-j:Nat):Int):=by rw[nA _ (by omega) (by omega)];omega
    have el:l=P++A1++A2++B1++(B2++S):=by rw[hl,eA,eB];simp only[List.append_assoc]
    obtain⟨r1,hr1⟩:∃r,r=P++A1++B1++(A2++B2++S):=⟨_,rfl⟩;simp only[←hr1]at k11;have fin:A2=[]∨B1=[]→r1=l:=fun q=>by rw[hr1,el];rcases q with q|q <;> rw[q] <;> simp
    by_cases c1:j<m
    ·by_cases c2:m<mid+m-j
     ·have R:=fun K=>zlB (h:=h.set id (.row (some 8) l 0)) (K:=K) id n (P:=P++A1) (A:=A2) (B:=B1) (S:=B2++S) (l:=l) (F:=r1) (by omega) (by omega) el (by rw[hr1];simp only[List.append_assoc]) hn hn2 (fun x hx=>hes x (hm x hx)) (hst _) (v4:=.fn g caps) (by rw[List.length_set];exact tp)
      have l0:(P++A1).length=j:=by rw[List.length_append];omega
      have l1:j+A2.length=m:=by omega
      have l2:m+B1.length=mid+m-j:=by omega
      rw[l0,l1,l2]at R;simp only[go_sem,Nat.lt_irrefl,v9,c1,c2,R,hss];refine k11 _ ?_ ?_ ?_ ?_ ?_ ?_ ?_ <;> rfl
     ·have q:=fin (.inr (List.eq_nil_of_length_eq_zero (by omega)))
      rw[q]at k11;simp only[go_sem,Nat.lt_irrefl,v9,c1,c2];refine k11 _ ?_ ?_ ?_ ?_ ?_ ?_ ?_ <;> rfl
    ·have q:=fin (.inl (List.eq_nil_of_length_eq_zero (by omega)))
     rw[q]at k11;simp only[go_sem,Nat.lt_irrefl,v9,c1];refine k11 _ ?_ ?_ ?_ ?_ ?_ ?_ ?_ <;> rfl
  simp only[XI,go_sem,w1,w1',b0,b0',w2,w3,w4,w5,w6];by_cases hmm2:mid<m
  ·have w8:IntKind.i64.wrap (((mid+m:Nat):Int)-((m+B.length:Nat):Int))=((mid-B.length:Nat):Int):=by rw[nA _ (by omega) (by omega)];omega
   simp only[go_sem,hmm2,w8,w7];exact key _ ⟨rfl,by simp only[List.append_assoc],rfl⟩ _ (mid-B.length) mid (by simp) (by omega)
  ·simp only[go_sem,hmm2,w7]
   exact key _ ⟨rfl,by simp only[List.append_assoc],rfl⟩ _ P.length m (by simp) (by omega)
end Go.Am
end
section
/- A part of a row sorted by insertion;a stable sort of at most 39 values. -/
open Go
set_option linter.all false
set_option maxRecDepth 100000
set_option maxHeartbeats 4000000
namespace Go.Am
variable {h:aA} {K:kA}
attribute [-go_sem] PV.cells splice
theorem z4B (id n:Nat)(R0 l tl:List PV)(hn:n=R0.length+l.length+tl.length)(hs:LC (some 8) l)(hl:n≤1000000)(hh:h[id]?=some (.row (some 8) (R0.reverse++(l++tl)) 0)){g:Nat}{caps:List AV}{c:PV→PV→Int}(hc:JD g caps c l id h) :
 bA X EE [.own id n 0 n,AI R0.length,AI ((R0.length+l.length:Nat):Int),.fn g caps] h K=K (.tup []) (h.set id (.row (some 8) (R0.reverse++(FA (ltC c) l++tl)) 0)) []:=by
 refine xA ?_;rw[tU];have hid:=mD hh
 have hst:∀o,(h.set id o)[id]?=some o:=fun o=>WD hid
 have w0:IntKind.i64.wrap ((R0.length:Int)+1)=((R0.length+1:Nat):Int):=nA _ (by omega) (by omega)
 simp only[WI,go_sem,w0];refine NA (fun i:Nat=>⟨[(0,.own id n 0 n),(1,AI R0.length),(2,AI ((R0.length+l.length:Nat):Int)),(3,.fn g caps),(8,AI ((R0.length+i:Nat):Int))],h.set id (.row (some 8) ((aD (ltC c) (l.take i)++R0).reverse++(l.drop i++tl)) 0),[]⟩) (fun i=>1≤i∧(i≤l.length∨i=1)) (fun i=>l.length-i) 1 ?_ (by simp) ?_
 ·have:(aD (ltC c) (l.take 1)++R0).reverse++(l.drop 1++tl)=R0.reverse++(l++tl):=by cases l <;> simp [aD,jB]
  rw[this,fH hh]
 rintro i ⟨hi1,hi2⟩
 rcases Nat.lt_or_ge i l.length with hlt|hge
 ·have p0:R0.length+i<R0.length+l.length:=by omega
  simp only[go_sem,p0];have hxl:l[i]∈l:=List.getElem_mem hlt
  generalize hx:l[i]=x at *;generalize hR:aD (ltC c) (l.take i)=R;have hRl:R.length=i:=by rw[←hR,z4H];simp;omega
  have hRm:∀z∈R,z∈l:=fun z hz=>List.mem_of_mem_take ((rQ (ltC c) (l.take i)).mem_iff.1 (by rw[hR];exact hz))
  have hdrop:l.drop i=x::l.drop (i+1):=by rw[←hx];exact List.drop_eq_getElem_cons hlt
  have hnext:aD (ltC c) (l.take (i+1))=jB (ltC c) x R:=by rw[z4K _ _ _ hlt,hR,hx]
  refine NA (fun t:List PV×List PV=>⟨[(0,.own id n 0 n),(1,AI R0.length),(2,AI ((R0.length+l.length:Nat):Int)),(3,.fn g caps),(8,AI ((R0.length+i:Nat):Int)),(9,AI ((R0.length+t.1.length:Nat):Int))],h.set id (.row (some 8) ((t.1++R0).reverse++x::t.2) 0),[]⟩)
   (fun t=>∃B,R=B++t.1∧t.2=B.reverse++(l.drop (i+1)++tl)∧∀b∈B,ltC c x b=true) (fun t=>t.1.length) (R,l.drop (i+1)++tl) (by rw[hdrop,hRl];rfl) ⟨[],rfl,rfl,by simp⟩ ?_
  rintro⟨A,C⟩ ⟨B,q1,q2,q3⟩
  dsimp only at q1 q2 q3;have hlen:((A++R0).reverse++x::C).length=n:=by
   have:R.length=B.length+A.length:=by rw[q1];simp
   rw[q2];simp;omega
  have hBA:B.length+A.length<l.length:=by
   have:R.length=B.length+A.length:=by rw[q1];simp
   omega
  have w1:IntKind.i64.wrap (((R0.length+i:Nat):Int)+1)=((R0.length+(i+1):Nat):Int):=by rw[nA _ (by omega) (by omega)];omega
  cases A with
  | nil=>
   have hd:jB (ltC c) x R=B++[x]:=by rw[q1];exact MM (ltC c) x [] B q3 (fun y r h=>by cases h)
   have p1:¬((R0.length:Nat):Int)<((R0.length+([]:List PV).length:Nat):Int):=by simp
   simp only[go_sem,p1,w1,Int.lt_irrefl];refine⟨i+1,?_,by omega,by omega⟩
   simp only[hnext,hd,q2,List.reverse_append,List.reverse_nil,List.nil_append,List.reverse_cons,List.append_assoc,List.cons_append]
  | cons y A=>
   have hyl:y∈l:=hRm y (by rw[q1];simp)
   have g1:=z4E (y::(A++R0)) C x
   have g2:=z4F (A++R0) C x y
   have sw:=z4G (A++R0) C x y
   simp only[List.length_cons]at hBA;rw[List.cons_append]at hlen ⊢;generalize hrow:(y::(A++R0)).reverse++x::C=row at *;have e1:(A++R0).length=R0.length+A.length:=by rw[List.length_append];omega
   simp only[List.length_cons,e1]at g1 g2 sw;have w2:IntKind.i64.wrap (((R0.length+(A.length+1):Nat):Int)-1)=((R0.length+A.length:Nat):Int):=by rw[nA _ (by omega) (by omega)];omega
   have p1:((R0.length:Nat):Int)<((R0.length+(A.length+1):Nat):Int):=by omega
   have b1:R0.length+(A.length+1)<n:=by omega
   have b2:R0.length+A.length<n:=by omega
   have cx:=wC (hs x hxl)
   have cy:=wC (hs y hyl)
   have hcc:=fun o K=>hc o x hxl y hyl K
   simp only[List.length_cons];rw[Nat.add_assoc]at g1 sw;by_cases hxy:c x y<0
   ·have g3:(row.set (R0.length+(A.length+1)) y)[R0.length+A.length]?=some y:=by rw[List.getElem?_set_ne (by omega),g2]
    have lx:=oF (hs x hxl)
    have ly:=oF (hs y hyl)
    have sx:=mF (hs x hxl)
    have sy:=mF (hs y hyl)
    simp only[jA]at lx ly;have t1:=fun i xs h1=>rE (hs x hxl) (hs y hyl) id i 0 xs h1
    have t2:=fun i xs h1=>rE (hs y hyl) (hs x hxl) id i 0 xs h1
    simp only[go_sem,hst,p1,hlen,g1,g2,g3,w2,b1,b2,cx,cy,hcc,hxy,lx,ly,sx,sy,t1,t2,sw];refine⟨(A,y::C),by simp,⟨B++[y],by simp [q1],by simp [q2],fun b hb=>?_⟩,by simp⟩
    rw[List.mem_append,List.mem_singleton]at hb;rcases hb with hb|rfl
    ·exact q3 b hb
    ·simpa [ltC] using hxy
   ·have hd:jB (ltC c) x R=B++x::y::A:=by rw[q1];exact MM (ltC c) x (y::A) B q3 (fun z r h=>by cases h;simpa [ltC] using hxy)
    simp only[go_sem,hst,p1,hlen,g1,g2,w2,b1,b2,cx,cy,hcc,hxy,w1];refine⟨i+1,?_,by omega,by omega⟩
    simp only[hnext,hd,←hrow,q2,List.reverse_append,List.reverse_cons,List.append_assoc,List.cons_append,List.nil_append]
 ·have hge':¬R0.length+i<R0.length+l.length:=by omega
  have e1:l.take i=l:=List.take_of_length_le hge
  have e2:l.drop i=[]:=List.drop_of_length_le hge
  simp only[go_sem,hge',e1,e2];simp [FA]
end Go.Am
end
section
/- A stable sort of 21 tov 39 values. -/
open Go
set_option linter.all false
set_option maxRecDepth 100000
namespace Go.Am
variable {h:aA} {K:kA}
attribute [-go_sem] PV.cells splice
theorem JD.set {g:Nat}{caps:List AV}{c:PV→PV→Int}{xs:List PV}{id:Nat}{h:aA}(hc:JD g caps c xs id h)(o:Obj):JD g caps c xs id (h.set id o):=fun o' x hx y hy K=>by
 rw[List.set_set];exact hc o' x hx y hy K
theorem JD.sub {g:Nat}{caps:List AV}{c:PV→PV→Int}{xs ys:List PV}{id:Nat}{h:aA}(hc:JD g caps c xs id h)(hs:∀ x∈ys,x∈xs):JD g caps c ys id h:=fun o' x hx y hy K=>hc o' x (hs x hx) y (hs y hy) K
theorem zmO (id:Nat)(l:List PV)(hs:LC (some 8) l)(hl:l.length≤39)(hh:h[id]?=some (.row (some 8) l 0)){g:Nat}{caps:List AV}{c:PV→PV→Int}(hc:JD g caps c l id h)(w:Weak (ltC c))(tp:(AV.fn g caps).top≤h.length) :
 bA X MG [.own id l.length 0 l.length,.fn g caps] h K=K (.tup []) (h.set id (.row (some 8) (FA (ltC c) l) 0)) []:=by
 by_cases hle:l.length≤20
 ·exact z6G id l hs hle hh hc
 refine xA ?_;rw[z1E];have hid:=mD hh
 have hst:∀o,(h.set id o)[id]?=some o:=fun o=>WD hid
 have hss:∀o o',(h.set id o).set id o'=h.set id o':=fun o o'=>List.set_set ..
 generalize hn:l.length=n at *;obtain⟨l1,l2,el,n1,n2⟩:=cut2 l 20 (by omega)
 have m1:∀x∈l1,x∈l:=fun x hx=>by rw[el];simp [hx]
 have m2:∀x∈l2,x∈l:=fun x hx=>by rw[el];simp [hx]
 have i1:=sQ (ltC c) l1
 have i2:=sQ (ltC c) l2
 have I1:∀K:kA,bA X EE [.own id n 0 n,AI 0,AI 20,.fn g caps] h K=K (.tup []) (h.set id (.row (some 8) (FA (ltC c) l1++l2) 0)) []:=fun K=>by
  have e:=z4B (h:=h) (K:=K) id n [] l1 l2 (by simp;omega) (fun x hx=>hs x (m1 x hx)) (by omega) (by rw[List.reverse_nil,List.nil_append,←el];exact hh) (hc.sub m1)
  rw[List.reverse_nil,List.nil_append,List.length_nil,n1]at e;exact e
 have I2:∀K:kA,bA X EE [.own id n 0 n,AI 20,AI n,.fn g caps] (h.set id (.row (some 8) (FA (ltC c) l1++l2) 0)) K=K (.tup []) (h.set id (.row (some 8) (FA (ltC c) l1++FA (ltC c) l2) 0)) []:=fun K=>by
  have e:=z4B (h:=h.set id (.row (some 8) (FA (ltC c) l1++l2) 0)) (K:=K) id n (FA (ltC c) l1).reverse l2 [] (by simp;omega) (fun x hx=>hs x (m2 x hx)) (by omega) (by rw[List.reverse_reverse,List.append_nil];exact hst _) ((hc.sub m2).set _)
  rw[List.length_reverse,i1,n1,show 20+l2.length=n by omega,List.reverse_reverse,List.append_nil,List.set_set]at e
  exact e
 have S0:∀K:kA,bA X ZE [.own id n 0 n,AI 0,AI 20,AI n,.fn g caps] (h.set id (.row (some 8) (FA (ltC c) l1++FA (ltC c) l2) 0)) K=K (.tup []) (h.set id (.row (some 8) (FA (ltC c) l) 0)) []:=fun K=>by
  have e:=znp id n (by omega) hid w l hs hc tp n [] (FA (ltC c) l1) (FA (ltC c) l2) [] (by omega) (by omega) (by omega) (FJ w _) (FJ w _) (fun x hx=>by
   simp only[List.nil_append,List.append_nil,List.mem_append,EJ]at hx;exact hx.elim (m1 x) (m2 x)) (by simp;omega) K
  rw[List.nil_append,List.append_nil,List.nil_append,List.append_nil,←zgp w,←el,List.length_nil,i1,i2,n1,show 0+20+l2.length=n by omega]at e
  exact e
 have key:∀K:kA,bA X qJ [.own id n 0 n,AI n,.fn g caps] h K=K (.tup []) (h.set id (.row (some 8) (FA (ltC c) l) 0)) []:=by
  intro K;refine xA ?_;rw[z1F];simp only[zL,go_sem];refine NA (fun t:Bool=>⟨[(0,.own id n 0 n),(1,AI n),(2,.fn g caps),(6,AI 20),(7,AI (if t=true then 20 else 0)),(8,AI (if t=true then 40 else 20))],if t=true then h.set id (.row (some 8) (FA (ltC c) l1++l2) 0) else h,[]⟩) (fun _=>True) (fun t=>if t=true then 0 else 1) false rfl trivial ?_
  intro t _;cases t with
  | false=>
   have b1:(20:Int)≤(n:Int):=by omega
   simp only[go_sem,if_true,if_false,Bool.false_eq_true,b1,I1,show IntKind.i64.wrap ((20:Int)+20)=40 from rfl]
   exact⟨true,rfl,by decide⟩
  | true=>
   have b1:¬((40:Int)≤(n:Int)):=by omega
   simp only[go_sem,if_true,if_false,Bool.false_eq_true,b1,I2];refine NA (fun t:Bool=>⟨[(0,.own id n 0 n),(1,AI n),(2,.fn g caps),(6,AI (if t=true then 40 else 20))],if t=true then h.set id (.row (some 8) (FA (ltC c) l) 0) else h.set id (.row (some 8) (FA (ltC c) l1++FA (ltC c) l2) 0),[]⟩) (fun _=>True) (fun t=>if t=true then 0 else 1) false rfl trivial ?_
   intro t _;cases t with
   | false=>
    have b2:(20:Int)<(n:Int):=by omega
    simp only[go_sem,if_true,if_false,Bool.false_eq_true,b2,show IntKind.i64.wrap ((2:Int)*20)=40 from rfl]
    refine NA (fun _:Unit=>⟨[(0,.own id n 0 n),(1,AI n),(2,.fn g caps),(6,AI 20),(7,AI 0),(8,AI 40)],h.set id (.row (some 8) (FA (ltC c) l1++FA (ltC c) l2) 0),[]⟩) (fun _=>True) (fun _=>0) () rfl trivial ?_
    intro _ _;simp only[go_sem,b1,b2,S0,show IntKind.i64.wrap (20:Int)=20 from rfl,show IntKind.i64.wrap (40:Int)=40 from rfl]
    exact⟨true,rfl,by decide⟩
   | true=>
    have b2:¬((40:Int)<(n:Int)):=by omega
    simp only[go_sem,if_true,if_false,Bool.false_eq_true,b2]
 simp only[yL,go_sem,key]
end Go.Am
end
section
/- Boards followed through their steps,plainly: the program's floor and the reference's agree. -/
set_option linter.all false
namespace Go.Am
abbrev Nm:=List UInt8
section
variable {β:Type}
def qA (l:List (Nm × β))(k:Nm):Option β:=(l.find? fun e=>decide (e.1=k)).map (·.2)
def PA (l:List (Nm × β))(k:Nm)(v:β):List (Nm×β):=if l.any (fun e=>decide (e.1=k)) then l.map (fun e=>if e.1=k then(k,v) else e) else l++[(k,v)]
def WF (l:List (Nm × β))(k:Nm):List (Nm×β):=l.filter fun e=>!decide (e.1=k)
theorem gG (e:Nm × β)(l:List (Nm × β))(k:Nm):qA (e::l) k=if e.1=k then some e.2 else qA l k:=by
 unfold qA;rw[List.find?_cons];by_cases h:e.1=k <;> simp [h]
theorem zfM {l:List (Nm × β)}{k:Nm}(h:l.any (fun e=>decide (e.1=k))=false):qA l k=none:=by
 unfold qA;rw[List.find?_eq_none.2 (fun x hx=>by rw[List.any_eq_false]at h;exact h x hx)]
 rfl
theorem zfK (l m:List (Nm × β))(k:Nm):qA (l++m) k=(qA l k).or (qA m k):=by
 unfold qA;rw[List.find?_append];cases l.find? (fun e=>decide (e.1=k)) <;> rfl
theorem zfL (l:List (Nm × β))(k:Nm)(v:β)(j:Nm):qA (l.map fun e=>if e.1=k then(k,v) else e) j=if j=k then(qA l k).map (fun _=>v) else qA l j:=by
 induction l with
 | nil=>simp [qA]
 | cons e l ih=>
  rw[List.map_cons,gG,ih,gG,gG];by_cases h1:e.1=k
  ·rw[if_pos h1]
   by_cases h2:j=k
   ·subst h2;simp [h1]
   ·have h3:¬k=j:=fun q=>h2 q.symm
    simp [h1,h2,h3]
  ·rw[if_neg h1]
   by_cases h2:j=k
   ·subst h2;simp [h1]
   ·simp [h2]
theorem AJ (l:List (Nm × β))(k:Nm)(v:β)(j:Nm):qA (PA l k v) j=if j=k then some v else qA l j:=by
 unfold PA;cases h:l.any (fun e=>decide (e.1=k)) with
 | true=>
  rw[if_pos rfl,zfL];by_cases hj:j=k
  ·rw[if_pos hj,if_pos hj]
   obtain⟨e,he,hk⟩:=List.any_eq_true.1 h;have:qA l k≠none:=by
    unfold qA;intro hn;rw[Option.map_eq_none_iff,List.find?_eq_none]at hn;exact hn e he hk
   cases hg:qA l k with
   | none=>exact absurd hg this
   | some x=>rfl
  ·rw[if_neg hj,if_neg hj]
 | false=>
  rw[if_neg (by simp),zfK,gG]
  by_cases hj:j=k
  ·subst hj
   rw[zfM h,if_pos rfl,if_pos rfl];rfl
  ·rw[if_neg (fun q=>hj q.symm),if_neg hj]
   cases qA l j <;> rfl
theorem z40 (l:List (Nm × β))(k j:Nm):qA (WF l k) j=if j=k then none else qA l j:=by
 induction l with
 | nil=>simp [qA,WF]
 | cons e l ih=>
  unfold WF at ih ⊢;rw[List.filter_cons,gG];by_cases h1:e.1=k
  ·rw[if_neg (by simp [h1]),ih]
   by_cases h2:j=k
   ·rw[if_pos h2,if_pos h2]
   ·rw[if_neg h2,if_neg h2,if_neg (by rw[h1];exact fun q=>h2 q.symm)]
  ·rw[if_pos (by simp [h1]),gG,ih]
   by_cases h2:e.1=j
   ·rw[if_pos h2,if_pos h2,if_neg (fun q=>h1 (h2.trans q))]
   ·rw[if_neg h2,if_neg h2]
end
structure Sta where
 state:Int
 since:Int
 step:Nm
 site:Nm
 failed:Int
 deriving DecidableEq
structure EndP where
 board:Nm
 step:Nm
 frm:Int
 til:Int
 pass:Bool
 deriving DecidableEq
structure RunP where
 site:Nm
 frm:Int
 til:Int
 deriving DecidableEq
structure RanQ where
 board:Nm
 site:Nm
 step:Nm
 frm:Int
 til:Int
 pass:Bool
 deriving DecidableEq
def RanQ.run (r:RanQ):RunP:=⟨r.site,r.frm,r.til⟩
def RanQ.fin (r:RanQ):EndP:=⟨r.board,r.step,r.frm,r.til,r.pass⟩
structure FlP where
 bs:List (Nm×Sta)
 sites:List (Nm×Nm)
 ends:List EndP
 runs:List RunP
structure FlQ where
 bs:List (Nm×Sta)
 runs:List RanQ
def JF (steps:List Nm)(tries:Int)(s:Sta)(at_:Int)(pass:Bool):Sta:=
 if pass then(if steps.findIdx (fun y=>decide (y=s.step))+1=steps.length then⟨4,at_,[],[],0⟩ else⟨1,at_,(steps[steps.findIdx (fun y=>decide (y=s.step))+1]?).getD [],[],0⟩)
 else⟨if s.failed+1=tries then 5 else 3,at_,s.step,[],s.failed+1⟩
def DG (l:List RunP)(site:Nm)(at_:Int):List RunP:=l.map fun r=>if r.site=site∧r.til<0 then { r with til:=at_ } else r
def kL (l:List RanQ)(board:Nm)(at_:Int)(pass:Bool):List RanQ:=l.map fun r=>if r.board=board∧r.til<0 then { r with til:=at_,pass:=pass } else r
def EN (l:List RanQ)(board:Nm)(at_:Int):List RanQ:=l.map fun r=>if r.board=board∧r.til<0 then { r with til:=at_,board:=[] } else r
def ZC (steps:List Nm)(tries:Int)(w:FlP)(x:Ent):FlP×Int:=
 if x.kind=1 then(match qA w.bs x.board with|some _=>(w,6)|none=>({ w with bs:=PA w.bs x.board ⟨1,x.time,steps.headD [],[],0⟩ },0))
 else match qA w.bs x.board with
 | none=>(w,8)
 | some b=>
  if x.kind=2 then(if b.state≠1 then(w,11) else if x.step≠b.step then(w,3) else if(qA w.sites x.site).isSome then(w,12)
   else({ w with bs:=PA w.bs x.board { b with state:=2,since:=x.time,site:=x.site },sites:=PA w.sites x.site x.board,runs:=w.runs++[⟨x.site,x.time,-1⟩] },0))
  else if x.kind=3∨x.kind=4 then(if b.state≠2 then(w,11) else if b.site≠x.site then(w,13)
   else({ bs:=PA w.bs x.board (JF steps tries b x.time (decide (x.kind=3))),sites:=WF w.sites b.site,ends:=w.ends++[⟨x.board,b.step,b.since,x.time,decide (x.kind=3)⟩],runs:=DG w.runs b.site x.time },0))
  else if x.kind=5 then(if b.state≠3 then(w,11) else({ w with bs:=PA w.bs x.board { b with state:=1,since:=x.time } },0))
  else if b.state=4∨b.state=5 then(w,11)
  else if b.state=2 then({ w with bs:=PA w.bs x.board { b with state:=5,since:=x.time,site:=[] },sites:=WF w.sites b.site,runs:=DG w.runs b.site x.time },0)
  else({ w with bs:=PA w.bs x.board { b with state:=5,since:=x.time } },0)
def pO (bs:List (Nm × Sta))(site:Nm):Prop:=∃b st,qA bs b=some st∧st.state=2∧st.site=site
theorem VX {β:Type}{l:List (Nm × β)}{k:Nm}{v:β}(h:qA l k=some v):(k,v)∈l:=by
 unfold qA at h;obtain⟨e,h1,h2⟩:=Option.map_eq_some_iff.1 h;have hm:=List.mem_of_find?_eq_some h1
 have hk:e.1=k:=by simpa using List.find?_some h1
 subst hk h2;exact hm
theorem z9Q (bs:List (Nm × Sta))(site:Nm):(bs.any fun e=>decide (qA bs e.1=some e.2)&&(decide (e.2.state=2)&&decide (e.2.site=site)))=true↔pO bs site:=by
 rw[List.any_eq_true];constructor
 ·rintro⟨e,_,h⟩
  simp only[Bool.and_eq_true,decide_eq_true_eq]at h;exact⟨e.1,e.2,h.1,h.2.1,h.2.2⟩
 ·rintro⟨b,st,h1,h2,h3⟩
  exact⟨(b,st),VX h1,by simp [h1,h2,h3]⟩
instance (bs:List (Nm × Sta)) (site:Nm):Decidable (pO bs site):=decidable_of_iff _ (z9Q bs site)
def doQ (steps:List Nm)(tries:Int)(w:FlQ)(x:Ent):FlQ×Int:=
 if x.kind=7 then(w,0)
 else if x.kind=1 then(match qA w.bs x.board with|some _=>(w,6)|none=>({ w with bs:=PA w.bs x.board ⟨1,x.time,steps.headD [],[],0⟩ },0))
 else match qA w.bs x.board with
 | none=>(w,8)
 | some b=>
  if x.kind=2 then(if b.state≠1 then(w,11) else if b.step≠x.step then(w,3) else if pO w.bs x.site then(w,12)
   else({ bs:=PA w.bs x.board { b with state:=2,since:=x.time,site:=x.site },runs:=w.runs++[⟨x.board,x.site,x.step,x.time,-1,false⟩] },0))
  else if x.kind=3∨x.kind=4 then(if b.state≠2 then(w,11) else if b.site≠x.site then(w,13)
   else({ bs:=PA w.bs x.board (JF steps tries b x.time (decide (x.kind=3))),runs:=kL w.runs x.board x.time (decide (x.kind=3)) },0))
  else if x.kind=5 then(if b.state≠3 then(w,11) else({ w with bs:=PA w.bs x.board { b with state:=1,since:=x.time } },0))
  else if b.state=4∨b.state=5 then(w,11)
  else({ bs:=PA w.bs x.board { b with state:=5,since:=x.time,site:=[] },runs:=EN w.runs x.board x.time },0)
def CJ (bs:List (Nm × Sta))(b s:Nm):Prop:=∃st,qA bs b=some st∧st.state=2∧st.site=s
structure Inv (p:FlP) (q:FlQ):Prop where
 bs:p.bs=q.bs
 sts:∀s b,qA p.sites s=some b↔CJ p.bs b s
 idle:∀b st,qA p.bs b=some st→st.state≠2→st.site=[]
 name:∀st,qA p.bs []≠some st
 runs:p.runs=q.runs.map RanQ.run
 gone:∀r∈q.runs,r.board=[]→0≤r.til
 brd:∀b,b≠[]→∃C:List RanQ,(∀r∈C,0≤r.til)∧p.ends.filter (fun e=>decide (e.board=b))=C.map RanQ.fin ∧
  (((∀st,qA p.bs b=some st→st.state≠2)∧q.runs.filter (fun r=>decide (r.board=b))=C) ∨
   (∃st,qA p.bs b=some st∧st.state=2∧q.runs.filter (fun r=>decide (r.board=b))=C++[⟨b,st.site,st.step,st.since,-1,false⟩]))
theorem Inv.busy {p:FlP}{q:FlQ}(I:Inv p q)(s:Nm):(qA p.sites s).isSome=true↔pO q.bs s:=by
 rw[Option.isSome_iff_exists];constructor
 ·rintro⟨b,h⟩
  obtain⟨st,h1,h2,h3⟩:=(I.sts s b).1 h;exact⟨b,st,by rw[←I.bs];exact h1,h2,h3⟩
 ·rintro⟨b,st,h1,h2,h3⟩
  exact⟨b,(I.sts s b).2 ⟨st,by rw[I.bs];exact h1,h2,h3⟩⟩
theorem Inv.opened {p:FlP}{q:FlQ}(I:Inv p q){r:RanQ}(hr:r∈q.runs)(ho:r.til<0):∃st,qA p.bs r.board=some st∧st.state=2∧r=⟨r.board,st.site,st.step,st.since,-1,false⟩:=by
 have hb:r.board≠[]:=fun e=>by have:=I.gone r hr e;omega
 obtain⟨C,c1,c2,h⟩:=I.brd r.board hb;have hm:r∈q.runs.filter (fun x=>decide (x.board=r.board)):=List.mem_filter.2 ⟨hr,by simp⟩
 rcases h with⟨_,h⟩|⟨st,h1,h2,h⟩
 ·rw[h]at hm
  have:=c1 r hm;omega
 ·rw[h]at hm
  rcases List.mem_append.1 hm with hm|hm
  ·have:=c1 r hm
   omega
  ·exact⟨st,h1,h2,List.mem_singleton.1 hm⟩
theorem Inv.close {p:FlP}{q:FlQ}(I:Inv p q){board:Nm}{st:Sta}(h1:qA p.bs board=some st)(h2:st.state=2)(at_:Int){f:RanQ→RanQ}(hf:∀ r,r.til<0→(f r).run=⟨r.site,r.frm,at_⟩) :
 DG p.runs st.site at_=(q.runs.map fun r=>if r.board=board∧r.til<0 then f r else r).map RanQ.run:=by
 unfold DG;rw[I.runs,List.map_map,List.map_map];apply List.map_congr_left
 intro r hr;simp only[Function.comp];by_cases ho:r.til<0
 ·obtain⟨st',a1,a2,a3⟩:=I.opened hr ho
  by_cases hb:r.board=board
  ·have e:st'=st:=by rw[hb,h1]at a1;exact(Option.some.inj a1).symm
   have hs:r.site=st.site:=by rw[a3,e]
   rw[if_pos (show(RanQ.run r).site=st.site∧(RanQ.run r).til<0 from⟨hs,ho⟩),if_pos ⟨hb,ho⟩,hf r ho]
   rfl
  ·rw[if_neg (c:=r.board=board∧r.til<0) (fun z=>hb z.1),if_neg]
   rintro⟨z1,_⟩
   have z2:r.site=st.site:=z1
   have z3:r.site=st'.site:=by rw[a3]
   have u1:=(I.sts st.site board).2 ⟨st,h1,h2,rfl⟩
   have u2:=(I.sts st.site r.board).2 ⟨st',a1,a2,by rw[←z3,z2]⟩
   rw[u1]at u2;exact hb (Option.some.inj u2).symm
 ·rw[if_neg (fun z=>ho z.2),if_neg (fun z=>ho z.2)]
theorem z3T {l:List RanQ}{f:RanQ→RanQ}(hf:∀ r∈l,(f r).board=r.board)(b:Nm):(l.map f).filter (fun r=>decide (r.board=b))=(l.filter fun r=>decide (r.board=b)).map f:=by
 rw[List.filter_map];congr 1
 apply List.filter_congr
 intro r hr;simp only[Function.comp];rw[hf r hr]
theorem zgj (steps:List Nm)(tries:Int){p:FlP}{q:FlQ}(I:Inv p q)(x:Ent)(hb:x.kind≠7→x.board≠[])(hs:x.kind=2→x.site≠[])(ht:0≤x.time)(hk:1≤x.kind∧x.kind≤7)(h7:x.kind≠7) :
 (ZC steps tries p x).2=(doQ steps tries q x).2∧Inv (ZC steps tries p x).1 (doQ steps tries q x).1:=by
 have hb0:=hb h7
 unfold ZC doQ;rw[if_neg h7,I.bs];by_cases k1:x.kind=1
 ·rw[if_pos k1,if_pos k1]
  cases hg:qA q.bs x.board with
  | some s=>exact⟨rfl,I⟩
  | none=>
   refine⟨rfl,?_⟩;have hgp:qA p.bs x.board=none:=by rw[I.bs];exact hg
   have upd:∀b,qA (PA q.bs x.board ⟨1,x.time,steps.headD [],[],0⟩) b=if b=x.board then some ⟨1,x.time,steps.headD [],[],0⟩ else qA p.bs b:=fun b=>by rw[AJ,I.bs]
   refine⟨rfl,fun s b=>?_,fun b st h1 h2=>?_,fun st=>?_,I.runs,I.gone,fun b h=>?_⟩
   ·rw[I.sts s b]
    unfold CJ;show _↔∃st,qA (PA q.bs _ _) b=some st∧_
    rw[upd b];by_cases e:b=x.board
    ·rw[if_pos e,e,hgp]
     constructor
     ·rintro⟨_,h,_⟩;cases h
     ·rintro⟨st,h,h2,_⟩;cases h;cases h2
    ·rw[if_neg e]
   ·change qA (PA q.bs _ _) b=some st at h1
    rw[upd b]at h1;split at h1
    ·cases h1;rfl
    ·exact I.idle b st h1 h2
   ·show qA (PA q.bs _ _) []≠some st
    rw[upd [],if_neg (fun e=>hb0 e.symm)]
    exact I.name st
   ·obtain⟨C,c1,c2,c3⟩:=I.brd b h
    refine⟨C,c1,c2,?_⟩;show((∀st,qA (PA q.bs _ _) b=some st→_)∧_)∨∃st,qA (PA q.bs _ _) b=some st∧_
    rw[upd b];by_cases e:b=x.board
    ·rw[if_pos e]
     left;refine⟨fun st h=>by cases h;show(1:Int)≠2;decide,?_⟩
     rcases c3 with⟨_,c3⟩|⟨st,c3,_⟩
     ·exact c3
     ·rw[e,hgp]at c3;cases c3
    ·rw[if_neg e];exact c3
 rw[if_neg k1,if_neg k1];cases hg:qA q.bs x.board with
 | none=>exact⟨rfl,I⟩
 | some b=>
  have hgp:qA p.bs x.board=some b:=by rw[I.bs];exact hg
  -- a board that does not run,and does not run behind it
  have quiet:∀s:Sta,b.state≠2→s.state≠2→s.site=[]→Inv { p with bs:=PA q.bs x.board s } { q with bs:=PA q.bs x.board s }:=fun s n1 n2 n3=>by
   have upd:∀c,qA (PA q.bs x.board s) c=if c=x.board then some s else qA p.bs c:=fun c=>by rw[AJ,I.bs]
   refine⟨rfl,fun s' c=>?_,fun c st h1 h2=>?_,fun st=>?_,I.runs,I.gone,fun c h=>?_⟩
   ·rw[I.sts s' c]
    unfold CJ;show _↔∃st,qA (PA q.bs _ _) c=some st∧_
    rw[upd c];by_cases e:c=x.board
    ·rw[if_pos e,e,hgp]
     constructor
     ·rintro⟨_,h,h2,_⟩;cases h;exact absurd h2 n1
     ·rintro⟨_,h,h2,_⟩;cases h;exact absurd h2 n2
    ·rw[if_neg e]
   ·change qA (PA q.bs _ _) c=some st at h1
    rw[upd c]at h1;split at h1
    ·cases h1;exact n3
    ·exact I.idle c st h1 h2
   ·show qA (PA q.bs _ _) []≠some st
    rw[upd [],if_neg (fun e=>hb0 e.symm)]
    exact I.name st
   ·obtain⟨C,c1,c2,c3⟩:=I.brd c h
    refine⟨C,c1,c2,?_⟩;show((∀st,qA (PA q.bs _ _) c=some st→_)∧_)∨∃st,qA (PA q.bs _ _) c=some st∧_
    rw[upd c];by_cases e:c=x.board
    ·rw[if_pos e]
     left;refine⟨fun st h=>by cases h;exact n2,?_⟩
     rcases c3 with⟨_,c3⟩|⟨st,c3,c4,_⟩
     ·exact c3
     ·rw[e,hgp]at c3;cases c3;exact absurd c4 n1
    ·rw[if_neg e];exact c3
  by_cases k2:x.kind=2
  ·dsimp only
   rw[if_pos k2,if_pos k2];by_cases e1:b.state≠1
   ·rw[if_pos e1,if_pos e1];exact⟨rfl,I⟩
   rw[if_neg e1,if_neg e1];have e1':b.state=1:=by simpa using e1
   by_cases e2:x.step≠b.step
   ·rw[if_pos e2,if_pos (fun q=>e2 q.symm)];exact⟨rfl,I⟩
   have e2':x.step=b.step:=by simpa using e2
   rw[if_neg (c:=x.step≠b.step) e2,if_neg (c:=b.step≠x.step) (fun z=>z e2'.symm)]
   by_cases e3:(qA p.sites x.site).isSome=true
   ·rw[if_pos e3,if_pos ((I.busy _).1 e3)];exact⟨rfl,I⟩
   rw[if_neg e3,if_neg (fun z=>e3 ((I.busy _).2 z))]
   refine⟨rfl,?_⟩;have e3':qA p.sites x.site=none:=by simpa using e3
   have upd:∀c,qA (PA q.bs x.board { b with state:=2,since:=x.time,site:=x.site }) c=if c=x.board then some { b with state:=2,since:=x.time,site:=x.site } else qA p.bs c:=fun c=>by rw[AJ,I.bs]
   refine⟨rfl,fun s c=>?_,fun c st h1 h2=>?_,fun st=>?_,?_,fun r hr=>?_,fun c h=>?_⟩
   ·show qA (PA p.sites x.site x.board) s=some c↔∃st,qA (PA q.bs _ _) c=some st∧_
    rw[AJ,upd c];by_cases es:s=x.site
    ·rw[if_pos es]
     by_cases ec:c=x.board
     ·rw[if_pos ec,ec]
      exact⟨fun _=>⟨_,rfl,rfl,es.symm⟩,fun _=>rfl⟩
     ·rw[if_neg ec]
      constructor
      ·intro h;exact absurd (Option.some.inj h).symm ec
      ·intro h
       have:=(I.sts s c).2 h;rw[es,e3']at this;cases this
    ·rw[if_neg es,I.sts s c]
     unfold CJ;by_cases ec:c=x.board
     ·rw[if_pos ec,ec,hgp]
      constructor
      ·rintro⟨_,h,h2,_⟩;cases h;omega
      ·rintro⟨_,h,_,h3⟩;cases h;exact absurd h3.symm es
     ·rw[if_neg ec]
   ·change qA (PA q.bs _ _) c=some st at h1
    rw[upd c]at h1;split at h1
    ·cases h1;exact absurd rfl h2
    ·exact I.idle c st h1 h2
   ·show qA (PA q.bs _ _) []≠some st
    rw[upd [],if_neg (fun e=>hb0 e.symm)]
    exact I.name st
   ·show p.runs++[_]=(q.runs++[_]).map RanQ.run
    rw[List.map_append,I.runs];rfl
   ·intro he
    rcases List.mem_append.1 hr with hr|hr
    ·exact I.gone r hr he
    ·rw[List.mem_singleton.1 hr]at he;exact absurd he hb0
   ·obtain⟨C,c1,c2,c3⟩:=I.brd c h
    refine⟨C,c1,c2,?_⟩;dsimp only;rw[upd c,List.filter_append];by_cases ec:c=x.board
    ·rw[if_pos ec]
     right;refine⟨_,rfl,rfl,?_⟩
     rcases c3 with⟨_,c3⟩|⟨st,c3,c4,_⟩
     ·rw[c3,ec,e2'];simp
     ·rw[ec,hgp]at c3;cases c3;omega
    ·rw[if_neg ec]
     have e0:([(⟨x.board,x.site,x.step,x.time,-1,false⟩:RanQ)]:List RanQ).filter (fun r=>decide (r.board=c))=[]:=by have ec':¬x.board=c:=fun z=>ec z.symm;simp [ec']
     rw[e0,List.append_nil];exact c3
  dsimp only;rw[if_neg k2,if_neg k2];by_cases k3:x.kind=3∨x.kind=4
  ·rw[if_pos k3,if_pos k3]
   by_cases e1:b.state≠2
   ·rw[if_pos e1,if_pos e1];exact⟨rfl,I⟩
   rw[if_neg e1,if_neg e1];have e1':b.state=2:=by simpa using e1
   by_cases e2:b.site≠x.site
   ·rw[if_pos e2,if_pos e2];exact⟨rfl,I⟩
   rw[if_neg e2,if_neg e2];refine⟨rfl,?_⟩;generalize hps:decide (x.kind=3)=ps;have s2:(JF steps tries b x.time ps).state≠2∧(JF steps tries b x.time ps).site=[]:=by
    unfold JF;split
    ·split
     ·exact⟨by show(4:Int)≠2;decide,rfl⟩
     ·exact⟨by show(1:Int)≠2;decide,rfl⟩
    ·refine⟨?_,rfl⟩;dsimp only;split <;> decide
   generalize JF steps tries b x.time ps=s at s2;obtain⟨n2,n3⟩:=s2;have upd:∀c,qA (PA q.bs x.board s) c=if c=x.board then some s else qA p.bs c:=fun c=>by rw[AJ,I.bs]
   have cb:∀r∈q.runs,(if r.board=x.board∧r.til<0 then { r with til:=x.time,pass:=ps } else r:RanQ).board=r.board:=fun r _=>by split <;> rfl
   refine⟨rfl,fun s' c=>?_,fun c st h1 h2=>?_,fun st=>?_,?_,fun r hr=>?_,fun c h=>?_⟩
   ·show qA (WF p.sites b.site) s'=some c↔∃st,qA (PA q.bs _ _) c=some st∧_
    rw[z40,upd c];by_cases es:s'=b.site
    ·rw[if_pos es]
     constructor
     ·intro h;cases h
     ·by_cases ec:c=x.board
      ·rw[if_pos ec];rintro⟨_,h,h2,_⟩;cases h;exact absurd h2 n2
      ·rw[if_neg ec]
       intro h;have u1:=(I.sts s' c).2 h
       have u2:=(I.sts b.site x.board).2 ⟨b,hgp,e1',rfl⟩
       rw[es,u2]at u1;exact absurd (Option.some.inj u1).symm ec
    ·rw[if_neg es,I.sts s' c]
     unfold CJ;by_cases ec:c=x.board
     ·rw[if_pos ec,ec,hgp]
      constructor
      ·rintro⟨_,h,_,h3⟩;cases h;exact absurd h3.symm es
      ·rintro⟨_,h,h2,_⟩;cases h;exact absurd h2 n2
     ·rw[if_neg ec]
   ·change qA (PA q.bs _ _) c=some st at h1
    rw[upd c]at h1;split at h1
    ·cases h1;exact n3
    ·exact I.idle c st h1 h2
   ·show qA (PA q.bs _ _) []≠some st
    rw[upd [],if_neg (fun e=>hb0 e.symm)]
    exact I.name st
   ·exact I.close hgp e1' x.time (f:=fun r=>{ r with til:=x.time,pass:=ps }) (fun r _=>rfl)
   ·intro he
    obtain⟨r0,hr0,rfl⟩:=List.mem_map.1 hr;rw[cb r0 hr0]at he;have:=I.gone r0 hr0 he;rw[if_neg (fun z=>by omega)];exact this
   ·obtain⟨C,c1,c2,c3⟩:=I.brd c h
    by_cases ec:c=x.board
    ·subst ec
     rcases c3 with⟨c3,_⟩|⟨st,c3,c4,c5⟩
     ·exact absurd e1' (c3 b hgp)
     rw[hgp]at c3;cases c3
     refine⟨C++[⟨x.board,b.site,b.step,b.since,x.time,ps⟩],fun r hr=>?_,?_,.inl ⟨fun st hst=>?_,?_⟩⟩
     ·rcases List.mem_append.1 hr with hr|hr
      ·exact c1 r hr
      ·rw[List.mem_singleton.1 hr];exact ht
     ·show(p.ends++[_]).filter _=_
      rw[List.filter_append,c2,List.map_append];simp [RanQ.fin]
     ·change qA (PA q.bs _ _) x.board=some st at hst
      rw[upd,if_pos rfl]at hst;cases hst;exact n2
     ·show(kL q.runs x.board x.time ps).filter _=_
      unfold kL;rw[z3T cb,c5,List.map_append];congr 1
      ·conv=>rhs;rw[←List.map_id C]
       apply List.map_congr_left
       intro r hr;have:=c1 r hr;rw[if_neg (fun z=>by omega)];rfl
      ·simp
    ·refine⟨C,c1,?_,?_⟩
     ·show(p.ends++[_]).filter _=_
      rw[List.filter_append,c2];have ec':¬x.board=c:=fun z=>ec z.symm
      simp [ec']
     ·dsimp only
      rw[upd c,if_neg ec];have same:(kL q.runs x.board x.time ps).filter (fun r=>decide (r.board=c))=q.runs.filter (fun r=>decide (r.board=c)):=by
       unfold kL;rw[z3T cb];conv=>rhs;rw[←List.map_id (q.runs.filter _)]
       apply List.map_congr_left
       intro r hr;have hrb:r.board=c:=by simpa using (List.mem_filter.1 hr).2
       rw[if_neg (fun z=>ec (hrb.symm.trans z.1))];rfl
      rw[same];exact c3
  rw[if_neg k3,if_neg k3];by_cases k5:x.kind=5
  ·rw[if_pos k5,if_pos k5]
   by_cases e1:b.state≠3
   ·rw[if_pos e1,if_pos e1];exact⟨rfl,I⟩
   rw[if_neg e1,if_neg e1];have e1':b.state=3:=by simpa using e1
   exact⟨rfl,quiet _ (by omega) (by show(1:Int)≠2;decide) (I.idle x.board b hgp (by omega))⟩
  rw[if_neg k5,if_neg k5];by_cases e45:b.state=4∨b.state=5
  ·rw[if_pos e45,if_pos e45];exact⟨rfl,I⟩
  rw[if_neg e45,if_neg e45];by_cases e2:b.state=2
  ·rw[if_pos e2]
   refine⟨rfl,?_⟩;have upd:∀c,qA (PA q.bs x.board { b with state:=5,since:=x.time,site:=[] }) c=if c=x.board then some { b with state:=5,since:=x.time,site:=[] } else qA p.bs c:=fun c=>by rw[AJ,I.bs]
   refine⟨rfl,fun s' c=>?_,fun c st h1 h2=>?_,fun st=>?_,?_,fun r hr=>?_,fun c h=>?_⟩
   ·show qA (WF p.sites b.site) s'=some c↔∃st,qA (PA q.bs _ _) c=some st∧_
    rw[z40,upd c];by_cases es:s'=b.site
    ·rw[if_pos es]
     constructor
     ·intro h;cases h
     ·by_cases ec:c=x.board
      ·rw[if_pos ec];rintro⟨_,h,h2,_⟩;cases h;cases h2
      ·rw[if_neg ec]
       intro h;have u1:=(I.sts s' c).2 h
       have u2:=(I.sts b.site x.board).2 ⟨b,hgp,e2,rfl⟩
       rw[es,u2]at u1;exact absurd (Option.some.inj u1).symm ec
    ·rw[if_neg es,I.sts s' c]
     unfold CJ;by_cases ec:c=x.board
     ·rw[if_pos ec,ec,hgp]
      constructor
      ·rintro⟨_,h,_,h3⟩;cases h;exact absurd h3.symm es
      ·rintro⟨_,h,h2,_⟩;cases h;cases h2
     ·rw[if_neg ec]
   ·change qA (PA q.bs _ _) c=some st at h1
    rw[upd c]at h1;split at h1
    ·cases h1;rfl
    ·exact I.idle c st h1 h2
   ·show qA (PA q.bs _ _) []≠some st
    rw[upd [],if_neg (fun e=>hb0 e.symm)]
    exact I.name st
   ·exact I.close hgp e2 x.time (f:=fun r=>{ r with til:=x.time,board:=[] }) (fun r _=>rfl)
   ·intro he
    obtain⟨r0,hr0,rfl⟩:=List.mem_map.1 hr;by_cases z:r0.board=x.board∧r0.til<0
    ·rw[if_pos z];exact ht
    ·rw[if_neg z]at he ⊢;exact I.gone r0 hr0 he
   ·obtain⟨C,c1,c2,c3⟩:=I.brd c h
    have fl:(EN q.runs x.board x.time).filter (fun r=>decide (r.board=c))=(q.runs.filter (fun r=>decide (r.board=c))).filter (fun r=>!(decide (r.board=x.board)&&decide (r.til<0))):=by
     unfold EN;rw[List.filter_filter];induction q.runs with
     | nil=>rfl
     | cons r l ih=>
      rw[List.map_cons,List.filter_cons,List.filter_cons,ih];by_cases z:r.board=x.board∧r.til<0
      ·rw[if_pos z]
       have z2:(!(decide (r.board=x.board)&&decide (r.til<0))&&decide (r.board=c))=false:=by simp [z.1,z.2]
       have h':¬([]:List UInt8)=c:=fun z=>h z.symm
       simp [h',z.1,z.2]
      ·rw[if_neg z]
       have z3:(!(decide (r.board=x.board)&&decide (r.til<0)))=true:=by
        rw[←Bool.decide_and];simp [z]
       rw[z3,Bool.true_and]
    refine⟨C,c1,c2,?_⟩;dsimp only;rw[upd c,fl];have keepC:C.filter (fun r=>!(decide (r.board=x.board)&&decide (r.til<0)))=C:=by
     rw[List.filter_eq_self];intro r hr;have:=c1 r hr;have z:¬r.til<0:=by omega
     simp [z]
    by_cases ec:c=x.board
    ·subst ec
     rw[if_pos rfl];left;refine⟨fun st hst=>by cases hst;show(5:Int)≠2;decide,?_⟩
     rcases c3 with⟨c3,_⟩|⟨st,c3,c4,c5⟩
     ·exact absurd e2 (c3 b hgp)
     ·rw[c5,List.filter_append,keepC];simp
    ·rw[if_neg ec]
     rcases c3 with⟨c3,c5⟩|⟨st,c3,c4,c5⟩
     ·left;exact⟨c3,by rw[c5,keepC]⟩
     ·right
      refine⟨st,c3,c4,?_⟩;rw[c5,List.filter_append,keepC];simp [ec]
  ·rw[if_neg e2]
   refine⟨rfl,?_⟩;have e0:=I.idle x.board b hgp e2
   have eb:({ b with state:=5,since:=x.time,site:=[] }:Sta)={ b with state:=5,since:=x.time }:=by rw[←e0]
   have same:EN q.runs x.board x.time=q.runs:=by
    unfold EN;conv=>rhs;rw[←List.map_id q.runs]
    apply List.map_congr_left
    intro r hr;rw[if_neg]
    ·rfl
    ·rintro⟨z1,z2⟩
     obtain⟨st',a1,a2,_⟩:=I.opened hr z2;rw[z1,hgp]at a1;cases a1
     exact e2 a2
   rw[eb,same];exact quiet _ e2 (by show(5:Int)≠2;decide) e0
theorem inv0:Inv ⟨[],[],[],[]⟩ ⟨[],[]⟩ where
 bs:=rfl
 sts s b:=⟨fun h=>(by cases h),fun h=>(by obtain⟨_,h,_⟩:=h;cases h)⟩
 idle b st h:=by cases h
 name st h:=by cases h
 runs:=rfl
 gone r hr:=by cases hr
 brd b _:=⟨[],fun r hr=>(by cases hr),rfl,.inl ⟨fun st h=>(by cases h),rfl⟩⟩
end Go.Am
end
section
/- First passes of steps,plainly: counted by ends,counted by boards. -/
set_option linter.all false
namespace Go.Am
end Go.Am
end
section
/- Entries that count,and what is followed of them,plainly. -/
set_option linter.all false
namespace Go.Am
def GS (y x:Ent):Bool:=decide (y.kind=7)&&decide (y.of=x.site)&&decide (y.other=x.no)
def YA:List Ent→List Bool
 | []=>[]
 | x::r=>(!((r.zip (YA r)).any fun y=>y.2&&GS y.1 x))::YA r
theorem JH:∀ l,(YA l).length=l.length
 | []=>rfl
 | x::r=>by simp [YA,JH r]
def pC:List Ent→List (Nm×Int)
 | []=>[]
 | x::r=>if decide ((x.site,x.no)∈pC r)=false∧x.kind=7 then(x.of,x.other)::pC r else pC r
theorem z6S:∀ (l:List Ent)(s:Nm)(n:Int),(s,n)∈pC l↔((l.zip (YA l)).any fun y=>y.2&&(decide (y.1.kind=7)&&decide (y.1.of=s)&&decide (y.1.other=n)))=true
 | [],s,n=>by simp [pC,YA]
 | x::r,s,n=>by
  have ih:=z6S r
  have hb:decide ((x.site,x.no)∈pC r)=((r.zip (YA r)).any fun y=>y.2&&GS y.1 x):=by
   rw[Bool.eq_iff_iff,decide_eq_true_eq,ih x.site x.no];rfl
  unfold pC;rw[YA,List.zip_cons_cons,List.any_cons,←hb];cases hd:decide ((x.site,x.no)∈pC r) with
  | true=>
   rw[if_neg (by simp),ih s n]
   simp
  | false=>
   by_cases h7:x.kind=7
   ·rw[if_pos ⟨rfl,h7⟩,List.mem_cons,ih s n,Bool.or_eq_true]
    have:((s,n)=(x.of,x.other))↔((!false&&(decide (x.kind=7)&&decide (x.of=s)&&decide (x.other=n)))=true):=by
     simp only[Prod.mk.injEq,Bool.not_false,Bool.true_and,h7,decide_true,Bool.and_eq_true,decide_eq_true_eq];exact⟨fun h=>⟨h.1.symm,h.2.symm⟩,fun h=>⟨h.1.symm,h.2.symm⟩⟩
    rw[this]
   ·rw[if_neg (fun z=>h7 z.2),ih s n]
    simp [h7]
theorem zbr (x:Ent)(r:List Ent):YA (x::r)=(!decide ((x.site,x.no)∈pC r))::YA r:=by
 have hb:decide ((x.site,x.no)∈pC r)=((r.zip (YA r)).any fun y=>y.2&&GS y.1 x):=by
  rw[Bool.eq_iff_iff,decide_eq_true_eq,z6S r x.site x.no];rfl
 rw[hb];rfl
structure AllP where
 w:FlP
 ref:List Nat
 why:List Int
structure AllQ where
 w:FlQ
 ref:List Nat
 why:List Int
def goP (steps:List Nm)(tries:Int):AllP→Nat→List (Ent×Bool)→AllP
 | a,_,[]=>a
 | a,i,(x,c)::r=>if c=false∨x.kind=7 then goP steps tries a (i+1) r
  else goP steps tries (if(ZC steps tries a.w x).2≠0 then⟨(ZC steps tries a.w x).1,a.ref++[i],a.why++[(ZC steps tries a.w x).2]⟩ else⟨(ZC steps tries a.w x).1,a.ref,a.why⟩) (i+1) r
def goQ (steps:List Nm)(tries:Int):AllQ→Nat→List (Ent×Bool)→AllQ
 | a,_,[]=>a
 | a,i,(x,c)::r=>if c=false then goQ steps tries a (i+1) r
  else goQ steps tries (if(doQ steps tries a.w x).2≠0 then⟨(doQ steps tries a.w x).1,a.ref++[i],a.why++[(doQ steps tries a.w x).2]⟩ else⟨(doQ steps tries a.w x).1,a.ref,a.why⟩) (i+1) r
structure EntW (x:Ent):Prop where
 b:x.kind≠7→x.board≠[]
 s:x.kind=2→x.site≠[]
 t:0≤x.time
 k:1≤x.kind∧x.kind≤7
theorem bY {s:List UInt8}(h:kB s=true):s≠[]:=by
 intro e;subst e;revert h
 decide
theorem zeZ {x:Ent}(h:mB x=0):EntW x:=by
 unfold mB at h;split at h
 ·cases h
 rename_i h1;split at h
 ·cases h
 rename_i h2;split at h
 ·cases h
 rename_i h3;split at h
 ·cases h
 rename_i h4;have k1:1≤x.kind∧x.kind≤7:=by
  have:inB 1 x.kind 7=true:=by simpa using h3
  unfold inB at this;simpa using this
 have t1:0≤x.time:=by
  rw[not_or]at h2;have:pD x.time=true:=by simpa using h2.2
  unfold pD inB at this;simp at this;exact this.1
 have hs:x.site≠[]:=bY (by simpa using h1)
 have hn:fF x=true:=by simpa using h4
 refine⟨fun h7=>?_,fun _=>hs,t1,k1⟩
 unfold fF at hn;rw[if_neg h7]at hn;split at hn
 ·rw[Bool.and_eq_true]at hn;exact bY hn.1
 ·exact bY hn
theorem IM (steps:List Nm)(tries:Int):∀(l:List (Ent×Bool)) (a:AllP) (b:AllQ) (i:Nat),(∀y∈l,EntW y.1)→Inv a.w b.w→a.ref=b.ref→a.why=b.why →
 Inv (goP steps tries a i l).w (goQ steps tries b i l).w∧(goP steps tries a i l).ref=(goQ steps tries b i l).ref∧(goP steps tries a i l).why=(goQ steps tries b i l).why
 | [],a,b,i,_,I,h1,h2=>⟨I,h1,h2⟩
 | (x,c)::r,a,b,i,hw,I,h1,h2=>by
  have hr:=fun y hy=>hw y (List.mem_cons_of_mem (x,c) hy)
  obtain⟨w1,w2,w3,w4⟩:=hw (x,c) (List.mem_cons_self ..);unfold goP goQ;cases c with
  | false=>rw[if_pos (.inl rfl),if_pos rfl];exact IM steps tries r a b (i+1) hr I h1 h2
  | true=>
   rw[if_neg (c:=true=false) (by simp)]
   by_cases h7:x.kind=7
   ·rw[if_pos (.inr h7)]
    have e:doQ steps tries b.w x=(b.w,0):=by unfold doQ;rw[if_pos h7]
    rw[e,if_neg (by simp)]
    exact IM steps tries r a b (i+1) hr I h1 h2
   ·rw[if_neg (c:=true=false∨x.kind=7) (by simp [h7])]
    obtain⟨e1,I2⟩:=zgj steps tries I x w1 w2 w3 w4 h7;rw[e1];by_cases h0:(doQ steps tries b.w x).2≠0
    ·rw[if_pos h0,if_pos h0]
     exact IM steps tries r _ _ (i+1) hr I2 (by dsimp only;rw[h1]) (by dsimp only;rw[h2])
    ·rw[if_neg h0,if_neg h0]
     exact IM steps tries r _ _ (i+1) hr I2 h1 h2
end Go.Am
end
section
/- The floor's memory: what lies where. -/
open Go
set_option linter.all false
set_option maxRecDepth 100000
namespace Go.Am
variable {h:aA} {K:kA}
def FH (h:aA)(o0 o1 o2 o3 o4 o5 o6 o7:Obj)(B l:aA):aA:=h++o0::o1::o2::o3::o4::o5::o6::o7::(B++l)
section
variable {o0 o1 o2 o3 o4 o5 o6 o7 o o':Obj} {B l l2:aA} {n:Nat}
end
def Ent.bx (x:Ent):Obj:=.box [AS x.site,AI x.no,AI x.time,AI x.kind,AS x.board,AS x.step,AS x.of,AI x.other]
def Sta.bx (s:Sta):Obj:=.box [AI s.state,AI s.since,AS s.step,AS s.site,AI s.failed]
def Sta.pv (s:Sta):PV:=.agg [eI s.state,eI s.since,.str s.step,.str s.site,eI s.failed]
abbrev uE:=List (Ent × Sta)
def boxB:uE→aA
 | []=>[]
 | e::r=>e.1.bx::e.1.bx::e.2.bx::boxB r
section
variable {o0 o1 o2 o3 o4 o5 o6 o7:Obj} {l:aA} {bs:uE} {i:Nat} {e:Ent × Sta}
end
def refA (q:Nat):AV:=.ref q 0
def mapB:Nat→uE→List (Nm × Nat)
 | _,[]=>[]
 | q,e::r=>(e.1.board,q+2)::mapB (q+3) r
def asA (bs:uE):List (Nm×Sta):=bs.map fun e=>(e.1.board,e.2)
def ixB (k:Nm):uE→Option Nat
 | []=>none
 | e::r=>if k=e.1.board then some 0 else(ixB k r).map (· + 1)
theorem z4N (k:Nm):∀(bs:uE),(ixB k bs=none→qA (asA bs) k=none)∧∀i,ixB k bs=some i→∃e,bs[i]?=some e∧e.1.board=k∧qA (asA bs) k=some e.2
 | []=>⟨fun _=>rfl,fun i h=>by cases h⟩
 | e::r=>by
  obtain⟨i1,i2⟩:=z4N k r;unfold ixB;by_cases h:k=e.1.board
  ·refine⟨fun z=>by simp [h]at z,fun i hi=>?_⟩
   rw[if_pos h]at hi;cases hi;exact⟨e,rfl,h.symm,by unfold asA;rw[List.map_cons,gG,if_pos h.symm]⟩
  ·have hn:¬e.1.board=k:=fun z=>h z.symm
   rw[if_neg h];refine⟨fun z=>?_,fun i hi=>?_⟩
   ·unfold asA
    rw[List.map_cons,gG,if_neg hn];exact i1 (by simpa using z)
   ·obtain⟨j,hj,e2⟩:=Option.map_eq_some_iff.1 hi
    obtain⟨y,y1,y2,y3⟩:=i2 j hj;subst e2;refine⟨y,by simpa using y1,y2,?_⟩
    unfold asA;rw[List.map_cons,gG,if_neg hn];exact y3
theorem z9r {bs:uE}{k:Nm}{i:Nat}{e:Ent × Sta}(hi:ixB k bs=some i)(he:bs[i]?=some e)(hu:(bs.map fun e=>e.1.board).Nodup)(s:Sta):asA (bs.set i (e.1,s))=PA (asA bs) k s:=by
 induction bs generalizing i with
 | nil=>cases hi
 | cons y r ih=>
  unfold ixB at hi;rw[List.map_cons,List.nodup_cons]at hu;by_cases h:k=y.1.board
  ·rw[if_pos h]at hi
   cases hi;simp at he
   subst he;unfold PA asA;rw[if_pos (by simp [h])]
   simp only[List.set_cons_zero,List.map_cons,h,if_true];congr 1
   rw[List.map_map];apply List.map_congr_left
   intro z hz;have:¬z.1.board=y.1.board:=fun q=>hu.1 (q ▸ List.mem_map_of_mem hz)
   simp [this]
  ·rw[if_neg h]at hi
   obtain⟨j,hj,e2⟩:=Option.map_eq_some_iff.1 hi;subst e2;have hn:¬y.1.board=k:=fun z=>h z.symm
   have he':r[j]?=some e:=by simpa using he
   have q:=ih hj he' hu.2
   simp only[List.set_cons_succ];unfold PA asA at q ⊢;simp only[List.map_cons,List.any_cons,decide_eq_false hn,Bool.false_or,if_neg hn];rw[q];split
   ·rfl
   ·rfl
theorem z9q {bs:uE}{k:Nm}(hi:ixB k bs=none)(x:Ent)(hx:x.board=k)(s:Sta):asA (bs++[(x,s)])=PA (asA bs) k s:=by
 have:(asA bs).any (fun e=>decide (e.1=k))=false:=by
  induction bs with
  | nil=>rfl
  | cons y r ih=>
   unfold ixB at hi;by_cases h:k=y.1.board
   ·rw[if_pos h]at hi;cases hi
   ·rw[if_neg h]at hi
    have hn:¬y.1.board=k:=fun z=>h z.symm
    have q:=ih (by simpa using hi)
    unfold asA at q ⊢;rw[List.map_cons,List.any_cons,q];simp [hn]
 unfold PA;rw[if_neg (by simp [this])]
 unfold asA;simp [hx]
abbrev tG:=List ((Nm × Nm) × Nat)
def dobj (m:tG)(c:Nat):Obj:=.amap (m.map fun e=>⟨.str e.1.1,AS e.1.2,e.2⟩) c
def asS (m:tG):List (Nm×Nm):=m.map (·.1)
def iQ (k:Nm):tG→Option Nat
 | []=>none
 | e::r=>if k=e.1.1 then some 0 else(iQ k r).map (· + 1)
end Go.Am
end
section
/- Where a byte stands in a text. -/
open Go
set_option linter.all false
namespace Go.Am
variable {h:aA} {K:kA}
theorem zmt (s:List UInt8)(c:UInt8):bA X KG [AS s,.p (.int .u8 c.toNat)] h K=K (AI (QC s c)) h []:=by
 refine xA ?_;rw[z1C rfl];simp only[rL,go_sem,z6w]
theorem zfX (a b:List UInt8)(c:UInt8)(ha:c∉a):QC (a++c::b) c=(a.length:Int):=by
 unfold QC;have h1:(a++c::b).findIdx (· == c)=a.length:=by
  rw[List.findIdx_append];have:a.findIdx (· == c)=a.length:=by
   rw[List.findIdx_eq_length];intro x hx;simp;intro e;subst e;exact ha hx
  rw[this,if_neg (by omega)]
  simp [List.findIdx_cons]
 rw[h1,if_pos (by simp)]
end Go.Am
end
section
/- Lists of strings sorted,left out: printed by program. -/
open Go
set_option linter.unusedSimpArgs false
namespace Go.Am
attribute [-go_sem] PV.cells splice
variable {h:aA} {K:kA}
end Go.Am
end
section
/- Sorting numbers: printed by program. -/
open Go
set_option linter.unusedSimpArgs false
namespace Go.Am
attribute [-go_sem] PV.cells splice
variable {h:aA} {K:kA}
end Go.Am
end
section
/- Bins,yD ways;lists joined;records sorted. -/
open Go
set_option linter.unusedSimpArgs false
namespace Go.Am
variable {h:aA} {K:kA}
end Go.Am
end
