/- Texts of the proof, laid together: SpEnt2, SpMap, SpEnt4, SpSortE, SpEnt5, SpGenA, SpSome, SpGenL, SpSortRec, SpCompact, SpGenR, PMerge, SpMrgA, SpEMrg1, SpLen, SpEMrg2, SpArg, PEMrg0, PFollow, PPass, PReplay, SpFlo1, SpIdx, SpStrs, SpSort, SpMrgB, SpMrgC, SpMrgD, PFin, SpTxt, AmL4, AmL5, SpSplit, SpLines, SpNum, SpNums, SpQNum, SpFlt1, SpFlt2, SpWords, SpJoin, SpBld, PBits, SpFlt3, SpFlt4, SpFlt5, SpFlt6, SpFltT, SpSortO, SpGenF, SpChg, SpEnt6, SpEach, SpFltR, SpFltR2, SpFltR3, SpGenA2, SpDelF, SpGenF2, SpInts, SpFltE, SpEnt7, SpEnt8, SpEnt9, PRecT, SpRecT, SpRecT2, SpRecT3, SpRecT4, SpRecT5, SpEnt10, SpEnt11, SpEnt12, SpEnt13, SpFlo2, SpFlo3. -/
import Derived.Shelf.Strings.Repeat
import Derived.Shelf.Strings.SlTrimAscii
import Derived.Shelf.Spec.TrailingZeros
import Derived.Shelf.Strings.Count
import Derived.Shelf.Strings.OnBuilder
import Derived.Test.YtecgafmljfghcaaGreatDoorlawSS6
set_option linter.all false
section
/- What is wrong with an entry: the program. Printed by gen_ent.py. -/
open Go
set_option linter.all false
set_option maxRecDepth 100000
namespace Go.Am
variable {h:aA} {K:jA}
set_option maxHeartbeats 4000000 in
theorem z52 (x:Ent)(hx:EntOk x):bA X jH [.p x.pv] h K=K (AI (sB x)) h []:=by
 refine tA ?_;rw[z9N rfl];have k1:=fun h K=>vN (h:=h) (K:=K) x.site (by have:=hx.s;omega)
 have k2:=fun h K=>vN (h:=h) (K:=K) x.board (by have:=hx.b;omega)
 have k3:=fun h K=>vN (h:=h) (K:=K) x.step (by have:=hx.p;omega)
 have k4:=fun h K=>vN (h:=h) (K:=K) x.of (by have:=hx.o;omega)
 obtain⟨site,no,time,kind,board,step,of,other⟩:=x;dsimp only at k1 k2 k3 k4;unfold sB aK IS noB;dsimp only;cases h1:tB site with
 | false=>
  simp only[Ent.pv,go_sem,Ent.mk.injEq,or_false,false_or,true_or,or_true,true_and,and_true,and_self,false_and,and_false,not_true_eq_false,not_false_eq_true,Bool.not_true,Bool.not_false,KF,↓k1,k1,mE,NG,h1]
 | true=>
  cases h2:inB 1 no 1000000 with
  | false=>
   simp only[Ent.pv,go_sem,Ent.mk.injEq,or_false,false_or,true_or,or_true,true_and,and_true,and_self,false_and,and_false,not_true_eq_false,not_false_eq_true,Bool.not_true,Bool.not_false,KF,↓k1,k1,mE,NG,h1,h2]
  | true=>
   cases h3:YE time with
   | false=>
    simp only[Ent.pv,go_sem,Ent.mk.injEq,or_false,false_or,true_or,or_true,true_and,and_true,and_self,false_and,and_false,not_true_eq_false,not_false_eq_true,Bool.not_true,Bool.not_false,KF,↓k1,k1,mE,NG,h1,h2,h3]
   | true=>
    cases h4:inB 1 kind 7 with
    | false=>
     simp only[Ent.pv,go_sem,Ent.mk.injEq,or_false,false_or,true_or,or_true,true_and,and_true,and_self,false_and,and_false,not_true_eq_false,not_false_eq_true,Bool.not_true,Bool.not_false,KF,↓k1,k1,mE,NG,h1,h2,h3,h4]
    | true=>
     by_cases h7:kind=7
     ·have h72:¬kind=2:=by omega
      simp only[Ent.pv,go_sem,Ent.mk.injEq,or_false,false_or,true_or,or_true,true_and,and_true,and_self,false_and,and_false,not_true_eq_false,not_false_eq_true,Bool.not_true,Bool.not_false,KF,↓k1,k1,mE,NG,h1,h2,h3,h4,eq_true h7,h72];cases h5:tB of with
      | false=>
       simp only[Ent.pv,go_sem,Ent.mk.injEq,or_false,false_or,true_or,or_true,true_and,and_true,and_self,false_and,and_false,not_true_eq_false,not_false_eq_true,Bool.not_true,Bool.not_false,↓k4,k4,h5,eq_true h7,h72]
      | true=>
       cases h6:inB 1 other 1000000 with
       | false=>
        simp only[Ent.pv,go_sem,Ent.mk.injEq,or_false,false_or,true_or,or_true,true_and,and_true,and_self,false_and,and_false,not_true_eq_false,not_false_eq_true,Bool.not_true,Bool.not_false,↓k4,k4,mE,h5,h6,eq_true h7,h72]
       | true=>
        by_cases e1:board=[]
        ·by_cases e2:step=[]
         ·simp only[Ent.pv,go_sem,Ent.mk.injEq,or_false,false_or,true_or,or_true,true_and,and_true,and_self,false_and,and_false,not_true_eq_false,not_false_eq_true,Bool.not_true,Bool.not_false,↓k4,k4,mE,h5,h6,eq_true e1,eq_true e2,eq_true h7,h72]
         ·simp only[Ent.pv,go_sem,Ent.mk.injEq,or_false,false_or,true_or,or_true,true_and,and_true,and_self,false_and,and_false,not_true_eq_false,not_false_eq_true,Bool.not_true,Bool.not_false,↓k4,k4,mE,h5,h6,eq_true e1,e2,eq_true h7,h72]
        ·simp only[Ent.pv,go_sem,Ent.mk.injEq,or_false,false_or,true_or,or_true,true_and,and_true,and_self,false_and,and_false,not_true_eq_false,not_false_eq_true,Bool.not_true,Bool.not_false,↓k4,k4,mE,h5,h6,e1,eq_true h7,h72]
     ·by_cases h2k:kind=2
      ·simp only[Ent.pv,go_sem,Ent.mk.injEq,or_false,false_or,true_or,or_true,true_and,and_true,and_self,false_and,and_false,not_true_eq_false,not_false_eq_true,Bool.not_true,Bool.not_false,KF,↓k1,k1,mE,NG,h1,h2,h3,h4,h7,eq_true h2k]
       cases h5:tB board with
       | false=>
        simp only[Ent.pv,go_sem,Ent.mk.injEq,or_false,false_or,true_or,or_true,true_and,and_true,and_self,false_and,and_false,not_true_eq_false,not_false_eq_true,Bool.not_true,Bool.not_false,↓k2,k2,h5,h7,eq_true h2k]
       | true=>
        simp only[Ent.pv,go_sem,Ent.mk.injEq,or_false,false_or,true_or,or_true,true_and,and_true,and_self,false_and,and_false,not_true_eq_false,not_false_eq_true,Bool.not_true,Bool.not_false,↓k2,k2,h5,h7,eq_true h2k];cases h6:tB step with
        | false=>
         simp only[Ent.pv,go_sem,Ent.mk.injEq,or_false,false_or,true_or,or_true,true_and,and_true,and_self,false_and,and_false,not_true_eq_false,not_false_eq_true,Bool.not_true,Bool.not_false,↓k3,k3,h6,h7,eq_true h2k]
        | true=>
         by_cases e1:of=[]
         ·by_cases e2:other=0
          ·simp only[Ent.pv,go_sem,Ent.mk.injEq,or_false,false_or,true_or,or_true,true_and,and_true,and_self,false_and,and_false,not_true_eq_false,not_false_eq_true,Bool.not_true,Bool.not_false,↓k3,k3,h6,eq_true e1,eq_true e2,h7,eq_true h2k]
          ·simp only[Ent.pv,go_sem,Ent.mk.injEq,or_false,false_or,true_or,or_true,true_and,and_true,and_self,false_and,and_false,not_true_eq_false,not_false_eq_true,Bool.not_true,Bool.not_false,↓k3,k3,h6,eq_true e1,e2,h7,eq_true h2k]
         ·simp only[Ent.pv,go_sem,Ent.mk.injEq,or_false,false_or,true_or,or_true,true_and,and_true,and_self,false_and,and_false,not_true_eq_false,not_false_eq_true,Bool.not_true,Bool.not_false,↓k3,k3,h6,e1,h7,eq_true h2k]
      ·simp only[Ent.pv,go_sem,Ent.mk.injEq,or_false,false_or,true_or,or_true,true_and,and_true,and_self,false_and,and_false,not_true_eq_false,not_false_eq_true,Bool.not_true,Bool.not_false,KF,↓k1,k1,mE,NG,h1,h2,h3,h4,h7,h2k]
       cases h5:tB board with
       | false=>
        simp only[Ent.pv,go_sem,Ent.mk.injEq,or_false,false_or,true_or,or_true,true_and,and_true,and_self,false_and,and_false,not_true_eq_false,not_false_eq_true,Bool.not_true,Bool.not_false,↓k2,k2,h5,h7,h2k]
       | true=>
        by_cases e0:step=[]
        ·by_cases e1:of=[]
         ·by_cases e2:other=0
          ·simp only[Ent.pv,go_sem,Ent.mk.injEq,or_false,false_or,true_or,or_true,true_and,and_true,and_self,false_and,and_false,not_true_eq_false,not_false_eq_true,Bool.not_true,Bool.not_false,↓k2,k2,h5,eq_true e0,eq_true e1,eq_true e2,h7,h2k]
          ·simp only[Ent.pv,go_sem,Ent.mk.injEq,or_false,false_or,true_or,or_true,true_and,and_true,and_self,false_and,and_false,not_true_eq_false,not_false_eq_true,Bool.not_true,Bool.not_false,↓k2,k2,h5,eq_true e0,eq_true e1,e2,h7,h2k]
         ·simp only[Ent.pv,go_sem,Ent.mk.injEq,or_false,false_or,true_or,or_true,true_and,and_true,and_self,false_and,and_false,not_true_eq_false,not_false_eq_true,Bool.not_true,Bool.not_false,↓k2,k2,h5,eq_true e0,e1,h7,h2k]
        ·simp only[Ent.pv,go_sem,Ent.mk.injEq,or_false,false_or,true_or,or_true,true_and,and_true,and_self,false_and,and_false,not_true_eq_false,not_false_eq_true,Bool.not_true,Bool.not_false,↓k2,k2,h5,e0,h7,h2k]
end Go.Am
end
section
/- Maps,asv lists of keys with values. -/
open Go
set_option linter.all false
namespace Go.Am
section
variable {α β:Type} [DecidableEq α]
def AC (key:α→PV)(val:β→AV):Nat→List (α×β)→List ME
 | _,[]=>[]
 | n,e::r=>⟨key e.1,val e.2,n⟩::AC key val (n+1) r
def vA (key:α→PV)(val:β→AV)(l:List (α × β)):Obj:=.amap (AC key val 0 l) l.length
def wC (k:α):List (α×β)→Option Nat
 | []=>none
 | e::r=>if k=e.1 then some 0 else(wC k r).map (· + 1)
def RA (k:α):List (α×β)→Option β
 | []=>none
 | e::r=>if k=e.1 then some e.2 else RA k r
def gC (k:α)(v:β):List (α×β)→List (α×β)
 | []=>[(k,v)]
 | e::r=>if k=e.1 then(k,v)::r else e::gC k v r
def XI (key:α→PV):Prop:=∀a b,PV.eqv (key a) (key b)=some (decide (a=b))
theorem OM:XI PV.str:=fun a b=>rfl
theorem XW:XI (fun n:Int=>PV.int .i64 n):=fun a b=>by simp [PV.eqv,PV.eq1]
theorem nH {s:List UInt8}:cC (none,[2]) (.p (.str s))=some (.str s):=by simp [cC,PV.key,PV.shp,PV.sc,PV.cells,PV.kind]
theorem YW {n:Int}{k:IntKind}:cC (none,[0]) (.p (.int k n))=some (.int k n):=by simp [cC,PV.key,PV.shp,PV.sc,PV.cells,PV.kind]
variable {key:α→PV} {val:β→AV}
theorem dX (hk:XI key)(k:α):∀(l:List (α×β)) (n:Nat),CB (key k) (AC key val n l)=some (wC k l)
 | [],n=>rfl
 | e::r,n=>by
  simp only[AC,CB,hk k e.1,wC];by_cases h:k=e.1
  ·simp [h]
  ·simp [h,dX hk k r (n+1)]
theorem z4s:∀ (l:List (α × β)) (n:Nat),(AC key val n l).length=l.length
 | [],n=>rfl
 | e::r,n=>by simp [AC,z4s r (n+1)]
theorem pH:∀ (l:List (α × β)) (n i:Nat),(AC key val n l)[i]?=(l[i]?).map fun e=>⟨key e.1,val e.2,n+i⟩
 | [],n,i=>rfl
 | e::r,n,0=>rfl
 | e::r,n,i+1=>by simp only[AC,List.getElem?_cons_succ,pH r (n+1) i];rw[show n+1+i=n+(i+1) by omega]
theorem z6n {k:α}:∀{l:List (α×β)} {i:Nat},wC k l=some i→i<l.length
 | [],i,h=>by cases h
 | e::r,i,h=>by
  unfold wC at h;split at h
  ·cases h;simp
  ·obtain⟨j,hj,e2⟩:=Option.map_eq_some_iff.1 h
   have:=z6n hj;simp;omega
theorem xZ {k:α}:∀{l:List (α×β)} {i:Nat},wC k l=some i→l[i]?=(RA k l).map fun v=>(k,v)
 | [],i,h=>by cases h
 | e::r,i,h=>by
  unfold wC at h;unfold RA;split at h
  ·rename_i hk;cases h;simp [hk]
  ·rename_i hk
   obtain⟨j,hj,e2⟩:=Option.map_eq_some_iff.1 h;subst e2;rw[if_neg hk,List.getElem?_cons_succ];exact xZ hj
theorem yZ {k:α}:∀{l:List (α×β)},wC k l=none→RA k l=none
 | [],h=>rfl
 | e::r,h=>by
  unfold wC at h;unfold RA;split at h
  ·cases h
  ·rename_i hk
   rw[if_neg hk];exact yZ (by simpa using h)
theorem zZ {k:α}:∀{l:List (α×β)} {i:Nat},wC k l=some i→(RA k l).isSome=true
 | [],i,h=>by cases h
 | e::r,i,h=>by
  unfold wC at h;unfold RA;split at h
  ·rename_i hk;simp [hk]
  ·rename_i hk
   obtain⟨j,hj,e2⟩:=Option.map_eq_some_iff.1 h;rw[if_neg hk];exact zZ hj
theorem z6m {k:α}{l:List (α × β)}:(wC k l).isSome=(RA k l).isSome:=by
 generalize h:wC k l=o;cases o with
 | none=>rw[yZ h];rfl
 | some i=>rw[zZ h];rfl
theorem zfP {k:α}{l:List (α × β)}{n:Nat}:((wC k l).bind fun i=>(AC key val n l)[i]?).map ME.val=(RA k l).map val:=by
 cases h:wC k l with
 | none=>rw[yZ h];rfl
 | some i=>
  simp only[Option.bind_some,pH,xZ h];cases RA k l <;> rfl
theorem GS {k:α}{v:β}:∀{l:List (α×β)},wC k l=none→gC k v l=l++[(k,v)]
 | [],h=>rfl
 | e::r,h=>by
  unfold wC at h;unfold gC;split at h
  ·cases h
  ·rename_i hk
   rw[if_neg hk,GS (by simpa using h)];rfl
theorem z6e {k:α}{v:β}:∀{l:List (α×β)} {i:Nat},wC k l=some i→gC k v l=l.set i (k,v)
 | [],i,h=>by cases h
 | e::r,i,h=>by
  unfold wC at h;unfold gC;split at h
  ·rename_i hk;cases h;simp [hk]
  ·rename_i hk
   obtain⟨j,hj,e2⟩:=Option.map_eq_some_iff.1 h;subst e2;rw[if_neg hk,z6e hj];rfl
theorem z4t (k:α)(v:β):∀(l:List (α×β)) (n:Nat),AC key val n (l++[(k,v)])=AC key val n l++[⟨key k,val v,n+l.length⟩]
 | [],n=>rfl
 | e::r,n=>by simp only[List.cons_append,AC,z4t k v r (n+1),List.length_cons];rw[show n+1+r.length=n+(r.length+1) by omega]
theorem zga {k:α}{v:β}{l:List (α × β)}{i n:Nat}(h:wC k l=some i):(AC key val n l).modify i (fun e=>{ e with val:=val v })=AC key val n (l.set i (k,v)):=by
 apply List.ext_getElem?
 intro j;rw[List.getElem?_modify,pH,pH,List.getElem?_set];have hi:=z6n h
 have hg:=xZ h
 by_cases hij:i=j
 ·subst hij
  rw[hg];simp only[if_true,hi];obtain⟨w,hw⟩:=Option.isSome_iff_exists.1 (zZ h);rw[hw];rfl
 ·simp [hij]
variable {h:aA} {id:Nat} {l:List (α × β)} {kk:Sh × List Nat} {k:α}
theorem XM (hh:h[id]?=some (vA key val l)):oB h (.mp id)=some (id,AC key val 0 l,l.length):=by
 simp only[oB,hh,vA]
theorem oH (hk:XI key)(hh:h[id]?=some (vA key val l))(hq:cC kk (.p (key k))=some (key k)){ok:Bool}{z:AV} :
 IA kk ok z (.mp id) (.p (key k)) h=some (bif ok then .tup [((RA k l).map val).getD z,AV.p (.bool (RA k l).isSome)] else((RA k l).map val).getD z):=by
 simp only[IA,hq,XM hh,Option.map_some,dX hk,zfP,Option.isSome_map];rfl
theorem ZJ (hk:XI key)(hh:h[id]?=some (vA key val l))(hq:cC kk (.p (key k))=some (key k)){v:β}(hv:yF (val v)=true) :
 OA kk (.mp id) (.p (key k)) (val v) h=some (.und,h.set id (vA key val (gC k v l)),YB id (val v)):=by
 simp only[OA,hq,XM hh,hv,dX hk];cases hw:wC k l with
 | none=>
  simp only[vA,GS hw,z4t,List.length_append,List.length_cons,List.length_nil,Nat.zero_add]
 | some i=>
  simp only[vA,z6e hw,zga hw,List.length_set]
theorem z8S {l:List (α × β)}{i:Nat}(hi:i<l.length):(AC key val 0 l).findIdx? (fun e=>e.born==i)=some i:=by
 rw[List.findIdx?_eq_some_iff_getElem];have hl:=z4s (key:=key) (val:=val) l 0
 have hb:∀j (hj:j<(AC key val 0 l).length),(AC key val 0 l)[j].born=j:=fun j hj=>by
  have h1:=List.getElem?_eq_getElem hj
  rw[pH,List.getElem?_eq_getElem (by omega)]at h1
  simp only[Option.map_some,Option.some.injEq]at h1;rw[←h1];simp
 refine⟨by omega,by simp [hb],fun j hj=>?_⟩
 simp [hb];omega
theorem oQ (k k':α)(v:β):∀(l:List (α×β)),RA k' (gC k v l)=if k'=k then some v else RA k' l
 | []=>by simp [gC,RA]
 | e::r=>by
  unfold gC;by_cases h1:k=e.1
  ·rw[if_pos h1];simp only[RA]
   by_cases h2:k'=k
   ·simp [h2]
   ·rw[if_neg h2,if_neg h2,if_neg (by rw[←h1];exact h2)]
  ·rw[if_neg h1];simp only[RA,oQ k k' v r]
   by_cases h2:k'=e.1
   ·rw[if_pos h2,if_pos h2,if_neg (by rw[h2];exact fun h=>h1 h.symm)]
   ·rw[if_neg h2,if_neg h2]
theorem zg0 {j m:Nat}{seen:List Nat}{K:AV→aA→Esc→Prop}(hj:h[j]?=some (.iter (some m) l.length seen l.length))(hm:h[m]?=some (vA key val l))
 (hend:(∀i,i<l.length→i∈seen)→K (.tup [AV.p (.bool false)]) (h.set j (.iter none 1 [] 0)) [])
 (hstep:∀(i:Nat) (hi:i<l.length),i∉seen→K (.tup [AV.p (.bool true),.p (key l[i].1),val l[i].2]) (h.set j (.iter (some m) l.length (seen++[i]) l.length)) []):nxK (.it j) h K:=by
 unfold nxK GG;simp only[hj,XM hm,and_self,if_true];have hmem:∀e∈(AC key val 0 l).filter (fun e=>!seen.contains e.born),∃(i:Nat) (hi:i<l.length),e=⟨key l[i].1,val l[i].2,i⟩∧i∉seen:=by
  intro e he;obtain⟨h1,h2⟩:=List.mem_filter.1 he;obtain⟨i,hi,e2⟩:=List.mem_iff_getElem?.1 h1 |>.elim fun i hi=>by
   rw[pH]at hi;obtain⟨x,hx,e3⟩:=Option.map_eq_some_iff.1 hi;obtain⟨hl,e4⟩:=List.getElem?_eq_some_iff.1 hx;exact(⟨i,hl,by rw[←e3,←e4];simp⟩:∃(i:Nat) (hi:i<l.length),e=⟨key l[i].1,val l[i].2,i⟩)
  refine⟨i,hi,e2,?_⟩;rw[e2]at h2;simpa using h2
 have hnil:(AC key val 0 l).filter (fun e=>!seen.contains e.born)=[]→∀i,i<l.length→i∈seen:=by
  intro hf i hi;have h1:=List.filter_eq_nil_iff.1 hf ⟨key l[i].1,val l[i].2,i⟩ (by
   apply List.mem_iff_getElem?.2
   exact⟨i,by rw[pH,List.getElem?_eq_getElem hi];simp⟩)
  simpa using h1
 generalize (AC key val 0 l).filter (fun e=>!seen.contains e.born)=F at *
 cases F with
 | nil=>
  refine⟨by simp,fun y hy=>?_⟩
  rw[List.mem_singleton]at hy;subst hy;exact hend (hnil rfl)
 | cons e F=>
  refine⟨by simp,fun y hy=>?_⟩
  obtain⟨e',he',rfl⟩:=List.mem_map.1 hy;obtain⟨i,hi,e2,h2⟩:=hmem e' he';subst e2;exact hstep i hi h2
theorem zgh (hh:h[id]?=some (vA key val l)):RB (.mp id) h=some (.it h.length,h++[.iter (some id) l.length [] l.length],[]):=by
 simp only[RB,XM hh]
theorem zfT {j m:Nat}{seen:List Nat}{i:Nat}(hj:h[j]?=some (.iter (some m) l.length (seen++[i]) l.length))(hm:h[m]?=some (vA key val l))(hi:i<l.length) :
 QB (.it j) h=some (.tup [.p (key l[i].1),val l[i].2],h,[]):=by
 simp only[QB,hj,XM hm,List.getLast?_append,List.getLast?_singleton,Option.some_or,if_true];have hb:=z8S (key:=key) (val:=val) hi
 have hg:=pH (key:=key) (val:=val) l 0 i
 rw[List.getElem?_eq_getElem hi]at hg;have hf:(AC key val 0 l).find? (fun e=>e.born==i)=some ⟨key l[i].1,val l[i].2,i⟩:=by
  rw[List.find?_eq_some_iff_getElem];rw[List.findIdx?_eq_some_iff_getElem]at hb;obtain⟨h1,h2,h3⟩:=hb;refine⟨by simp,i,h1,?_,fun j hj=>by simpa using h3 j hj⟩
  have:=List.getElem?_eq_getElem h1;rw[hg]at this;simpa using (Option.some.inj this).symm
 rw[hf];rfl
theorem zk9 {n:Nat}{seen:List Nat}(hd:seen.Nodup)(hb:∀ i∈seen,i<n)(ha:∀ i,i<n→i∈seen):seen.Perm (List.range n):=by
 rw[List.perm_ext_iff_of_nodup hd List.nodup_range];intro i;rw[List.mem_range];exact⟨hb i,ha i⟩
end
end Go.Am
end
section
/- Lists of entries: what is wrong with them,the program. -/
open Go
set_option linter.all false
set_option maxRecDepth 100000
namespace Go.Am
variable {h:aA} {K:jA}
def uC (s:List UInt8 × Int):PV:=.agg [.str s.1,.int .i64 s.2]
def PB (b:Bool):AV:=.p (.bool b)
theorem UJ:XI uC:=fun a b=>by
 obtain⟨a1,a2⟩:=a;obtain⟨b1,b2⟩:=b;have e:decide ((a1,a2)=(b1,b2))=(decide (a1=b1)&&(decide (a2=b2)&&true)):=by rw[Bool.eq_iff_iff];simp
 rw[e];rfl
theorem VJ {s:List UInt8 × Int}:cC (some 2,[2,0]) (.p (uC s))=some (uC s):=by simp [uC,cC,PV.key,PV.shp,PV.sc,PV.cells,PV.kind]
def ZC (l:List Ent):List ((List UInt8×Int)×Bool):=l.map fun x=>((x.site,x.no),true)
theorem nQ (x:Ent):∀l:List Ent,RA (x.site,x.no) (ZC l)=if l.any (fun o=>iB o x) then some true else none
 | []=>rfl
 | y::l=>by
  have ih:=nQ x l
  unfold ZC at ih ⊢;rw[List.map_cons];unfold RA;rw[ih,List.any_cons];have e:((x.site,x.no)=(y.site,y.no))↔iB y x=true:=by
   unfold iB;simp only[Prod.mk.injEq,Bool.and_eq_true,decide_eq_true_eq];exact⟨fun h=>⟨h.1.symm,h.2.symm⟩,fun h=>⟨h.1.symm,h.2.symm⟩⟩
  by_cases hc:iB y x=true
  ·rw[if_pos (e.2 hc),hc];rfl
  ·have hf:iB y x=false:=by simpa using hc
   rw[if_neg (fun z=>hc (e.1 z)),hf,Bool.false_or]
theorem z6d (l:List Ent)(x:Ent)(h:l.any (fun o=>iB o x)=false):gC (x.site,x.no) true (ZC l)=ZC (l++[x]):=by
 have:wC (x.site,x.no) (ZC l)=none:=by
  have e:=z6m (k:=(x.site,x.no)) (l:=ZC l)
  rw[nQ,h]at e;simpa using e
 rw[GS this];unfold ZC;simp
attribute [-go_sem] IA OA
theorem zkt (l:List Ent)(hn:l.length≤1000000):bA X xG [QA l] h K=K (AB (bC [] l)) h []:=by
 refine tA ?_;first|rw[eU rfl]|rw[eU]
 simp only[UL,go_sem];refine XA (fun k:Nat=>⟨[(3,.mp h.length),(8,QA l),(9,AI l.length),(10,AI k)],h++[vA uC PB (ZC (l.take k))],[]⟩) (fun k=>k≤l.length∧bC (l.take k) (l.drop k)=bC [] l) (fun k=>l.length-k) 0 rfl ⟨by omega,rfl⟩ ?_
 rintro k ⟨hkl,hp⟩
 rcases Nat.lt_or_ge k l.length with hlt|hge
 ·have hg:=dC Ent.pv hlt
  have w2:IntKind.i64.wrap ((k:Int)+1)=((k+1:Nat):Int):=BA _ (by omega) (by omega)
  have cx:=LF (x:=l[k])
  rw[List.drop_eq_getElem_cons hlt,bC,←List.take_succ_eq_append_getElem hlt]at hp;have ek:l.take (k+1)=l.take k++[l[k]]:=List.take_succ_eq_append_getElem hlt
  generalize hx:l[k]=x at *;generalize l.take k=S at *;have lk:=fun(hp:aA) (e:hp[h.length]?=some (vA uC PB (ZC S)))=>oH (kk:=(some 2,[2,0])) (k:=(x.site,x.no)) UJ e VJ (ok:=false) (z:=PB false)
  have up:=fun(hp:aA) (e:hp[h.length]?=some (vA uC PB (ZC S)))=>ZJ (kk:=(some 2,[2,0])) (k:=(x.site,x.no)) UJ e VJ (v:=true) rfl
  have l1:=fun t=>lk (h++vA uC PB (ZC S)::t) (by simp)
  have u1:=fun t=>up (h++vA uC PB (ZC S)::t) (by simp)
  rw[nQ]at l1;simp only[PB,uC,cond_false,YB,AV.top]at l1 u1;cases hc:S.any (fun o=>iB o x) with
  | true=>
   rw[hc,if_pos rfl]at hp;rw[hc]at l1;simp only[if_true,Option.map_some,Option.getD_some,PB]at l1;simp only[go_sem,hlt,hg,cx,Ent.pv,splice,l1];rw[←hp]
  | false=>
   rw[hc,if_neg (by simp)]at hp
   rw[hc]at l1;have us:=z6d S x hc
   simp only[Bool.false_eq_true,if_false,Option.map_none,Option.getD_none]at l1;have nl0:¬h.length<0:=by omega
   simp only[nl0,if_false]at u1;rw[us]at u1;simp only[go_sem,hlt,hg,cx,Ent.pv,splice,l1,u1,w2];refine⟨k+1,?_,⟨by omega,?_⟩,by omega⟩
   ·rw[ek]
   ·rw[ek];rw[←ek];exact hp
 ·have ek:k=l.length:=by omega
  subst ek;rw[List.drop_length]at hp;simp only[go_sem,Nat.lt_irrefl];rw[←hp];rfl
theorem z1H {p:Option Ent}{x:Ent}{r:List Ent}:MC p (x::r)=if sB x≠0 then sB x else if(match p with|some q=>decide (AA x q≤0)|none=>false)=true then 7 else MC (some x) r:=rfl
theorem nS (r:List Ent)(hr:∀ x∈r,EntOk x)(hn:r.length≤1000000):bA X rF [QA r] h K=K (AI (nB r)) h []:=by
 refine tA ?_;rw[z9I rfl];have tw:=fun h K=>zkt (h:=h) (K:=K) r hn
 unfold nB;by_cases h1:(2000:Int)<r.length
 ·simp only[OL,go_sem,h1]
 simp only[OL,go_sem,h1];refine XA (fun k:Nat=>⟨[(0,QA r),(9,QA r),(10,AI r.length),(11,AI k)],h,[]⟩) (fun k=>k≤r.length∧MC (r.take k).getLast? (r.drop k)=MC none r) (fun k=>r.length-k) 0 rfl ⟨by omega,rfl⟩ ?_
 rintro k ⟨hkl,hp⟩
 rcases Nat.lt_or_ge k r.length with hlt|hge
 ·have hg:=dC Ent.pv hlt
  have w2:IntKind.i64.wrap ((k:Int)+1)=((k+1:Nat):Int):=BA _ (by omega) (by omega)
  have hx:=hr _ (List.getElem_mem hlt)
  have hlast:(r.take (k+1)).getLast?=some r[k]:=by rw[List.take_succ_eq_append_getElem hlt];exact List.getLast?_concat
  rw[List.drop_eq_getElem_cons hlt,z1H]at hp;have cx:=LF (x:=r[k])
  have rf:=fun h K=>z52 (h:=h) (K:=K) r[k] hx
  simp only[Ent.pv]at rf;by_cases h2:sB r[k]=0
  ·rw[if_neg (by simp [h2])]at hp
   cases k with
   | zero=>
    simp only[List.take_zero,List.getLast?_nil,reduceCtorEq,if_false]at hp;have hlt0:(0:Int)<r.length:=by omega
    simp only[go_sem,hlt0,hg,cx,Ent.pv,rf,h2,Int.lt_irrefl,splice,show IntKind.i64.wrap 1=1 from rfl]
    exact⟨0+1,rfl,⟨by omega,by rw[hlast];exact hp⟩,by omega⟩
   | succ j=>
    have hj:j<r.length:=by omega
    have hgj:=dC Ent.pv hj
    have cj:=LF (x:=r[j])
    have hlj:(r.take (j+1)).getLast?=some r[j]:=by rw[List.take_succ_eq_append_getElem hj];exact List.getLast?_concat
    have w3:IntKind.i64.wrap (((j+1:Nat):Int)-1)=(j:Int):=by rw[BA _ (by omega) (by omega)];omega
    have p1:(0:Int)<((j+1:Nat):Int):=by omega
    have bt:=fun h K=>gZ (h:=h) (K:=K) r[j+1] r[j]
    simp only[Ent.pv]at bt;rw[hlj]at hp;by_cases h3:AA r[j+1] r[j]≤0
    ·simp only[h3,decide_true,if_true]at hp
     simp only[go_sem,hlt,hj,hg,hgj,cx,cj,Ent.pv,rf,h2,p1,w3,bt,h3,splice];rw[←hp];rfl
    ·simp only[h3,decide_false,reduceCtorEq,if_false]at hp
     simp only[go_sem,hlt,hj,hg,hgj,cx,cj,Ent.pv,rf,h2,p1,w3,bt,h3,w2,splice];exact⟨j+1+1,rfl,⟨by omega,by rw[hlast];exact hp⟩,by omega⟩
  ·rw[if_pos h2]at hp
   simp only[go_sem,hlt,hg,cx,Ent.pv,rf,h2,splice];rw[←hp,if_pos h2]
 ·have ek:k=r.length:=by omega
  subst ek;rw[List.drop_length]at hp;have hz:MC none r=0:=by rw[←hp];cases (r.take r.length).getLast? <;> rfl
  rw[if_neg (by simp [hz])]
  cases ht:bC [] r with
  | true=>
   rw[ht]at tw;simp only[go_sem,Nat.lt_irrefl,tw];first|done|rfl
  | false=>
   rw[ht]at tw;simp only[go_sem,Nat.lt_irrefl,tw];first|done|rfl
end Go.Am
end
section
/- Lists of entries: sorted,looked through: printed by program. -/
open Go
set_option linter.unusedSimpArgs false
namespace Go.Am
attribute [-go_sem] PV.cells splice
variable {h:aA} {K:jA}
theorem zeI (id n:Nat)(l tl:List PV)(hn:n=l.length+tl.length)(hs:xD (some 8) l)(hl:l.length≤1000)(hh:h[id]?=some (.row (some 8) (l++tl) 0)){g:Nat}{caps:List AV}{c:PV→PV→Int}(hc:Cmps g caps c l id h) :
 bA X vG [.own id n 0 l.length,AI 0,AI l.length,.fn g caps] h K=K (.tup []) (h.set id (.row (some 8) (eB (ltC c) l++tl) 0)) []:=by
 refine tA ?_;rw[z0Q];have hid:=DG hh
 have hst:∀o,(h.set id o)[id]?=some o:=fun o=>zH hid
 simp only[NL,go_sem,show IntKind.i64.wrap 1=1 from rfl]
 refine XA (fun i:Nat=>⟨[(0,.own id n 0 l.length),(1,AI 0),(2,AI l.length),(3,.fn g caps),(8,AI i)],h.set id (.row (some 8) ((QD (ltC c) (l.take i)).reverse++(l.drop i++tl)) 0),[]⟩) (fun i=>1≤i∧(i≤l.length∨i=1)) (fun i=>l.length-i) 1 ?_ (by simp) ?_
 ·have:(QD (ltC c) (l.take 1)).reverse++(l.drop 1++tl)=l++tl:=by cases l <;> rfl
  rw[this,jL hh];rfl
 rintro i ⟨hi1,hi2⟩
 rcases Nat.lt_or_ge i l.length with hlt|hge
 ·simp only[go_sem,hlt]
  have hxl:l[i]∈l:=List.getElem_mem hlt
  generalize hx:l[i]=x at *;generalize hR:QD (ltC c) (l.take i)=R;have hRl:R.length=i:=by rw[←hR,z3U];simp;omega
  have hRm:∀z∈R,z∈l:=fun z hz=>List.mem_of_mem_take ((rQ (ltC c) (l.take i)).mem_iff.1 (by rw[hR];exact hz))
  have hdrop:l.drop i=x::l.drop (i+1):=by rw[←hx];exact List.drop_eq_getElem_cons hlt
  have hnext:QD (ltC c) (l.take (i+1))=ZB (ltC c) x R:=by rw[z3X _ _ _ hlt,hR,hx]
  refine XA (fun t:List PV×List PV=>⟨[(0,.own id n 0 l.length),(1,AI 0),(2,AI l.length),(3,.fn g caps),(8,AI i),(9,AI t.1.length)],h.set id (.row (some 8) (t.1.reverse++x::t.2) 0),[]⟩)
   (fun t=>∃B,R=B++t.1∧t.2=B.reverse++(l.drop (i+1)++tl)∧∀b∈B,ltC c x b=true) (fun t=>t.1.length) (R,l.drop (i+1)++tl) (by rw[hdrop,hRl];rfl) ⟨[],rfl,rfl,by simp⟩ ?_
  rintro⟨A,C⟩ ⟨B,q1,q2,q3⟩
  dsimp only at q1 q2 q3;have hlen:(A.reverse++x::C).length=n:=by
   have:R.length=B.length+A.length:=by rw[q1];simp
   rw[q2];simp;omega
  have hBA:B.length+A.length<l.length:=by
   have:R.length=B.length+A.length:=by rw[q1];simp
   omega
  have hln:l.length≤n:=by omega
  have w1:IntKind.i64.wrap ((i:Int)+1)=((i+1:Nat):Int):=BA _ (by omega) (by omega)
  cases A with
  | nil=>
   have hd:ZB (ltC c) x R=B++[x]:=by rw[q1];exact qQ (ltC c) x [] B q3 (fun y r h=>by cases h)
   simp only[go_sem,Int.lt_irrefl,w1];refine⟨i+1,?_,by omega,by omega⟩
   simp only[hnext,hd,q2,List.reverse_append,List.reverse_nil,List.nil_append,List.reverse_cons,List.append_assoc,List.cons_append]
  | cons y A=>
   have hyl:y∈l:=hRm y (by rw[q1];simp)
   have g1:=z3R (y::A) C x
   have g2:=z3S A C x y
   have sw:=z3T A C x y
   simp only[List.length_cons]at hBA;generalize hrow:(y::A).reverse++x::C=row at *;simp only[List.length_cons]at g1;have w2:IntKind.i64.wrap (((A.length+1:Nat):Int)-1)=(A.length:Int):=by rw[BA _ (by omega) (by omega)];omega
   have p1:(0:Int)<((A.length+1:Nat):Int):=by omega
   have b1:A.length+1<l.length:=by omega
   have b2:A.length<l.length:=by omega
   have cx:=YF (hs x hxl)
   have cy:=YF (hs y hyl)
   have hcc:=fun o K=>hc o x hxl y hyl K
   by_cases hxy:c x y<0
   ·have g3:(row.set (A.length+1) y)[A.length]?=some y:=by rw[List.getElem?_set_ne (by omega),g2]
    have lx:=zN (hs x hxl)
    have ly:=zN (hs y hyl)
    have sx:=yN (hs x hxl)
    have sy:=yN (hs y hyl)
    simp only[gA]at lx ly;have t1:=fun i xs h1=>AN (hs x hxl) (hs y hyl) id i 0 xs h1
    have t2:=fun i xs h1=>AN (hs y hyl) (hs x hxl) id i 0 xs h1
    simp only[go_sem,hst,p1,hlen,g1,g2,g3,w2,b1,b2,hln,cx,cy,hcc,hxy,lx,ly,sx,sy,t1,t2,sw];refine⟨(A,y::C),rfl,⟨B++[y],by simp [q1],by simp [q2],fun b hb=>?_⟩,by simp⟩
    rw[List.mem_append,List.mem_singleton]at hb;rcases hb with hb|rfl
    ·exact q3 b hb
    ·simpa [ltC] using hxy
   ·have hd:ZB (ltC c) x R=B++x::y::A:=by rw[q1];exact qQ (ltC c) x (y::A) B q3 (fun z r h=>by cases h;simpa [ltC] using hxy)
    simp only[go_sem,hst,p1,hlen,g1,g2,w2,b1,b2,hln,cx,cy,hcc,hxy,w1];refine⟨i+1,?_,by omega,by omega⟩
    simp only[hnext,hd,←hrow,q2,List.reverse_append,List.reverse_cons,List.append_assoc,List.cons_append,List.nil_append]
 ·have hge':¬i<l.length:=by omega
  have e1:l.take i=l:=List.take_of_length_le hge
  have e2:l.drop i=[]:=List.drop_of_length_le hge
  simp only[go_sem,hge',e1,e2];rfl
theorem zeK (id n:Nat)(hn:n≤1000){g:Nat}{caps:List AV} :
 bA X vG [.own id n 0 n,AI n,AI n,.fn g caps] h K=K (.tup []) h []:=by
 refine tA ?_;rw[z0Q];have w1:IntKind.i64.wrap ((n:Int)+1)=((n+1:Nat):Int):=BA _ (by omega) (by omega)
 have b1:¬((n+1:Nat):Int)<(n:Int):=by omega
 simp only[NL,go_sem,w1];refine XA (fun _:Unit=>⟨[(0,.own id n 0 n),(1,AI n),(2,AI n),(3,.fn g caps),(8,AI ((n+1:Nat):Int))],h,[]⟩) (fun _=>True) (fun _=>0) () rfl trivial ?_
 intro _ _;simp only[go_sem,b1]
theorem z5O (id:Nat)(l:List PV)(hs:xD (some 8) l)(hl:l.length≤20)(hh:h[id]?=some (.row (some 8) l 0)){g:Nat}{caps:List AV}{c:PV→PV→Int}(hc:Cmps g caps c l id h) :
 bA X oI [.own id l.length 0 l.length,.fn g caps] h K=K (.tup []) (h.set id (.row (some 8) (eB (ltC c) l) 0)) []:=by
 refine tA ?_;rw[z9E];have key:∀K:jA,bA X uM [.own id l.length 0 l.length,AI l.length,.fn g caps] h K=K (.tup []) (h.set id (.row (some 8) (eB (ltC c) l) 0)) []:=by
  intro K;refine tA ?_;rw[z9H];have is:=fun K=>zeI (h:=h) (K:=K) id l.length l [] rfl hs (by omega) (by rw[List.append_nil];exact hh) hc
  have i0:=fun K=>zeK (h:=h.set id (.row (some 8) (eB (ltC c) l) 0)) (K:=K) (g:=g) (caps:=caps) id l.length (by omega)
  simp only[List.append_nil]at is;have b2:¬((20:Int)<(l.length:Int)):=by omega
  simp only[DP,go_sem];refine XA (fun t:Bool=>⟨[(0,.own id l.length 0 l.length),(1,AI l.length),(2,.fn g caps),(6,AI 20),(7,AI (if t=true then 20 else 0)),(8,AI (if t=true then 40 else 20))],if t=true then h.set id (.row (some 8) (eB (ltC c) l) 0) else h,[]⟩) (fun t=>t=true→l.length=20) (fun t=>if t=true then 0 else 1) false rfl (fun e=>by cases e) ?_
  intro t ht;cases t with
  | false=>
   by_cases he:l.length=20
   ·have e20:((l.length:Nat):Int)=20:=by omega
    have gen:∀z:Int,z=(l.length:Int)→∀K:jA,bA X vG [.own id l.length 0 l.length,AI 0,AI z,.fn g caps] h K=K (.tup []) (h.set id (.row (some 8) (eB (ltC c) l) 0)) []:=fun z hz K=>by subst hz;exact is K
    have is':=gen 20 (by omega)
    have b1:(20:Int)≤(l.length:Int):=by omega
    simp only[go_sem,if_true,if_false,Bool.false_eq_true,b1,is',show IntKind.i64.wrap ((20:Int)+20)=40 from rfl]
    exact⟨true,rfl,fun _=>he,by decide⟩
   ·have b1:¬((20:Int)≤(l.length:Int)):=by omega
    simp only[go_sem,if_true,if_false,Bool.false_eq_true,b1,is];refine XA (fun _:Unit=>⟨[(0,.own id l.length 0 l.length),(1,AI l.length),(2,.fn g caps),(6,AI 20)],h.set id (.row (some 8) (eB (ltC c) l) 0),[]⟩) (fun _=>True) (fun _=>0) () rfl trivial ?_
    intro _ _;simp only[go_sem,b2]
  | true=>
   have he:=ht rfl
   have e20:((l.length:Nat):Int)=20:=by omega
   have gen:∀z:Int,z=(l.length:Int)→∀K:jA,bA X vG [.own id l.length 0 l.length,AI z,AI l.length,.fn g caps] (h.set id (.row (some 8) (eB (ltC c) l) 0)) K=K (.tup []) (h.set id (.row (some 8) (eB (ltC c) l) 0)) []:=fun z hz K=>by subst hz;exact i0 K
   have i0':=gen 20 (by omega)
   have b1:¬((40:Int)≤(l.length:Int)):=by omega
   simp only[go_sem,if_true,if_false,Bool.false_eq_true,b1,i0'];refine XA (fun _:Unit=>⟨[(0,.own id l.length 0 l.length),(1,AI l.length),(2,.fn g caps),(6,AI 20)],h.set id (.row (some 8) (eB (ltC c) l) 0),[]⟩) (fun _=>True) (fun _=>0) () rfl trivial ?_
   intro _ _;simp only[go_sem,b2]
 simp only[AP,go_sem,key]
theorem z6P {v:AV}{g:Nat}{caps:List AV}{p:PV→Bool}{xs:List PV}(hv:Shows (some 8) v xs h)(hp:z0l g caps p xs h)(hl:xs.length≤1000000000) :
 bA X rM [v,.fn g caps] h K=K (AI (KM p xs)) h []:=by
 refine tA ?_;rw[z9B];have vl:=hv.len
 simp only[xP,go_sem,vl];refine XA (fun k:Nat=>⟨[(0,v),(1,.fn g caps),(7,AI xs.length),(8,AI k)],h,[]⟩) (fun k=>k≤xs.length∧∀x∈xs.take k,p x=false) (fun k=>xs.length-k) 0 rfl (by simp) ?_
 rintro k ⟨hk,hn⟩
 rcases Nat.lt_or_ge k xs.length with hlt|hge
 ·obtain⟨a,ha,hb⟩:=hv.get k hlt
  have w2:IntKind.i64.wrap ((k:Int)+1)=((k+1:Nat):Int):=BA _ (by omega) (by omega)
  have ht:=hp _ (List.getElem_mem hlt)
  cases hpk:p xs[k]with
  | true=>
   have hf:xs.findIdx p=k:=by
    rw[List.findIdx_eq hlt];refine⟨hpk,fun j hj=>?_⟩
    have:=hn xs[j] (by rw[List.mem_take_iff_getElem];exact⟨j,by omega,rfl⟩)
    simpa using this
   simp only[go_sem,hlt,ha,hb,ht,hpk,w2];simp only[KM,hf,hlt,if_true]
  | false=>
   simp only[go_sem,hlt,ha,hb,ht,hpk,w2];refine⟨k+1,rfl,⟨by omega,fun x hx=>?_⟩,by omega⟩
   rw[List.take_succ_eq_append_getElem hlt,List.mem_append,List.mem_singleton]at hx;rcases hx with hx|hx
   ·exact hn x hx
   ·rw[hx];exact hpk
 ·have e1:k=xs.length:=by omega
  subst e1;simp only[go_sem,Nat.lt_irrefl];rw[List.take_length]at hn;have:¬xs.findIdx p<xs.length:=by
   rw[Nat.not_lt,Nat.le_iff_lt_or_eq];right
   exact(List.findIdx_eq_length.2 (fun x hx=>by simp [hn x hx])).symm
  simp [KM,this]
theorem z65 {g:Nat}{caps:List AV}{p:PV→Bool}{xs:List PV}(hp:z0l g caps p xs h)(hs:xD (some 8) xs)(hl:xs.length≤1000000000) :
 bA X oM [.p (.sl (some 8) xs),.fn g caps] h K=K (AB (xs.any p)) h []:=by
 refine tA ?_;rw[z97];have vi:=fun K=>z6P (h:=h) (K:=K) (z5L hs) hp hl
 simp only[uP,go_sem,vi,zeA]
end Go.Am
end
section
/- Lists of entries: what is wrong with them,the reference. -/
open Go
set_option linter.all false
set_option maxRecDepth 100000
namespace Go.Am
variable {h:aA} {K:jA}
attribute [-go_sem] GA
def cD:PV→Ent
 | .agg [.str a,.int _ b,.int _ c,.int _ d,.str e,.str f,.str g,.int _ i]=>⟨a,b,c,d,e,f,g,i⟩
 | _=>ent0
theorem uZ (x:Ent):cD x.pv=x:=rfl
theorem s_EF1 (o x:Ent)(id:Nat)(hx:h[id]?=some x.box):bA X DJ [.p o.pv,.ref id 0] h K=K (AB (iB o x)) h []:=by
 refine tA ?_;rw[z9w rfl];have q:=fun h K=>zkh (h:=h) (K:=K) o x
 have hl:=DG hx
 have hx2:∀t,(h++t)[id]?=some x.box:=fun t=>by rw[List.getElem?_append_left hl];exact hx
 simp only[Ent.pv]at q;unfold Ent.box at hx hx2;simp only[oP,Ent.pv,go_sem,hx,hx2,q]
attribute [-go_sem] lW
theorem zjQ (r:List Ent)(hr:∀ x∈r,EntOk x)(hn:r.length≤1000000):bA X jM [QA r] h K=K (AI (nB r)) h []:=by
 refine tA ?_;rw[z9v rfl];unfold nB;by_cases h1:(2000:Int)<r.length
 ·simp only[JL,go_sem,h1]
 simp only[JL,go_sem,h1];refine XA (fun k:Nat=>⟨[(0,QA r),(11,QA r),(12,AI r.length),(13,AI k)],h,[]⟩) (fun k=>k≤r.length∧MC (r.take k).getLast? (r.drop k)=MC none r∧∀x∈r.take k,sB x=0) (fun k=>r.length-k) 0 rfl ⟨by omega,rfl,by simp⟩ ?_
 rintro k ⟨hkl,hp,hz⟩
 rcases Nat.lt_or_ge k r.length with hlt|hge
 ·have hg:=dC Ent.pv hlt
  have w2:IntKind.i64.wrap ((k:Int)+1)=((k+1:Nat):Int):=BA _ (by omega) (by omega)
  have hx:=hr _ (List.getElem_mem hlt)
  have hlast:(r.take (k+1)).getLast?=some r[k]:=by rw[List.take_succ_eq_append_getElem hlt];exact List.getLast?_concat
  rw[List.drop_eq_getElem_cons hlt,z1H]at hp;have cx:=LF (x:=r[k])
  have rf:=fun h K=>zjR (h:=h) (K:=K) r[k] hx
  simp only[Ent.pv]at rf;by_cases h2:sB r[k]=0
  ·rw[if_neg (by simp [h2])]at hp
   have hz':∀x∈r.take (k+1),sB x=0:=fun x hx=>by
    rw[List.take_succ_eq_append_getElem hlt,List.mem_append,List.mem_singleton]at hx;rcases hx with hx|rfl
    ·exact hz x hx
    ·exact h2
   cases k with
   | zero=>
    simp only[List.take_zero,List.getLast?_nil,reduceCtorEq,if_false]at hp;have hlt0:(0:Int)<r.length:=by omega
    simp only[go_sem,hlt0,hg,cx,Ent.pv,rf,h2,Int.lt_irrefl,splice,show IntKind.i64.wrap 1=1 from rfl]
    exact⟨0+1,rfl,⟨by omega,by rw[hlast];exact hp,hz'⟩,by omega⟩
   | succ j=>
    have hj:j<r.length:=by omega
    have hgj:=dC Ent.pv hj
    have cj:=LF (x:=r[j])
    have hlj:(r.take (j+1)).getLast?=some r[j]:=by rw[List.take_succ_eq_append_getElem hj];exact List.getLast?_concat
    have w3:IntKind.i64.wrap (((j+1:Nat):Int)-1)=(j:Int):=by rw[BA _ (by omega) (by omega)];omega
    have p1:(0:Int)<((j+1:Nat):Int):=by omega
    have t1:=VP h2
    have t2:=VP (hz r[j] (by rw[List.mem_take_iff_getElem];exact⟨j,by omega,rfl⟩))
    have bt:=fun h K=>zjS (h:=h) (K:=K) r[j] r[j+1] t2 t1
    simp only[Ent.pv]at bt;rw[hlj]at hp;have hneg:=z1E r[j+1] r[j]
    by_cases h3:AA r[j+1] r[j]≤0
    ·have h3':0≤AA r[j] r[j+1]:=by omega
     simp only[h3,decide_true,if_true]at hp;simp only[go_sem,hlt,hj,hg,hgj,cx,cj,Ent.pv,rf,h2,p1,w3,bt,h3',splice];rw[←hp];rfl
    ·have h3':¬0≤AA r[j] r[j+1]:=by omega
     simp only[h3,decide_false,reduceCtorEq,if_false]at hp;simp only[go_sem,hlt,hj,hg,hgj,cx,cj,Ent.pv,rf,h2,p1,w3,bt,h3',w2,splice];exact⟨j+1+1,rfl,⟨by omega,by rw[hlast];exact hp,hz'⟩,by omega⟩
  ·rw[if_pos h2]at hp
   simp only[go_sem,hlt,hg,cx,Ent.pv,rf,h2,splice];rw[←hp,if_pos h2]
 ·have ek:k=r.length:=by omega
  subst ek;rw[List.drop_length]at hp;have hz0:MC none r=0:=by rw[←hp];cases (r.take r.length).getLast? <;> rfl
  rw[if_neg (by simp [hz0])]
  simp only[go_sem,Nat.lt_irrefl];rw[lW];simp only[nP,go_sem];refine XA (fun k:Nat=>⟨[(0,QA r),(36,QA r),(37,AI r.length),(38,AI k)],h,[]⟩) (fun k=>k≤r.length∧bC (r.take k) (r.drop k)=bC [] r) (fun k=>r.length-k) 0 rfl ⟨by omega,rfl⟩ ?_
  rintro k ⟨hkl2,hp2⟩
  rcases Nat.lt_or_ge k r.length with hlt|hge
  ·have hg:=dC Ent.pv hlt
   have w2:IntKind.i64.wrap ((k:Int)+1)=((k+1:Nat):Int):=BA _ (by omega) (by omega)
   have cx:=LF (x:=r[k])
   rw[List.drop_eq_getElem_cons hlt,bC,←List.take_succ_eq_append_getElem hlt]at hp2;have cf:=fun K=>z65 (h:=h++[r[k].box]) (K:=K) (g:=DJ) (caps:=[.ref h.length 0]) (p:=fun v=>iB (cD v) r[k]) (xs:=(r.take k).map Ent.pv)
    (fun v hv K=>by
     obtain⟨o,_,rfl⟩:=List.mem_map.1 hv;dsimp only;rw[uZ];exact s_EF1 o r[k] h.length (by simp)) vJ (by simp;omega)
   have ea:((r.take k).map Ent.pv).any (fun v=>iB (cD v) r[k])=(r.take k).any (fun o=>iB o r[k]):=by
    rw[List.any_map];rfl
   rw[ea]at cf;have hw:win (r.map Ent.pv) 0 k=(r.take k).map Ent.pv:=by simp [win,List.map_take]
   have hkl3:k≤r.length:=by omega
   unfold Ent.box at cf;cases hc:(r.take k).any (fun o=>iB o r[k]) with
   | true=>
    rw[hc,if_pos rfl]at hp2;rw[hc]at cf;simp only[go_sem,hlt,hg,cx,Ent.pv,splice,hkl3,hw,↓cf,cf];rw[←hp2];first|done|rfl
   | false=>
    rw[hc,if_neg (by simp)]at hp2
    rw[hc]at cf;simp only[go_sem,hlt,hg,cx,Ent.pv,splice,hkl3,hw,↓cf,cf,w2];exact⟨k+1,rfl,⟨by omega,hp2⟩,by omega⟩
  ·have ek:k=r.length:=by omega
   subst ek;rw[List.drop_length]at hp2;have:bC [] r=false:=by rw[←hp2];rfl
   simp only[go_sem,Nat.lt_irrefl,this];first|done|rfl
end Go.Am
end
section
/- What is drawn: numbers,measured values. -/
open Go
namespace Go.Am
variable {L:List Int} {a:Int}
theorem QW (hp:UA 14 a)(u v:Int)(huv:u≤v)(hu : -1000000000000≤u)(hv:v≤1000000000000):∃k a2:Int,a≤a2∧a2≤a+2 ∧ -1099511627776≤k∧k≤1099511627776 ∧
 Gen vE [AI u,AI v] L a a2 (AI k):=by
 have w1:IntKind.i64.wrap (u-1)=u-1:=BA _ (by omega) (by omega)
 have w2:IntKind.i64.wrap (v+1)=v+1:=BA _ (by omega) (by omega)
 by_cases hf:JB L a 12=0
 ·have hm:=QY (L:=L) (a:=a+1) (l:=[u-1,v+1,u,v,-1099511627776,1099511627776]) (by simp) (by simp)
  simp only[List.mem_cons,List.not_mem_nil,or_false]at hm;refine⟨TD [u-1,v+1,u,v,-1099511627776,1099511627776] L (a+1),a+1+1,by omega,by omega,by omega,by omega,Gen.of fun h id hid=>?_⟩
  rw[sO rfl];simp only[ZH,go_sem,hid,JG hp,hf,w1,w2]
 ·have hm:=sN L (a+1) huv (by omega)
  refine⟨YC u v L (a+1),a+1+1,by omega,by omega,by omega,by omega,Gen.of fun h id hid=>?_⟩
  rw[sO rfl];simp only[ZH,go_sem,hid,JG hp,hf,w1,w2,huv,show -1152921504606846976≤u by omega,show v≤1152921504606846976 by omega]
end Go.Am
end
section
/- Strings that are drawn. -/
open Go
set_option linter.unusedSimpArgs false
namespace Go.Am
variable {L:List Int} {a:Int} {h l:aA} {id:Nat} {K:jA}
def isS:PV→Bool
 | .str _=>true
 | _=>false
def unS:PV→List UInt8
 | .str s=>s
 | _=>[]
def LB (l:List (List UInt8))(L:List Int)(a:Int):List UInt8:=l.getD (JB L a l.length).toNat []
theorem qN {l:List (List UInt8)}{L:List Int}{a:Int}(hl:0<l.length)(hl2:l.length<4611686018427387904):LB l L a∈l:=by
 obtain⟨b1,b2⟩:=YM L a l.length (by omega) (by omega)
 unfold LB;have:(JB L a l.length).toNat<l.length:=by omega
 simp only[List.getD,List.getElem?_eq_getElem this,Option.getD_some];exact List.getElem_mem _
theorem zlH {xs:List PV}(h:xs.all isS=true):xs=(xs.map unS).map PV.str:=by
 induction xs with
 | nil=>rfl
 | cons x r ih=>
  simp only[List.all_cons,Bool.and_eq_true]at h;simp only[List.map_cons];rw[←ih h.2];cases x <;> first|rfl|cases h.1
theorem zeu (hp:UA 0 a)(xs:List PV)(hx:xs.all isS=true)(hl:0<xs.length)(hl2:xs.length<4611686018427387904) :
 Gen KC [.p (.sl none xs)] L a (a+1) (AS (LB (xs.map unS) L a)):=by
 refine Gen.of fun h id hid=>?_
 rw[z9u rfl];obtain⟨b1,b2⟩:=YM L a xs.length (by omega) (by omega)
 have e4:=BQ (k:=.i64) b1
 have e5:xs[(JB L a xs.length).toNat]?=some (.str (LB (xs.map unS) L a)):=by
  have hm:=zlH hx
  generalize hq:xs.map unS=q at *;subst hm;simp only[List.length_map]at *;rw[dC PV.str (show(JB L a q.length).toNat<q.length by omega)]
  simp [LB,List.getD,show(JB L a q.length).toNat<q.length by omega]
 simp only[mP,go_sem,eL hid hp,e4,e5]
theorem z5z (hid:id<h.length)(hp:UA 0 a){xs:List PV}(hx:xs.all isS=true)(hl:0<xs.length)(hl2:xs.length<4611686018427387904) :
 bA X KC [.ref id 0,.p (.sl none xs)] (h.set id (nA L a)++l) K=K (AS (LB (xs.map unS) L a)) (h.set id (nA L (a+1))++l) []:=(zeu hp xs hx hl hl2).app hid
attribute [go_sem ↓] z5z
attribute [go_sem] z5z isS unS
end Go.Am
end
section
/- What is drawn: strings,limits. -/
open Go
set_option linter.unusedSimpArgs false
namespace Go.Am
variable {L:List Int} {a:Int} {h l:aA} {id:Nat} {K:jA}
end Go.Am
end
section
/- Sorting records: printed by program. -/
open Go
set_option linter.unusedSimpArgs false
namespace Go.Am
attribute [-go_sem] PV.cells splice
variable {h:aA} {K:jA}
end Go.Am
end
section
/- Leaving out what is alike: printed by program. -/
open Go
set_option linter.unusedSimpArgs false
namespace Go.Am
attribute [-go_sem] PV.cells splice
variable {h:aA} {K:jA}
end Go.Am
end
section
/- What is drawn: records. -/
open Go
set_option linter.unusedSimpArgs false
namespace Go.Am
variable {L:List Int} {a:Int} {h l:aA} {id:Nat} {K:jA}
theorem zas {b:Nat}{x:Esc}(hx:∀ y∈x,b≤y.1):∀k,close k x b=b:=by
 have hb:FD x b=b:=by
  unfold FD;induction x with
  | nil=>rfl
  | cons y r ih=>
   simp only[List.foldl_cons];rw[if_neg (by have:=hx y (by simp);omega)]
   exact ih (fun z hz=>hx z (by simp [hz]))
 intro k;induction k with
 | zero=>rfl
 | succ k ih=>unfold close;rw[hb,ih]
theorem sZ {b:Nat}{x0 x:Esc}{e:List (Nat × AV)}{h:aA}(hx:∀ y∈x,b≤y.1):SC b x0 ⟨e,h,x⟩=⟨bE b e,h.take b,x0⟩:=by
 unfold SC;simp only[zas hx];have hc:bB x b=true:=by
  unfold bB;rw[List.all_eq_true];intro y hy;simp [hx y hy]
 have hf:x.filter (fun y=>decide (y.1<b))=[]:=by
  rw[List.filter_eq_nil_iff];intro y hy;have:=hx y hy;simp;omega
 rw[if_pos hc,hf,List.nil_append]
theorem zlD {b i t:Nat}{x0:Esc}{e:List (Nat × AV)}{h:aA}(hi:i<b):SC b x0 ⟨e,h,[(i,t)]⟩=⟨bE (max b t) e,h.take (max b t),(i,t)::x0⟩:=by
 unfold SC;have hb:close [(i,t)].length [(i,t)] b=max b t:=by simp [close,FD,hi]
 simp only[hb];have hc:bB [(i,t)] (max b t)=true:=by simp [bB];omega
 have hf:[(i,t)].filter (fun y=>decide (y.1<max b t))=[(i,t)]:=by simp;omega
 rw[if_pos hc,hf];rfl
end Go.Am
end
section
/- Merging two ordered lists: by sorting and leaving out what is alike,and by looking each one up. Plain lists. -/
namespace Go.Am
variable {α:Type}
structure Ordr (c:α→α→Int):Prop where
 neg:∀a b,c b a = - c a b
 trans:∀a b d,c a b≤0→c b d≤0→c a d≤0
theorem Ordr.refl {c:α→α→Int}(o:Ordr c)(a:α):c a a=0:=by have:=o.neg a a;omega
theorem Ordr.lt_le {c:α→α→Int}(o:Ordr c){a b d:α}(h1:c a b<0)(h2:c b d≤0):c a d<0:=by
 by_cases h:c a d<0
 ·exact h
 ·have h3:=o.neg a d
  have h4:=o.trans b d a h2 (by omega)
  have:=o.neg a b;omega
def ltO (c:α→α→Int)(a b:α):Bool:=decide (c a b<0)
theorem Ordr.weak {c:α→α→Int}(o:Ordr c):Weak (ltO c):=by
 refine⟨fun a b h=>?_,fun a b d h1 h2=>?_⟩
 ·simp only[ltO,decide_eq_true_eq,decide_eq_false_iff_not]at h ⊢
  have:=o.neg a b;omega
 ·simp only[ltO,decide_eq_false_iff_not]at h1 h2 ⊢
  have q1:=o.neg a b
  have q2:=o.neg b d
  have q3:=o.trans a b d (by omega) (by omega)
  have q4:=o.neg a d
  omega
def fG (c:α→α→Int)(l:List α):Prop:=l.Pairwise fun x y=>c x y<0
theorem yS {c:α→α→Int}(o:Ordr c):∀{l m:List α},fG c l→fG c m→(∀x,x∈l↔x∈m)→l=m
 | [],[],_,_,_=>rfl
 | [],y::m,_,_,h=>absurd ((h y).2 (by simp)) (by simp)
 | x::l,[],_,_,h=>absurd ((h x).1 (by simp)) (by simp)
 | x::l,y::m,h1,h2,h=>by
  have a1:=List.pairwise_cons.1 h1
  have a2:=List.pairwise_cons.1 h2
  have e:x=y:=by
   rcases List.mem_cons.1 ((h x).1 (by simp)) with e|e
   ·exact e
   ·rcases List.mem_cons.1 ((h y).2 (by simp)) with e'|e'
    ·exact e'.symm
    ·have b1:=a2.1 x e
     have b2:=a1.1 y e'
     have:=o.neg x y;omega
  subst e;rw[yS o a1.2 a2.2 fun z=>?_]
  constructor
  ·intro hz
   rcases List.mem_cons.1 ((h z).1 (by simp [hz])) with e|e
   ·subst e;have:=a1.1 z hz;have:=o.refl z;omega
   ·exact e
  ·intro hz
   rcases List.mem_cons.1 ((h z).2 (by simp [hz])) with e|e
   ·subst e;have:=a2.1 z hz;have:=o.refl z;omega
   ·exact e
theorem tU (q:α→α→Bool):∀(l:List α) (p:α),(XB q p l).Sublist l
 | [],_=>List.Sublist.slnil
 | x::r,p=>by
  unfold XB;cases q x p with
  | true=>exact(tU q r x).cons x
  | false=>exact(tU q r x).cons_cons x
theorem za3 (q:α→α→Bool):∀l:List α,(BB q l).Sublist l
 | []=>List.Sublist.slnil
 | x::r=>(tU q r x).cons_cons x
theorem sU {q:α→α→Bool}(hq:∀ x y,q x y=true→x=y):∀(l:List α) (p x:α),x∈l→x=p∨x∈XB q p l
 | [],_,x,hx=>by simp at hx
 | y::r,p,x,hx=>by
  unfold XB;cases h:q y p with
  | true=>
   have e:=hq _ _ h
   subst e;rcases List.mem_cons.1 hx with e|e
   ·exact .inl e
   ·exact sU hq r y x e
  | false=>
   rcases List.mem_cons.1 hx with e|e
   ·subst e;exact .inr (by simp)
   ·rcases sU hq r y x e with e|e
    ·subst e;exact .inr (by simp)
    ·exact .inr (by simp [e])
theorem za2 {q:α→α→Bool}(hq:∀ x y,q x y=true→x=y):∀{l:List α} {x:α},x∈l→x∈BB q l
 | y::r,x,hx=>by
  rcases List.mem_cons.1 hx with e|e
  ·subst e;simp [BB]
  ·rcases sU hq r y x e with e|e
   ·subst e;simp [BB]
   ·simp [BB,e]
theorem rU {q:α→α→Bool}(hq:∀ x y,q x y=true↔x=y):∀(l:List α) (p:α) (i:Nat) (h:i+1<(p::XB q p l).length),(p::XB q p l)[i]≠(p::XB q p l)[i+1]
 | [],p,i,h=>by simp [XB]at h
 | x::r,p,i,h=>by
  cases hx:q x p with
  | true=>
   have e:=(hq _ _).1 hx
   subst e;have e2:XB q x (x::r)=XB q x r:=by rw[XB];rw[hx];rfl
   simp only[e2]at h ⊢;exact rU hq r x i h
  | false=>
   have e2:XB q p (x::r)=x::XB q x r:=by rw[XB];rw[hx];rfl
   simp only[e2]at h ⊢;cases i with
   | zero=>
    simp only[List.getElem_cons_zero,List.getElem_cons_succ];intro e;rw[(hq _ _).2 e.symm]at hx;cases hx
   | succ i=>
    simp only[List.getElem_cons_succ];exact rU hq r x i (by simpa using h)
theorem za1 {q:α→α→Bool}(hq:∀ x y,q x y=true↔x=y):∀(l:List α) (i:Nat) (h:i+1<(BB q l).length),(BB q l)[i]≠(BB q l)[i+1]
 | [],i,h=>by simp [BB]at h
 | x::r,i,h=>rU hq r x i h
def EB (c:α→α→Int)(q:α→α→Bool)(a b:List α):List α:=BB q (eB (ltO c) (a++b))
variable {c:α→α→Int} {q:α→α→Bool} {a b:List α}
theorem zfY (hq:∀ x y,q x y=true→x=y){x:α}:x∈EB c q a b↔x∈a∨x∈b:=by
 unfold EB;constructor
 ·intro h
  have:=xI.1 (za0 h);simpa using this
 ·intro h
  exact za2 hq (xI.2 (by simpa using h))
theorem z4r (o:Ordr c):(EB c q a b).Pairwise fun x y=>c x y≤0:=by
 unfold EB;refine(List.Pairwise.sublist (za3 q _) (z3Z o.weak _)).imp fun {x y} h=>?_
 simp only[ltO,decide_eq_false_iff_not]at h;have:=o.neg x y;omega
theorem z8l (o:Ordr c){l:List α}(hle:l.Pairwise fun x y=>c x y≤0)(hadj:∀ i (h:i+1<l.length),c l[i+1] l[i]≠0):fG c l:=by
 rw[List.pairwise_iff_getElem]at hle;unfold fG;rw[List.pairwise_iff_getElem];intro i j hi hj hij;have h1:c l[i] l[i+1]<0:=by
  have:=hle i (i+1) hi (by omega) (by omega)
  have h2:=hadj i (by omega)
  have:=o.neg l[i] l[i+1];omega
 rcases Nat.lt_or_ge (i+1) j with h|h
 ·exact o.lt_le h1 (hle (i+1) j (by omega) hj h)
 ·have e:j=i+1:=by omega
  subst e;exact h1
theorem zfZ (o:Ordr c)(hadj:∀ i (h:i+1<(EB c q a b).length),c (EB c q a b)[i+1] (EB c q a b)[i]≠0):fG c (EB c q a b):=z8l o (z4r o) hadj
theorem zS (o:Ordr c){l:List α}(hl:l.Pairwise fun x y=>c x y≠0):fG c (eB (ltO c) l):=by
 have h1:=z3Z o.weak l
 have h2:(eB (ltO c) l).Pairwise fun x y=>c x y≠0:=((TW (ltO c) l).pairwise_iff (fun {x y} h=>by have:=o.neg x y;omega)).2 hl
 refine(h1.and h2).imp fun {x y} h=>?_
 have:=h.1;simp only[ltO,decide_eq_false_iff_not]at this;have h3:=o.neg x y
 have:=h.2;omega
end Go.Am
end
section
/- Records alike;copies;bins. -/
open Go
set_option linter.unusedSimpArgs false
namespace Go.Am
variable {h:aA} {K:jA}
def jZ (a b:Rec):Bool:=decide (a.unit=b.unit)&&(decide (a.time=b.time)&&(decide (a.site=b.site)&&decide (a.res=b.res)))
theorem zkz (a b:Rec):jZ a b=true↔a=b:=by
 cases a;cases b
 simp [jZ]
theorem z5q (l:List Int)(hl:l.length≤1000):bA X iI [AL l] h K=K (AI (orL l)) h []:=by
 refine tA ?_;rw[z8Z rfl];simp only[RO,go_sem];refine XA (fun k:Nat=>⟨[(5,AL l),(6,AI l.length),(7,AI k)],h,[]⟩) (fun k=>k≤l.length∧orL (l.drop k)=orL l) (fun k=>l.length-k) 0 rfl ⟨by omega,rfl⟩ ?_
 rintro k ⟨hk,hp⟩
 rcases Nat.lt_or_ge k l.length with hlt|hge
 ·have g2:=dC eI hlt
  have w2:IntKind.i64.wrap ((k:Int)+1)=((k+1:Nat):Int):=BA _ (by omega) (by omega)
  rw[List.drop_eq_getElem_cons hlt,orL]at hp;by_cases hz:l[k]=0
  ·rw[if_neg (by simp [hz])]at hp
   simp only[go_sem,hlt,g2,hz,w2];exact⟨k+1,rfl,⟨by omega,hp⟩,by omega⟩
  ·rw[if_pos hz]at hp
   simp only[go_sem,hlt,g2,hz];rw[hp]
 ·have ek:k=l.length:=by omega
  subst ek;rw[List.drop_length]at hp;simp only[go_sem,Nat.lt_irrefl];rw[←hp];rfl
end Go.Am
end
section
/- Lists of entries joined. -/
open Go
set_option linter.unusedSimpArgs false
set_option linter.all false
namespace Go.Am
variable {h:aA} {K:jA}
theorem zjW (n:Nat)(hn:n≤1048576):bA X eQ [.sl0 (some 8),AI n] h K=K (.own h.length 0 0 0) (h++[.row (some 8) [] 0]) []:=by
 refine z4g (X:=X) (by kernel_rfl) ?_
 show SF GRL PRL eQ [.sl0 (some 8),AI n] h=_
 exact zfJ (by kernel_rfl) (by omega) (by omega)
def lsE (xs:List PV):PV:=.sl (some 8) xs
theorem z3r {ls:List (List PV)}{k:Nat}(hk:k<ls.length):(ls.take (k+1)).flatten=(ls.take k).flatten++ls[k]:=by
 rw[List.take_succ_eq_append_getElem hk,List.flatten_append];simp
theorem KW:∀ (ls:List (List PV)) (k:Nat),(ls.take k).flatten.length≤ls.flatten.length
 | [],k=>by simp
 | x::r,0=>by simp
 | x::r,k+1=>by
  have:=KW r k;simp only[List.take_succ_cons,List.flatten_cons,List.length_append];omega
theorem zjP (ls:List (List PV))(hs:∀ l∈ls,xD (some 8) l)(hl:ls.length≤1000)(hn:ls.flatten.length≤1000000) :
 bA X nM [.p (.sl none (ls.map lsE))] h K=K (.own h.length ls.flatten.length 0 ls.flatten.length) (h++[.row (some 8) ls.flatten 0]) []:=by
 refine tA ?_;rw[z96 rfl];simp only[tP,go_sem];refine XA (fun k:Nat=>⟨[(0,.p (.sl none (ls.map lsE))),(3,AI (ls.take k).flatten.length),(9,.p (.sl none (ls.map lsE))),(10,AI ls.length),(11,AI k)],h,[]⟩) (fun k=>k≤ls.length) (fun k=>ls.length-k) 0 rfl (by omega) ?_
 intro k hk;rcases Nat.lt_or_ge k ls.length with hlt|hge
 ·have g2:=dC lsE hlt
  have f1:=z3r hlt
  have f2:=KW ls (k+1)
  have w2:IntKind.i64.wrap ((k:Int)+1)=((k+1:Nat):Int):=BA _ (by omega) (by omega)
  have w3:IntKind.i64.wrap (((ls.take k).flatten.length:Int)+(ls[k].length:Int))=((ls.take (k+1)).flatten.length:Int):=by
   rw[f1,List.length_append];have:(ls.take k).flatten.length+ls[k].length≤1000000:=by rw[f1,List.length_append]at f2;omega
   rw[BA _ (by omega) (by omega)];omega
  have b1:¬(((ls.take (k+1)).flatten.length:Int)<0):=by omega
  simp only[go_sem,hlt,g2,lsE,w3,b1,w2];exact⟨k+1,rfl,by omega,by omega⟩
 ·have ek:k=ls.length:=by omega
  subst ek;have q:=fun h K=>zjW (h:=h) (K:=K) ls.flatten.length (by omega)
  have tl:ls.take ls.length=ls:=List.take_length
  simp only[go_sem,Nat.lt_irrefl,tl,↓q,q];refine XA (fun k:Nat=>⟨[(6,.own h.length (ls.take k).flatten.length 0 (ls.take k).flatten.length),(25,.p (.sl none (ls.map lsE))),(26,AI ls.length),(27,AI k)],h++[.row (some 8) (ls.take k).flatten 0],[]⟩) (fun k=>k≤ls.length) (fun k=>ls.length-k) 0 rfl (by omega) ?_
  intro k hk;rcases Nat.lt_or_ge k ls.length with hlt|hge
  ·have g2:=dC lsE hlt
   have f1:=z3r hlt
   have f2:=KW ls (k+1)
   have w2:IntKind.i64.wrap ((k:Int)+1)=((k+1:Nat):Int):=BA _ (by omega) (by omega)
   have hm:(ls.take k).flatten.length+ls[k].length≤YA:=by rw[f1,List.length_append]at f2;unfold YA;omega
   have hm0:ls[k].length≤YA:=by omega
   simp only[go_sem,hlt,g2,lsE,w2,hm,hm0];exact⟨k+1,by rw[f1];simp,by omega,by omega⟩
  ·have ek:k=ls.length:=by omega
   subst ek;simp only[go_sem,Nat.lt_irrefl,tl];rw[List.take_of_length_le (by simp)]
end Go.Am
end
section
/- Lengths of numbers in bits,and comparisons of plain values. -/
open Go
namespace Go.Am
variable {h:aA} {K:jA}
set_option maxRecDepth 20000
theorem zlr (k:Nat)(hk:k<256):∃b,([0,1,2,2,3,3,3,3,4,4,4,4,4,4,4,4,5,5,5,5,5,5,5,5,5,5,5,5,5,5,5,5,6,6,6,6,6,6,6,6,6,6,6,6,6,6,6,6,6,6,6,6,6,6,6,6,6,6,6,6,6,6,6,6,7,7,7,7,7,7,7,7,7,7,7,7,7,7,7,7,7,7,7,7,7,7,7,7,7,7,7,7,7,7,7,7,7,7,7,7,7,7,7,7,7,7,7,7,7,7,7,7,7,7,7,7,7,7,7,7,7,7,7,7,7,7,7,7,8,8,8,8,8,8,8,8,8,8,8,8,8,8,8,8,8,8,8,8,8,8,8,8,8,8,8,8,8,8,8,8,8,8,8,8,8,8,8,8,8,8,8,8,8,8,8,8,8,8,8,8,8,8,8,8,8,8,8,8,8,8,8,8,8,8,8,8,8,8,8,8,8,8,8,8,8,8,8,8,8,8,8,8,8,8,8,8,8,8,8,8,8,8,8,8,8,8,8,8,8,8,8,8,8,8,8,8,8,8,8,8,8,8,8,8,8,8,8,8,8,8,8,8,8,8,8,8]:List UInt8)[k]?=some b:=⟨_,List.getElem?_eq_getElem (Nat.lt_of_lt_of_eq hk (by kernel_rfl))⟩
theorem zfB (x:Int)(h0:0≤x)(h1:x<256):∃m:Int,∀(h:aA) (K:jA),bA X dM [AU x] h K=K (AI m) h []:=by
 obtain⟨b,hb⟩:=zlr x.toNat (by omega)
 refine⟨IntKind.i64.wrap (0+IntKind.i64.wrap b.toNat),fun h K=>?_⟩
 have w:IntKind.u8.wrap x=x:=by simp [IntKind.wrap,IntKind.bits,IntKind.signed];omega
 have b1:¬(4294967296≤x):=by omega
 have b2:¬(65536≤x):=by omega
 have b3:¬(256≤x):=by omega
 have hn:=BQ (k:=.u8) h0
 have key:∀(h:aA) (K:jA),bA X eM [AU x] h K=K (AI (IntKind.i64.wrap (0+IntKind.i64.wrap b.toNat))) h []:=by
  intro h K;refine tA ?_;rw[z9j rfl];simp only[aP,go_sem,b1,b2,b3,w,hn,hb]
 refine tA ?_;rw[z9i rfl];simp only[ZO,go_sem,key]
end Go.Am
end
section
/- Entries: those alike beside each other are one: printed by program. -/
open Go
set_option linter.unusedSimpArgs false
namespace Go.Am
attribute [-go_sem] PV.cells splice
variable {h:aA} {K:jA}
attribute [-go_sem] GA
theorem z64 (id:Nat)(l:List PV)(hs:xD (some 8) l)(hl:l.length≤100000)(hh:h[id]?=some (.row (some 8) l 0)){q:PV→PV→Bool}(hq1:∀ x∈l,∀ y∈l,GA [2,0,0,0,2,2,2,0] false (.p x) (.p y)=some (AB (q x y)))(hq2:∀ x∈l,∀ y∈l,GA [2,0,0,0,2,2,2,0] true (.p x) (.p y)=some (AB (!q x y))) :
 bA X mM [.own id l.length 0 l.length] h K=K (.own id l.length 0 (BB q l).length) (h.set id (.row (some 8) (BB q l++List.replicate (l.length-(BB q l).length) (PV.agg [.str [],.int .i64 0,.int .i64 0,.int .i64 0,.str [],.str [],.str [],.int .i64 0])) 0)) []:=by
 refine tA ?_;rw[z95];have hid:=DG hh
 have hst:∀o,(h.set id o)[id]?=some o:=fun o=>zH hid
 have hb:¬h.length≤id:=by omega
 have hb2:max h.length (id+1)=h.length:=by omega
 have hb3:id+1≤h.length:=hid
 by_cases h2:l.length<2
 ·have h2':(l.length:Int)<2:=by omega
  have e:BB q l=l:=by
   cases l with
   | nil=>rfl
   | cons x r=>
    have:r=[]:=List.length_eq_zero_iff.1 (by simp only[List.length_cons]at h2;omega)
    subst this;rfl
  simp only[LL,go_sem,h2',e,Nat.sub_self,List.replicate_zero,List.append_nil,hb,hb2,hb3];rw[jL hh]
 have h2':¬(l.length:Int)<2:=by omega
 simp only[LL,go_sem,h2'];refine XA (fun k:Nat=>⟨[(0,.own id l.length 0 l.length),(3,AI ((k+1:Nat):Int))],h,[]⟩) (fun k=>k+1≤l.length∧BB q (l.take (k+1))=l.take (k+1)) (fun k=>l.length-(k+1)) 0 rfl ⟨by omega,?_⟩ ?_
 ·cases l with
  | nil=>rfl
  | cons x r=>rfl
 rintro k ⟨hk,hc⟩
 rcases Nat.lt_or_ge (k+1) l.length with hlt|hge
 ·have hk0:k<l.length:=by omega
  have g1:l[k+1]?=some l[k+1]:=List.getElem?_eq_getElem hlt
  have g2:l[k]?=some l[k]:=List.getElem?_eq_getElem hk0
  have c1:=YF (QI hs hlt)
  have c2:=YF (QI hs hk0)
  have w1:IntKind.i64.wrap (((k+1:Nat):Int)-1)=(k:Int):=by rw[BA _ (by omega) (by omega)];omega
  have w2:IntKind.i64.wrap (((k+1:Nat):Int)+1)=((k+1+1:Nat):Int):=BA _ (by omega) (by omega)
  have hqk:=hq1 _ (List.getElem_mem hlt) _ (List.getElem_mem hk0)
  have hcs:=z1p q l k hlt
  cases hqx:q l[k+1] l[k]with
  | false=>
   rw[hqx]at hcs;simp only[go_sem,hh,hlt,hk0,g1,g2,c1,c2,w1,w2,hqk,hqx];exact⟨k+1,rfl,⟨by omega,by rw[hcs,hc,cond_false,List.take_succ_eq_append_getElem hlt]⟩,by omega⟩
  | true=>
   rw[hqx,cond_true,List.append_nil,hc]at hcs;have hle:k+1≤l.length:=by omega
   simp only[go_sem,hh,hlt,hk0,hle,g1,g2,c1,c2,w1,hqk,hqx];have e0:k+1+(l.length-(k+1))=l.length:=by omega
   refine XA (fun t:List PV×Nat×Nat=>⟨[(0,.own id l.length 0 l.length),(3,AI ((t.2.1:Nat):Int)),(4,.own id l.length (k+1) (l.length-(k+1))),(5,AI ((t.2.2+1:Nat):Int))],h.set id (.row (some 8) t.1 0),[]⟩)
    (fun t=>t.1.length=l.length∧xD (some 8) t.1∧t.2.1≤k+1+t.2.2∧k+1+t.2.2<l.length∧t.1.take t.2.1=BB q (l.take (k+1+t.2.2+1))∧t.1.drop (k+1+t.2.2)=l.drop (k+1+t.2.2)) (fun t=>l.length-t.2.2)
    (l,k+1,0) (by rw[jL hh];rfl) ⟨rfl,hs,by simp,by simpa using hlt,by simpa using hcs.symm,rfl⟩ ?_
   rintro⟨row,i,j⟩ ⟨r1,r2,r3,r4,r5,r6⟩
   dsimp only at r1 r2 r3 r4 r5 r6;rcases Nat.lt_or_ge (k+1+j+1) l.length with hlt2|hge2
   ·have a1:row[k+1+j+1]?=some l[k+1+j+1]:=by
     have:=congrArg (·[1]?) r6
     simp only[List.getElem?_drop]at this;rw[this,List.getElem?_eq_getElem hlt2]
    have a2:row[k+1+j]?=some l[k+1+j]:=by
     have:=congrArg (·[0]?) r6
     simp only[List.getElem?_drop,Nat.add_zero]at this;rw[this,List.getElem?_eq_getElem r4]
    have s1:=QI hs hlt2
    have d1:=YF s1
    have d2:=YF (QI hs r4)
    have hil:i<l.length:=by omega
    have hir:i<row.length:=by omega
    have g3:row[i]?=some row[i]:=List.getElem?_eq_getElem hir
    have t1:=fun xs h1=>AN s1 (QI r2 hir) id i 0 xs h1
    have lx:=zN s1
    have sx:=yN s1
    simp only[gA]at lx;have v1:IntKind.i64.wrap (((j+1:Nat):Int)-1)=(j:Int):=by rw[BA _ (by omega) (by omega)];omega
    have v2:IntKind.i64.wrap (((j+1:Nat):Int)+1)=((j+1+1:Nat):Int):=BA _ (by omega) (by omega)
    have v3:IntKind.i64.wrap ((i:Int)+1)=((i+1:Nat):Int):=BA _ (by omega) (by omega)
    have p1:j+1<l.length-(k+1):=by omega
    have p2:j<l.length-(k+1):=by omega
    have p3:k+1+(j+1)=k+1+j+1:=by omega
    have p4:k+1+(l.length-(k+1))≤l.length:=by omega
    have hqj:=hq2 _ (List.getElem_mem hlt2) _ (List.getElem_mem r4)
    have hcs2:=z1p q l (k+1+j) hlt2
    cases hqy:q l[k+1+j+1] l[k+1+j]with
    | true=>
     rw[hqy,cond_true,List.append_nil]at hcs2;simp only[go_sem,hst,r1,p1,p2,p3,p4,e0,a1,a2,d1,d2,v1,v2,hqj,hqy];refine⟨(row,i,j+1),rfl,⟨r1,r2,by dsimp only;omega,by dsimp only;omega,?_,?_⟩,by dsimp only;omega⟩
     ·dsimp only;rw[r5,←hcs2];rfl
     ·dsimp only;rw[show k+1+(j+1)=k+1+j+1 from rfl,←List.drop_drop,r6,List.drop_drop]
    | false=>
     rw[hqy,cond_false]at hcs2;simp only[go_sem,hst,r1,p1,p2,p3,p4,e0,a1,a2,g3,d1,d2,v1,v2,v3,hil,hqj,hqy,lx,sx,t1];refine⟨(row.set i l[k+1+j+1],i+1,j+1),rfl,⟨by simpa using r1,fun x hx=>?_,by dsimp only;omega,by dsimp only;omega,?_,?_⟩,by dsimp only;omega⟩
     ·rcases List.mem_or_eq_of_mem_set hx with hx|rfl
      ·exact r2 x hx
      ·exact s1
     ·dsimp only
      rw[show k+1+(j+1)+1=k+1+j+1+1 from rfl,hcs2,←r5,List.take_succ_eq_append_getElem (by simp;omega)]
      simp [List.take_set_of_le]
     ·dsimp only
      rw[List.drop_set_of_lt (by omega),show k+1+(j+1)=k+1+j+1 from rfl,←List.drop_drop,r6,List.drop_drop]
   ·have ej:k+1+j+1=l.length:=by omega
    rw[ej,List.take_length]at r5;have hil:i≤l.length:=by omega
    have hm:(BB q l).length=i:=by rw[←r5];simp;omega
    have p1:¬(j+1<l.length-(k+1)):=by omega
    have sp:splice row i (List.replicate (l.length-i) (PV.agg [.str [],.int .i64 0,.int .i64 0,.int .i64 0,.str [],.str [],.str [],.int .i64 0]))=BB q l++List.replicate (l.length-i) (PV.agg [.str [],.int .i64 0,.int .i64 0,.int .i64 0,.str [],.str [],.str [],.int .i64 0]):=by
     unfold splice;rw[r5,List.length_replicate,List.drop_of_length_le (by omega),List.append_nil]
    have rl:(BB q l++List.replicate (l.length-i) (PV.agg [.str [],.int .i64 0,.int .i64 0,.int .i64 0,.str [],.str [],.str [],.int .i64 0])).length=l.length:=by simp only[List.length_append,hm,List.length_replicate];omega
    rw[hm];generalize BB q l++List.replicate (l.length-i) (PV.agg [.str [],.int .i64 0,.int .i64 0,.int .i64 0,.str [],.str [],.str [],.int .i64 0])=row' at *;simp only[go_sem,hst,r1,rl,hil,p1,sp,show i+(l.length-i)=l.length by omega,hb,hb2,hb3]
 ·have ek:k+1=l.length:=by omega
  rw[ek,List.take_length]at hc;have hge':¬k+1<l.length:=by omega
  simp only[go_sem,hge',hc,Nat.sub_self,List.replicate_zero,List.append_nil,hb,hb2,hb3];rw[jL hh]
end Go.Am
end
section
/- Rows that are handed tov a function: it sees their values. -/
open Go
namespace Go.Am
end Go.Am
end
section
/- Entries EB: what station.Merge tells. -/
open Go
set_option linter.all false
namespace Go.Am
def eqE (a b:Ent):Bool:=decide (a=b)
def zQ (a b:List Ent):List Ent×Int:=
 if orL [nB a,nB b]≠0 then([],orL [nB a,nB b])
 else if bC [] (EB AA eqE a b)=true then([],13) else(EB AA eqE a b,0)
theorem DH (x:Ent):cD x.pv=x:=by cases x;rfl
end Go.Am
end
section
/- Boards followed through their steps,plainly: the program's floor and the reference's agree. -/
set_option linter.all false
namespace Go.Am
abbrev Nm:=List UInt8
section
variable {β:Type}
def lA (l:List (Nm × β))(k:Nm):Option β:=(l.find? fun e=>decide (e.1=k)).map (·.2)
def MA (l:List (Nm × β))(k:Nm)(v:β):List (Nm×β):=if l.any (fun e=>decide (e.1=k)) then l.map (fun e=>if e.1=k then(k,v) else e) else l++[(k,v)]
def pG (l:List (Nm × β))(k:Nm):List (Nm×β):=l.filter fun e=>!decide (e.1=k)
theorem BG (e:Nm × β)(l:List (Nm × β))(k:Nm):lA (e::l) k=if e.1=k then some e.2 else lA l k:=by
 unfold lA;rw[List.find?_cons];by_cases h:e.1=k <;> simp [h]
theorem zez {l:List (Nm × β)}{k:Nm}(h:l.any (fun e=>decide (e.1=k))=false):lA l k=none:=by
 unfold lA;rw[List.find?_eq_none.2 (fun x hx=>by rw[List.any_eq_false]at h;exact h x hx)]
 rfl
theorem zex (l m:List (Nm × β))(k:Nm):lA (l++m) k=(lA l k).or (lA m k):=by
 unfold lA;rw[List.find?_append];cases l.find? (fun e=>decide (e.1=k)) <;> rfl
theorem zey (l:List (Nm × β))(k:Nm)(v:β)(j:Nm):lA (l.map fun e=>if e.1=k then(k,v) else e) j=if j=k then(lA l k).map (fun _=>v) else lA l j:=by
 induction l with
 | nil=>simp [lA]
 | cons e l ih=>
  rw[List.map_cons,BG,ih,BG,BG];by_cases h1:e.1=k
  ·rw[if_pos h1]
   by_cases h2:j=k
   ·subst h2;simp [h1]
   ·have h3:¬k=j:=fun q=>h2 q.symm
    simp [h1,h2,h3]
  ·rw[if_neg h1]
   by_cases h2:j=k
   ·subst h2;simp [h1]
   ·simp [h2]
theorem SJ (l:List (Nm × β))(k:Nm)(v:β)(j:Nm):lA (MA l k v) j=if j=k then some v else lA l j:=by
 unfold MA;cases h:l.any (fun e=>decide (e.1=k)) with
 | true=>
  rw[if_pos rfl,zey];by_cases hj:j=k
  ·rw[if_pos hj,if_pos hj]
   obtain⟨e,he,hk⟩:=List.any_eq_true.1 h;have:lA l k≠none:=by
    unfold lA;intro hn;rw[Option.map_eq_none_iff,List.find?_eq_none]at hn;exact hn e he hk
   cases hg:lA l k with
   | none=>exact absurd hg this
   | some x=>rfl
  ·rw[if_neg hj,if_neg hj]
 | false=>
  rw[if_neg (by simp),zex,BG]
  by_cases hj:j=k
  ·subst hj
   rw[zez h,if_pos rfl,if_pos rfl];rfl
  ·rw[if_neg (fun q=>hj q.symm),if_neg hj]
   cases lA l j <;> rfl
theorem z3H (l:List (Nm × β))(k j:Nm):lA (pG l k) j=if j=k then none else lA l j:=by
 induction l with
 | nil=>simp [lA,pG]
 | cons e l ih=>
  unfold pG at ih ⊢;rw[List.filter_cons,BG];by_cases h1:e.1=k
  ·rw[if_neg (by simp [h1]),ih]
   by_cases h2:j=k
   ·rw[if_pos h2,if_pos h2]
   ·rw[if_neg h2,if_neg h2,if_neg (by rw[h1];exact fun q=>h2 q.symm)]
  ·rw[if_pos (by simp [h1]),BG,ih]
   by_cases h2:e.1=j
   ·rw[if_pos h2,if_pos h2,if_neg (fun q=>h1 (h2.trans q))]
   ·rw[if_neg h2,if_neg h2]
end
structure Sta where
 state:Int
 since:Int
 step:Nm
 site:Nm
 failed:Int
 deriving DecidableEq
structure EndP where
 board:Nm
 step:Nm
 frm:Int
 til:Int
 pass:Bool
 deriving DecidableEq
structure RunP where
 site:Nm
 frm:Int
 til:Int
 deriving DecidableEq
structure RanQ where
 board:Nm
 site:Nm
 step:Nm
 frm:Int
 til:Int
 pass:Bool
 deriving DecidableEq
def RanQ.run (r:RanQ):RunP:=⟨r.site,r.frm,r.til⟩
def RanQ.fin (r:RanQ):EndP:=⟨r.board,r.step,r.frm,r.til,r.pass⟩
structure FlP where
 bs:List (Nm×Sta)
 sites:List (Nm×Nm)
 ends:List EndP
 runs:List RunP
structure FlQ where
 bs:List (Nm×Sta)
 runs:List RanQ
def XD (steps:List Nm)(tries:Int)(s:Sta)(at_:Int)(pass:Bool):Sta:=
 if pass then(if steps.findIdx (fun y=>decide (y=s.step))+1=steps.length then⟨4,at_,[],[],0⟩ else⟨1,at_,(steps[steps.findIdx (fun y=>decide (y=s.step))+1]?).getD [],[],0⟩)
 else⟨if s.failed+1=tries then 5 else 3,at_,s.step,[],s.failed+1⟩
def VC (l:List RunP)(site:Nm)(at_:Int):List RunP:=l.map fun r=>if r.site=site∧r.til<0 then { r with til:=at_ } else r
def CL (l:List RanQ)(board:Nm)(at_:Int)(pass:Bool):List RanQ:=l.map fun r=>if r.board=board∧r.til<0 then { r with til:=at_,pass:=pass } else r
def xN (l:List RanQ)(board:Nm)(at_:Int):List RanQ:=l.map fun r=>if r.board=board∧r.til<0 then { r with til:=at_,board:=[] } else r
def iD (steps:List Nm)(tries:Int)(w:FlP)(x:Ent):FlP×Int:=
 if x.kind=1 then(match lA w.bs x.board with|some _=>(w,6)|none=>({ w with bs:=MA w.bs x.board ⟨1,x.time,steps.headD [],[],0⟩ },0))
 else match lA w.bs x.board with
 | none=>(w,8)
 | some b=>
  if x.kind=2 then(if b.state≠1 then(w,11) else if x.step≠b.step then(w,3) else if(lA w.sites x.site).isSome then(w,12)
   else({ w with bs:=MA w.bs x.board { b with state:=2,since:=x.time,site:=x.site },sites:=MA w.sites x.site x.board,runs:=w.runs++[⟨x.site,x.time,-1⟩] },0))
  else if x.kind=3∨x.kind=4 then(if b.state≠2 then(w,11) else if b.site≠x.site then(w,13)
   else({ bs:=MA w.bs x.board (XD steps tries b x.time (decide (x.kind=3))),sites:=pG w.sites b.site,ends:=w.ends++[⟨x.board,b.step,b.since,x.time,decide (x.kind=3)⟩],runs:=VC w.runs b.site x.time },0))
  else if x.kind=5 then(if b.state≠3 then(w,11) else({ w with bs:=MA w.bs x.board { b with state:=1,since:=x.time } },0))
  else if b.state=4∨b.state=5 then(w,11)
  else if b.state=2 then({ w with bs:=MA w.bs x.board { b with state:=5,since:=x.time,site:=[] },sites:=pG w.sites b.site,runs:=VC w.runs b.site x.time },0)
  else({ w with bs:=MA w.bs x.board { b with state:=5,since:=x.time } },0)
def rO (bs:List (Nm × Sta))(site:Nm):Prop:=∃b st,lA bs b=some st∧st.state=2∧st.site=site
theorem RW {β:Type}{l:List (Nm × β)}{k:Nm}{v:β}(h:lA l k=some v):(k,v)∈l:=by
 unfold lA at h;obtain⟨e,h1,h2⟩:=Option.map_eq_some_iff.1 h;have hm:=List.mem_of_find?_eq_some h1
 have hk:e.1=k:=by simpa using List.find?_some h1
 subst hk h2;exact hm
theorem z8Y (bs:List (Nm × Sta))(site:Nm):(bs.any fun e=>decide (lA bs e.1=some e.2)&&(decide (e.2.state=2)&&decide (e.2.site=site)))=true↔rO bs site:=by
 rw[List.any_eq_true];constructor
 ·rintro⟨e,_,h⟩
  simp only[Bool.and_eq_true,decide_eq_true_eq]at h;exact⟨e.1,e.2,h.1,h.2.1,h.2.2⟩
 ·rintro⟨b,st,h1,h2,h3⟩
  exact⟨(b,st),RW h1,by simp [h1,h2,h3]⟩
instance (bs:List (Nm × Sta)) (site:Nm):Decidable (rO bs site):=decidable_of_iff _ (z8Y bs site)
def doQ (steps:List Nm)(tries:Int)(w:FlQ)(x:Ent):FlQ×Int:=
 if x.kind=7 then(w,0)
 else if x.kind=1 then(match lA w.bs x.board with|some _=>(w,6)|none=>({ w with bs:=MA w.bs x.board ⟨1,x.time,steps.headD [],[],0⟩ },0))
 else match lA w.bs x.board with
 | none=>(w,8)
 | some b=>
  if x.kind=2 then(if b.state≠1 then(w,11) else if b.step≠x.step then(w,3) else if rO w.bs x.site then(w,12)
   else({ bs:=MA w.bs x.board { b with state:=2,since:=x.time,site:=x.site },runs:=w.runs++[⟨x.board,x.site,x.step,x.time,-1,false⟩] },0))
  else if x.kind=3∨x.kind=4 then(if b.state≠2 then(w,11) else if b.site≠x.site then(w,13)
   else({ bs:=MA w.bs x.board (XD steps tries b x.time (decide (x.kind=3))),runs:=CL w.runs x.board x.time (decide (x.kind=3)) },0))
  else if x.kind=5 then(if b.state≠3 then(w,11) else({ w with bs:=MA w.bs x.board { b with state:=1,since:=x.time } },0))
  else if b.state=4∨b.state=5 then(w,11)
  else({ bs:=MA w.bs x.board { b with state:=5,since:=x.time,site:=[] },runs:=xN w.runs x.board x.time },0)
def TJ (bs:List (Nm × Sta))(b s:Nm):Prop:=∃st,lA bs b=some st∧st.state=2∧st.site=s
structure Inv (p:FlP) (q:FlQ):Prop where
 bs:p.bs=q.bs
 sts:∀s b,lA p.sites s=some b↔TJ p.bs b s
 idle:∀b st,lA p.bs b=some st→st.state≠2→st.site=[]
 name:∀st,lA p.bs []≠some st
 runs:p.runs=q.runs.map RanQ.run
 gone:∀r∈q.runs,r.board=[]→0≤r.til
 brd:∀b,b≠[]→∃C:List RanQ,(∀r∈C,0≤r.til)∧p.ends.filter (fun e=>decide (e.board=b))=C.map RanQ.fin ∧
  (((∀st,lA p.bs b=some st→st.state≠2)∧q.runs.filter (fun r=>decide (r.board=b))=C) ∨
   (∃st,lA p.bs b=some st∧st.state=2∧q.runs.filter (fun r=>decide (r.board=b))=C++[⟨b,st.site,st.step,st.since,-1,false⟩]))
theorem Inv.busy {p:FlP}{q:FlQ}(I:Inv p q)(s:Nm):(lA p.sites s).isSome=true↔rO q.bs s:=by
 rw[Option.isSome_iff_exists];constructor
 ·rintro⟨b,h⟩
  obtain⟨st,h1,h2,h3⟩:=(I.sts s b).1 h;exact⟨b,st,by rw[←I.bs];exact h1,h2,h3⟩
 ·rintro⟨b,st,h1,h2,h3⟩
  exact⟨b,(I.sts s b).2 ⟨st,by rw[I.bs];exact h1,h2,h3⟩⟩
theorem Inv.opened {p:FlP}{q:FlQ}(I:Inv p q){r:RanQ}(hr:r∈q.runs)(ho:r.til<0):∃st,lA p.bs r.board=some st∧st.state=2∧r=⟨r.board,st.site,st.step,st.since,-1,false⟩:=by
 have hb:r.board≠[]:=fun e=>by have:=I.gone r hr e;omega
 obtain⟨C,c1,c2,h⟩:=I.brd r.board hb;have hm:r∈q.runs.filter (fun x=>decide (x.board=r.board)):=List.mem_filter.2 ⟨hr,by simp⟩
 rcases h with⟨_,h⟩|⟨st,h1,h2,h⟩
 ·rw[h]at hm
  have:=c1 r hm;omega
 ·rw[h]at hm
  rcases List.mem_append.1 hm with hm|hm
  ·have:=c1 r hm
   omega
  ·exact⟨st,h1,h2,List.mem_singleton.1 hm⟩
theorem Inv.close {p:FlP}{q:FlQ}(I:Inv p q){board:Nm}{st:Sta}(h1:lA p.bs board=some st)(h2:st.state=2)(at_:Int){f:RanQ→RanQ}(hf:∀ r,r.til<0→(f r).run=⟨r.site,r.frm,at_⟩) :
 VC p.runs st.site at_=(q.runs.map fun r=>if r.board=board∧r.til<0 then f r else r).map RanQ.run:=by
 unfold VC;rw[I.runs,List.map_map,List.map_map];apply List.map_congr_left
 intro r hr;simp only[Function.comp];by_cases ho:r.til<0
 ·obtain⟨st',a1,a2,a3⟩:=I.opened hr ho
  by_cases hb:r.board=board
  ·have e:st'=st:=by rw[hb,h1]at a1;exact(Option.some.inj a1).symm
   have hs:r.site=st.site:=by rw[a3,e]
   rw[if_pos (show(RanQ.run r).site=st.site∧(RanQ.run r).til<0 from⟨hs,ho⟩),if_pos ⟨hb,ho⟩,hf r ho]
   rfl
  ·rw[if_neg (c:=r.board=board∧r.til<0) (fun z=>hb z.1),if_neg]
   rintro⟨z1,_⟩
   have z2:r.site=st.site:=z1
   have z3:r.site=st'.site:=by rw[a3]
   have u1:=(I.sts st.site board).2 ⟨st,h1,h2,rfl⟩
   have u2:=(I.sts st.site r.board).2 ⟨st',a1,a2,by rw[←z3,z2]⟩
   rw[u1]at u2;exact hb (Option.some.inj u2).symm
 ·rw[if_neg (fun z=>ho z.2),if_neg (fun z=>ho z.2)]
theorem z3g {l:List RanQ}{f:RanQ→RanQ}(hf:∀ r∈l,(f r).board=r.board)(b:Nm):(l.map f).filter (fun r=>decide (r.board=b))=(l.filter fun r=>decide (r.board=b)).map f:=by
 rw[List.filter_map];congr 1
 apply List.filter_congr
 intro r hr;simp only[Function.comp];rw[hf r hr]
theorem zeL (steps:List Nm)(tries:Int){p:FlP}{q:FlQ}(I:Inv p q)(x:Ent)(hb:x.kind≠7→x.board≠[])(hs:x.kind=2→x.site≠[])(ht:0≤x.time)(hk:1≤x.kind∧x.kind≤7)(h7:x.kind≠7) :
 (iD steps tries p x).2=(doQ steps tries q x).2∧Inv (iD steps tries p x).1 (doQ steps tries q x).1:=by
 have hb0:=hb h7
 unfold iD doQ;rw[if_neg h7,I.bs];by_cases k1:x.kind=1
 ·rw[if_pos k1,if_pos k1]
  cases hg:lA q.bs x.board with
  | some s=>exact⟨rfl,I⟩
  | none=>
   refine⟨rfl,?_⟩;have hgp:lA p.bs x.board=none:=by rw[I.bs];exact hg
   have upd:∀b,lA (MA q.bs x.board ⟨1,x.time,steps.headD [],[],0⟩) b=if b=x.board then some ⟨1,x.time,steps.headD [],[],0⟩ else lA p.bs b:=fun b=>by rw[SJ,I.bs]
   refine⟨rfl,fun s b=>?_,fun b st h1 h2=>?_,fun st=>?_,I.runs,I.gone,fun b h=>?_⟩
   ·rw[I.sts s b]
    unfold TJ;show _↔∃st,lA (MA q.bs _ _) b=some st∧_
    rw[upd b];by_cases e:b=x.board
    ·rw[if_pos e,e,hgp]
     constructor
     ·rintro⟨_,h,_⟩;cases h
     ·rintro⟨st,h,h2,_⟩;cases h;cases h2
    ·rw[if_neg e]
   ·change lA (MA q.bs _ _) b=some st at h1
    rw[upd b]at h1;split at h1
    ·cases h1;rfl
    ·exact I.idle b st h1 h2
   ·show lA (MA q.bs _ _) []≠some st
    rw[upd [],if_neg (fun e=>hb0 e.symm)]
    exact I.name st
   ·obtain⟨C,c1,c2,c3⟩:=I.brd b h
    refine⟨C,c1,c2,?_⟩;show((∀st,lA (MA q.bs _ _) b=some st→_)∧_)∨∃st,lA (MA q.bs _ _) b=some st∧_
    rw[upd b];by_cases e:b=x.board
    ·rw[if_pos e]
     left;refine⟨fun st h=>by cases h;show(1:Int)≠2;decide,?_⟩
     rcases c3 with⟨_,c3⟩|⟨st,c3,_⟩
     ·exact c3
     ·rw[e,hgp]at c3;cases c3
    ·rw[if_neg e];exact c3
 rw[if_neg k1,if_neg k1];cases hg:lA q.bs x.board with
 | none=>exact⟨rfl,I⟩
 | some b=>
  have hgp:lA p.bs x.board=some b:=by rw[I.bs];exact hg
  -- a board that does not run,and does not run behind it
  have quiet:∀s:Sta,b.state≠2→s.state≠2→s.site=[]→Inv { p with bs:=MA q.bs x.board s } { q with bs:=MA q.bs x.board s }:=fun s n1 n2 n3=>by
   have upd:∀c,lA (MA q.bs x.board s) c=if c=x.board then some s else lA p.bs c:=fun c=>by rw[SJ,I.bs]
   refine⟨rfl,fun s' c=>?_,fun c st h1 h2=>?_,fun st=>?_,I.runs,I.gone,fun c h=>?_⟩
   ·rw[I.sts s' c]
    unfold TJ;show _↔∃st,lA (MA q.bs _ _) c=some st∧_
    rw[upd c];by_cases e:c=x.board
    ·rw[if_pos e,e,hgp]
     constructor
     ·rintro⟨_,h,h2,_⟩;cases h;exact absurd h2 n1
     ·rintro⟨_,h,h2,_⟩;cases h;exact absurd h2 n2
    ·rw[if_neg e]
   ·change lA (MA q.bs _ _) c=some st at h1
    rw[upd c]at h1;split at h1
    ·cases h1;exact n3
    ·exact I.idle c st h1 h2
   ·show lA (MA q.bs _ _) []≠some st
    rw[upd [],if_neg (fun e=>hb0 e.symm)]
    exact I.name st
   ·obtain⟨C,c1,c2,c3⟩:=I.brd c h
    refine⟨C,c1,c2,?_⟩;show((∀st,lA (MA q.bs _ _) c=some st→_)∧_)∨∃st,lA (MA q.bs _ _) c=some st∧_
    rw[upd c];by_cases e:c=x.board
    ·rw[if_pos e]
     left;refine⟨fun st h=>by cases h;exact n2,?_⟩
     rcases c3 with⟨_,c3⟩|⟨st,c3,c4,_⟩
     ·exact c3
     ·rw[e,hgp]at c3;cases c3;exact absurd c4 n1
    ·rw[if_neg e];exact c3
  by_cases k2:x.kind=2
  ·dsimp only
   rw[if_pos k2,if_pos k2];by_cases e1:b.state≠1
   ·rw[if_pos e1,if_pos e1];exact⟨rfl,I⟩
   rw[if_neg e1,if_neg e1];have e1':b.state=1:=by simpa using e1
   by_cases e2:x.step≠b.step
   ·rw[if_pos e2,if_pos (fun q=>e2 q.symm)];exact⟨rfl,I⟩
   have e2':x.step=b.step:=by simpa using e2
   rw[if_neg (c:=x.step≠b.step) e2,if_neg (c:=b.step≠x.step) (fun z=>z e2'.symm)]
   by_cases e3:(lA p.sites x.site).isSome=true
   ·rw[if_pos e3,if_pos ((I.busy _).1 e3)];exact⟨rfl,I⟩
   rw[if_neg e3,if_neg (fun z=>e3 ((I.busy _).2 z))]
   refine⟨rfl,?_⟩;have e3':lA p.sites x.site=none:=by simpa using e3
   have upd:∀c,lA (MA q.bs x.board { b with state:=2,since:=x.time,site:=x.site }) c=if c=x.board then some { b with state:=2,since:=x.time,site:=x.site } else lA p.bs c:=fun c=>by rw[SJ,I.bs]
   refine⟨rfl,fun s c=>?_,fun c st h1 h2=>?_,fun st=>?_,?_,fun r hr=>?_,fun c h=>?_⟩
   ·show lA (MA p.sites x.site x.board) s=some c↔∃st,lA (MA q.bs _ _) c=some st∧_
    rw[SJ,upd c];by_cases es:s=x.site
    ·rw[if_pos es]
     by_cases ec:c=x.board
     ·rw[if_pos ec,ec]
      exact⟨fun _=>⟨_,rfl,rfl,es.symm⟩,fun _=>rfl⟩
     ·rw[if_neg ec]
      constructor
      ·intro h;exact absurd (Option.some.inj h).symm ec
      ·intro h
       have:=(I.sts s c).2 h;rw[es,e3']at this;cases this
    ·rw[if_neg es,I.sts s c]
     unfold TJ;by_cases ec:c=x.board
     ·rw[if_pos ec,ec,hgp]
      constructor
      ·rintro⟨_,h,h2,_⟩;cases h;omega
      ·rintro⟨_,h,_,h3⟩;cases h;exact absurd h3.symm es
     ·rw[if_neg ec]
   ·change lA (MA q.bs _ _) c=some st at h1
    rw[upd c]at h1;split at h1
    ·cases h1;exact absurd rfl h2
    ·exact I.idle c st h1 h2
   ·show lA (MA q.bs _ _) []≠some st
    rw[upd [],if_neg (fun e=>hb0 e.symm)]
    exact I.name st
   ·show p.runs++[_]=(q.runs++[_]).map RanQ.run
    rw[List.map_append,I.runs];rfl
   ·intro he
    rcases List.mem_append.1 hr with hr|hr
    ·exact I.gone r hr he
    ·rw[List.mem_singleton.1 hr]at he;exact absurd he hb0
   ·obtain⟨C,c1,c2,c3⟩:=I.brd c h
    refine⟨C,c1,c2,?_⟩;dsimp only;rw[upd c,List.filter_append];by_cases ec:c=x.board
    ·rw[if_pos ec]
     right;refine⟨_,rfl,rfl,?_⟩
     rcases c3 with⟨_,c3⟩|⟨st,c3,c4,_⟩
     ·rw[c3,ec,e2'];simp
     ·rw[ec,hgp]at c3;cases c3;omega
    ·rw[if_neg ec]
     have e0:([(⟨x.board,x.site,x.step,x.time,-1,false⟩:RanQ)]:List RanQ).filter (fun r=>decide (r.board=c))=[]:=by have ec':¬x.board=c:=fun z=>ec z.symm;simp [ec']
     rw[e0,List.append_nil];exact c3
  dsimp only;rw[if_neg k2,if_neg k2];by_cases k3:x.kind=3∨x.kind=4
  ·rw[if_pos k3,if_pos k3]
   by_cases e1:b.state≠2
   ·rw[if_pos e1,if_pos e1];exact⟨rfl,I⟩
   rw[if_neg e1,if_neg e1];have e1':b.state=2:=by simpa using e1
   by_cases e2:b.site≠x.site
   ·rw[if_pos e2,if_pos e2];exact⟨rfl,I⟩
   rw[if_neg e2,if_neg e2];refine⟨rfl,?_⟩;generalize hps:decide (x.kind=3)=ps;have s2:(XD steps tries b x.time ps).state≠2∧(XD steps tries b x.time ps).site=[]:=by
    unfold XD;split
    ·split
     ·exact⟨by show(4:Int)≠2;decide,rfl⟩
     ·exact⟨by show(1:Int)≠2;decide,rfl⟩
    ·refine⟨?_,rfl⟩;dsimp only;split <;> decide
   generalize XD steps tries b x.time ps=s at s2;obtain⟨n2,n3⟩:=s2;have upd:∀c,lA (MA q.bs x.board s) c=if c=x.board then some s else lA p.bs c:=fun c=>by rw[SJ,I.bs]
   have cb:∀r∈q.runs,(if r.board=x.board∧r.til<0 then { r with til:=x.time,pass:=ps } else r:RanQ).board=r.board:=fun r _=>by split <;> rfl
   refine⟨rfl,fun s' c=>?_,fun c st h1 h2=>?_,fun st=>?_,?_,fun r hr=>?_,fun c h=>?_⟩
   ·show lA (pG p.sites b.site) s'=some c↔∃st,lA (MA q.bs _ _) c=some st∧_
    rw[z3H,upd c];by_cases es:s'=b.site
    ·rw[if_pos es]
     constructor
     ·intro h;cases h
     ·by_cases ec:c=x.board
      ·rw[if_pos ec];rintro⟨_,h,h2,_⟩;cases h;exact absurd h2 n2
      ·rw[if_neg ec]
       intro h;have u1:=(I.sts s' c).2 h
       have u2:=(I.sts b.site x.board).2 ⟨b,hgp,e1',rfl⟩
       rw[es,u2]at u1;exact absurd (Option.some.inj u1).symm ec
    ·rw[if_neg es,I.sts s' c]
     unfold TJ;by_cases ec:c=x.board
     ·rw[if_pos ec,ec,hgp]
      constructor
      ·rintro⟨_,h,_,h3⟩;cases h;exact absurd h3.symm es
      ·rintro⟨_,h,h2,_⟩;cases h;exact absurd h2 n2
     ·rw[if_neg ec]
   ·change lA (MA q.bs _ _) c=some st at h1
    rw[upd c]at h1;split at h1
    ·cases h1;exact n3
    ·exact I.idle c st h1 h2
   ·show lA (MA q.bs _ _) []≠some st
    rw[upd [],if_neg (fun e=>hb0 e.symm)]
    exact I.name st
   ·exact I.close hgp e1' x.time (f:=fun r=>{ r with til:=x.time,pass:=ps }) (fun r _=>rfl)
   ·intro he
    obtain⟨r0,hr0,rfl⟩:=List.mem_map.1 hr;rw[cb r0 hr0]at he;have:=I.gone r0 hr0 he;rw[if_neg (fun z=>by omega)];exact this
   ·obtain⟨C,c1,c2,c3⟩:=I.brd c h
    by_cases ec:c=x.board
    ·subst ec
     rcases c3 with⟨c3,_⟩|⟨st,c3,c4,c5⟩
     ·exact absurd e1' (c3 b hgp)
     rw[hgp]at c3;cases c3
     refine⟨C++[⟨x.board,b.site,b.step,b.since,x.time,ps⟩],fun r hr=>?_,?_,.inl ⟨fun st hst=>?_,?_⟩⟩
     ·rcases List.mem_append.1 hr with hr|hr
      ·exact c1 r hr
      ·rw[List.mem_singleton.1 hr];exact ht
     ·show(p.ends++[_]).filter _=_
      rw[List.filter_append,c2,List.map_append];simp [RanQ.fin]
     ·change lA (MA q.bs _ _) x.board=some st at hst
      rw[upd,if_pos rfl]at hst;cases hst;exact n2
     ·show(CL q.runs x.board x.time ps).filter _=_
      unfold CL;rw[z3g cb,c5,List.map_append];congr 1
      ·conv=>rhs;rw[←List.map_id C]
       apply List.map_congr_left
       intro r hr;have:=c1 r hr;rw[if_neg (fun z=>by omega)];rfl
      ·simp
    ·refine⟨C,c1,?_,?_⟩
     ·show(p.ends++[_]).filter _=_
      rw[List.filter_append,c2];have ec':¬x.board=c:=fun z=>ec z.symm
      simp [ec']
     ·dsimp only
      rw[upd c,if_neg ec];have same:(CL q.runs x.board x.time ps).filter (fun r=>decide (r.board=c))=q.runs.filter (fun r=>decide (r.board=c)):=by
       unfold CL;rw[z3g cb];conv=>rhs;rw[←List.map_id (q.runs.filter _)]
       apply List.map_congr_left
       intro r hr;have hrb:r.board=c:=by simpa using (List.mem_filter.1 hr).2
       rw[if_neg (fun z=>ec (hrb.symm.trans z.1))];rfl
      rw[same];exact c3
  rw[if_neg k3,if_neg k3];by_cases k5:x.kind=5
  ·rw[if_pos k5,if_pos k5]
   by_cases e1:b.state≠3
   ·rw[if_pos e1,if_pos e1];exact⟨rfl,I⟩
   rw[if_neg e1,if_neg e1];have e1':b.state=3:=by simpa using e1
   exact⟨rfl,quiet _ (by omega) (by show(1:Int)≠2;decide) (I.idle x.board b hgp (by omega))⟩
  rw[if_neg k5,if_neg k5];by_cases e45:b.state=4∨b.state=5
  ·rw[if_pos e45,if_pos e45];exact⟨rfl,I⟩
  rw[if_neg e45,if_neg e45];by_cases e2:b.state=2
  ·rw[if_pos e2]
   refine⟨rfl,?_⟩;have upd:∀c,lA (MA q.bs x.board { b with state:=5,since:=x.time,site:=[] }) c=if c=x.board then some { b with state:=5,since:=x.time,site:=[] } else lA p.bs c:=fun c=>by rw[SJ,I.bs]
   refine⟨rfl,fun s' c=>?_,fun c st h1 h2=>?_,fun st=>?_,?_,fun r hr=>?_,fun c h=>?_⟩
   ·show lA (pG p.sites b.site) s'=some c↔∃st,lA (MA q.bs _ _) c=some st∧_
    rw[z3H,upd c];by_cases es:s'=b.site
    ·rw[if_pos es]
     constructor
     ·intro h;cases h
     ·by_cases ec:c=x.board
      ·rw[if_pos ec];rintro⟨_,h,h2,_⟩;cases h;cases h2
      ·rw[if_neg ec]
       intro h;have u1:=(I.sts s' c).2 h
       have u2:=(I.sts b.site x.board).2 ⟨b,hgp,e2,rfl⟩
       rw[es,u2]at u1;exact absurd (Option.some.inj u1).symm ec
    ·rw[if_neg es,I.sts s' c]
     unfold TJ;by_cases ec:c=x.board
     ·rw[if_pos ec,ec,hgp]
      constructor
      ·rintro⟨_,h,_,h3⟩;cases h;exact absurd h3.symm es
      ·rintro⟨_,h,h2,_⟩;cases h;cases h2
     ·rw[if_neg ec]
   ·change lA (MA q.bs _ _) c=some st at h1
    rw[upd c]at h1;split at h1
    ·cases h1;rfl
    ·exact I.idle c st h1 h2
   ·show lA (MA q.bs _ _) []≠some st
    rw[upd [],if_neg (fun e=>hb0 e.symm)]
    exact I.name st
   ·exact I.close hgp e2 x.time (f:=fun r=>{ r with til:=x.time,board:=[] }) (fun r _=>rfl)
   ·intro he
    obtain⟨r0,hr0,rfl⟩:=List.mem_map.1 hr;by_cases z:r0.board=x.board∧r0.til<0
    ·rw[if_pos z];exact ht
    ·rw[if_neg z]at he ⊢;exact I.gone r0 hr0 he
   ·obtain⟨C,c1,c2,c3⟩:=I.brd c h
    have fl:(xN q.runs x.board x.time).filter (fun r=>decide (r.board=c))=(q.runs.filter (fun r=>decide (r.board=c))).filter (fun r=>!(decide (r.board=x.board)&&decide (r.til<0))):=by
     unfold xN;rw[List.filter_filter];induction q.runs with
     | nil=>rfl
     | cons r l ih=>
      rw[List.map_cons,List.filter_cons,List.filter_cons,ih];by_cases z:r.board=x.board∧r.til<0
      ·rw[if_pos z]
       have z2:(!(decide (r.board=x.board)&&decide (r.til<0))&&decide (r.board=c))=false:=by simp [z.1,z.2]
       have h':¬([]:List UInt8)=c:=fun z=>h z.symm
       simp [h',z.1,z.2]
      ·rw[if_neg z]
       have z3:(!(decide (r.board=x.board)&&decide (r.til<0)))=true:=by
        rw[←Bool.decide_and];simp [z]
       rw[z3,Bool.true_and]
    refine⟨C,c1,c2,?_⟩;dsimp only;rw[upd c,fl];have keepC:C.filter (fun r=>!(decide (r.board=x.board)&&decide (r.til<0)))=C:=by
     rw[List.filter_eq_self];intro r hr;have:=c1 r hr;have z:¬r.til<0:=by omega
     simp [z]
    by_cases ec:c=x.board
    ·subst ec
     rw[if_pos rfl];left;refine⟨fun st hst=>by cases hst;show(5:Int)≠2;decide,?_⟩
     rcases c3 with⟨c3,_⟩|⟨st,c3,c4,c5⟩
     ·exact absurd e2 (c3 b hgp)
     ·rw[c5,List.filter_append,keepC];simp
    ·rw[if_neg ec]
     rcases c3 with⟨c3,c5⟩|⟨st,c3,c4,c5⟩
     ·left;exact⟨c3,by rw[c5,keepC]⟩
     ·right
      refine⟨st,c3,c4,?_⟩;rw[c5,List.filter_append,keepC];simp [ec]
  ·rw[if_neg e2]
   refine⟨rfl,?_⟩;have e0:=I.idle x.board b hgp e2
   have eb:({ b with state:=5,since:=x.time,site:=[] }:Sta)={ b with state:=5,since:=x.time }:=by rw[←e0]
   have same:xN q.runs x.board x.time=q.runs:=by
    unfold xN;conv=>rhs;rw[←List.map_id q.runs]
    apply List.map_congr_left
    intro r hr;rw[if_neg]
    ·rfl
    ·rintro⟨z1,z2⟩
     obtain⟨st',a1,a2,_⟩:=I.opened hr z2;rw[z1,hgp]at a1;cases a1
     exact e2 a2
   rw[eb,same];exact quiet _ e2 (by show(5:Int)≠2;decide) e0
theorem inv0:Inv ⟨[],[],[],[]⟩ ⟨[],[]⟩ where
 bs:=rfl
 sts s b:=⟨fun h=>(by cases h),fun h=>(by obtain⟨_,h,_⟩:=h;cases h)⟩
 idle b st h:=by cases h
 name st h:=by cases h
 runs:=rfl
 gone r hr:=by cases hr
 brd b _:=⟨[],fun r hr=>(by cases hr),rfl,.inl ⟨fun st h=>(by cases h),rfl⟩⟩
end Go.Am
end
section
/- First passes of steps,plainly: counted by ends,counted by boards. -/
set_option linter.all false
namespace Go.Am
end Go.Am
end
section
/- Entries that count,and what is followed of them,plainly. -/
set_option linter.all false
namespace Go.Am
def vZ (y x:Ent):Bool:=decide (y.kind=7)&&decide (y.of=x.site)&&decide (y.other=x.no)
def zB:List Ent→List Bool
 | []=>[]
 | x::r=>(!((r.zip (zB r)).any fun y=>y.2&&vZ y.1 x))::zB r
theorem WH:∀ l,(zB l).length=l.length
 | []=>rfl
 | x::r=>by simp [zB,WH r]
def BC:List Ent→List (Nm × Int)
 | []=>[]
 | x::r=>if decide ((x.site,x.no)∈BC r)=false∧x.kind=7 then(x.of,x.other)::BC r else BC r
theorem z6b:∀ (l:List Ent) (s:Nm) (n:Int),(s,n)∈BC l↔((l.zip (zB l)).any fun y=>y.2&&(decide (y.1.kind=7)&&decide (y.1.of=s)&&decide (y.1.other=n)))=true
 | [],s,n=>by simp [BC,zB]
 | x::r,s,n=>by
  have ih:=z6b r
  have hb:decide ((x.site,x.no)∈BC r)=((r.zip (zB r)).any fun y=>y.2&&vZ y.1 x):=by
   rw[Bool.eq_iff_iff,decide_eq_true_eq,ih x.site x.no];rfl
  unfold BC;rw[zB,List.zip_cons_cons,List.any_cons,←hb];cases hd:decide ((x.site,x.no)∈BC r) with
  | true=>
   rw[if_neg (by simp),ih s n]
   simp
  | false=>
   by_cases h7:x.kind=7
   ·rw[if_pos ⟨rfl,h7⟩,List.mem_cons,ih s n,Bool.or_eq_true]
    have:((s,n)=(x.of,x.other))↔((!false&&(decide (x.kind=7)&&decide (x.of=s)&&decide (x.other=n)))=true):=by
     simp only[Prod.mk.injEq,Bool.not_false,Bool.true_and,h7,decide_true,Bool.and_eq_true,decide_eq_true_eq];exact⟨fun h=>⟨h.1.symm,h.2.symm⟩,fun h=>⟨h.1.symm,h.2.symm⟩⟩
    rw[this]
   ·rw[if_neg (fun z=>h7 z.2),ih s n]
    simp [h7]
theorem zax (x:Ent)(r:List Ent):zB (x::r)=(!decide ((x.site,x.no)∈BC r))::zB r:=by
 have hb:decide ((x.site,x.no)∈BC r)=((r.zip (zB r)).any fun y=>y.2&&vZ y.1 x):=by
  rw[Bool.eq_iff_iff,decide_eq_true_eq,z6b r x.site x.no];rfl
 rw[hb];rfl
structure AllP where
 w:FlP
 ref:List Nat
 why:List Int
structure AllQ where
 w:FlQ
 ref:List Nat
 why:List Int
def goP (steps:List Nm)(tries:Int):AllP→Nat→List (Ent×Bool)→AllP
 | a,_,[]=>a
 | a,i,(x,c)::r=>if c=false∨x.kind=7 then goP steps tries a (i+1) r
  else goP steps tries (if(iD steps tries a.w x).2≠0 then⟨(iD steps tries a.w x).1,a.ref++[i],a.why++[(iD steps tries a.w x).2]⟩ else⟨(iD steps tries a.w x).1,a.ref,a.why⟩) (i+1) r
def goQ (steps:List Nm)(tries:Int):AllQ→Nat→List (Ent×Bool)→AllQ
 | a,_,[]=>a
 | a,i,(x,c)::r=>if c=false then goQ steps tries a (i+1) r
  else goQ steps tries (if(doQ steps tries a.w x).2≠0 then⟨(doQ steps tries a.w x).1,a.ref++[i],a.why++[(doQ steps tries a.w x).2]⟩ else⟨(doQ steps tries a.w x).1,a.ref,a.why⟩) (i+1) r
structure EntW (x:Ent):Prop where
 b:x.kind≠7→x.board≠[]
 s:x.kind=2→x.site≠[]
 t:0≤x.time
 k:1≤x.kind∧x.kind≤7
theorem WW {s:List UInt8}(h:tB s=true):s≠[]:=by
 intro e;subst e;revert h
 decide
theorem zd2 {x:Ent}(h:sB x=0):EntW x:=by
 unfold sB at h;split at h
 ·cases h
 rename_i h1;split at h
 ·cases h
 rename_i h2;split at h
 ·cases h
 rename_i h3;split at h
 ·cases h
 rename_i h4;have k1:1≤x.kind∧x.kind≤7:=by
  have:inB 1 x.kind 7=true:=by simpa using h3
  unfold inB at this;simpa using this
 have t1:0≤x.time:=by
  rw[not_or]at h2;have:YE x.time=true:=by simpa using h2.2
  unfold YE inB at this;simp at this;exact this.1
 have hs:x.site≠[]:=WW (by simpa using h1)
 have hn:aK x=true:=by simpa using h4
 refine⟨fun h7=>?_,fun _=>hs,t1,k1⟩
 unfold aK at hn;rw[if_neg h7]at hn;split at hn
 ·rw[Bool.and_eq_true]at hn;exact WW hn.1
 ·exact WW hn
theorem GM (steps:List Nm)(tries:Int):∀(l:List (Ent×Bool)) (a:AllP) (b:AllQ) (i:Nat),(∀y∈l,EntW y.1)→Inv a.w b.w→a.ref=b.ref→a.why=b.why →
 Inv (goP steps tries a i l).w (goQ steps tries b i l).w∧(goP steps tries a i l).ref=(goQ steps tries b i l).ref∧(goP steps tries a i l).why=(goQ steps tries b i l).why
 | [],a,b,i,_,I,h1,h2=>⟨I,h1,h2⟩
 | (x,c)::r,a,b,i,hw,I,h1,h2=>by
  have hr:=fun y hy=>hw y (List.mem_cons_of_mem (x,c) hy)
  obtain⟨w1,w2,w3,w4⟩:=hw (x,c) (List.mem_cons_self ..);unfold goP goQ;cases c with
  | false=>rw[if_pos (.inl rfl),if_pos rfl];exact GM steps tries r a b (i+1) hr I h1 h2
  | true=>
   rw[if_neg (c:=true=false) (by simp)]
   by_cases h7:x.kind=7
   ·rw[if_pos (.inr h7)]
    have e:doQ steps tries b.w x=(b.w,0):=by unfold doQ;rw[if_pos h7]
    rw[e,if_neg (by simp)]
    exact GM steps tries r a b (i+1) hr I h1 h2
   ·rw[if_neg (c:=true=false∨x.kind=7) (by simp [h7])]
    obtain⟨e1,I2⟩:=zeL steps tries I x w1 w2 w3 w4 h7;rw[e1];by_cases h0:(doQ steps tries b.w x).2≠0
    ·rw[if_pos h0,if_pos h0]
     exact GM steps tries r _ _ (i+1) hr I2 (by dsimp only;rw[h1]) (by dsimp only;rw[h2])
    ·rw[if_neg h0,if_neg h0]
     exact GM steps tries r _ _ (i+1) hr I2 h1 h2
end Go.Am
end
section
/- The floor's memory: what lies where. -/
open Go
set_option linter.all false
set_option maxRecDepth 100000
namespace Go.Am
variable {h:aA} {K:jA}
def FH (h:aA)(o0 o1 o2 o3 o4 o5 o6 o7:Obj)(B l:aA):aA:=h++o0::o1::o2::o3::o4::o5::o6::o7::(B++l)
section
variable {o0 o1 o2 o3 o4 o5 o6 o7 o o':Obj} {B l l2:aA} {n:Nat}
theorem TC:(FH h o0 o1 o2 o3 o4 o5 o6 o7 B l).length=h.length+(8+B.length+l.length):=by unfold FH;simp;omega
theorem yD:FH h o0 o1 o2 o3 o4 o5 o6 o7 B l++l2=FH h o0 o1 o2 o3 o4 o5 o6 o7 B (l++l2):=by unfold FH;simp
theorem aG (n:Nat):(FH h o0 o1 o2 o3 o4 o5 o6 o7 B l)[h.length+n]?=(o0::o1::o2::o3::o4::o5::o6::o7::(B++l))[n]?:=by unfold FH;rw[List.getElem?_append_right (by omega)];simp
theorem bG (n:Nat):(FH h o0 o1 o2 o3 o4 o5 o6 o7 B l).set (h.length+n) o=h++(o0::o1::o2::o3::o4::o5::o6::o7::(B++l)).set n o:=by unfold FH;rw[List.set_append_right _ _ (by omega)];simp
theorem qD:(FH h o0 o1 o2 o3 o4 o5 o6 o7 B l)[h.length+1]?=some o1:=aG 1
theorem zD:(FH h o0 o1 o2 o3 o4 o5 o6 o7 B l)[h.length+2]?=some o2:=aG 2
theorem BE:(FH h o0 o1 o2 o3 o4 o5 o6 o7 B l)[h.length+3]?=some o3:=aG 3
theorem CE:(FH h o0 o1 o2 o3 o4 o5 o6 o7 B l)[h.length+4]?=some o4:=aG 4
theorem DE:(FH h o0 o1 o2 o3 o4 o5 o6 o7 B l)[h.length+5]?=some o5:=aG 5
theorem EE:(FH h o0 o1 o2 o3 o4 o5 o6 o7 B l)[h.length+6]?=some o6:=aG 6
theorem pE:(FH h o0 o1 o2 o3 o4 o5 o6 o7 B l)[h.length+7]?=some o7:=aG 7
theorem FE:(FH h o0 o1 o2 o3 o4 o5 o6 o7 B l).set (h.length+1) o=FH h o0 o o2 o3 o4 o5 o6 o7 B l:=bG 1
theorem GE:(FH h o0 o1 o2 o3 o4 o5 o6 o7 B l).set (h.length+2) o=FH h o0 o1 o o3 o4 o5 o6 o7 B l:=bG 2
theorem HE:(FH h o0 o1 o2 o3 o4 o5 o6 o7 B l).set (h.length+3) o=FH h o0 o1 o2 o o4 o5 o6 o7 B l:=bG 3
theorem IE:(FH h o0 o1 o2 o3 o4 o5 o6 o7 B l).set (h.length+4) o=FH h o0 o1 o2 o3 o o5 o6 o7 B l:=bG 4
theorem JE:(FH h o0 o1 o2 o3 o4 o5 o6 o7 B l).set (h.length+5) o=FH h o0 o1 o2 o3 o4 o o6 o7 B l:=bG 5
theorem KE:(FH h o0 o1 o2 o3 o4 o5 o6 o7 B l).set (h.length+6) o=FH h o0 o1 o2 o3 o4 o5 o o7 B l:=bG 6
theorem LE:(FH h o0 o1 o2 o3 o4 o5 o6 o7 B l).set (h.length+7) o=FH h o0 o1 o2 o3 o4 o5 o6 o B l:=bG 7
theorem UI (n:Nat):(FH h o0 o1 o2 o3 o4 o5 o6 o7 B l)[h.length+(8+B.length+n)]?=l[n]?:=by
 rw[aG,show 8+B.length+n=(B.length+n)+8 by omega]
 show(B++l)[B.length+n]?=_
 rw[List.getElem?_append_right (by omega)]
 simp
theorem US (n:Nat):(FH h o0 o1 o2 o3 o4 o5 o6 o7 B l).set (h.length+(8+B.length+n)) o=FH h o0 o1 o2 o3 o4 o5 o6 o7 B (l.set n o):=by
 rw[bG,show 8+B.length+n=(B.length+n)+8 by omega]
 unfold FH;congr 1
 simp only[List.set_cons_succ];rw[List.set_append_right _ _ (by omega)]
 simp
theorem LH (n:Nat):(FH h o0 o1 o2 o3 o4 o5 o6 o7 B l).take (h.length+(8+B.length+n))=FH h o0 o1 o2 o3 o4 o5 o6 o7 B (l.take n):=by
 unfold FH;rw[show h.length+(8+B.length+n)=h.length+((B.length+n)+8) by omega,List.take_append,List.take_of_length_le (by omega)]
 congr 1
 simp only[Nat.add_sub_cancel_left,List.take_succ_cons];rw[List.take_append,List.take_of_length_le (show B.length≤B.length+n by omega)]
 simp
end
def Ent.bx (x:Ent):Obj:=.box [AS x.site,AI x.no,AI x.time,AI x.kind,AS x.board,AS x.step,AS x.of,AI x.other]
def Sta.bx (s:Sta):Obj:=.box [AI s.state,AI s.since,AS s.step,AS s.site,AI s.failed]
def Sta.pv (s:Sta):PV:=.agg [eI s.state,eI s.since,.str s.step,.str s.site,eI s.failed]
abbrev aB:=List (Ent × Sta)
def zA:aB→aA
 | []=>[]
 | e::r=>e.1.bx::e.1.bx::e.2.bx::zA r
theorem jD:∀ bs:aB,(zA bs).length=3*bs.length
 | []=>rfl
 | e::r=>by simp [zA,jD r];omega
theorem z0G:∀ a b:aB,zA (a++b)=zA a++zA b
 | [],b=>rfl
 | e::r,b=>by simp [zA,z0G r b]
theorem z0H:∀ (bs:aB) (i:Nat) (e:Ent × Sta),bs[i]?=some e→(zA bs)[3*i+2]?=some e.2.bx
 | [],i,e,h=>by simp at h
 | y::r,0,e,h=>by simp at h;subst h;rfl
 | y::r,i+1,e,h=>by
  have:=z0H r i e (by simpa using h)
  rw[show 3*(i+1)+2=(3*i+2)+3 by omega]
  exact this
theorem z0I:∀ (bs:aB) (i:Nat) (e:Ent × Sta) (s:Sta),bs[i]?=some e→(zA bs).set (3*i+2) s.bx=zA (bs.set i (e.1,s))
 | [],i,e,s,h=>by simp at h
 | y::r,0,e,s,h=>by simp at h;subst h;rfl
 | y::r,i+1,e,s,h=>by
  have:=z0I r i e s (by simpa using h)
  rw[show 3*(i+1)+2=(3*i+2)+3 by omega]
  simp only[zA,List.set_cons_succ,this]
def qB (h:aA)(i:Nat):Nat:=h.length+(8+(3*i+2))
section
variable {o0 o1 o2 o3 o4 o5 o6 o7:Obj} {l:aA} {bs:aB} {i:Nat} {e:Ent × Sta}
theorem sL (hi:bs[i]?=some e):(FH h o0 o1 o2 o3 o4 o5 o6 o7 (zA bs) l)[qB h i]?=some e.2.bx:=by
 unfold qB;rw[aG,show 8+(3*i+2)=(3*i+2)+8 by omega]
 show(zA bs++l)[3*i+2]?=_
 have hl:i<bs.length:=by
  rcases Nat.lt_or_ge i bs.length with h|h
  ·exact h
  ·rw[List.getElem?_eq_none h]at hi;cases hi
 rw[List.getElem?_append_left (by rw[jD];omega)]
 exact z0H bs i e hi
theorem UZ (hi:bs[i]?=some e)(s:Sta):(FH h o0 o1 o2 o3 o4 o5 o6 o7 (zA bs) l).set (qB h i) s.bx=FH h o0 o1 o2 o3 o4 o5 o6 o7 (zA (bs.set i (e.1,s))) l:=by
 unfold qB;rw[bG,show 8+(3*i+2)=(3*i+2)+8 by omega]
 unfold FH;congr 1
 simp only[List.set_cons_succ];have hl:i<bs.length:=by
  rcases Nat.lt_or_ge i bs.length with h|h
  ·exact h
  ·rw[List.getElem?_eq_none h]at hi;cases hi
 rw[List.set_append_left _ _ (by rw[jD];omega),z0I bs i e s hi]
end
def eC (q:Nat):AV:=.ref q 0
def lB:Nat→aB→List (Nm × Nat)
 | _,[]=>[]
 | q,e::r=>(e.1.board,q+2)::lB (q+3) r
theorem aX:∀ (q:Nat) (bs:aB),(lB q bs).length=bs.length
 | q,[]=>rfl
 | q,e::r=>by simp [lB,aX (q+3) r]
theorem z4o:∀ (q:Nat) (bs:aB) (e:Ent × Sta),lB q (bs++[e])=lB q bs++[(e.1.board,q+3*bs.length+2)]
 | q,[],e=>by simp [lB]
 | q,y::r,e=>by
  have:=z4o (q+3) r e;simp only[List.cons_append,lB,this,List.length_cons];rw[show q+3+3*r.length+2=q+3*(r.length+1)+2 by omega]
theorem SM:∀ (q:Nat) (bs:aB) (i:Nat) (e:Ent × Sta) (s:Sta),bs[i]?=some e→lB q (bs.set i (e.1,s))=lB q bs
 | q,[],i,e,s,h=>by simp at h
 | q,y::r,0,e,s,h=>by simp at h;subst h;rfl
 | q,y::r,i+1,e,s,h=>by
  have:=SM (q+3) r i e s (by simpa using h)
  simp only[List.set_cons_succ,lB,this]
def asA (bs:aB):List (Nm×Sta):=bs.map fun e=>(e.1.board,e.2)
def ixB (k:Nm):aB→Option Nat
 | []=>none
 | e::r=>if k=e.1.board then some 0 else(ixB k r).map (· + 1)
theorem xQ (k:Nm):∀(q:Nat) (bs:aB),RA k (lB q bs)=(ixB k bs).map fun i=>q+(3*i+2)
 | q,[]=>rfl
 | q,e::r=>by
  unfold lB RA ixB;by_cases h:k=e.1.board
  ·simp [h]
  ·rw[if_neg h,if_neg h,xQ k (q+3) r]
   cases ixB k r with
   | none=>rfl
   | some i=>simp;omega
theorem MM (k:Nm):∀(bs:aB),(ixB k bs=none→lA (asA bs) k=none)∧∀i,ixB k bs=some i→∃e,bs[i]?=some e∧e.1.board=k∧lA (asA bs) k=some e.2
 | []=>⟨fun _=>rfl,fun i h=>by cases h⟩
 | e::r=>by
  obtain⟨i1,i2⟩:=MM k r;unfold ixB;by_cases h:k=e.1.board
  ·refine⟨fun z=>by simp [h]at z,fun i hi=>?_⟩
   rw[if_pos h]at hi;cases hi;exact⟨e,rfl,h.symm,by unfold asA;rw[List.map_cons,BG,if_pos h.symm]⟩
  ·have hn:¬e.1.board=k:=fun z=>h z.symm
   rw[if_neg h];refine⟨fun z=>?_,fun i hi=>?_⟩
   ·unfold asA
    rw[List.map_cons,BG,if_neg hn];exact i1 (by simpa using z)
   ·obtain⟨j,hj,e2⟩:=Option.map_eq_some_iff.1 hi
    obtain⟨y,y1,y2,y3⟩:=i2 j hj;subst e2;refine⟨y,by simpa using y1,y2,?_⟩
    unfold asA;rw[List.map_cons,BG,if_neg hn];exact y3
theorem z83 {bs:aB}{k:Nm}{i:Nat}{e:Ent × Sta}(hi:ixB k bs=some i)(he:bs[i]?=some e)(hu:(bs.map fun e=>e.1.board).Nodup)(s:Sta):asA (bs.set i (e.1,s))=MA (asA bs) k s:=by
 induction bs generalizing i with
 | nil=>cases hi
 | cons y r ih=>
  unfold ixB at hi;rw[List.map_cons,List.nodup_cons]at hu;by_cases h:k=y.1.board
  ·rw[if_pos h]at hi
   cases hi;simp at he
   subst he;unfold MA asA;rw[if_pos (by simp [h])]
   simp only[List.set_cons_zero,List.map_cons,h,if_true];congr 1
   rw[List.map_map];apply List.map_congr_left
   intro z hz;have:¬z.1.board=y.1.board:=fun q=>hu.1 (q ▸ List.mem_map_of_mem hz)
   simp [this]
  ·rw[if_neg h]at hi
   obtain⟨j,hj,e2⟩:=Option.map_eq_some_iff.1 hi;subst e2;have hn:¬y.1.board=k:=fun z=>h z.symm
   have he':r[j]?=some e:=by simpa using he
   have q:=ih hj he' hu.2
   simp only[List.set_cons_succ];unfold MA asA at q ⊢;simp only[List.map_cons,List.any_cons,decide_eq_false hn,Bool.false_or,if_neg hn];rw[q];split
   ·rfl
   ·rfl
theorem z82 {bs:aB}{k:Nm}(hi:ixB k bs=none)(x:Ent)(hx:x.board=k)(s:Sta):asA (bs++[(x,s)])=MA (asA bs) k s:=by
 have:(asA bs).any (fun e=>decide (e.1=k))=false:=by
  induction bs with
  | nil=>rfl
  | cons y r ih=>
   unfold ixB at hi;by_cases h:k=y.1.board
   ·rw[if_pos h]at hi;cases hi
   ·rw[if_neg h]at hi
    have hn:¬y.1.board=k:=fun z=>h z.symm
    have q:=ih (by simpa using hi)
    unfold asA at q ⊢;rw[List.map_cons,List.any_cons,q];simp [hn]
 unfold MA;rw[if_neg (by simp [this])]
 unfold asA;simp [hx]
abbrev sD:=List ((Nm × Nm) × Nat)
def tC (m:sD)(c:Nat):Obj:=.amap (m.map fun e=>⟨.str e.1.1,AS e.1.2,e.2⟩) c
def asS (m:sD):List (Nm×Nm):=m.map (·.1)
def OD (k:Nm):sD→Option Nat
 | []=>none
 | e::r=>if k=e.1.1 then some 0 else(OD k r).map (· + 1)
theorem AQ (k:Nm):∀m:sD,CB (.str k) (m.map fun e=>(⟨.str e.1.1,AS e.1.2,e.2⟩:ME))=some (OD k m)
 | []=>rfl
 | e::r=>by
  have hk:PV.eqv (.str k) (.str e.1.1)=some (decide (k=e.1.1)):=rfl
  simp only[List.map_cons,CB,hk,OD];by_cases h:k=e.1.1
  ·simp [h]
  ·simp [h,AQ k r]
theorem IW (k:Nm):∀m:sD,(OD k m).bind (fun i=>m[i]?)=m.find? (fun e=>decide (e.1.1=k))
 | []=>rfl
 | e::r=>by
  unfold OD;rw[List.find?_cons];by_cases h:k=e.1.1
  ·simp [h]
  ·have hn:¬e.1.1=k:=fun z=>h z.symm
   rw[if_neg h,decide_eq_false hn];have:=IW k r;cases hf:OD k r with
   | none=>rw[hf]at this;simpa using this
   | some i=>rw[hf]at this;simpa using this
theorem JW (k:Nm):∀(m:sD) (i:Nat),OD k m=some i→(m[i]?).isSome=true
 | [],i,h=>by cases h
 | e::r,i,h=>by
  unfold OD at h;split at h
  ·cases h;rfl
  ·obtain⟨j,hj,e2⟩:=Option.map_eq_some_iff.1 h
   subst e2;have:=JW k r j hj;simpa using this
theorem zfN {id:Nat}{hp:aA}{m:sD}{c:Nat}{k:Nm}(hh:hp[id]?=some (tC m c)) :
 IA (none,[2]) true (AS []) (.mp id) (AS k) hp=some (.tup [AS ((lA (asS m) k).getD []),AB (lA (asS m) k).isSome]):=by
 have e1:cC (none,[2]) (AS k)=some (.str k):=nH
 have e2:oB hp (.mp id)=some (id,m.map fun e=>(⟨.str e.1.1,AS e.1.2,e.2⟩:ME),c):=by simp only[oB,hh,tC]
 have e3:lA (asS m) k=(m.find? fun e=>decide (e.1.1=k)).map (fun e=>e.1.2):=by
  unfold lA asS;rw[List.find?_map];cases h:m.find? (fun e=>decide (e.1.1=k)) with
  | none=>rw[show(List.find? ((fun e=>decide (e.1=k)) ∘ fun x=>x.1) m)=m.find? (fun e=>decide (e.1.1=k)) from rfl,h];rfl
  | some x=>rw[show(List.find? ((fun e=>decide (e.1=k)) ∘ fun x=>x.1) m)=m.find? (fun e=>decide (e.1.1=k)) from rfl,h];rfl
 simp only[IA,e1,e2,Option.map_some,AQ];have e4:=IW k m
 rw[e3,←e4];cases hf:OD k m with
 | none=>rfl
 | some i=>
  simp only[Option.bind_some,List.getElem?_map];have hs:(m[i]?).isSome=true:=JW k m i hf
  obtain⟨y,hy⟩:=Option.isSome_iff_exists.1 hs;rw[hy];rfl
end Go.Am
end
section
/- Where a byte stands in a text. -/
open Go
set_option linter.all false
namespace Go.Am
variable {h:aA} {K:jA}
end Go.Am
end
section
/- Lists of strings sorted,left out: printed by program. -/
open Go
set_option linter.unusedSimpArgs false
namespace Go.Am
attribute [-go_sem] PV.cells splice
variable {h:aA} {K:jA}
end Go.Am
end
section
/- Sorting numbers: printed by program. -/
open Go
set_option linter.unusedSimpArgs false
namespace Go.Am
attribute [-go_sem] PV.cells splice
variable {h:aA} {K:jA}
end Go.Am
end
section
/- Bins,ED ways;lists joined;records sorted. -/
open Go
set_option linter.unusedSimpArgs false
namespace Go.Am
variable {h:aA} {K:jA}
end Go.Am
end
section
/- Lists of records joined,compared,EB. -/
open Go
set_option linter.unusedSimpArgs false
namespace Go.Am
variable {h:aA} {K:jA}
instance:DecidableEq Rec:=fun a b=>decidable_of_iff (jZ a b=true) (zkz a b)
end Go.Am
end
section
/- Records EB asv the reference does it. -/
open Go
set_option linter.unusedSimpArgs false
namespace Go.Am
variable {h:aA} {K:jA}
end Go.Am
end
section
/- Retests: which record of a unit counts. Plain lists;ED ways yield the same. -/
set_option linter.all false
namespace Go.Am
end Go.Am
end
section
/- Lists of strings. -/
open Go
set_option linter.all false
namespace Go.Am
variable {h:aA} {K:jA}
abbrev rB (us:List (List UInt8)):AV:=.p (.sl none (us.map PV.str))
theorem zlq {us:List (List UInt8)}:xD none (us.map PV.str):=fun x hx=>by obtain⟨n,_,rfl⟩:=List.mem_map.1 hx;rfl
def DS:PV→List UInt8
 | .str s=>s
 | _=>[]
end Go.Am
end
section
/- The abstract machine,part L4: strings.Repeat,strings.Trim,math/bits.TrailingZeros64 asv rows. -/
set_option linter.all false
namespace Go.Am
variable {P:Program} {gl:Nat→Option PV}
open Go.Shelf
theorem z8A {w w':World}(h:Go.RowKit.Below w.heap.size w w'):WExt w w':=⟨h.size,fun b hb=>h.block b hb,by unfold zed;rw[h.os,h.tape,h.output]⟩
theorem zfK (s cs:List UInt8):Go.Lib.trimS s cs=z5Z s cs:=rfl
theorem trimRow {ρ:Ren}(L:Go.Proofs.Lays.n160 P ρ)(h116:(P.info? (ρ.t 116)).map (fun i=>(i.zero,i.size))=some (some (.agg (Array.replicate 256 (.bool false))),256))(he:∀ us w,(callFunc (ρ.f 160) us).run P w = .ok (.enter (ρ.f 160) us) w):PureRow P gl (ρ.f 160) trimS where
 enter:=he
 run M w vs r us hc hb hG hl hr hs:=by
  unfold trimS at hs;split at hs
  ·rename_i s cs
   split at hs
   ·rename_i hbd
    match us,hl with
    | [u,v],_=>
     have q:=hr 0 _ u rfl rfl
     cases q;have q2:=hr 1 _ v rfl rfl
     cases q2;simp only[Option.some.injEq]at hs
     subst hs;have hsz:∀l:List UInt8,(⟨l.toArray⟩:ByteArray).size=l.length:=fun l=>by simp [ByteArray.size]
     refine(Go.Proofs.Any.strings_Trim_laid L h116 ⟨s.toArray⟩ ⟨cs.toArray⟩ w (by rw[hsz];omega) (by rw[hsz];omega) (Go.Proofs.ascii_of_all hbd.2.2)).mono fun e w' h=>?_
     obtain⟨rfl,h⟩:=h;exact⟨_,rfl,z8A h,by rw[←zfK];exact .p _ _ (.str _)⟩
   ·cases hs
  ·cases hs
end Go.Am
end
section
/- The abstract machine,part L5: strings.Count at one byte,strings.Join asv rows. -/
set_option linter.all false
namespace Go.Am
variable {P:Program} {gl:Nat→Option PV}
open Go.Shelf
end Go.Am
end
section
/- Texts split at a byte. -/
open Go
set_option linter.all false
namespace Go.Am
variable {h:aA} {K:jA}
end Go.Am
end
section
/- Lines of a text. -/
open Go
set_option linter.all false
namespace Go.Am
variable {h:aA} {K:jA}
end Go.Am
end
section
/- Numbers read. -/
open Go
set_option linter.all false
namespace Go.Am
variable {h:aA} {K:jA}
end Go.Am
end
section
/- Several numbers read. -/
open Go
set_option linter.all false
namespace Go.Am
variable {h:aA} {K:jA}
end Go.Am
end
section
/- Numbers read,the reference's way. -/
open Go
set_option linter.all false
namespace Go.Am
variable {h:aA} {K:jA}
end Go.Am
end
section
/- Tests and faults: what is wrong with them,ED ways. -/
open Go
set_option linter.all false
namespace Go.Am
variable {h:aA} {K:jA}
end Go.Am
end
section
/- Faults: what is wrong with them,ED ways. -/
open Go
set_option linter.all false
namespace Go.Am
variable {h:aA} {K:jA}
def Flt.pv (f:Flt):PV:=.agg [eI f.kind,.sl none (f.nets.map eI)]
end Go.Am
end
section
/- Where a string stands among strings;words. -/
open Go
set_option linter.all false
namespace Go.Am
variable {h:aA} {K:jA}
theorem XZ {v:AV}(l:List (List UInt8))(hv:Shows none v (l.map PV.str) h)(x:List UInt8)(hl:l.length≤1000000):bA X nI [v,AS x] h K=K (AI (if l.findIdx (fun y=>decide (y=x))<l.length then(l.findIdx (fun y=>decide (y=x)):Int) else -1)) h []:=by
 refine tA ?_;rw[z9C];have vl:=hv.len
 rw[List.length_map]at vl;simp only[yP,go_sem,vl];refine XA (fun k:Nat=>⟨[(0,v),(1,AS x),(7,AI l.length),(8,AI k)],h,[]⟩) (fun k=>k≤l.length∧∀y∈l.take k,decide (y=x)=false) (fun k=>l.length-k) 0 rfl (by simp) ?_
 rintro k ⟨hk,hn⟩
 rcases Nat.lt_or_ge k l.length with hlt|hge
 ·obtain⟨a,ha,hb⟩:=hv.get k (by simpa using hlt)
  rw[List.getElem_map]at hb;have w2:IntKind.i64.wrap ((k:Int)+1)=((k+1:Nat):Int):=BA _ (by omega) (by omega)
  by_cases hpk:x=l[k]
  ·have hf:l.findIdx (fun y=>decide (y=x))=k:=by
    rw[List.findIdx_eq hlt];refine⟨by simp [hpk],fun j hj=>?_⟩
    have:=hn l[j] (by rw[List.mem_take_iff_getElem];exact⟨j,by omega,rfl⟩)
    simpa using this
   simp only[go_sem,hlt,ha,hb,hpk.symm,w2];simp only[hf,hlt,if_true]
  ·simp only[go_sem,hlt,ha,hb,hpk,w2]
   refine⟨k+1,rfl,⟨by omega,fun y hy=>?_⟩,by omega⟩
   rw[List.take_succ_eq_append_getElem hlt,List.mem_append,List.mem_singleton]at hy;rcases hy with hy|hy
   ·exact hn y hy
   ·rw[hy];simp;exact fun e=>hpk e.symm
 ·have e1:k=l.length:=by omega
  subst e1;simp only[go_sem,Nat.lt_irrefl];rw[List.take_length]at hn;have:¬l.findIdx (fun y=>decide (y=x))<l.length:=by
   rw[Nat.not_lt,Nat.le_iff_lt_or_eq];right
   exact(List.findIdx_eq_length.2 (fun y hy=>by simp [hn y hy])).symm
  rw[if_neg this]
theorem SZ {v:AV}(l:List (List UInt8))(hv:∀ h':aA,h'=h→Shows none v (l.map PV.str) h')(x:List UInt8)(hl:l.length≤1000000):bA X iH [v,AS x] h K=K (AB (l.contains x)) h []:=by
 refine tA ?_;rw[z98];have e:=fun K=>XZ (h:=h) (K:=K) l (hv h rfl) x hl
 have hd:decide (0≤(if l.findIdx (fun y=>decide (y=x))<l.length then(l.findIdx (fun y=>decide (y=x)):Int) else -1))=l.contains x:=by
  rw[Bool.eq_iff_iff,decide_eq_true_eq,List.contains_iff_mem];constructor
  ·intro hq
   split at hq
   ·rename_i hlt
    have:=List.findIdx_getElem (w:=hlt);simp only[decide_eq_true_eq]at this;exact this ▸ List.getElem_mem hlt
   ·omega
  ·intro hm
   rw[if_pos (List.findIdx_lt_length_of_exists ⟨x,hm,by simp⟩)];omega
 simp only[vP,go_sem,e,hd]
theorem strS (ws:List (List UInt8)){h:aA}:Shows none (rB ws) (ws.map PV.str) h:=z5L zlq
end Go.Am
end
section
/- Numbers written,joined. -/
open Go
set_option linter.all false
namespace Go.Am
variable {h:aA} {K:jA}
end Go.Am
end
section
/- A builder of strings. -/
open Go
set_option linter.all false
namespace Go.Am
variable {h:aA} {K:jA}
theorem zkD {o:Obj}{id:Nat}(hh:h[id]?=some o):h.set id o=h:=by
 apply List.ext_getElem?
 intro j;by_cases e:id=j
 ·subst e;rw[List.getElem?_set_self (DG hh),hh]
 ·rw[List.getElem?_set_ne e]
end Go.Am
end
section
/- Numbers asv sets of bits;rows of a test asv numbers. -/
set_option linter.all false
namespace Go.Am
end Go.Am
end
section
/- Lists of faults: what is wrong with them,ED ways. -/
open Go
set_option linter.all false
namespace Go.Am
variable {h:aA} {K:jA}
end Go.Am
end
section
/- Rows of a test asv numbers. -/
open Go
set_option linter.all false
namespace Go.Am
variable {h:aA} {K:jA}
end Go.Am
end
section
/- Faults on rows: what the program makes of them. -/
open Go
set_option linter.all false
namespace Go.Am
variable {h:aA} {K:jA}
end Go.Am
end
section
/- Responses,asv the program computes them. -/
open Go
set_option linter.all false
namespace Go.Am
variable {h:aA} {K:jA}
end Go.Am
end
section
/- Faults written. -/
open Go
set_option linter.all false
namespace Go.Am
variable {h:aA} {K:jA}
end Go.Am
end
section
/- Sorting the middle of a row: printed by program. -/
open Go
set_option linter.unusedSimpArgs false
namespace Go.Am
attribute [-go_sem] PV.cells splice
variable {h:aA} {K:jA}
end Go.Am
end
section
/- What is drawn: orders,tests. -/
open Go
set_option linter.all false
namespace Go.Am
variable {L:List Int} {a:Int} {h l:aA} {id:Nat} {K:jA}
def GenK (f:Nat)(args:List AV)(L:List Int)(a:Int)(sh:Sh)(Q:List PV→Int→Prop):Prop:=∀(h:aA) (id:Nat),h[id]?=some (nA L a)→∃xs a2,Q xs a2∧∀K:jA,bA X f (.ref id 0::args) h K=K (.own h.length xs.length 0 xs.length) (h.set id (nA L a2)++[.row sh xs 0]) []
theorem GenK.of {f:Nat}{args:List AV}{L:List Int}{a:Int}{sh:Sh}{Q:List PV→Int→Prop}(H:∀ (h:aA) (id:Nat),id<h.length→bA X f (.ref id 0::args) (h.set id (nA L a)) fun v1 h1 x1=>∃ xs a2,Q xs a2∧v1 = .own h.length xs.length 0 xs.length∧h1=h.set id (nA L a2)++[.row sh xs 0]∧x1=[]):GenK f args L a sh Q:=by
 intro h id hh;have hid:=DG hh
 have k:=H h id hid
 rw[jL hh]at k;obtain⟨v,h',x,⟨xs,a2,q,e0,e1,e2⟩,r⟩:=bA.one z0p k;subst e0;subst e1;subst e2
 exact⟨xs,a2,q,r⟩
end Go.Am
end
section
/- A text changed at random. -/
open Go
set_option linter.all false
namespace Go.Am
variable {L:List Int} {a:Int} {h l:aA} {id:Nat} {K:jA}
end Go.Am
end
section
/- Entries written. -/
open Go
set_option linter.all false
set_option maxRecDepth 100000
namespace Go.Am
variable {h:aA} {K:jA}
theorem z1G:∀ {rs:List Ent} {p:Option Ent},MC p rs=0→∀ r∈rs,sB r=0
 | [],p,_,r,hr=>by cases hr
 | x::rs,p,hf,r,hr=>by
  have e:MC p (x::rs)=(if sB x≠0 then sB x else if(p.elim false fun q=>decide (AA x q≤0))=true then 7 else MC (some x) rs):=by cases p <;> rfl
  have hf':=hf
  rw[e]at hf';by_cases h1:sB x=0
  ·rw[if_neg (by simp [h1])]at hf'
   by_cases h2:(p.elim false fun q=>decide (AA x q≤0))=true
   ·rw[if_pos h2]at hf';exact absurd hf' (by decide)
   ·rw[if_neg h2]at hf'
    rcases List.mem_cons.1 hr with e|e
    ·rw[e];exact h1
    ·exact z1G hf' r e
  ·rw[if_pos h1]at hf';exact absurd hf' h1
theorem zd7 {rs:List Ent}(hf:nB rs=0):∀r∈rs,sB r=0:=by
 unfold nB at hf;split at hf
 ·cases hf
 split at hf
 ·rename_i h;exact absurd hf h
 ·rename_i h
  exact z1G (by simpa using h)
end Go.Am
end
section
/- A text taken line by line: base.Each,scanref2.Lines. -/
open Go
set_option linter.all false
namespace Go.Am
variable {h:aA} {K:jA}
end Go.Am
end
section
/- Faults read. -/
open Go
set_option linter.all false
namespace Go.Am
variable {h:aA} {K:jA}
end Go.Am
end
section
/- Lists of faults read. -/
open Go
set_option linter.all false
namespace Go.Am
variable {h:aA} {K:jA}
end Go.Am
end
section
/- fault.Read,scanref2.FaultsRead. -/
open Go
set_option linter.all false
namespace Go.Am
variable {h:aA} {K:jA}
end Go.Am
end
section
/- What is drawn: faults. -/
open Go
set_option linter.all false
namespace Go.Am
variable {L:List Int} {a:Int} {h l:aA} {id:Nat} {K:jA}
end Go.Am
end
section
/- Deleting faults: printed by program. -/
open Go
set_option linter.unusedSimpArgs false
namespace Go.Am
attribute [-go_sem] PV.cells splice
variable {h:aA} {K:jA}
attribute [-go_sem] AV.cells cut
attribute [go_sem] AV.cells cut
end Go.Am
end
section
/- What is drawn: lists of faults. -/
open Go
set_option linter.all false
namespace Go.Am
variable {L:List Int} {a:Int} {h l:aA} {id:Nat} {K:jA}
end Go.Am
end
section
/- Stable sorts of numbers: printed by program. -/
open Go
set_option linter.unusedSimpArgs false
namespace Go.Am
attribute [-go_sem] PV.cells splice
variable {h:aA} {K:jA}
end Go.Am
end
section
/- Faults compared;texts of faults drawn. -/
open Go
set_option linter.all false
namespace Go.Am
variable {L:List Int} {a:Int} {h:aA} {K:jA}
end Go.Am
end
section
/- Entries written,the reference;kinds read. -/
open Go
set_option linter.all false
set_option maxRecDepth 100000
namespace Go.Am
variable {h:aA} {K:jA}
end Go.Am
end
section
/- A line of an entry read: the program. -/
open Go
set_option linter.all false
set_option maxRecDepth 100000
namespace Go.Am
variable {h:aA} {K:jA}
end Go.Am
end
section
/- A line of an entry read: the reference. -/
open Go
set_option linter.all false
set_option maxRecDepth 100000
namespace Go.Am
variable {h:aA} {K:jA}
end Go.Am
end
section
/- Records asv texts,plainly: read ED ways. -/
set_option linter.all false
namespace Go.Am
end Go.Am
end
section
/- Records read: a line,ED ways. -/
open Go
set_option linter.all false
set_option maxRecDepth 100000
namespace Go.Am
variable {h:aA} {K:jA}
end Go.Am
end
section
/- Records read: the program's line. -/
open Go
set_option linter.all false
set_option maxRecDepth 100000
namespace Go.Am
variable {h:aA} {K:jA}
end Go.Am
end
section
/- Records read: all lines. -/
open Go
set_option linter.all false
set_option maxRecDepth 100000
namespace Go.Am
variable {h:aA} {K:jA}
end Go.Am
end
section
/- lot.Read,scanref2.RecordsRead. -/
open Go
set_option linter.all false
set_option maxRecDepth 100000
namespace Go.Am
variable {h:aA} {K:jA}
end Go.Am
end
section
/- scanref2.RecordsRead. -/
open Go
set_option linter.all false
set_option maxRecDepth 100000
namespace Go.Am
variable {h:aA} {K:jA}
end Go.Am
end
section
/- Entries read,ED ways. -/
open Go
set_option linter.all false
set_option maxRecDepth 100000
namespace Go.Am
variable {h:aA} {K:jA}
end Go.Am
end
section
/- Entries drawn: their pieces. -/
open Go
set_option linter.all false
set_option maxRecDepth 100000
namespace Go.Am
variable {L:List Int} {a:Int} {h l:aA} {id:Nat} {K:jA}
attribute [-go_sem] GA
def sE:List (List UInt8):=[[],[65],[98,49],[98,50],[98,51],[98,52]]
structure EntV (x:Ent):Prop where
 s:x.site.length≤1000
 b:x.board.length≤1000
 p:x.step.length≤1000
 o:x.of.length≤1000
 n : -100000000000000000≤x.no∧x.no≤100000000000000000
 t : -100000000000000000≤x.time∧x.time≤100000000000000000
 z:x.site≠[122,122]∧(x.time≤1000∨345686399999<x.time)
 w:x.board∈sE
theorem zer (hp:UA 14 a)(u v:Int)(huv:u≤v)(hu : -1000000000000≤u)(hv:v≤1000000000000):∃k a2:Int,a≤a2∧a2≤a+2 ∧ -1099511627776≤k∧k≤1099511627776∧(k≤v+1∨k=1099511627776) ∧
 Gen vE [AI u,AI v] L a a2 (AI k):=by
 have w1:IntKind.i64.wrap (u-1)=u-1:=BA _ (by omega) (by omega)
 have w2:IntKind.i64.wrap (v+1)=v+1:=BA _ (by omega) (by omega)
 by_cases hf:JB L a 12=0
 ·have hm:=QY (L:=L) (a:=a+1) (l:=[u-1,v+1,u,v,-1099511627776,1099511627776]) (by simp) (by simp)
  simp only[List.mem_cons,List.not_mem_nil,or_false]at hm;refine⟨TD [u-1,v+1,u,v,-1099511627776,1099511627776] L (a+1),a+1+1,by omega,by omega,by omega,by omega,by omega,Gen.of fun h id hid=>?_⟩
  rw[sO rfl];simp only[ZH,go_sem,hid,JG hp,hf,w1,w2]
 ·have hm:=sN L (a+1) huv (by omega)
  refine⟨YC u v L (a+1),a+1+1,by omega,by omega,by omega,by omega,by omega,Gen.of fun h id hid=>?_⟩
  rw[sO rfl];simp only[ZH,go_sem,hid,JG hp,hf,w1,w2,huv,show -1152921504606846976≤u by omega,show v≤1152921504606846976 by omega]
theorem EntV.ok {x:Ent}(v:EntV x):EntOk x:=⟨by have:=v.s;omega,by have:=v.b;omega,by have:=v.p;omega,by have:=v.o;omega⟩
theorem zjT (a b:Ent)(ha:EntV a)(hb:EntV b):bA X uG [.p a.pv,.p b.pv] h K=K (AI (AA a b)) h []:=by
 refine tA ?_;rw[z0P rfl];have a1:=ha.t
 have a2:=hb.t
 have a3:=ha.n
 have a4:=hb.n
 have w:IntKind.i64.wrap (a.time-b.time)=a.time-b.time:=BA _ (by omega) (by omega)
 have w2:IntKind.i64.wrap (a.no-b.no)=a.no-b.no:=BA _ (by omega) (by omega)
 unfold AA;by_cases he:a.time=b.time
 ·have:gB a.time b.time=0:=by rw[he];unfold gB;simp
  rw[if_neg (by simp [this])]
  by_cases hs:a.site=b.site
  ·have hc:DA a.site b.site=0:=by rw[hs];exact KO _
   rw[if_neg (by simp [hc]),JO]
   simp only[nG,Ent.pv,go_sem,he,hs,w2,qS]
  ·have hc:DA a.site b.site≠0:=fun e=>hs (HF e)
   rw[if_pos hc];simp only[nG,Ent.pv,go_sem,he,hs,rS]
 ·have hc:gB a.time b.time≠0:=by unfold gB;split <;> (try split) <;> omega
  rw[if_pos hc];rw[JO];simp only[nG,Ent.pv,go_sem,he,w,qS]
theorem zjV (l m:List Ent)(hl:l.length≤1000000000):bA X pM [QA l,QA m] h K=K (AB (decide (l=m))) h []:=by
 refine tA ?_;rw[z99 rfl];by_cases he:l.length=m.length
 ·have he':(l.length:Int)=(m.length:Int):=by omega
  simp only[ML,go_sem,he'];refine XA (fun k:Nat=>⟨[(0,QA l),(1,QA m),(12,AI m.length),(13,AI k)],h,[]⟩) (fun k=>k≤l.length∧l.take k=m.take k) (fun k=>l.length-k) 0 rfl (by simp) ?_
  rintro k ⟨hk,hp⟩
  rcases Nat.lt_or_ge k l.length with hlt|hge
  ·have hlt2:k<m.length:=by omega
   have hlt3:(k:Int)<(m.length:Int):=by omega
   have g1:=dC Ent.pv hlt
   have g2:=dC Ent.pv hlt2
   have c1:=LF (x:=l[k])
   have c2:=LF (x:=m[k])
   have w2:IntKind.i64.wrap ((k:Int)+1)=((k+1:Nat):Int):=BA _ (by omega) (by omega)
   have hq:=rW l[k] m[k]
   by_cases h1:l[k]=m[k]
   ·rw[decide_eq_true h1]at hq
    simp only[go_sem,hlt,hlt2,hlt3,g1,g2,c1,c2,↓hq,hq,w2];refine⟨k+1,rfl,⟨by omega,?_⟩,by omega⟩
    rw[List.take_succ_eq_append_getElem hlt,List.take_succ_eq_append_getElem hlt2,hp,h1]
   ·rw[decide_eq_false h1]at hq
    have hne:¬l=m:=fun e=>h1 (by subst e;rfl)
    simp only[go_sem,hlt,hlt2,hlt3,g1,g2,c1,c2,↓hq,hq,hne]
  ·obtain rfl:k=l.length:=by omega
   rw[List.take_length,he,List.take_length]at hp;subst hp;simp only[go_sem,Nat.lt_irrefl,Int.lt_irrefl,decide_true]
 ·have he':¬(l.length:Int)=(m.length:Int):=by omega
  have hne:¬l=m:=fun e=>he (by rw[e])
  simp only[ML,go_sem,he',hne]
theorem AH {l:List (List UInt8)}(hl:0<l.length)(hl2:l.length<100)(m:Nat)(h:∀ s∈l,s.length≤m):(LB l L a).length≤m:=h _ (qN hl (by omega))
set_option maxHeartbeats 4000000 in
theorem pW (hid:id<h.length)(hp:UA 60 a)(es:List Ent)(hes:es.length≤1000)(x:Ent)(hx:EntV x)(M:Obj)(v6 v11 v12:AV)(K:Ex→St→Prop)
 (hK:∀(x':Ent) (a':Int) (J:aA),EntV x'→a≤a'→a'≤a+10 →
  K .normal ⟨[(0,.ref id 0),(5,.own h.length (es.length+1) 0 (es.length+1)),(6,v6),(7,.mp (h.length+1)),(11,v11),(12,v12)],h.set id (nA L a') ++ .row (some 8) (es.map Ent.pv++[x'.pv]) 0::M::J,[]⟩) :
 JF (bA X) X.gl RQ (.ref id 0) (.own h.length es.length 0 es.length) v6 (.mp (h.length+1)) (.ref (h.length+2) 0) v11 v12
  (h.set id (nA L a)++[.row (some 8) (es.map Ent.pv) 0,M,x.box]) [] K:=by
 have P:=JG (NC hp (Int.le_refl a) (by omega))
 have hmx:es.length+1≤YA:=by unfold YA;omega
 have e1:h.length+1<h.length+3+1:=by omega
 obtain⟨site,no,time,kind,board,step,of,other⟩:=x;obtain⟨xs,xb,xp,xo,xn,xt,xz,xw⟩:=hx;dsimp only at xs xb xp xo xn xt xz xw;unfold Ent.box;dsimp only;by_cases hf:JB L a 100=0
 ·by_cases h0:JB L (a+1) 3=0
  ·obtain⟨kv,a3,c1,c2,c3,c4,O⟩:=QW (L:=L) (a:=a+1+1+1) (NC hp (by omega) (by omega)) 1 9 (by omega) (by omega) (by omega)
   have O':=fun l K=>O.app (h:=h) (id:=id) (l:=l) (K:=K) hid
   obtain⟨kv2,a4,d1,d2,d3,d4,d5,O2⟩:=zer (L:=L) (a:=a3) (NC hp (by omega) (by omega)) 0 100 (by omega) (by omega) (by omega)
   have O2':=fun l K=>O2.app (h:=h) (id:=id) (l:=l) (K:=K) hid
   have p1:(LB [[],site] L (a+1+1)).length≤1000:=AH (by simp) (by simp) 1000 (fun s hs=>by simp only[List.mem_cons,List.not_mem_nil,or_false]at hs;rcases hs with e|e <;> rw[e] <;> first|omega|simp)
   have p9:LB [[],site] L (a+1+1)≠[122,122]:=fun e=>by
    have:=qN (l:=[[],site]) (L:=L) (a:=a+1+1) (by simp) (by simp)
    simp only[List.mem_cons,List.not_mem_nil,or_false]at this;rw[e]at this;rcases this with h|h
    ·cases h
    ·exact xz.1 h.symm
   simp only[JF,go_sem,hid,P,hf,h0,↓O',O',↓O2',O2',hmx];exact hK ⟨LB [[],site] L (a+1+1),kv,kv2,kind,board,step,of,other⟩ a4 _ ⟨p1,xb,xp,xo,by dsimp only;omega,by dsimp only;omega,⟨p9,by dsimp only;omega⟩,xw⟩ (by omega) (by omega)
  ·by_cases h1:JB L (a+1) 3=1
   ·obtain⟨kv,a3,c1,c2,c3,c4,O⟩:=QW (L:=L) (a:=a+1+1) (NC hp (by omega) (by omega)) 1 7 (by omega) (by omega) (by omega)
    have O':=fun l K=>O.app (h:=h) (id:=id) (l:=l) (K:=K) hid
    have P2:=JG (NC hp (show a≤a3 by omega) (show a3+14≤a+60 by omega))
    have p1:(LB [[],[65],board] L a3).length≤1000:=AH (by simp) (by simp) 1000 (fun s hs=>by simp only[List.mem_cons,List.not_mem_nil,or_false]at hs;rcases hs with e|e|e <;> rw[e] <;> first|omega|simp)
    have p2:(LB [[],[115,99,97,110]] L (a3+1)).length≤1000:=AH (by simp) (by simp) 1000 (fun s hs=>by simp only[List.mem_cons,List.not_mem_nil,or_false]at hs;rcases hs with e|e <;> rw[e] <;> simp)
    have pw:LB [[],[65],board] L a3∈sE:=by
     have:=qN (l:=[[],[65],board]) (L:=L) (a:=a3) (by simp) (by simp)
     simp only[List.mem_cons,List.not_mem_nil,or_false]at this;rcases this with h|h|h
     ·rw[h];simp [sE]
     ·rw[h];simp [sE]
     ·rw[h];exact xw
    simp only[JF,go_sem,hid,P,P2,hf,h0,h1,↓O',O',hmx];exact hK ⟨site,no,time,kv,LB [[],[65],board] L a3,LB [[],[115,99,97,110]] L (a3+1),of,other⟩ (a3+1+1) _ ⟨xs,p1,p2,xo,xn,xt,xz,pw⟩ (by omega) (by omega)
   ·obtain⟨kv,a3,c1,c2,c3,c4,O⟩:=QW (L:=L) (a:=a+1+1+1) (NC hp (by omega) (by omega)) 0 5 (by omega) (by omega) (by omega)
    have O':=fun l K=>O.app (h:=h) (id:=id) (l:=l) (K:=K) hid
    have p1:(LB [[],[115,97]] L (a+1+1)).length≤1000:=AH (by simp) (by simp) 1000 (fun s hs=>by simp only[List.mem_cons,List.not_mem_nil,or_false]at hs;rcases hs with e|e <;> rw[e] <;> simp)
    simp only[JF,go_sem,hid,P,hf,h0,h1,↓O',O',hmx];exact hK ⟨site,no,time,kind,board,step,LB [[],[115,97]] L (a+1+1),kv⟩ a3 _ ⟨xs,xb,xp,p1,xn,xt,xz,xw⟩ (by omega) (by omega)
 ·simp only[JF,go_sem,hid,P,hf,hmx]
  exact hK ⟨site,no,time,kind,board,step,of,other⟩ (a+1) _ ⟨xs,xb,xp,xo,xn,xt,xz,xw⟩ (by omega) (by omega)
end Go.Am
end
section
/- Entries drawn. -/
open Go
set_option linter.all false
set_option maxRecDepth 100000
namespace Go.Am
variable {L:List Int} {a:Int} {h l:aA} {id:Nat} {K:jA}
attribute [-go_sem] GA IA OA JF uJ
def mC (n:Int):AV:=.p (.int .i64 n)
def MB (m:Int)(l:List (List UInt8 × Int)):Prop:=∀s v,RA s l=some v→0≤v∧v≤m
theorem MB.upd {m:Int}{l:List (List UInt8 × Int)}(H:MB m l)(s:List UInt8){c:Int}(h0:0≤c)(h1:c≤m+1):MB (m+1) (gC s c l):=fun s' v hv=>by
 rw[oQ]at hv;split at hv
 ·cases hv;exact⟨h0,h1⟩
 ·have:=H s' v hv;omega
abbrev EH (h:aA)(id:Nat)(L:List Int)(a:Int)(es:List Ent)(M:List (List UInt8 × Int))(x:Ent):aA:=h.set id (nA L a)++[.row (some 8) (es.map Ent.pv) 0,vA PV.str mC M,x.box]
set_option maxHeartbeats 4000000 in
theorem z1F (hid:id<h.length)(hp:UA 80 a)(es:List Ent)(hes:es.length≤1000)(x:Ent)(hx:EntV x)(M:List (List UInt8 × Int))(v6 v11 v12:AV)(K:Ex→St→Prop)
 (hK:∀(x':Ent) (a':Int) (J:aA),EntV x'→a≤a'→a'≤a+12 →
  K .normal ⟨[(0,.ref id 0),(5,.own h.length (es.length+1) 0 (es.length+1)),(6,v6),(7,.mp (h.length+1)),(11,v11),(12,v12)],h.set id (nA L a') ++ .row (some 8) (es.map Ent.pv++[x'.pv]) 0::vA PV.str mC M::J,[]⟩) :
 NW (bA X) X.gl iN ⟨[(0,.ref id 0),(5,.own h.length es.length 0 es.length),(6,v6),(7,.mp (h.length+1)),(9,.ref (h.length+2) 0),(11,v11),(12,v12)],EH h id L a es M x,[]⟩ (EC 2 (oD (bA X) X.gl jN K)):=by
 have P:=JG (NC hp (Int.le_refl a) (by omega))
 obtain⟨site,no,time,kind,board,step,of,other⟩:=x;obtain⟨xs,xb,xp,xo,xn,xt,xz,xw⟩:=hx;dsimp only at xs xb xp xo xn xt xz xw;unfold EH Ent.box;dsimp only;by_cases k2:kind=2
 ·have p1:(LB [[115,99,97,110],[115,99,97,110],[102,108,97,115,104],[98,117,114,110]] L a).length≤1000:=AH (by simp) (by simp) 1000 (fun s hs=>by simp only[List.mem_cons,List.not_mem_nil,or_false]at hs;rcases hs with e|e|e|e <;> rw[e] <;> simp)
  simp only[go_sem,hid,P,eq_true k2];rw[uJ];refine pW hid (NC hp (by omega) (by omega)) es hes ⟨site,no,time,kind,board,LB [[115,99,97,110],[115,99,97,110],[102,108,97,115,104],[98,117,114,110]] L a,of,other⟩ ⟨xs,xb,p1,xo,xn,xt,xz,xw⟩ (vA PV.str mC M) v6 v11 v12 K (fun x' a' J h1 h2 h3=>hK x' a' J h1 (by omega) (by omega))
 ·simp only[go_sem,hid,P,k2]
  rw[uJ];refine pW hid (NC hp (by omega) (by omega)) es hes ⟨site,no,time,kind,board,step,of,other⟩ ⟨xs,xb,xp,xo,xn,xt,xz,xw⟩ (vA PV.str mC M) v6 v11 v12 K (fun x' a' J h1 h2 h3=>hK x' a' J h1 (by omega) (by omega))
attribute [-go_sem] jW
set_option maxHeartbeats 4000000 in
theorem zd4 (hid:id<h.length)(hp:UA 120 a)(es:List Ent)(hes:es.length≤1000)(x:Ent)(hx:EntV x)(M:List (List UInt8 × Int))(m:Int)(hm:0≤m∧m≤1000)(hM:MB m M)(k:Nat)(v6 v11 v12:AV)(K:Ex→St→Prop)
 (hK:∀(x':Ent) (a':Int) (M':List (List UInt8×Int)) (J:aA),EntV x'→a≤a'→a'≤a+15→MB (m+1) M' →
  K .normal ⟨[(0,.ref id 0),(5,.own h.length (es.length+1) 0 (es.length+1)),(6,v6),(7,.mp (h.length+1)),(11,v11),(12,v12)],h.set id (nA L a') ++ .row (some 8) (es.map Ent.pv++[x'.pv]) 0::vA PV.str mC M'::J,[]⟩) :
 YH (bA X) X.gl iN jN (.ref id 0) (.own h.length es.length 0 es.length) v6 (.mp (h.length+1)) (AI k) (.ref (h.length+2) 0) v11 v12 (EH h id L a es M x) [] K:=by
 have P:=JG (NC hp (Int.le_refl a) (by omega))
 obtain⟨site,no,time,kind,board,step,of,other⟩:=x;obtain⟨xs,xb,xp,xo,xn,xt,xz,xw⟩:=hx;dsimp only at xs xb xp xo xn xt xz xw;obtain⟨c,hc,c0,c1⟩:∃c,(RA site M).getD 0=c∧0≤c∧c≤m:=by
  cases hg:RA site M with
  | none=>exact⟨0,rfl,by omega,hm.1⟩
  | some v=>exact⟨v,rfl,hM site v hg⟩
 have wc:IntKind.i64.wrap (c+1)=c+1:=BA _ (by omega) (by omega)
 have hM':=hM.upd site (c:=c+1) (by omega) (by omega)
 have gu:RA site (gC site (c+1) M)=some (c+1):=by rw[oQ,if_pos rfl]
 have lk:=fun(hp:aA) (M:List (List UInt8×Int)) (e:hp[h.length+1]?=some (vA PV.str mC M))=>oH (kk:=(none,[2])) (k:=site) OM e nH (ok:=false) (z:=mC 0)
 have up:=fun(hp:aA) (e:hp[h.length+1]?=some (vA PV.str mC M))=>ZJ (kk:=(none,[2])) (k:=site) OM e nH (v:=c+1) rfl
 have gt:∀(R:Obj) (M:List (List UInt8×Int)) (t:aA),(h.set id (nA L a)++R::vA PV.str mC M::t)[h.length+1]?=some (vA PV.str mC M):=fun R M t=>by
  rw[List.getElem?_append_right (by simp)];simp
 have l1:=fun R t=>lk (h.set id (nA L a)++R::vA PV.str mC M::t) M (gt R M t)
 have l2:=fun R t=>lk (h.set id (nA L a)++R::vA PV.str mC (gC site (c+1) M)::t) _ (gt R _ t)
 have u1:=fun R t=>up (h.set id (nA L a)++R::vA PV.str mC M::t) (gt R M t)
 have eo:(Option.map mC (RA site M)).getD (mC 0)=AI c:=by
  rw[←hc];cases RA site M <;> rfl
 have es0:∀(R:Obj) (t:aA) (o:Obj),(h.set id (nA L a)++R::vA PV.str mC M::t).set (h.length+1) o=h.set id (nA L a)++R::o::t:=fun R t o=>by
  rw[List.set_append_right _ _ (by simp)];simp
 simp only[cond_false,eo]at l1;simp only[cond_false,gu,Option.map_some,Option.getD_some,mC,YB,AV.top,Nat.not_lt_zero,if_false,es0]at l1 l2 u1;unfold EH Ent.box;dsimp only;by_cases k7:kind=7
 ·have p1:(LB [[115,97],[115,98]] L a).length≤1000:=AH (by simp) (by simp) 1000 (fun s hs=>by simp only[List.mem_cons,List.not_mem_nil,or_false]at hs;rcases hs with e|e <;> rw[e] <;> simp)
  simp only[YH,go_sem,hid,P,eq_true k7,l1,l2,u1,wc];rw[uJ];refine pW hid (NC hp (by omega) (by omega)) es hes ⟨site,c+1,time,kind,board,step,LB [[115,97],[115,98]] L a,YC 1 8 L (a+1)⟩ ⟨xs,xb,xp,p1,by dsimp only;omega,xt,xz,xw⟩ (vA PV.str mC (gC site (c+1) M)) v6 v11 v12 K (fun x' a' J h1 h2 h3=>hK x' a' _ J h1 (by omega) (by omega) hM')
 ·obtain⟨bb,gb,lb,wb⟩:∃bb:List UInt8,([.str [98,49],.str [98,50],.str [98,51]]:List PV)[k%3]?=some (.str bb)∧bb.length≤1000∧bb∈sE:=by
   have h3:k%3<3:=Nat.mod_lt _ (by omega)
   generalize k%3=j at h3;match j,h3 with
   | 0,_=>exact⟨_,rfl,by simp,by simp [sE]⟩
   | 1,_=>exact⟨_,rfl,by simp,by simp [sE]⟩
   | 2,_=>exact⟨_,rfl,by simp,by simp [sE]⟩
  have tm:(k:Int).tmod 3=((k%3:Nat):Int):=by
   rw[Int.tmod_eq_emod_of_nonneg (by omega)];omega
  have hk3:k%3<3:=Nat.mod_lt _ (by omega)
  have cw:∀v:List UInt8,ZA none 0 (PV.str v)=some (PV.str v):=fun _=>rfl
  by_cases k3:(3:Int)≤(k:Int)
  ·have p1:(LB [[98,49],[98,49],[98,50],[98,51],[98,52]] L a).length≤1000:=AH (by simp) (by simp) 1000 (fun s hs=>by simp only[List.mem_cons,List.not_mem_nil,or_false]at hs;rcases hs with e|e|e|e|e <;> rw[e] <;> simp)
   have pw:LB [[98,49],[98,49],[98,50],[98,51],[98,52]] L a∈sE:=by
    have:=qN (l:=[[98,49],[98,49],[98,50],[98,51],[98,52]]) (L:=L) (a:=a) (by simp) (by simp)
    simp only[List.mem_cons,List.not_mem_nil,or_false]at this;rcases this with e|e|e|e|e <;> rw[e] <;> simp [sE]
   simp only[YH,go_sem,hid,P,k7,l1,l2,u1,wc,tm,gb,hk3,cw,k3];exact z1F hid (NC hp (by omega) (by omega)) es hes ⟨site,c+1,time,kind,LB [[98,49],[98,49],[98,50],[98,51],[98,52]] L a,step,of,other⟩ ⟨xs,p1,xp,xo,by dsimp only;omega,xt,xz,pw⟩ (gC site (c+1) M) v6 v11 v12 K (fun x' a' J h1 h2 h3=>hK x' a' _ J h1 (by omega) (by omega) hM')
  ·simp only[YH,go_sem,hid,P,k7,l1,l2,u1,wc,tm,gb,hk3,cw,k3]
   exact z1F hid (NC hp (by omega) (by omega)) es hes ⟨site,c+1,time,kind,bb,step,of,other⟩ ⟨xs,lb,xp,xo,by dsimp only;omega,xt,xz,wb⟩ (gC site (c+1) M) v6 v11 v12 K (fun x' a' J h1 h2 h3=>hK x' a' _ J h1 (by omega) (by omega) hM')
end Go.Am
end
section
/- Entries drawn: all,right ones,texts. -/
open Go
set_option linter.all false
set_option maxRecDepth 100000
namespace Go.Am
variable {L:List Int} {a:Int} {h l:aA} {id:Nat} {K:jA}
attribute [-go_sem] GA IA OA JF uJ jW kW
theorem z1J {P:Ent→Prop}:∀{xs:List PV},(∀x∈xs,∃r,P r∧x=Ent.pv r)→∃rs:List Ent,(∀r∈rs,P r)∧xs=rs.map Ent.pv
 | [],_=>⟨[],by simp,rfl⟩
 | x::xs,h=>by
  obtain⟨r,h1,h2⟩:=h x (by simp)
  obtain⟨rs,h3,h4⟩:=z1J (xs:=xs) (fun y hy=>h y (List.mem_cons_of_mem _ hy))
  refine⟨r::rs,fun z hz=>?_,by rw[h2,h4];rfl⟩
  rcases List.mem_cons.1 hz with rfl|hz
  ·exact h1
  ·exact h3 z hz
set_option maxHeartbeats 4000000 in
theorem zeq (hp:UA 4000 a)(n:Nat)(hn:n≤20) :
 aE iM [AI n] L a (fun v a2=>a≤a2∧a2≤a+1000∧∃rs:List Ent,rs.length≤n∧(∀r∈rs,EntV r)∧v=QA rs):=by
 refine aE.of fun h id hid=>?_
 rw[z9n rfl];simp only[eP,go_sem,hid];refine XA (fun t:List Ent×Int×Int×List (List UInt8×Int)=>⟨[(0,.ref id 0),(5,.own h.length t.1.length 0 t.1.length),(6,AI t.2.1),(7,.mp (h.length+1)),(11,AI n),(12,AI t.1.length)],h.set id (nA L t.2.2.1)++[.row (some 8) (t.1.map Ent.pv) 0,vA PV.str mC t.2.2.2],[]⟩)
  (fun t=>t.1.length≤n∧(∀r∈t.1,EntV r)∧(a≤t.2.2.1∧t.2.2.1≤a+40*t.1.length)∧(0≤t.2.1∧t.2.1≤10*t.1.length)∧MB t.1.length t.2.2.2) (fun t=>n-t.1.length) ([],0,a,[]) rfl ⟨by simp,by simp,by simp,by simp,fun s v h=>by simp [RA]at h⟩ ?_
 rintro⟨es,t,b,M⟩ ⟨q1,q2,⟨q3,q4⟩,⟨q5,q6⟩,q7⟩
 dsimp only at q1 q2 q3 q4 q5 q6 q7;rcases Nat.lt_or_ge es.length n with hlt|hge
 ·have P:=JG (NC hp q3 (show b+14≤a+4000 by omega))
  have w1:IntKind.i64.wrap ((es.length:Int)+1)=((es.length+1:Nat):Int):=BA _ (by omega) (by omega)
  have m1:=QY (L:=L) (a:=b) (l:=[0,1,1,3,10]) (by simp) (by simp)
  have b1:0≤TD [0,1,1,3,10] L b∧TD [0,1,1,3,10] L b≤10:=by
   simp only[List.mem_cons,List.not_mem_nil,or_false]at m1;omega
  have w2:IntKind.i64.wrap (t+TD [0,1,1,3,10] L b)=t+TD [0,1,1,3,10] L b:=BA _ (by omega) (by omega)
  have ps:(LB [[115,97],[115,97],[115,98]] L (b+1)).length≤1000:=AH (by simp) (by simp) 1000 (fun s hs=>by simp only[List.mem_cons,List.not_mem_nil,or_false]at hs;rcases hs with e|e|e <;> rw[e] <;> simp)
  have pz:LB [[115,97],[115,97],[115,98]] L (b+1)≠[122,122]:=fun e=>by
   have:=qN (l:=[[115,97],[115,97],[115,98]]) (L:=L) (a:=b+1) (by simp) (by simp)
   rw[e]at this;revert this;decide
  obtain⟨t',ht'⟩:∃t',t+TD [0,1,1,3,10] L b=t':=⟨_,rfl⟩;have ht2:0≤t'∧t'≤10*(es.length+1):=by omega
  rw[ht']at w2;have fin:∀(kd:Int),NW (bA X) X.gl SQ ⟨[(0,.ref id 0),(5,.own h.length es.length 0 es.length),(6,AI t'),(7,.mp (h.length+1)),(8,AI es.length),(9,.ref (h.length+2) 0),(11,AI n),(12,AI es.length)],EH h id L (b+1+1+1) es M ⟨LB [[115,97],[115,97],[115,98]] L (b+1),0,t',kd,[],[],[],0⟩,[]⟩
   (EC 1 (oD (bA X) X.gl TQ (kZ (h.length+2) [] (RM
    (fun t:List Ent×Int×Int×List (List UInt8×Int)=>⟨[(0,.ref id 0),(5,.own h.length t.1.length 0 t.1.length),(6,AI t.2.1),(7,.mp (h.length+1)),(11,AI n),(12,AI t.1.length)],h.set id (nA L t.2.2.1)++[.row (some 8) (t.1.map Ent.pv) 0,vA PV.str mC t.2.2.2],[]⟩)
    (fun t=>t.1.length≤n∧(∀r∈t.1,EntV r)∧(a≤t.2.2.1∧t.2.2.1≤a+40*t.1.length)∧(0≤t.2.1∧t.2.1≤10*t.1.length)∧MB t.1.length t.2.2.2) (fun t=>n-t.1.length)
    (EC 0 (oD (bA X) X.gl kN (qA [.t 4] false h.length (fun v1 h1 x1=>∃a2,(a≤a2∧a2≤a+1000∧∃rs:List Ent,rs.length≤n∧(∀r∈rs,EntV r)∧v1=QA rs)∧h1=h.set id (nA L a2)∧x1=[])))) (es,t,b,M))))):=by
   intro kd;rw[kW];refine zd4 hid (NC hp (by omega) (by omega)) es (by omega) ⟨LB [[115,97],[115,97],[115,98]] L (b+1),0,t',kd,[],[],[],0⟩ ⟨ps,by simp,by simp,by simp,by dsimp only;omega,by dsimp only;omega,⟨pz,by dsimp only;omega⟩,by simp [sE]⟩ M es.length ⟨by omega,by omega⟩ q7 es.length (AI t') (AI n) (AI es.length) _ (fun x' a' M' J r1 r2 r3 r4=>?_)
   have f1:id+1≤h.length+2:=by omega
   have f2:h.length+1≤h.length+2:=by omega
   have f3:h.length+1+1≤h.length+2:=by omega
   simp only[go_sem,w1,f1,f2,f3];refine⟨(es++[x'],t',a',M'),?_,⟨by simp;omega,fun r hr=>?_,⟨by dsimp only;omega,by simp;omega⟩,⟨by dsimp only;omega,by simp;omega⟩,by simpa using r4⟩,by simp;omega⟩
   ·simp only[List.length_append,List.length_cons,List.length_nil,List.map_append,List.map_cons,List.map_nil]
   ·rcases List.mem_append.1 hr with hr|hr
    ·exact q2 r hr
    ·rw[List.mem_singleton]at hr;rw[hr];exact r1
  unfold EH Ent.box at fin;dsimp only at fin;by_cases k3:(es.length:Int)<3
  ·have:=fin 1
   simp only[go_sem,hid,P,hlt,w2,ht',k3,splice];exact this
  ·have:=fin (TD [2,2,2,3,3,4,4,5,5,6,7,1] L (b+1+1))
   simp only[go_sem,hid,P,hlt,w2,ht',k3,splice];exact this
 ·have en:es.length=n:=by omega
  have hb2:¬(es.length<n):=by omega
  have hh:(h.set id (nA L b)++[Obj.row (some 8) (es.map Ent.pv) 0,vA PV.str mC M])[h.length]?=some (.row (some 8) (es.map Ent.pv) 0):=by rw[List.getElem?_append_right (by simp)];simp
  have st:=fun K=>z5O (h:=h.set id (nA L b)++[Obj.row (some 8) (es.map Ent.pv) 0,vA PV.str mC M]) (K:=K) h.length (es.map Ent.pv) vJ (by simp;omega) hh (g:=uG) (caps:=[]) (c:=fun x y=>AA (cD x) (cD y))
   (fun o x hx y hy K=>by
    obtain⟨p,hp,rfl⟩:=List.mem_map.1 hx;obtain⟨q,hq,rfl⟩:=List.mem_map.1 hy;dsimp only;rw[uZ,uZ];exact zjT p q (q2 p hp) (q2 q hq))
  have hsm:∀x∈eB (ltC fun x y=>AA (cD x) (cD y)) (es.map Ent.pv),∃r,EntV r∧x=Ent.pv r:=fun x hx=>by
   obtain⟨r,hr,rfl⟩:=List.mem_map.1 (xI.1 hx);exact⟨r,q2 r hr,rfl⟩
  obtain⟨ss,s1,s2⟩:=z1J hsm;have hsl:ss.length=es.length:=by have:=congrArg List.length s2;simp [sQ]at this;omega
  simp only[List.length_map,s2]at st;have e0:∀o,(h.set id (nA L b)++[Obj.row (some 8) (es.map Ent.pv) 0,vA PV.str mC M]).set h.length o=h.set id (nA L b)++[o,vA PV.str mC M]:=fun o=>by rw[List.set_append_right _ _ (by simp)];simp
  simp only[e0]at st;have hw:win (ss.map Ent.pv) 0 es.length=ss.map Ent.pv:=AZ (by simp [hsl])
  have hcr:es.length≤es.length:=Nat.le_refl _
  have hll:(ss.map Ent.pv).length=es.length:=by simp [hsl]
  simp only[go_sem,hb2,↓st,st,hll,hw,hsl];exact⟨b,⟨q3,by omega,ss,by omega,s1,rfl⟩,rfl⟩
end Go.Am
end
section
/- The floor: its state;a board leaves its site. -/
open Go
set_option linter.all false
set_option maxRecDepth 100000
namespace Go.Am
variable {h:aA} {K:jA}
attribute [-go_sem] GA IA OA splice
attribute [local go_sem] TC yD qD zD BE CE DE EE pE FE GE HE IE JE KE LE
structure Flo where
 bs:aB
 sm:sD
 ck:Nat
 ends:List EndP
 runs:List RunP
 ref:List Int
 why:List Int
def Flo.P (S:Flo):FlP:=⟨asA S.bs,asS S.sm,S.ends,S.runs⟩
def EndP.pv (e:EndP):PV:=.agg [.str e.board,.str e.step,eI e.frm,eI e.til,.bool e.pass]
def RunP.pv (r:RunP):PV:=.agg [.str r.site,eI r.frm,eI r.til]
def wbx (h:aA)(steps:List Nm)(tries:Int)(a b c d:Nat):Obj:=.box [rB steps,AI tries,.mp (h.length+1),.mp (h.length+2),.own (h.length+3) a 0 a,.own (h.length+4) b 0 b,.own (h.length+5) c 0 c,.own (h.length+6) d 0 d]
def FS (h:aA)(fb:Obj)(steps:List Nm)(tries:Int)(S:Flo)(l:aA):aA:=
 FH h fb (vA PV.str eC (lB (h.length+8) S.bs)) (tC S.sm S.ck) (.row (some 5) (S.ends.map EndP.pv) 0) (.row (some 3) (S.runs.map RunP.pv) 0) (.row none (S.ref.map eI) 0) (.row none (S.why.map eI) 0)
  (wbx h steps tries S.ends.length S.runs.length S.ref.length S.why.length) (zA S.bs) l
def nF (site:Nm)(at_:Int)(r:RunP):RunP:=if r.site=site∧r.til<0 then { r with til:=at_ } else r
def KD (l:List RunP)(site:Nm)(at_:Int)(k:Nat):List RunP:=(l.take k).map (nF site at_)++l.drop k
theorem zap (l:List RunP)(site:Nm)(at_:Int):KD l site at_ 0=l:=by simp [KD]
theorem z1j (l:List RunP)(site:Nm)(at_:Int)(k:Nat):(KD l site at_ k).length=l.length:=by simp [KD];omega
theorem zaq (l:List RunP)(site:Nm)(at_:Int):KD l site at_ l.length=VC l site at_:=by
 unfold KD VC;rw[List.take_length,List.drop_length,List.append_nil];rfl
theorem z1i {l:List RunP}{site:Nm}{at_:Int}{k:Nat}(hk:k<l.length):(KD l site at_ k)[k]?=some l[k]:=by
 unfold KD;rw[List.getElem?_append_right (by simp;omega)]
 have:k-((l.take k).map (nF site at_)).length=0:=by simp;omega
 rw[this,List.getElem?_drop];simp [hk]
theorem z1k {l:List RunP}{site:Nm}{at_:Int}{k:Nat}(hk:k<l.length):KD l site at_ (k+1)=(KD l site at_ k).set k (nF site at_ l[k]):=by
 unfold KD;rw[List.take_succ_eq_append_getElem hk,List.map_append,List.set_append_right _ _ (by simp;omega)]
 have:k-((l.take k).map (nF site at_)).length=0:=by simp;omega
 rw[this,List.drop_eq_getElem_cons (i:=k) hk,List.append_assoc];rfl
theorem zar {l:List RunP}{site:Nm}{at_:Int}{k:Nat}(hk:k<l.length)(e:nF site at_ l[k]=l[k]):KD l site at_ (k+1)=KD l site at_ k:=by
 rw[z1k hk,e];apply List.ext_getElem?
 intro i;rw[List.getElem?_set];split
 ·rename_i hi;subst hi
  rw[z1j,if_pos hk,z1i hk]
 ·rfl
def RE (m:sD)(k:Nm):sD:=match OD k m with
 | some i=>m.eraseIdx i
 | none=>m
theorem z13 {m:sD}{k:Nm}(hu:(m.map fun e=>e.1.1).Nodup):asS (RE m k)=pG (asS m) k∧((RE m k).map fun e=>e.1.1).Nodup:=by
 have main:RE m k=m.filter fun e=>!decide (e.1.1=k):=by
  unfold RE;induction m with
  | nil=>rfl
  | cons y r ih=>
   rw[List.map_cons,List.nodup_cons]at hu;have q:=ih hu.2
   unfold OD;rw[List.filter_cons];by_cases h:k=y.1.1
   ·rw[if_pos h]
    have:r.filter (fun e=>!decide (e.1.1=k))=r:=by
     rw[List.filter_eq_self];intro z hz;have:¬z.1.1=k:=fun e=>hu.1 (by rw[←h,←e];exact List.mem_map_of_mem hz)
     simp [this]
    rw[if_neg (by simp [h.symm]),this]
    rfl
   ·have hn:¬y.1.1=k:=fun z=>h z.symm
    rw[if_neg h,if_pos (by simp [hn]),←q]
    cases OD k r with
    | none=>rfl
    | some i=>rfl
 rw[main];constructor
 ·unfold asS pG
  rw[List.filter_map];rfl
 ·exact List.Nodup.sublist (List.Sublist.map _ List.filter_sublist) hu
theorem zfQ {id:Nat}{hp:aA}{m:sD}{c:Nat}{k:Nm}(hh:hp[id]?=some (tC m c)) :
 mB (none,[2]) (.mp id) (AS k) hp=some (.und,hp.set id (tC (RE m k) c),[]):=by
 have e1:cC (none,[2]) (AS k)=some (.str k):=nH
 have e2:oB hp (.mp id)=some (id,m.map fun e=>(⟨.str e.1.1,AS e.1.2,e.2⟩:ME),c):=by simp only[oB,hh,tC]
 simp only[mB,e1,e2,AQ];unfold RE;cases hf:OD k m with
 | none=>
  have:hp.set id (tC m c)=hp:=zkD hh
  rw[this]
 | some i=>
  simp only[tC];have e3:∀(m:sD) (i:Nat),(m.map fun e=>(⟨.str e.1.1,AS e.1.2,e.2⟩:ME)).eraseIdx i=(m.eraseIdx i).map fun e=>(⟨.str e.1.1,AS e.1.2,e.2⟩:ME):=by
   intro m;induction m with
   | nil=>intro i;rfl
   | cons y r ih=>
    intro i;cases i with
    | zero=>rfl
    | succ i=>simp only[List.map_cons,List.eraseIdx_cons_succ,ih i]
  rw[e3]
attribute [-go_sem] mB
set_option maxHeartbeats 4000000 in
theorem z56 (fb:Obj)(steps:List Nm)(tries:Int)(S:Flo)(l:aA)(i:Nat)(e:Ent × Sta)(hi:S.bs[i]?=some e)(hr:S.runs.length≤1000000)(at_:Int) :
 bA X qI [.ref (h.length+7) 0,.ref (qB h i) 0,AI at_] (FS h fb steps tries S l) K=K (.tup []) (FS h fb steps tries { S with bs:=S.bs.set i (e.1,{ e.2 with site:=[] }),sm:=RE S.sm e.2.site,runs:=VC S.runs e.2.site at_ } l) []:=by
 refine tA ?_;rw[z9R rfl];obtain⟨bs,sm,ck,ends,runs,ref,why⟩:=S;obtain⟨x,st,si,sp,ss,sf⟩:=e;dsimp only at hi hr ⊢;have gq:=fun(o0 o1 o2 o3 o4 o5 o6 o7:Obj) (l:aA)=>sL (h:=h) (o0:=o0) (o1:=o1) (o2:=o2) (o3:=o3) (o4:=o4) (o5:=o5) (o6:=o6) (o7:=o7) (l:=l) hi
 have sq:=fun(o0 o1 o2 o3 o4 o5 o6 o7:Obj) (l:aA)=>UZ (h:=h) (o0:=o0) (o1:=o1) (o2:=o2) (o3:=o3) (o4:=o4) (o5:=o5) (o6:=o6) (o7:=o7) (l:=l) hi ⟨st,si,sp,[],sf⟩
 unfold Sta.bx at gq sq;dsimp only at gq sq;unfold FS wbx;dsimp only;simp only[JP,go_sem];refine XA (fun k:Nat=>⟨[(0,.ref (h.length+7) 0),(1,.ref (qB h i) 0),(2,AI at_),(11,AI runs.length),(12,AI k)],
  FH h fb (vA PV.str eC (lB (h.length+8) bs)) (tC sm ck) (.row (some 5) (ends.map EndP.pv) 0) (.row (some 3) ((KD runs ss at_ k).map RunP.pv) 0) (.row none (ref.map eI) 0) (.row none (why.map eI) 0)
   (.box [rB steps,AI tries,.mp (h.length+1),.mp (h.length+2),.own (h.length+3) ends.length 0 ends.length,.own (h.length+4) runs.length 0 runs.length,.own (h.length+5) ref.length 0 ref.length,.own (h.length+6) why.length 0 why.length]) (zA bs) l,[]⟩) (fun k=>k≤runs.length) (fun k=>runs.length-k) 0 (by rw[zap];rfl) (by omega) ?_
 intro k hk;rcases Nat.lt_or_ge k runs.length with hlt|hge
 ·have w1:IntKind.i64.wrap ((k:Int)+1)=((k+1:Nat):Int):=BA _ (by omega) (by omega)
  have hl:=z1j runs ss at_ k
  have hg:((KD runs ss at_ k).map RunP.pv)[k]?=some (RunP.pv runs[k]):=by rw[List.getElem?_map,z1i hlt];rfl
  have c0:ZA none 0 (RunP.pv runs[k])=some (.str runs[k].site):=rfl
  have c2:ZA none 2 (RunP.pv runs[k])=some (eI runs[k].til):=rfl
  have hs1:=z1k (l:=runs) (site:=ss) (at_:=at_) hlt
  have hs2:=fun e=>zar (l:=runs) (site:=ss) (at_:=at_) hlt e
  by_cases h1:runs[k].site=ss
  ·by_cases h2:runs[k].til<0
   ·have e1:nF ss at_ runs[k]=⟨runs[k].site,runs[k].frm,at_⟩:=by unfold nF;rw[if_pos ⟨h1,h2⟩]
    rw[e1]at hs1;have fp:RunP.pv runs[k] = .agg [.str runs[k].site,eI runs[k].frm,eI runs[k].til]:=rfl
    rw[fp]at hg c0 c2;simp only[go_sem,hlt,gq,hl,hg,c0,c2,h1,h2,w1,splice];refine⟨k+1,?_,by omega,by omega⟩
    rw[hs1,List.map_set,←h1];rfl
   ·have e1:nF ss at_ runs[k]=runs[k]:=by unfold nF;rw[if_neg (by intro z;exact h2 z.2)]
    simp only[go_sem,hlt,gq,hl,hg,c0,c2,h1,h2,w1];exact⟨k+1,by rw[hs2 e1],by omega,by omega⟩
  ·have e1:nF ss at_ runs[k]=runs[k]:=by unfold nF;rw[if_neg (by intro z;exact h1 z.1)]
   simp only[go_sem,hlt,gq,hl,hg,c0,c2,h1,w1];exact⟨k+1,by rw[hs2 e1],by omega,by omega⟩
 ·have ek:k=runs.length:=by omega
  subst ek;rw[zaq];have md:=fun(o0 o1 o3 o4 o5 o6 o7:Obj) (B l:aA)=>zfQ (id:=h.length+2) (hp:=FH h o0 o1 (tC sm ck) o3 o4 o5 o6 o7 B l) (m:=sm) (c:=ck) (k:=ss) zD
  have s3:∀v:AV,splice [AI st,AI si,AS sp,AS ss,AI sf] 3 [v]=[AI st,AI si,AS sp,v,AI sf]:=fun _=>rfl
  have cl:(VC runs ss at_).length=runs.length:=by simp [VC]
  have ml:=SM (h.length+8) bs i _ ⟨st,si,sp,[],sf⟩ hi
  have bl:(zA (bs.set i (x,⟨st,si,sp,[],sf⟩))).length=(zA bs).length:=by rw[jD,jD,List.length_set]
  simp only[go_sem,Nat.lt_irrefl,gq,md,s3,sq,cl,ml];exact List.take_of_length_le (by rw[TC,bl];exact Nat.le_refl _)
end Go.Am
end
section
/- The floor: a start,a finish. -/
open Go
set_option linter.all false
set_option maxRecDepth 100000
namespace Go.Am
variable {h:aA} {K:jA}
attribute [-go_sem] GA IA OA mB
attribute [local go_sem] TC yD qD zD BE CE DE EE pE FE GE HE IE JE KE LE
theorem zgj {id:Nat}{hp:aA}{m:sD}{c:Nat}{k v:Nm}(hh:hp[id]?=some (tC m c))(hn:lA (asS m) k=none) :
 OA (none,[2]) (.mp id) (AS k) (AS v) hp=some (.und,hp.set id (tC (m++[((k,v),c)]) (c+1)),[]):=by
 have e1:cC (none,[2]) (AS k)=some (.str k):=nH
 have e2:oB hp (.mp id)=some (id,m.map fun e=>(⟨.str e.1.1,AS e.1.2,e.2⟩:ME),c):=by simp only[oB,hh,tC]
 have e3:yF (AS v)=true:=rfl
 have e4:OD k m=none:=by
  cases hf:OD k m with
  | none=>rfl
  | some i=>
   exfalso;have h1:=IW k m
   rw[hf,Option.bind_some]at h1;obtain⟨y,hy⟩:=Option.isSome_iff_exists.1 (JW k m i hf);rw[hy]at h1;have h2:(m.find? fun e=>decide (e.1.1=k))=some y:=h1.symm
   unfold lA asS at hn;rw[List.find?_map,Option.map_map,Option.map_eq_none_iff]at hn;have h3:(m.find? fun e=>decide (e.1.1=k))=none:=hn
   rw[h3]at h2;cases h2
 simp only[OA,e1,e2,e3,AQ,e4];simp [tC,YB,AV.top]
theorem dU {bs:aB}{i:Nat}{x0:Ent}{st:Sta}(hi:bs[i]?=some (x0,st)):∃Bx:Sta→aA,zA bs=Bx st∧(∀s,zA (bs.set i (x0,s))=Bx s)∧(∀s,(Bx s).length=3*bs.length) ∧
 (∀a b c d e o0 o1 o2 o3 o4 o5 o6 o7 l,(FH h o0 o1 o2 o3 o4 o5 o6 o7 (Bx ⟨a,b,c,d,e⟩) l)[qB h i]?=some (.box [AI a,AI b,AS c,AS d,AI e])) ∧
 (∀s a b c d e o0 o1 o2 o3 o4 o5 o6 o7 l,(FH h o0 o1 o2 o3 o4 o5 o6 o7 (Bx s) l).set (qB h i) (.box [AI a,AI b,AS c,AS d,AI e])=FH h o0 o1 o2 o3 o4 o5 o6 o7 (Bx ⟨a,b,c,d,e⟩) l) ∧
 (∀s o o0 o1 o2 o3 o4 o5 o6 o7 l,(FH h o0 o1 o2 o3 o4 o5 o6 o7 (Bx s) (l++[o]))[h.length+(8+3*bs.length+l.length)]?=some o) ∧
 (∀s o0 o1 o2 o3 o4 o5 o6 o7 l l2,(FH h o0 o1 o2 o3 o4 o5 o6 o7 (Bx s) (l++l2)).take (h.length+(8+3*bs.length+l.length))=FH h o0 o1 o2 o3 o4 o5 o6 o7 (Bx s) l):=by
 have hl:i<bs.length:=by
  rcases Nat.lt_or_ge i bs.length with h|h
  ·exact h
  ·rw[List.getElem?_eq_none h]at hi;cases hi
 have hs:∀s,(bs.set i (x0,s))[i]?=some (x0,s):=fun s=>by rw[List.getElem?_set];simp [hl]
 have hlen:∀s,(zA (bs.set i (x0,s))).length=3*bs.length:=fun s=>by rw[jD,List.length_set]
 refine⟨fun s=>zA (bs.set i (x0,s)),?_,fun s=>rfl,hlen,fun a b c d e o0 o1 o2 o3 o4 o5 o6 o7 l=>?_,fun s a b c d e o0 o1 o2 o3 o4 o5 o6 o7 l=>?_,fun s o o0 o1 o2 o3 o4 o5 o6 o7 l=>?_,fun s o0 o1 o2 o3 o4 o5 o6 o7 l l2=>?_⟩
 ·have:bs.set i (x0,st)=bs:=by
   apply List.ext_getElem?
   intro j;rw[List.getElem?_set];split
   ·rename_i e;subst e;rw[hi]
   ·rfl
  dsimp only;rw[this]
 ·exact sL (hs ⟨a,b,c,d,e⟩)
 ·have:=UZ (h:=h) (o0:=o0) (o1:=o1) (o2:=o2) (o3:=o3) (o4:=o4) (o5:=o5) (o6:=o6) (o7:=o7) (l:=l) (hs s) ⟨a,b,c,d,e⟩
  rw[List.set_set]at this;exact this
 ·have:=UI (h:=h) (o0:=o0) (o1:=o1) (o2:=o2) (o3:=o3) (o4:=o4) (o5:=o5) (o6:=o6) (o7:=o7) (B:=zA (bs.set i (x0,s))) (l:=l++[o]) l.length
  rw[hlen s]at this;rw[this];simp
 ·have:=LH (h:=h) (o0:=o0) (o1:=o1) (o2:=o2) (o3:=o3) (o4:=o4) (o5:=o5) (o6:=o6) (o7:=o7) (B:=zA (bs.set i (x0,s))) (l:=l++l2) l.length
  rw[hlen s]at this;rw[this];simp
def Flo.start (S:Flo)(i:Nat)(x0:Ent)(st:Sta)(x:Ent):Flo:=
 { S with bs:=S.bs.set i (x0,⟨2,x.time,st.step,x.site,st.failed⟩),sm:=S.sm++[((x.site,x.board),S.ck)],ck:=S.ck+1,runs:=S.runs++[⟨x.site,x.time,-1⟩] }
def Flo.startR (S:Flo)(i:Nat)(x0:Ent)(st:Sta)(x:Ent):Int×Flo:=
 if st.state≠1 then(11,S) else if x.step≠st.step then(3,S) else if(lA (asS S.sm) x.site).isSome=true then(12,S) else(0,S.start i x0 st x)
theorem esc7 (h:aA):∀k n o m,k<7→YB (h.length+7) (.own (h.length+k) n o m)=[]:=fun k n o m hk=>by unfold YB;rw[z5T,if_neg (by omega)]
set_option maxHeartbeats 4000000 in
theorem zkm (fb:Obj)(steps:List Nm)(tries:Int)(S:Flo)(l:aA)(i:Nat)(x0:Ent)(st:Sta)(hi:S.bs[i]?=some (x0,st))(hr:S.runs.length≤1000000)(x:Ent) :
 bA X NJ [.ref (h.length+7) 0,.ref (qB h i) 0,.p x.pv] (FS h fb steps tries S l) K =
  K (AI (S.startR i x0 st x).1) (FS h fb steps tries (S.startR i x0 st x).2 l) []:=by
 refine tA ?_;rw[z9S rfl];obtain⟨Bx,b1,b2,b3,G,Sq,T,Tk⟩:=dU (h:=h) hi;obtain⟨bs,sm,ck,ends,runs,ref,why⟩:=S;obtain⟨s1,s2,s3,s4,s5⟩:=st;obtain⟨site,no,time,kind,board,step,of,other⟩:=x;unfold Flo.startR FS wbx Flo.start;dsimp only at hi hr b1 b2 b3 T Tk ⊢;have ml:=fun s=>SM (h.length+8) bs i _ s hi
 rw[b1];have lk:=fun(o0 o1 o3 o4 o5 o6 o7:Obj) (B l:aA)=>zfN (id:=h.length+2) (hp:=FH h o0 o1 (tC sm ck) o3 o4 o5 o6 o7 B l) (m:=sm) (c:=ck) (k:=site) zD
 have m1:runs.length+1≤YA:=by unfold YA;omega
 have e5:=fun n o m=>esc7 h 4 n o m (by decide)
 by_cases h1:s1=1
 ·subst h1
  rw[if_neg (by simp)]
  by_cases h2:step=s3
  ·subst h2
   rw[if_neg (by simp)]
   cases hg:lA (asS sm) site with
   | some v=>
    rw[if_pos (show(some v).isSome=true from rfl)]
    rw[hg]at lk;simp only[Option.isSome_some,Option.getD_some]at lk;simp only[bI,Ent.pv,go_sem,b3,T,G,lk];rw[b1];exact Tk _ _ _ _ _ _ _ _ _ _ _
   | none=>
    rw[if_neg (show ¬(none:Option Nm).isSome=true by simp)]
    rw[hg]at lk;have up:=fun(o0 o1 o3 o4 o5 o6 o7:Obj) (B l:aA)=>zgj (id:=h.length+2) (hp:=FH h o0 o1 (tC sm ck) o3 o4 o5 o6 o7 B l) (m:=sm) (c:=ck) (k:=site) (v:=board) zD hg
    simp only[Option.isSome_none,Option.getD_none]at lk;simp only[bI,Ent.pv,go_sem,b3,T,G,lk,up,Sq,splice,m1,e5];rw[Tk,b2,ml,List.map_append];rfl
  ·rw[if_pos h2]
   simp only[bI,Ent.pv,go_sem,b3,T,G,lk,h2];rw[b1];exact Tk _ _ _ _ _ _ _ _ _ _ _
 ·rw[if_pos h1]
  simp only[bI,Ent.pv,go_sem,b3,T,G,lk,h1];rw[b1];exact Tk _ _ _ _ _ _ _ _ _ _ _
end Go.Am
end
