/- Texts of the proof, laid together: SpSortN, PBusy, SpBusy, SpWtg, PBoo, PRefQ, SpQFlo3, SpQFlo1, PRefQ2, SpQFlo2, SpQFlo5, SpQFlo4, SpQFlo6, SpSortT, SpSrtS, SpDelR, SpQFlo7, SpQFlo8, SpSortP, SpQFlo9. -/
import Derived.Test.YtpmepdkfbangiaaGreatDoorlawBF8
set_option linter.all false
section
/- Sorting texts by a comparison: printed by program. -/
open Go
set_option linter.unusedSimpArgs false
namespace Go.Am
attribute [-go_sem] PV.cells splice
variable {h:aA} {K:lA}
theorem z7L (id n:Nat)(l tl:List PV)(hn:n=l.length+tl.length)(hs:VC none l)(hl:l.length≤1000)(hh:h[id]?=some (.row none (l++tl) 0)){g:Nat}{caps:List AV}{c:PV→PV→Int}(hc:iJ g caps c l id h) :
 cA X CG [.own id n 0 l.length,AI 0,AI l.length,.fn g caps] h K=K (.tup []) (h.set id (.row none (kB (ltC c) l++tl) 0)) []:=by
 refine uA ?_;rw[zfn];have hid:=ZF hh
 have hst:∀o,(h.set id o)[id]?=some o:=fun o=>PG hid
 simp only[NR,go_sem,show IntKind.i64.wrap 1=1 from rfl]
 refine UA (fun i:Nat=>⟨[(0,.own id n 0 l.length),(1,AI 0),(2,AI l.length),(3,.fn g caps),(8,AI i)],h.set id (.row none ((wC (ltC c) (l.take i)).reverse++(l.drop i++tl)) 0),[]⟩) (fun i=>1≤i∧(i≤l.length∨i=1)) (fun i=>l.length-i) 1 ?_ (by simp) ?_
 ·have:(wC (ltC c) (l.take 1)).reverse++(l.drop 1++tl)=l++tl:=by cases l <;> rfl
  rw[this,cJ hh];rfl
 rintro i ⟨hi1,hi2⟩
 rcases Nat.lt_or_ge i l.length with hlt|hge
 ·simp only[go_sem,hlt]
  have hxl:l[i]∈l:=List.getElem_mem hlt
  generalize hx:l[i]=x at *;generalize hR:wC (ltC c) (l.take i)=R;have hRl:R.length=i:=by rw[←hR,NS];simp;omega
  have hRm:∀z∈R,z∈l:=fun z hz=>List.mem_of_mem_take ((oM (ltC c) (l.take i)).mem_iff.1 (by rw[hR];exact hz))
  have hdrop:l.drop i=x::l.drop (i+1):=by rw[←hx];exact List.drop_eq_getElem_cons hlt
  have hnext:wC (ltC c) (l.take (i+1))=BB (ltC c) x R:=by rw[OS _ _ _ hlt,hR,hx]
  refine UA (fun t:List PV×List PV=>⟨[(0,.own id n 0 l.length),(1,AI 0),(2,AI l.length),(3,.fn g caps),(8,AI i),(9,AI t.1.length)],h.set id (.row none (t.1.reverse++x::t.2) 0),[]⟩)
   (fun t=>∃B,R=B++t.1∧t.2=B.reverse++(l.drop (i+1)++tl)∧∀b∈B,ltC c x b=true) (fun t=>t.1.length) (R,l.drop (i+1)++tl) (by rw[hdrop,hRl];rfl) ⟨[],rfl,rfl,by simp⟩ ?_
  rintro⟨A,C⟩ ⟨B,q1,q2,q3⟩
  dsimp only at q1 q2 q3;have hlen:(A.reverse++x::C).length=n:=by
   have:R.length=B.length+A.length:=by rw[q1];simp
   rw[q2];simp;omega
  have hBA:B.length+A.length<l.length:=by
   have:R.length=B.length+A.length:=by rw[q1];simp
   omega
  have hln:l.length≤n:=by omega
  have w1:IntKind.i64.wrap ((i:Int)+1)=((i+1:Nat):Int):=CA _ (by omega) (by omega)
  cases A with
  | nil=>
   have hd:BB (ltC c) x R=B++[x]:=by rw[q1];exact NI (ltC c) x [] B q3 (fun y r h=>by cases h)
   simp only[go_sem,Int.lt_irrefl,w1];refine⟨i+1,?_,by omega,by omega⟩
   simp only[hnext,hd,q2,List.reverse_append,List.reverse_nil,List.nil_append,List.reverse_cons,List.append_assoc,List.cons_append]
  | cons y A=>
   have hyl:y∈l:=hRm y (by rw[q1];simp)
   have g1:=KS (y::A) C x
   have g2:=LS A C x y
   have sw:=MS A C x y
   simp only[List.length_cons]at hBA;generalize hrow:(y::A).reverse++x::C=row at *;simp only[List.length_cons]at g1;have w2:IntKind.i64.wrap (((A.length+1:Nat):Int)-1)=(A.length:Int):=by rw[CA _ (by omega) (by omega)];omega
   have p1:(0:Int)<((A.length+1:Nat):Int):=by omega
   have b1:A.length+1<l.length:=by omega
   have b2:A.length<l.length:=by omega
   have cx:=gG (hs x hxl)
   have cy:=gG (hs y hyl)
   have hcc:=fun o K=>hc o x hxl y hyl K
   by_cases hxy:c x y<0
   ·have g3:(row.set (A.length+1) y)[A.length]?=some y:=by rw[List.getElem?_set_ne (by omega),g2]
    have lx:=PH (hs x hxl)
    have ly:=PH (hs y hyl)
    have sx:=OH (hs x hxl)
    have sy:=OH (hs y hyl)
    simp only[kA]at lx ly;have t1:=fun i xs h1=>RH (hs x hxl) (hs y hyl) id i 0 xs h1
    have t2:=fun i xs h1=>RH (hs y hyl) (hs x hxl) id i 0 xs h1
    simp only[go_sem,hst,p1,hlen,g1,g2,g3,w2,b1,b2,hln,cx,cy,hcc,hxy,lx,ly,sx,sy,t1,t2,sw];refine⟨(A,y::C),rfl,⟨B++[y],by simp [q1],by simp [q2],fun b hb=>?_⟩,by simp⟩
    rw[List.mem_append,List.mem_singleton]at hb;rcases hb with hb|rfl
    ·exact q3 b hb
    ·simpa [ltC] using hxy
   ·have hd:BB (ltC c) x R=B++x::y::A:=by rw[q1];exact NI (ltC c) x (y::A) B q3 (fun z r h=>by cases h;simpa [ltC] using hxy)
    simp only[go_sem,hst,p1,hlen,g1,g2,w2,b1,b2,hln,cx,cy,hcc,hxy,w1];refine⟨i+1,?_,by omega,by omega⟩
    simp only[hnext,hd,←hrow,q2,List.reverse_append,List.reverse_cons,List.append_assoc,List.cons_append,List.nil_append]
 ·have hge':¬i<l.length:=by omega
  have e1:l.take i=l:=List.take_of_length_le hge
  have e2:l.drop i=[]:=List.drop_of_length_le hge
  simp only[go_sem,hge',e1,e2];rfl
theorem zdg (id:Nat)(l:List PV)(hs:VC none l)(hl:l.length≤12)(hh:h[id]?=some (.row none l 0)){g:Nat}{caps:List AV}{c:PV→PV→Int}(hc:iJ g caps c l id h) :
 cA X WL [.own id l.length 0 l.length,.fn g caps] h K=K (.tup []) (h.set id (.row none (kB (ltC c) l) 0)) []:=by
 refine uA ?_;rw[zfi];have w0:IntKind.u64.wrap (l.length:Int)=l.length:=z0Q _ (by omega) (by omega)
 obtain⟨m,hm⟩:=wZ (l.length:Int) (by omega) (by omega)
 have is:=fun K=>z7L (h:=h) (K:=K) id l.length l [] rfl hs (by omega) (by rw[List.append_nil];exact hh) hc
 simp only[List.append_nil]at is;have key:∀K:lA,cA X EG [.own id l.length 0 l.length,AI 0,AI l.length,AI m,.fn g caps] h K=K (.tup []) (h.set id (.row none (kB (ltC c) l) 0)) []:=by
  intro K;refine uA ?_;rw[zfq];simp only[SR,go_sem];refine UA (fun _:Unit=>⟨[(0,.own id l.length 0 l.length),(1,AI 0),(2,AI l.length),(3,AI m),(4,.fn g caps),(10,AB true),(11,AB true)],h,[]⟩) (fun _=>True) (fun _=>0) () rfl trivial ?_
  intro _ _;have w1:IntKind.i64.wrap ((l.length:Int)-0)=l.length:=by rw[CA _ (by omega) (by omega)];omega
  have b1:((l.length:Int)≤12):=by omega
  simp only[go_sem,w1,b1,is]
 simp only[kY,go_sem,w0,hm,key]
end Go.Am
end
section
/- For how long a site runs boards,plainly. -/
open Go
set_option linter.all false
set_option maxRecDepth 100000
namespace Go.Am
def CH:Int→Int→List RunP→Prop
 | lo,hi,[]=>lo≤hi
 | lo,hi,r::rest=>lo≤r.frm∧r.frm≤r.til∧0≤r.til∧CH r.til hi rest
theorem z1i:∀ {l:List RunP}{lo hi hi':Int},CH lo hi l→hi≤hi'→CH lo hi' l
 | [],lo,hi,hi',h,g=>by unfold CH at *;omega
 | r::rest,lo,hi,hi',h,g=>⟨h.1,h.2.1,h.2.2.1,z1i h.2.2.2 g⟩
def PE (frm_ til_:Int)(r:RunP):Int:=max 0 (min (if r.til<0 then til_ else r.til) til_-max r.frm frm_)
def JU (rs:List RunP)(busy:Bool)(T:Int):Prop:=if busy then ∃pre r,rs=pre++[r]∧CH 0 r.frm pre∧r.til<0∧0≤r.frm∧r.frm≤T else CH 0 T rs
theorem zp5 {rs:List RunP}{busy:Bool}{T T':Int}(h:JU rs busy T)(g:T≤T'):JU rs busy T':=by
 unfold JU at *;cases busy with
 | true=>
  obtain⟨pre,r,a,b,c,d,e⟩:=h;exact⟨pre,r,a,b,c,d,by omega⟩
 | false=>exact z1i h g
def ofS (s:Nm)(l:List RunP):List RunP:=l.filter fun r=>decide (r.site=s)
structure BI (p:FlP) (T:Int):Prop where
 inv:∃q,Inv p q
 st:∀s,JU (ofS s p.runs) (nA p.sites s).isSome T
 si:∀b st,nA p.bs b=some st→0≤st.since∧st.since≤T
 en:∀e∈p.ends,0≤e.frm∧e.frm≤e.til∧e.til≤T
theorem BI.mono {p:FlP}{T T':Int}(h:BI p T)(g:T≤T'):BI p T':=
 ⟨h.inv,fun s=>zp5 (h.st s) g,fun b st hb=>by have:=h.si b st hb;omega,fun e he=>by have:=h.en e he;omega⟩
theorem zlr {a b:Ent}(h:gtE a b):a.time≤b.time:=by
 unfold gtE eC at h;by_cases t:sB b.time a.time=0
 ·have:=rI.1 t;omega
 ·rw[if_pos t,qI]at h;omega
end Go.Am
end
section
/- For how long a site runs boards: the program. -/
open Go
set_option linter.all false
set_option maxRecDepth 100000
namespace Go.Am
variable {h:aA} {K:lA}
attribute [-go_sem] nB QA oB TB
section
variable {fb:Obj} {steps:List Nm} {tries:Int} {S:Flo} {o o':Obj} {l:aA}
end
def iG (steps:List Nm)(tries:Int)(l:List Ent)(step:Nm)(at_:Int):Int:=if OB steps tries l at_=0 then(if steps.contains step then 0 else 8) else OB steps tries l at_
theorem zpa (steps:List Nm)(tries:Int)(l:List Ent)(O:StOk steps l)(step:Nm)(at_:Int):cA X lM [EB steps tries,eB l,AS step,AI at_] h K=K (AI (iG steps tries l step at_)) h []:=by
 refine uA ?_;rw[zfE rfl];have q1:=fun h K=>NP (h:=h) (K:=K) steps tries l O at_
 have ct:=fun h K=>eQ (h:=h) (K:=K) steps (fun h' _=>KN _) step (by have:=O.n;omega)
 unfold iG;by_cases h0:OB steps tries l at_=0
 ·rw[if_pos h0]
  cases hc:steps.contains step with
  | true=>
   rw[hc]at ct;simp only[aL,go_sem,↓q1,q1,h0,↓ct,ct];first|done|rfl
  | false=>
   rw[hc]at ct;simp only[aL,go_sem,↓q1,q1,h0,↓ct,ct];first|done|rfl
 ·rw[if_neg h0]
  simp only[aL,go_sem,↓q1,q1,h0]
end Go.Am
end
section
/- Which boards wait for a step: the program. -/
open Go
set_option linter.all false
set_option maxRecDepth 100000
namespace Go.Am
variable {h:aA} {K:lA}
attribute [-go_sem] nB QA oB TB IC JC
attribute [local go_sem] YC nE uD vD rF tF VE WE HE uF vF wF xF yF zF BF
def cC (bs:bB)(k:Nm):Int:=match nA (asA bs) k with
 | some s=>s.since
 | none=>0
def LF (bs:bB)(a b:Nm):Int:=orL [sB (cC bs a) (cC bs b),EA a b]
theorem QK (bs:bB)(a b:Nm):LF bs a b=if cC bs a<cC bs b then -1 else if cC bs b<cC bs a then 1 else EA a b:=by
 unfold LF sB;generalize cC bs a=A;generalize cC bs b=B;by_cases h1:A<B
 ·rw[if_pos h1,if_pos h1];rfl
 ·rw[if_neg h1,if_neg h1]
  by_cases h2:A=B
  ·rw[if_pos h2,if_neg (by omega)]
   show(if(0:Int)≠0 then(0:Int) else if EA a b≠0 then EA a b else 0)=EA a b
   rw[if_neg (by simp)]
   by_cases h3:EA a b=0
   ·rw[if_neg (by simp [h3]),h3]
   ·rw[if_pos h3]
  ·rw[if_neg h2,if_pos (by omega)];rfl
theorem mP (bs:bB):Ordr (LF bs) where
 neg a b:=by
  rw[QK,QK];have:=gO a b;split <;> split <;> (try split) <;> omega
 trans a b d h1 h2:=by
  rw[QK]at h1 h2 ⊢;have key:EA a b≤0→EA b d≤0→EA a d≤0:=fun g1 g2=>by
   by_cases e1:EA a b=0
   ·rw[xD e1];exact g2
   ·by_cases e2:EA b d=0
    ·rw[←xD e2];exact g1
    ·have:=aR (a:=a) (b:=b) (c:=d) (by omega) (by omega);omega
  by_cases c1:cC bs a<cC bs d
  ·rw[if_pos c1];decide
  ·rw[if_neg c1]
   by_cases c2:cC bs a<cC bs b
   ·rw[if_pos c2]at h1
    by_cases c3:cC bs b<cC bs d
    ·omega
    ·rw[if_neg c3]at h2
     by_cases c4:cC bs d<cC bs b
     ·rw[if_pos c4]at h2;omega
     ·omega
   ·rw[if_neg c2]at h1
    by_cases c5:cC bs b<cC bs a
    ·rw[if_pos c5]at h1;omega
    ·rw[if_neg c5]at h1
     by_cases c3:cC bs b<cC bs d
     ·omega
     ·rw[if_neg c3]at h2
      by_cases c4:cC bs d<cC bs b
      ·rw[if_pos c4]at h2;omega
      ·rw[if_neg c4]at h2
       rw[if_neg (by omega)]
       exact key h1 h2
def UH (step:Nm)(e:Ent × Sta):Bool:=decide (e.2.state=1)&&decide (e.2.step=step)
def JG (bs:bB)(step:Nm):List Nm:=(bs.filter (UH step)).map fun e=>e.1.board
def jE (bs:bB)(step:Nm):List Nm:=kB (ltO (LF bs)) (JG bs step)
theorem zae {bs:bB}{step k:Nm}:k∈jE bs step↔k∈JG bs step:=PI
theorem zq7 {bs:bB}{step:Nm}(hu:(bs.map fun e=>e.1.board).Nodup){ns:List Nm}(hp:ns.Perm (JG bs step)):kB (ltO (LF bs)) ns=jE bs step:=by
 have hn:(JG bs step).Nodup:=hu.sublist (List.filter_sublist.map _)
 have ne:∀{a b:Nm},a≠b→¬LF bs a b=0:=fun {a b} hab hc=>by
  rw[QK]at hc;split at hc
  ·omega
  ·split at hc
   ·omega
   ·exact hab (xD hc)
 refine YP (mP bs) (zK (mP bs) ((hp.nodup_iff.2 hn).imp ne)) (zK (mP bs) (hn.imp ne)) fun x=>?_
 rw[PI,zae,hp.mem_iff]
theorem zpi (fb:Obj)(steps:List Nm)(tries:Int)(S:Flo)(l:aA)(q:Nat)(hq:(FS h fb steps tries S l)[q]?=some (.box [.ref (h.length+7) 0])){a b:Nm}{i j:Nat}(ha:ixB a S.bs=some i)(hb:ixB b S.bs=some j) :
 cA X XJ [AS a,AS b,.ref q 0] (FS h fb steps tries S l) K=K (AI (LF S.bs a b)) (FS h fb steps tries S l) []:=by
 refine uA ?_;rw[zfA rfl];obtain⟨e,he,_,ga⟩:=(rM a S.bs).2 i ha;obtain⟨f,hf,_,gb⟩:=(rM b S.bs).2 j hb;have sa:cC S.bs a=e.2.since:=by unfold cC;rw[ga]
 have sb:cC S.bs b=f.2.since:=by unfold cC;rw[gb]
 unfold LF;rw[sa,sb];unfold FS wbx at hq ⊢;have la:=fun(o0 o2 o3 o4 o5 o6 o7:Obj) (B l2:aA)=>uM (h:=h) S a o0 o2 o3 o4 o5 o6 o7 B l2
 have lb:=fun(o0 o2 o3 o4 o5 o6 o7:Obj) (B l2:aA)=>uM (h:=h) S b o0 o2 o3 o4 o5 o6 o7 B l2
 rw[ha]at la;rw[hb]at lb;have ge:=fun(o0 o1 o2 o3 o4 o5 o6 o7:Obj) (l2:aA)=>kJ (h:=h) (o0:=o0) (o1:=o1) (o2:=o2) (o3:=o3) (o4:=o4) (o5:=o5) (o6:=o6) (o7:=o7) (l:=l2) he
 have gf:=fun(o0 o1 o2 o3 o4 o5 o6 o7:Obj) (l2:aA)=>kJ (h:=h) (o0:=o0) (o1:=o1) (o2:=o2) (o3:=o3) (o4:=o4) (o5:=o5) (o6:=o6) (o7:=o7) (l:=l2) hf
 unfold Sta.bx at ge gf;have q1:=fun h K=>z9z (h:=h) (K:=K) e.2.since f.2.since
 have q2:=fun h K=>SP (h:=h) (K:=K) a b
 have q3:=fun h K=>z90 (h:=h) (K:=K) [sB e.2.since f.2.since,EA a b] (by simp)
 simp only[AL,List.map_cons,List.map_nil]at q3;simp only[PY,go_sem,hq,la,lb,ge,gf,↓q1,q1,↓q2,q2,↓q3,q3];rw[VG,List.take_length]
section
variable {fb o:Obj} {steps:List Nm} {tries:Int} {S:Flo} {l l2:aA}
theorem aV:(FS h fb steps tries S l)[h.length+1]?=some (vA PV.str VB (tB (h.length+8) S.bs)):=uD
theorem zbX:(FS h fb steps tries S l)[h.length+7]?=some (.box [TA steps,AI tries,.mp (h.length+1),.mp (h.length+2),.own (h.length+3) S.ends.length 0 S.ends.length,.own (h.length+4) S.runs.length 0 S.runs.length,.own (h.length+5) S.ref.length 0 S.ref.length,.own (h.length+6) S.why.length 0 S.why.length]):=HE
theorem zbZ:(FS h fb steps tries S l)[h.length+(8+(BA S.bs).length)]?=l[0]?:=TG 0
theorem z1l (n:Nat):(FS h fb steps tries S l)[h.length+(8+(BA S.bs).length+n)]?=l[n]?:=TG n
theorem UN (n:Nat):(FS h fb steps tries S l).set (h.length+(8+(BA S.bs).length+n)) o=FS h fb steps tries S (l.set n o):=fQ n
theorem z1m (n:Nat):(FS h fb steps tries S l).take (h.length+(8+(BA S.bs).length+n))=FS h fb steps tries S (l.take n):=VG n
theorem DK:(FS h fb steps tries S l).length=h.length+(8+(BA S.bs).length+l.length):=YC
theorem TN:FS h fb steps tries S l++l2=FS h fb steps tries S (l++l2):=nE
theorem zbY {i:Nat}{e:Ent × Sta}(hi:S.bs[i]?=some e):(FS h fb steps tries S l)[h.length+8+(3*i+2)]?=some e.2.bx:=by
 have:=kJ (h:=h) (o0:=fb) (o1:=vA PV.str VB (tB (h.length+8) S.bs)) (o2:=dC S.sm S.ck) (o3:=.row (some 5) (S.ends.map EndP.pv) 0) (o4:=.row (some 3) (S.runs.map RunP.pv) 0) (o5:=.row none (S.ref.map eI) 0) (o6:=.row none (S.why.map eI) 0) (o7:=wbx h steps tries S.ends.length S.runs.length S.ref.length S.why.length) (l:=l) hi;unfold qB at this;rw[←Nat.add_assoc]at this;exact this
end
theorem z7S {k:Nm}:∀{bs:bB},k∈bs.map (fun e=>e.1.board)→∃i,ixB k bs=some i
 | [],h=>by cases h
 | e::r,h=>by
  unfold ixB;by_cases hk:k=e.1.board
  ·exact⟨0,if_pos hk⟩
  ·rw[if_neg hk]
   rw[List.map_cons,List.mem_cons]at h;obtain⟨i,hi⟩:=z7S (h.resolve_left hk);exact⟨i+1,by rw[hi];rfl⟩
def dE (bs:bB)(step:Nm)(seen:List Nat):List Nm:=seen.filterMap fun i=>(bs[i]?).bind fun e=>if UH step e then some e.1.board else none
theorem zpx {bs:bB}{step:Nm}{seen:List Nat}{i:Nat}{e:Ent × Sta}(he:bs[i]?=some e):dE bs step (seen++[i])=dE bs step seen++if UH step e then [e.1.board] else []:=by
 unfold dE;rw[List.filterMap_append];congr 1
 simp only[List.filterMap_cons,List.filterMap_nil,he,Option.bind_some];cases UH step e <;> rfl
theorem zpu {bs:bB}{step:Nm}{seen:List Nat}(hd:seen.Nodup)(hb:∀ i∈seen,i<bs.length)(ha:∀ i,i<bs.length→i∈seen):(dE bs step seen).Perm (JG bs step):=by
 have hp:=GU hd hb ha
 refine(hp.filterMap _).trans ?_;clear hp hd hb ha;have:∀(pre bs:bB),((List.range' pre.length bs.length).filterMap fun i=>((pre++bs)[i]?).bind fun e=>if UH step e then some e.1.board else none)=(bs.filter (UH step)).map fun e=>e.1.board:=by
  intro pre bs;induction bs generalizing pre with
  | nil=>rfl
  | cons e r ih=>
   have h2:=ih (pre++[e])
   rw[List.append_assoc,List.length_append]at h2;have h1:(pre++e::r)[pre.length]?=some e:=by simp
   rw[List.length_cons,List.range'_succ,List.filterMap_cons,List.filter_cons,h1];simp only[Option.bind_some];cases UH step e with
   | true=>simp only[if_true,List.map_cons];exact congrArg _ h2
   | false=>exact h2
 have:=this [] bs;rw[List.range_eq_range'];exact List.Perm.of_eq this
theorem zpv (bs:bB)(step:Nm)(seen:List Nat):(dE bs step seen).length≤seen.length:=List.length_filterMap_le _ _
theorem zpw {bs:bB}{step:Nm}{seen:List Nat}{k:Nm}(h:k∈dE bs step seen):k∈bs.map fun e=>e.1.board:=by
 unfold dE at h;obtain⟨i,_,h⟩:=List.mem_filterMap.1 h;obtain⟨e,he,h⟩:=Option.bind_eq_some_iff.1 h;split at h
 ·cases h;exact List.mem_map_of_mem (List.mem_of_getElem? he)
 ·cases h
set_option maxHeartbeats 4000000 in
theorem zoL (fb:Obj)(steps:List Nm)(tries:Int)(S:Flo)(hu:(S.bs.map fun e=>e.1.board).Nodup)(hbl:S.bs.length≤12)(step:Nm) :
 cA X jM [.ref (h.length+7) 0,AS step] (FS h fb steps tries S []) K=K (TA (jE S.bs step)) (FS h fb steps tries S []) []:=by
 refine uA ?_;rw[zf9 rfl];simp only[dS];refine⟨_,_,_,⟨rfl,rfl,rfl⟩,?_⟩;have mr:=fP (h:=FS h fb steps tries S [.box [.ref (h.length+7) 0],.row none [] 0]) (id:=h.length+1) (key:=PV.str) (val:=VB) (l:=tB (h.length+8) S.bs) aV
 rw[DK,TN,XO]at mr;simp only[List.length_cons,List.length_nil,Nat.zero_add,List.cons_append,List.nil_append]at mr;have f0:h.length+7+1≤h.length+(8+(BA S.bs).length):=by omega
 have gt0:=fun l=>zbZ (h:=h) (fb:=fb) (steps:=steps) (tries:=tries) (S:=S) (l:=l)
 have gt1:=fun l=>z1l (h:=h) (fb:=fb) (steps:=steps) (tries:=tries) (S:=S) (l:=l) 1
 have gt2:=fun l=>z1l (h:=h) (fb:=fb) (steps:=steps) (tries:=tries) (S:=S) (l:=l) 2
 simp only[go_sem,DK,TN,List.length_nil,List.length_cons,Nat.add_zero,Nat.zero_add,List.nil_append,List.cons_append,gt0,gt1,gt2,zbX,mr,f0];have st1:=fun l o=>UN (h:=h) (fb:=fb) (steps:=steps) (tries:=tries) (S:=S) (l:=l) (o:=o) 1
 have tk:=fun l=>z1m (h:=h) (fb:=fb) (steps:=steps) (tries:=tries) (S:=S) (l:=l) 3
 have f1:h.length+(8+(BA S.bs).length)+1≤h.length+(8+(BA S.bs).length+3):=by omega
 have f2:h.length+(8+(BA S.bs).length+1)+1≤h.length+(8+(BA S.bs).length+3):=by omega
 have f3:h.length+(8+(BA S.bs).length+2)+1≤h.length+(8+(BA S.bs).length+3):=by omega
 have ml:(tB (h.length+8) S.bs).length=S.bs.length:=XO _ _
 refine UA (fun t:List Nat×Option Nm=>⟨match t.2 with
  | none=>[(1,AS step),(2,.ref (h.length+(8+(BA S.bs).length)) 0),(5,.own (h.length+(8+(BA S.bs).length+1)) (dE S.bs step t.1).length 0 (dE S.bs step t.1).length),(12,.it (h.length+(8+(BA S.bs).length+2)))]
  | some nm=>[(1,AS step),(2,.ref (h.length+(8+(BA S.bs).length)) 0),(5,.own (h.length+(8+(BA S.bs).length+1)) (dE S.bs step t.1).length 0 (dE S.bs step t.1).length),(6,AS nm),(12,.it (h.length+(8+(BA S.bs).length+2))),(30,AB false)],
  FS h fb steps tries S [.box [.ref (h.length+7) 0],.row none ((dE S.bs step t.1).map PV.str) 0,.iter (some (h.length+1)) S.bs.length t.1 S.bs.length],[]⟩)
  (fun t=>t.1.Nodup∧∀i∈t.1,i<S.bs.length) (fun t=>S.bs.length-t.1.length) ([],none) rfl ⟨List.nodup_nil,by simp⟩ ?_
 rintro⟨seen,on⟩ ⟨hd,hb⟩
 dsimp only at hd hb;have hsl:seen.length≤S.bs.length:=by
  have h2:=hd.length_le_of_subset (l₂:=List.range S.bs.length) (fun x hx=>by rw[List.mem_range];exact hb x hx)
  simpa using h2
 have hwl:=zpv S.bs step seen
 rcases on with _|nm
 all_goals
  simp only[go_sem];refine kP (key:=PV.str) (val:=VB) (l:=tB (h.length+8) S.bs) (m:=h.length+1) (seen:=seen) (by rw[gt2,ml];rfl) aV ?_ ?_
  ·intro hall
   rw[ml]at hall;have hp:=zpu (step:=step) hd hb hall
   have hw:=zq7 hu hp
   rw[UN];simp only[List.set_cons_zero,List.set_cons_succ];have hmem:∀k∈dE S.bs step seen,∃i,ixB k S.bs=some i:=fun k hk=>z7S (zpw hk)
   generalize dE S.bs step seen=ns at *;have so:=fun K=>zdg (h:=FS h fb steps tries S [.box [.ref (h.length+7) 0],.row none (ns.map PV.str) 0,.iter none 1 [] 0]) (K:=K) (h.length+(8+(BA S.bs).length+1)) (ns.map PV.str) (fun x hx=>by obtain⟨n,_,rfl⟩:=List.mem_map.1 hx;rfl) (by simp;omega) (by rw[gt1];rfl)
    (g:=XJ) (caps:=[.ref (h.length+(8+(BA S.bs).length)) 0]) (c:=fun x y=>LF S.bs (TE x) (TE y)) (fun o x hx y hy K=>by
     obtain⟨a,ha,rfl⟩:=List.mem_map.1 hx;obtain⟨b,hb,rfl⟩:=List.mem_map.1 hy;obtain⟨i,hi⟩:=hmem a ha;obtain⟨j,hj⟩:=hmem b hb;rw[UN];exact zpi fb steps tries S _ _ (by rw[gt0];rfl) hi hj)
   have im:kB (ltC fun x y=>LF S.bs (TE x) (TE y)) (ns.map PV.str)=(jE S.bs step).map PV.str:=by
    rw[←hw];exact PS PV.str (fun a b=>rfl) ns
   have wl:(jE S.bs step).length=ns.length:=by rw[←hw,pM]
   rw[im]at so;simp only[UN,List.set_cons_zero,List.set_cons_succ,List.length_map]at so;simp only[go_sem,DK,List.length_cons,List.length_nil,Nat.zero_add,Nat.reduceAdd,f1,f2,tk,List.take_succ_cons,List.take_zero,so];have wf:win ((jE S.bs step).map PV.str) 0 ns.length=(jE S.bs step).map PV.str:=pF (by simp [wl])
   have tk0:∀l,(FS h fb steps tries S l).take (h.length+(8+(BA S.bs).length))=FS h fb steps tries S []:=fun l=>z1m 0
   simp [gt1,wl,wf,tk0,AV.top]
  ·intro i hi hni
   rw[ml]at hi;have he:=List.getElem?_eq_getElem hi
   have hmi:(tB (h.length+8) S.bs)[i]'(by omega)=(S.bs[i].1.board,h.length+8+(3*i+2)):=by
    have:=xZ S.bs (h.length+8) i S.bs[i] he;rw[List.getElem?_eq_getElem (by omega)]at this
    exact Option.some.inj this
   have hnn:(seen++[i]).Nodup:=by rw[List.nodup_append];exact⟨hd,by simp,fun a ha b hb=>by rw[List.mem_singleton]at hb;subst hb;intro e;subst e;exact hni ha⟩
   have hbb:∀x∈seen++[i],x<S.bs.length:=fun x hx=>by
    rcases List.mem_append.1 hx with hx|hx
    ·exact hb x hx
    ·rw[List.mem_singleton]at hx;rw[hx];exact hi
   have hlen:seen.length<S.bs.length:=by
    have h2:=hnn.length_le_of_subset (l₂:=List.range S.bs.length) (fun x hx=>by rw[List.mem_range];exact hbb x hx)
    simp at h2;omega
   rw[hmi,ml,UN];have me:=fun l0=>ZO (h:=FS h fb steps tries S [.box [.ref (h.length+7) 0],l0,.iter (some (h.length+1)) S.bs.length (seen++[i]) S.bs.length]) (j:=h.length+(8+(BA S.bs).length+2)) (m:=h.length+1) (key:=PV.str) (val:=VB) (l:=tB (h.length+8) S.bs) (seen:=seen) (i:=i) (by rw[gt2,ml];rfl) aV (by omega)
   rw[hmi]at me;have gq:=fun(l2:aA)=>zbY (h:=h) (fb:=fb) (steps:=steps) (tries:=tries) (l:=l2) he
   unfold Sta.bx at gq;unfold VB at me ⊢;have m1:(dE S.bs step seen).length+1≤cB:=by unfold cB;omega
   have hsn:=zpx (step:=step) (seen:=seen) he
   have hw1:UH step S.bs[i]=(decide (S.bs[i].2.state=1)&&decide (S.bs[i].2.step=step)):=rfl
   rw[hw1]at hsn;generalize S.bs[i]=e at *;simp only[List.set_cons_zero,List.set_cons_succ];by_cases c1:e.2.state=1
   ·by_cases c2:e.2.step=step
    ·rw[decide_eq_true c1,decide_eq_true c2]at hsn
     simp only[go_sem,me,gq,c1,c2,m1,DK,TN,gt1,st1,tk,aQ,f1,f2,f3,List.length_map,List.length_cons,List.length_nil,List.getElem?_cons_zero,List.getElem?_cons_succ,List.set_cons_zero,List.set_cons_succ];exact⟨(seen++[i],none),by dsimp only;rw[hsn];simp only[List.map_append,List.length_append];rfl,⟨hnn,hbb⟩,by dsimp only;rw[List.length_append];simp;omega⟩
    ·rw[decide_eq_true c1,decide_eq_false c2]at hsn
     simp only[Bool.and_false,Bool.false_eq_true,if_false,List.append_nil]at hsn;simp only[go_sem,me,gq,c1,c2,m1,DK,TN,gt1,st1,tk,aQ,f1,f2,f3,List.length_map,List.length_cons,List.length_nil,List.getElem?_cons_zero,List.getElem?_cons_succ,List.set_cons_zero,List.set_cons_succ];exact⟨(seen++[i],some e.1.board),by dsimp only;rw[hsn],⟨hnn,hbb⟩,by dsimp only;rw[List.length_append];simp;omega⟩
   ·rw[decide_eq_false c1]at hsn
    simp only[Bool.false_and,Bool.false_eq_true,if_false,List.append_nil]at hsn;simp only[go_sem,me,gq,c1,m1,DK,TN,gt1,st1,tk,aQ,f1,f2,f3,List.length_map,List.length_cons,List.length_nil,List.getElem?_cons_zero,List.getElem?_cons_succ,List.set_cons_zero,List.set_cons_succ];exact⟨(seen++[i],some e.1.board),by dsimp only;rw[hsn],⟨hnn,hbb⟩,by dsimp only;rw[List.length_append];simp;omega⟩
def BK (steps:List Nm)(tries:Int)(l:List Ent)(step:Nm)(at_:Int):List Nm×Int:=
 if iG steps tries l step at_≠0 then([],iG steps tries l step at_) else(jE (lB steps tries (upL l at_)).bs step,0)
theorem zpR {steps:List Nm}{tries:Int}{l:List Ent}{step:Nm}{at_:Int}(h:iG steps tries l step at_=0):OB steps tries l at_=0:=by
 unfold iG at h;split at h
 ·rename_i h0;exact h0
 ·exact h
set_option maxHeartbeats 4000000 in
theorem zoB (steps:List Nm)(tries:Int)(l:List Ent)(O:StOk steps l)(step:Nm)(at_:Int)(hbl:(lB steps tries (upL l at_)).bs.length≤12) :
 cA X iM [EB steps tries,eB l,AS step,AI at_] h K=K (.tup [TA (BK steps tries l step at_).1,AI (BK steps tries l step at_).2]) h []:=by
 refine uA ?_;rw[zf0 rfl];have q1:=fun h K=>zpa (h:=h) (K:=K) steps tries l O step at_
 have q3:=fun h K=>TP (h:=h) (K:=K) l at_ (by have:=O.l;omega)
 unfold BK;by_cases h0:iG steps tries l step at_=0
 case neg=>
  rw[if_pos h0];simp only[ZR,go_sem,↓q1,q1,h0];first|done|rfl
 rw[if_neg (by simp [h0])]
 have hf:=zpR h0
 have q4:=fun h K=>OP (h:=h) (K:=K) steps tries O.n (II hf) (upL l at_) (EE O at_).l
 obtain⟨I,_⟩:=bK tries (II hf) (fun x hx=>((EE O at_).e x hx).s)
 generalize (upL l at_).length=n at I;generalize lB steps tries (upL l at_)=F at *;obtain⟨g,hg⟩:∃g,h++[Obj.box [TA steps,AI tries]]=g:=⟨_,rfl⟩;have gl:g.length=h.length+1:=by rw[←hg];simp
 have q5:=fun K=>q4 (h++[Obj.box [TA steps,AI tries]]) K
 have q6:∀K,cA X FC [EB steps tries,eB (upL l at_)] (h++[Obj.box [TA steps,AI tries]]) K=K (.ref (g.length+7) 0) (FS g (flB steps tries) steps tries F []) (XB g F.bs.length):=fun K=>by rw[q5,hg]
 have ex:∀y∈XB g F.bs.length,h.length≤y.1:=fun y hy=>by have:=(pH hy).1;omega
 have q7:=fun K=>zoL (h:=g) (K:=K) (flB steps tries) steps tries F I.nb hbl step
 simp only[ZR,go_sem,↓q1,q1,h0,↓q3,q3,↓q6,q6,↓q7,q7];rw[tK (v:=.tup [TA (jE F.bs step),AI 0]) ex (by simp [MA,fD,dB]) (by simp [AV.top,AV.tops])]
 refine⟨rfl,?_,rfl⟩;rw[←hg];unfold FS FH;rw[List.append_assoc,List.take_left]
end Go.Am
end
section
/- Each board is in one state,each site runs at most one: plainly. -/
open Go
set_option linter.all false
set_option maxRecDepth 100000
namespace Go.Am
structure BoI (S:Flo) (N:List Nm):Prop where
 st:∀e∈S.bs,1≤e.2.state∧e.2.state≤5
 nm:∀e∈S.bs,e.1.board∈N
theorem boI0 (N:List Nm):BoI yH N:=⟨fun e he=>(by cases he),fun e he=>(by cases he)⟩
theorem BoI.put {S S':Flo}{N:List Nm}(I:BoI S N){i:Nat}{e:Ent × Sta}(he:S.bs[i]?=some e){s:Sta}(hs:1≤s.state∧s.state≤5)(hb:S'.bs=S.bs.set i (e.1,s)):BoI S' N where
 st y hy:=by
  rw[hb]at hy;rcases bT hy with h|h
  ·exact I.st y h
  ·rw[h];exact hs
 nm y hy:=by
  rw[hb]at hy;rcases bT hy with h|h
  ·exact I.nm y h
  ·rw[h];exact I.nm e (List.mem_of_getElem? he)
theorem zpW (steps:List Nm)(tries:Int)(s:Sta)(t:Int)(p:Bool):1≤(sC steps tries s t p).state∧(sC steps tries s t p).state≤5:=by
 unfold sC;split
 ·split
  ·exact⟨(by dsimp only;omega),(by dsimp only;omega)⟩
  ·exact⟨(by dsimp only;omega),(by dsimp only;omega)⟩
 ·dsimp only
  split <;> exact⟨by omega,by omega⟩
theorem zdQ {S:Flo}{N:List Nm}(I:BoI S N)(steps:List Nm)(tries:Int){x:Ent}(hx:x.kind=1→x.board∈N):BoI (S.act steps tries x).2 N:=by
 unfold Flo.act;split
 ·split
  ·rename_i hk
   refine⟨fun e he=>?_,fun e he=>?_⟩
   ·rcases List.mem_append.1 he with h|h
    ·exact I.st e h
    ·rw[List.mem_singleton]at h;rw[h];exact⟨(by dsimp only;omega),(by dsimp only;omega)⟩
   ·rcases List.mem_append.1 he with h|h
    ·exact I.nm e h
    ·rw[List.mem_singleton]at h;rw[h];exact hx hk
  ·exact I
 ·rename_i i hi
  split
  ·exact I
  ·rename_i e he
   split
   ·exact I
   ·unfold Flo.old Flo.startR Flo.finishR
    repeat' split
    all_goals first
     | exact I
     | exact I.put he (s:=⟨2,x.time,e.2.step,x.site,e.2.failed⟩) ⟨(by dsimp only;omega),(by dsimp only;omega)⟩ rfl
     | exact I.put he (zpW steps tries e.2 x.time (decide (x.kind=3))) rfl
     | exact I.put he (s:=⟨1,x.time,e.2.step,e.2.site,e.2.failed⟩) ⟨(by dsimp only;omega),(by dsimp only;omega)⟩ rfl
     | exact I.put he (s:=⟨5,x.time,e.2.step,[],e.2.failed⟩) ⟨(by dsimp only;omega),(by dsimp only;omega)⟩ rfl
     | exact I.put he (s:=⟨5,x.time,e.2.step,e.2.site,e.2.failed⟩) ⟨(by dsimp only;omega),(by dsimp only;omega)⟩ rfl
theorem zdR {S:Flo}{N:List Nm}(I:BoI S N)(steps:List Nm)(tries:Int)(i:Nat){x:Ent}(hx:x.kind=1→x.board∈N):BoI (S.step steps tries i x) N:=by
 have J:=zdQ I steps tries hx
 unfold Flo.step;split
 ·exact⟨J.st,J.nm⟩
 ·exact J
theorem fX (steps:List Nm)(tries:Int)(N:List Nm):∀(l:List (Ent×Bool)) (S:Flo) (i:Nat),BoI S N→(∀y∈l,y.1.kind=1→y.1.board∈N)→BoI (Flo.go steps tries S i l) N
 | [],S,i,I,_=>I
 | (x,c)::r,S,i,I,hx=>by
  have e1:Flo.go steps tries S i ((x,c)::r)=if c=false∨x.kind=7 then Flo.go steps tries S (i+1) r else Flo.go steps tries (S.step steps tries i x) (i+1) r:=rfl
  rw[e1];have hr:=fun y hy=>hx y (List.mem_cons_of_mem (x,c) hy)
  split
  ·exact fX steps tries N r S (i+1) I hr
  ·exact fX steps tries N r _ (i+1) (zdR I steps tries i (hx (x,c) (List.mem_cons_self ..))) hr
theorem z7g (steps:List Nm)(tries:Int)(N:List Nm){l:List Ent}(hl:∀ x∈l,x.kind=1→x.board∈N):BoI (lB steps tries l) N:=
 fX steps tries N (WC l) yH 0 (boI0 N) (fun y hy=>hl y.1 (List.of_mem_zip hy).1)
theorem z9l {F:Flo}{s k:Nm}(hk:k≠[]∨(nA (asS F.sm) s).isSome=true):(s,k)∈SE F↔nA (asS F.sm) s=some k:=by
 unfold SE;rw[List.mem_map];constructor
 ·rintro⟨y,hy,e⟩
  simp only[Prod.mk.injEq]at e;obtain⟨rfl,e⟩:=e;have hy2:y∈F.sm.map fun e=>e.1.1:=(List.mergeSort_perm _ _).mem_iff.1 hy
  cases h:nA (asS F.sm) y with
  | some v=>rw[h]at e;rw[←e];rfl
  | none=>
   exfalso;obtain⟨z,hz,rfl⟩:=List.mem_map.1 hy2;unfold nA asS at h;rw[Option.map_eq_none_iff,List.find?_eq_none]at h;exact h z.1 (List.mem_map_of_mem hz) (by simp)
 ·intro h
  refine⟨s,(List.mergeSort_perm _ _).mem_iff.2 ?_,by rw[h];rfl⟩
  obtain⟨z,hz,e⟩:=List.mem_map.1 (JI h);rw[List.mem_map];exact⟨z,hz,by rw[e]⟩
theorem z77:∀ {bs:bB},(bs.map fun e=>e.1.board).Nodup→∀{e:Ent×Sta},e∈bs→nA (asA bs) e.1.board=some e.2
 | [],_,e,h=>by cases h
 | y::r,hu,e,h=>by
  rw[List.map_cons,List.nodup_cons]at hu;unfold asA;rw[List.map_cons,iF];rcases List.mem_cons.1 h with h|h
  ·rw[h,if_pos rfl]
  ·have:¬y.1.board=e.1.board:=fun q=>hu.1 (by rw[q];exact List.mem_map_of_mem h)
   rw[if_neg this];exact z77 hu.2 h
theorem oZ {bs:bB}{k:Nm}{st:Sta}(h:nA (asA bs) k=some st):∃e∈bs,e.1.board=k∧e.2=st:=by
 obtain⟨e,he,h2⟩:=List.mem_map.1 (JI h);simp only[Prod.mk.injEq]at h2;exact⟨e,he,h2⟩
def b4N:List Nm:=[[98,49],[98,50],[98,51],[98,52]]
theorem zpD {l:List Nm}(h:l.Nodup):(SH l).Pairwise fun a b=>a<b:=by
 have tr:∀a b c:Nm,decide (a≤b)=true→decide (b≤c)=true→decide (a≤c)=true:=fun a b c h1 h2=>by simp only[decide_eq_true_eq]at *;exact List.le_trans h1 h2
 have tot:∀a b:Nm,(decide (a≤b)||decide (b≤a))=true:=fun a b=>by simp only[Bool.or_eq_true,decide_eq_true_eq];exact List.le_total a b
 have h1:=List.pairwise_mergeSort tr tot l
 have h2:(SH l).Nodup:=((List.mergeSort_perm l _).nodup_iff).2 h
 refine(h1.and h2).imp fun {a b} ⟨q1,q2⟩=>?_
 simp only[decide_eq_true_eq]at q1;rcases List.le_iff_lt_or_eq.1 q1 with q|q
 ·exact q
 ·exact absurd q q2
structure Boo (F:Flo) (steps:List Nm):Prop where
 fl:∃n,FlI F steps n
 bo:BoI F b4N
 iv:∃q,Inv F.P q
theorem Boo.len {F:Flo}{steps:List Nm}(B:Boo F steps):F.bs.length≤4:=by
 obtain⟨n,I⟩:=B.fl;have:=I.nb.length_le_of_subset (l₂:=b4N) (fun k hk=>by obtain⟨e,he,rfl⟩:=List.mem_map.1 hk;exact B.bo.nm e he)
 rw[List.length_map]at this;exact this
theorem Boo.st {F:Flo}{steps:List Nm}(B:Boo F steps){k:Nm}{st:Sta}(h:nA (asA F.bs) k=some st):1≤st.state∧st.state≤5:=by
 obtain⟨e,he,_,e2⟩:=oZ h;rw[←e2];exact B.bo.st e he
theorem Boo.step {F:Flo}{steps:List Nm}(B:Boo F steps){k:Nm}{st:Sta}(h:nA (asA F.bs) k=some st)(h1:st.state=1):st.step∈steps:=by
 obtain⟨n,I⟩:=B.fl;obtain⟨e,he,_,e2⟩:=oZ h;rw[←e2];exact I.st e he (.inl (by rw[e2];exact h1))
theorem Boo.runs {F:Flo}{steps:List Nm}(B:Boo F steps){k:Nm}{st:Sta}(hk:k≠[])(h:nA (asA F.bs) k=some st):(st.site,k)∈SE F↔st.state=2:=by
 obtain⟨q,I⟩:=B.iv;rw[z9l (.inl hk)];have:=I.sts st.site k;show nA (asS F.sm) st.site=some k↔_
 rw[show nA (asS F.sm) st.site=nA F.P.sites st.site from rfl,this]
 constructor
 ·rintro⟨s2,h2,h3,_⟩
  have:nA F.P.bs k=some st:=h
  rw[this]at h2;cases h2;exact h3
 ·intro h2
  exact⟨st,h,h2,rfl⟩
end Go.Am
end
section
/- The reference's floor,plainly: which entries count,what is followed. -/
open Go
set_option linter.all false
namespace Go.Am
def cD (l:List Ent)(at_:Int)(i:Nat):Bool:=(ZA (upL l at_)).getD i false
theorem z4e {U:List Ent}{i:Nat}(h:U.length≤i):(ZA U).getD i false=false:=by
 rw[List.getD_eq_getElem?_getD,List.getElem?_eq_none (by rw[aF];exact h)];rfl
theorem zfX (U:List Ent)(i:Nat)(hi:i<U.length):(ZA U).getD i false = !(((U.drop (i+1)).zip (ZA (U.drop (i+1)))).any fun y=>y.2&&TH y.1 U[i]):=by
 have h1:=uX U i
 rw[List.drop_eq_getElem_cons hi,ZA]at h1;have h2:=congrArg (fun l=>l[0]?) h1
 simp only[List.getElem?_drop,Nat.add_zero,List.getElem?_cons_zero]at h2;rw[List.getD_eq_getElem?_getD,h2];rfl
theorem zgf (U:List Ent){i:Nat}(hi:i<U.length):(ZA U).getD i false=true↔∀k (hk:k<U.length),i<k→((ZA U).getD k false&&TH U[k] U[i])=false:=by
 rw[zfX U i hi,Bool.not_eq_true',List.any_eq_false,←uX];have hz:(U.drop (i+1)).zip ((ZA U).drop (i+1))=(WC U).drop (i+1):=by
  unfold WC List.zip;rw[List.drop_zipWith]
 rw[hz];have cg:∀k (hk:k<U.length),(ZA U).getD k false=(ZA U)[k]'(by rw[aF];exact hk):=fun k hk=>by
  rw[List.getD_eq_getElem?_getD,List.getElem?_eq_getElem (by rw[aF];exact hk)];rfl
 constructor
 ·intro h k hk hik
  have hm:(U[k],(ZA U)[k]'(by rw[aF];exact hk))∈(WC U).drop (i+1):=by
   rw[List.mem_drop_iff_getElem];refine⟨k-(i+1),by rw[gJ];omega,?_⟩
   have e:i+1+(k-(i+1))=k:=by omega
   rw[←TU hk];congr 1
  have:=h _ hm;rw[cg k hk];simpa using this
 ·intro h y hy
  rw[List.mem_drop_iff_getElem]at hy;obtain⟨j,hj,e⟩:=hy;rw[gJ]at hj;have hk:i+1+j<U.length:=by omega
  rw[TU hk]at e;have:=h (i+1+j) hk (by omega)
  rw[cg _ hk]at this;rw[←e];simpa using this
theorem LU (l:List Ent)(at_:Int):∀n,n≤l.length→upK l at_ n≤n∧(∀i (hi:i<l.length),upK l at_ n≤i→i<n→at_<l[i].time)∧(∀h:upK l at_ n-1<l.length,upK l at_ n≠0→l[upK l at_ n-1].time≤at_)
 | 0,_=>⟨Nat.le_refl _,fun i _ _ h=>by omega,fun _ h=>absurd rfl h⟩
 | n+1,hn=>by
  obtain⟨h1,h2,h3⟩:=LU l at_ n (by omega)
  have hlt:n<l.length:=by omega
  have e:((l[n]?).map Ent.time).getD 0=l[n].time:=by rw[List.getElem?_eq_getElem hlt];rfl
  by_cases c:at_<l[n].time
  ·have eu:upK l at_ (n+1)=upK l at_ n:=by unfold upK;rw[e,if_pos c];cases n <;> rfl
   rw[eu];refine⟨by omega,fun i hi g1 g2=>?_,h3⟩
   by_cases hin:i=n
   ·subst hin;exact c
   ·exact h2 i hi g1 (by omega)
  ·have eu:upK l at_ (n+1)=n+1:=by unfold upK;rw[e,if_neg c]
   rw[eu];exact⟨Nat.le_refl _,fun i _ g1 g2=>by omega,fun _ _=>by simpa using Int.not_lt.1 c⟩
theorem z9W (l:List Ent)(at_:Int):(upL l at_).length=upK l at_ l.length:=by
 unfold upL;rw[List.length_take];have:=(LU l at_ l.length (Nat.le_refl _)).1;omega
theorem cQ (l:List Ent)(at_:Int):(upL l at_).length≤l.length:=by rw[z9W];exact(LU l at_ l.length (Nat.le_refl _)).1
theorem z0S {l:List Ent}{at_:Int}{i:Nat}(hi:i<(upL l at_).length):(upL l at_)[i]=l[i]'(Nat.lt_of_lt_of_le hi (cQ l at_)):=by
 exact List.getElem_take
theorem z9X {l:List Ent}(hs:l.Pairwise fun a b=>a.time≤b.time)(at_:Int)(i:Nat)(hi:i<l.length):i<(upL l at_).length↔l[i].time≤at_:=by
 obtain⟨h1,h2,h3⟩:=LU l at_ l.length (Nat.le_refl _);rw[z9W];constructor
 ·intro h
  have hb:upK l at_ l.length-1<l.length:=by omega
  have h4:=h3 hb (by omega)
  by_cases e:i=upK l at_ l.length-1
  ·subst e;exact h4
  ·have:=List.pairwise_iff_getElem.1 hs i (upK l at_ l.length-1) hi hb (by omega)
   omega
 ·intro h
  rcases Nat.lt_or_ge i (upK l at_ l.length) with g|g
  ·exact g
  ·have:=h2 i hi g hi;omega
def LI (l:List Ent)(at_:Int):List Nat:=(List.range l.length).filter (cD l at_)
def stQ (steps:List Nm)(tries:Int)(a:AllQ)(i:Nat)(x:Ent):AllQ:=
 if(doQ steps tries a.w x).2≠0 then⟨(doQ steps tries a.w x).1,a.ref++[i],a.why++[(doQ steps tries a.w x).2]⟩ else⟨(doQ steps tries a.w x).1,a.ref,a.why⟩
def xE (steps:List Nm)(tries:Int)(l:List Ent)(is:List Nat)(a:AllQ):AllQ:=is.foldl (fun a i=>stQ steps tries a i (l.getD i nH)) a
def GF:AllQ:=⟨⟨[],[]⟩,[],[]⟩
def tC (steps:List Nm)(tries:Int)(U:List Ent):AllQ:=goQ steps tries GF 0 (WC U)
theorem z7B (steps:List Nm)(tries:Int)(U:List Ent):∀(m n:Nat) (a:AllQ),n+m=U.length→goQ steps tries a n ((WC U).drop n)=xE steps tries U ((List.range' n m).filter fun i=>(ZA U).getD i false) a
 | 0,n,a,h=>by
  rw[List.drop_of_length_le (by rw[gJ];omega)];rfl
 | m+1,n,a,h=>by
  have hn:n<U.length:=by omega
  have ih:=z7B steps tries U m (n+1)
  have hc:n<(ZA U).length:=by rw[aF];exact hn
  have cg:(ZA U).getD n false=(ZA U)[n]:=by rw[List.getD_eq_getElem?_getD,List.getElem?_eq_getElem hc];rfl
  have ug:U.getD n nH=U[n]:=by rw[List.getD_eq_getElem?_getD,List.getElem?_eq_getElem hn];rfl
  rw[List.drop_eq_getElem_cons (by rw[gJ];exact hn),TU hn,List.range'_succ,List.filter_cons,cg]
  unfold goQ;cases (ZA U)[n]with
  | false=>rw[if_pos rfl,if_neg (by simp)];exact ih _ (by omega)
  | true=>
   rw[if_neg (by simp),if_pos rfl]
   refine(ih _ (by omega)).trans ?_
   show _=xE steps tries U (_::_) a
   unfold xE;rw[List.foldl_cons,ug];rfl
theorem z7I (l:List Ent)(at_:Int):LI l at_=(List.range' 0 (upL l at_).length).filter fun i=>(ZA (upL l at_)).getD i false:=by
 unfold LI;have hl:=cQ l at_
 have e:List.range l.length=List.range' 0 (upL l at_).length++List.range' (upL l at_).length (l.length-(upL l at_).length):=by
  have:=List.range'_append_1 (s:=0) (m:=(upL l at_).length) (n:=l.length-(upL l at_).length);rw[Nat.zero_add]at this;rw[List.range_eq_range',this];congr 1;omega
 rw[e,List.filter_append];have e2:(List.range' (upL l at_).length (l.length-(upL l at_).length)).filter (cD l at_)=[]:=by
  rw[List.filter_eq_nil_iff];intro i hi;rw[List.mem_range'_1]at hi;unfold cD;rw[z4e hi.1];simp
 rw[e2,List.append_nil];rfl
theorem z7H {l:List Ent}{at_:Int}{i:Nat}(h:i∈LI l at_):i<(upL l at_).length:=by
 rw[z7I]at h;have:=(List.mem_filter.1 h).1;rw[List.mem_range'_1]at this;omega
theorem zkY (steps:List Nm)(tries:Int)(l:List Ent)(at_:Int):xE steps tries l (LI l at_) GF=tC steps tries (upL l at_):=by
 have h1:=z7B steps tries (upL l at_) (upL l at_).length 0 GF (by omega)
 rw[List.drop_zero]at h1;unfold tC;rw[h1,←z7I];unfold xE;have:∀(is:List Nat) (a:AllQ),(∀i∈is,i<(upL l at_).length)→is.foldl (fun a i=>stQ steps tries a i (l.getD i nH)) a=is.foldl (fun a i=>stQ steps tries a i ((upL l at_).getD i nH)) a:=by
  intro is;induction is with
  | nil=>intro a _;rfl
  | cons i r ih=>
   intro a h;have hi:=h i (List.mem_cons_self ..)
   have e:l.getD i nH=(upL l at_).getD i nH:=by
    rw[List.getD_eq_getElem?_getD,List.getD_eq_getElem?_getD,List.getElem?_eq_getElem hi,List.getElem?_eq_getElem (Nat.lt_of_lt_of_le hi (cQ l at_)),z0S hi]
   rw[List.foldl_cons,List.foldl_cons,e];exact ih _ fun j hj=>h j (List.mem_cons_of_mem _ hj)
 exact this _ _ fun i hi=>z7H hi
theorem BS (steps:List Nm)(tries:Int)(h0:steps≠[]):∀(l:List (Ent×Bool)) (S:Flo) (i n:Nat) (a:AllP),FlI S steps n→S.P=a.w→S.ref=a.ref.map (fun(j:Nat)=>(j:Int))→S.why=a.why →
 (Flo.go steps tries S i l).P=(goP steps tries a i l).w∧(Flo.go steps tries S i l).ref=(goP steps tries a i l).ref.map (fun(j:Nat)=>(j:Int))∧(Flo.go steps tries S i l).why=(goP steps tries a i l).why
 | [],S,i,n,a,I,h1,h2,h3=>⟨h1,h2,h3⟩
 | (x,c)::r,S,i,n,a,I,h1,h2,h3=>by
  have e1:Flo.go steps tries S i ((x,c)::r)=if c=false∨x.kind=7 then Flo.go steps tries S (i+1) r else Flo.go steps tries (S.step steps tries i x) (i+1) r:=rfl
  rw[e1];unfold goP;by_cases hs:c=false∨x.kind=7
  ·rw[if_pos hs,if_pos hs]
   exact BS steps tries h0 r S (i+1) (n+1) a I.up h1 h2 h3
  ·rw[if_neg hs,if_neg hs]
   obtain⟨s1,s2,s3,s4⟩:=z0J (tries:=tries) I h0 i x;rw[h1]at s2 s3 s4;by_cases hz:(mD steps tries a.w x).2≠0
   ·rw[if_pos hz]at s3 s4 ⊢
    exact BS steps tries h0 r _ (i+1) (n+1) _ s1 s2 (by rw[s3,h2];simp) (by rw[s4,h3])
   ·rw[if_neg hz]at s3 s4 ⊢
    exact BS steps tries h0 r _ (i+1) (n+1) _ s1 s2 (by rw[s3,h2]) (by rw[s4,h3])
structure Both (F:Flo) (q:AllQ):Prop where
 inv:Inv F.P q.w
 ref:F.ref=q.ref.map (fun(j:Nat)=>(j:Int))
 why:F.why=q.why
theorem qE (steps:List Nm)(tries:Int)(h0:steps≠[]){U:List Ent}(hf:∀ x∈U,WB x=0):Both (lB steps tries U) (tC steps tries U):=by
 obtain⟨p1,p2,p3⟩:=BS steps tries h0 (WC U) yH 0 0 ⟨⟨[],[],[],[]⟩,[],[]⟩ (flI0 steps) rfl rfl rfl;obtain⟨i1,i2,i3⟩:=MO steps tries (WC U) ⟨⟨[],[],[],[]⟩,[],[]⟩ GF 0 (fun y hy=>z6i (hf y.1 (List.of_mem_zip hy).1)) inv0 rfl rfl
 exact⟨by rw[p1];exact i1,by rw[p2,i2];rfl,by rw[p3,i3];rfl⟩
def PB {β:Type}(m:List (Nm × β)):List Nm:=m.map (·.1)
theorem z9Y {β:Type}{k:Nm}{v:β}:∀{m:List (Nm×β)},(PB m).Nodup→LC k v m=JA m k v
 | [],_=>rfl
 | e::r,hu=>by
  unfold PB at hu;rw[List.map_cons,List.nodup_cons]at hu;have ih:=z9Y (k:=k) (v:=v) hu.2
  unfold LC;by_cases h:k=e.1
  ·rw[if_pos h]
   unfold JA;rw[if_pos (by simp [h])]
   simp only[List.map_cons];rw[if_pos h.symm];congr 1
   conv=>lhs;rw[←List.map_id r]
   apply List.map_congr_left
   intro z hz;have:¬z.1=k:=fun q=>hu.1 (by rw[←h,←q];exact List.mem_map_of_mem hz)
   rw[if_neg this];rfl
  ·have hn:¬e.1=k:=fun z=>h z.symm
   rw[if_neg h,ih];unfold JA;simp only[List.any_cons,decide_eq_false hn,Bool.false_or,List.map_cons,if_neg hn];split <;> rfl
theorem z8L {β:Type}(m:List (Nm × β))(k:Nm)(v:β):PB (JA m k v)=if k∈PB m then PB m else PB m++[k]:=by
 have hk:m.any (fun e=>decide (e.1=k))=decide (k∈PB m):=by
  rw[Bool.eq_iff_iff,List.any_eq_true,decide_eq_true_eq];unfold PB;rw[List.mem_map];simp
 unfold JA;rw[hk];by_cases h:k∈PB m
 ·rw[if_pos (by simp [h]),if_pos h]
  unfold PB;rw[List.map_map];apply List.map_congr_left
  intro e _;simp only[Function.comp];split
  ·rename_i q;exact q.symm
  ·rfl
 ·rw[if_neg (by simp [h]),if_neg h]
  unfold PB;simp
theorem znH {β:Type}{m:List (Nm × β)}(h:(PB m).Nodup)(k:Nm)(v:β):(PB (JA m k v)).Nodup:=by
 rw[z8L];split
 ·exact h
 ·rename_i hk
  rw[List.nodup_append];exact⟨h,by simp,fun a ha b hb=>by rw[List.mem_singleton]at hb;subst hb;exact fun e=>hk (e ▸ ha)⟩
theorem GS {β:Type}{k:Nm}:∀(m:List (Nm×β)),xB k m=nA m k
 | []=>rfl
 | e::r=>by
  unfold xB;rw[iF,GS r];by_cases h:k=e.1
  ·rw[if_pos h,if_pos h.symm]
  ·rw[if_neg h,if_neg fun z=>h z.symm]
end Go.Am
end
section
/- The reference: which entries count. -/
open Go
set_option linter.all false
set_option maxRecDepth 100000
namespace Go.Am
variable {h:aA} {K:lA}
attribute [-go_sem] nB QA oB TB IC JC splice
set_option maxHeartbeats 4000000 in
theorem z91 (l:List Ent)(hl:l.length≤1000000)(hs:l.Pairwise fun a b=>a.time≤b.time)(at_:Int):∀(m i:Nat) (h:aA) (K:lA),i<l.length→l.length-i≤m →
 cA X CI [eB l,AI i,AI at_] h K=K (AB (cD l at_ i)) h []
 | 0,i,h,K,hi,hm=>by omega
 | m+1,i,h,K,hi,hm=>by
  have IH:=fun(k:Nat) h K (h1:i<k) (h2:k<l.length)=>z91 l hl hs at_ m k h K h2 (by omega)
  refine uA ?_;rw[zeJ rfl];have hgi:=GB Ent.pv hi
  have i0:VA none 0 (Ent.pv l[i])=some (.str l[i].site):=rfl
  have i1:VA none 1 (Ent.pv l[i])=some (eI l[i].no):=rfl
  have i2:VA none 2 (Ent.pv l[i])=some (eI l[i].time):=rfl
  have up:=z9X hs at_ i hi
  have wi:IntKind.i64.wrap ((i:Int)+1)=((i+1:Nat):Int):=CA _ (by omega) (by omega)
  by_cases ht:at_<l[i].time
  ·have e:cD l at_ i=false:=by unfold cD;rw[z4e (by omega)]
   rw[e];simp only[oO,go_sem,hi,hgi,i2,ht]
  ·have hu:i<(upL l at_).length:=up.2 (by omega)
   have ci:=zgf (upL l at_) hu
   simp only[oO,go_sem,hi,hgi,i2,ht,wi];refine UA (fun k:Nat=>⟨[(0,eB l),(1,AI i),(2,AI at_),(7,AI k)],h,[]⟩) (fun k=>i<k∧k≤l.length∧∀j (hj:j<(upL l at_).length),i<j→j<k→((ZA (upL l at_)).getD j false&&TH (upL l at_)[j] (upL l at_)[i])=false) (fun k=>l.length-k) (i+1) rfl ⟨by omega,by omega,fun j _ h1 h2=>by omega⟩ ?_
   rintro k ⟨hik,hk,hp⟩
   have fin:(∀j (hj:j<(upL l at_).length),i<j→¬j<k→False)→cD l at_ i=true:=fun hx=>ci.2 fun j hj hij=>by
    by_cases hjk:j<k
    ·exact hp j hj hij hjk
    ·exact(hx j hj hij hjk).elim
   rcases Nat.lt_or_ge k l.length with hlt|hge
   ·have hgk:=GB Ent.pv hlt
    have k2:VA none 2 (Ent.pv l[k])=some (eI l[k].time):=rfl
    have k3:VA none 3 (Ent.pv l[k])=some (eI l[k].kind):=rfl
    have k6:VA none 6 (Ent.pv l[k])=some (.str l[k].of):=rfl
    have k7:VA none 7 (Ent.pv l[k])=some (eI l[k].other):=rfl
    have wk:IntKind.i64.wrap ((k:Int)+1)=((k+1:Nat):Int):=CA _ (by omega) (by omega)
    have upk:=z9X hs at_ k hlt
    have IHk:=fun h K=>IH k h K hik hlt
    by_cases tk:l[k].time≤at_
    ·have huk:k<(upL l at_).length:=upk.2 tk
     have gk:=z0S huk
     have gi:=z0S hu
     have next:((ZA (upL l at_)).getD k false&&TH (upL l at_)[k] (upL l at_)[i])=false→∀j (hj:j<(upL l at_).length),i<j→j<k+1→((ZA (upL l at_)).getD j false&&TH (upL l at_)[j] (upL l at_)[i])=false:=fun e j hj h1 h2=>by
      by_cases ejk:j=k
      ·subst ejk;exact e
      ·exact hp j hj h1 (by omega)
     have un:TH (upL l at_)[k] (upL l at_)[i]=(decide (l[k].kind=7)&&decide (l[k].of=l[i].site)&&decide (l[k].other=l[i].no)):=by rw[gk,gi];rfl
     rw[un]at next;by_cases c1:l[k].kind=7
     ·by_cases c2:l[k].of=l[i].site
      ·by_cases c3:l[k].other=l[i].no
       ·cases c4:cD l at_ k with
        | true=>
         have e:cD l at_ i=false:=by
          cases hc:cD l at_ i with
          | false=>rfl
          | true=>
           have:=ci.1 hc k huk hik;rw[un]at this;unfold cD at c4;rw[c4,decide_eq_true c1,decide_eq_true c2,decide_eq_true c3]at this;cases this
         rw[c4]at IHk;rw[e];simp only[go_sem,hlt,hi,hgk,hgi,i0,i1,k2,k3,k6,k7,tk,eq_true c1,eq_true c2,eq_true c3,↓IHk,IHk]
        | false=>
         rw[c4]at IHk;simp only[go_sem,hlt,hi,hgk,hgi,i0,i1,k2,k3,k6,k7,tk,eq_true c1,eq_true c2,eq_true c3,↓IHk,IHk,wk];exact⟨k+1,rfl,⟨by omega,by omega,next (by unfold cD at c4;rw[c4];rfl)⟩,by omega⟩
       ·simp only[go_sem,hlt,hi,hgk,hgi,i0,i1,k2,k3,k6,k7,tk,eq_true c1,eq_true c2,c3,wk]
        exact⟨k+1,rfl,⟨by omega,by omega,next (by rw[decide_eq_false c3];simp)⟩,by omega⟩
      ·simp only[go_sem,hlt,hi,hgk,hgi,i0,i1,k2,k3,k6,k7,tk,eq_true c1,c2,wk]
       exact⟨k+1,rfl,⟨by omega,by omega,next (by rw[decide_eq_false c2];simp)⟩,by omega⟩
     ·simp only[go_sem,hlt,hi,hgk,hgi,i0,i1,k2,k3,k6,k7,tk,c1,wk]
      exact⟨k+1,rfl,⟨by omega,by omega,next (by rw[decide_eq_false c1];simp)⟩,by omega⟩
    ·have e:cD l at_ i=true:=fin fun j hj h1 h2=>tk (upk.1 (by omega))
     rw[e];simp only[go_sem,hlt,hi,hgk,hgi,k2,tk]
   ·have ek:k=l.length:=by omega
    subst ek;have c0:¬(l.length:Int)<(l.length:Int):=by omega
    have e:cD l at_ i=true:=fin fun j hj h1 h2=>by have:=cQ l at_;omega
    rw[e];simp only[go_sem,Nat.lt_irrefl,c0]
def zE (l:List Ent)(at_:Int)(k:Nat):List Nat:=(List.range k).filter (cD l at_)
theorem zl1 (l:List Ent)(at_:Int)(k:Nat):zE l at_ (k+1)=zE l at_ k++if cD l at_ k=true then [k] else []:=by
 unfold zE;rw[List.range_succ,List.filter_append,List.filter_cons,List.filter_nil]
theorem z7G (l:List Ent)(at_:Int)(k:Nat):(zE l at_ k).length≤k:=by
 unfold zE;have:=List.length_filter_le (cD l at_) (List.range k);rw[List.length_range]at this;exact this
set_option maxHeartbeats 4000000 in
theorem zop (l:List Ent)(hl:l.length≤1000000)(hs:l.Pairwise fun a b=>a.time≤b.time)(at_:Int) :
 cA X tL [eB l,AI at_] h K=K (AL ((LI l at_).map fun(i:Nat)=>(i:Int))) h []:=by
 refine uA ?_;rw[ze3 rfl];have cl:(l.map Ent.pv).length=l.length:=List.length_map ..
 simp only[qR,go_sem,cl];refine UA (fun k:Nat=>⟨[(0,eB l),(1,AI at_),(5,.own h.length (zE l at_ k).length 0 (zE l at_ k).length),(8,AI l.length),(9,AI k)],h++[.row none ((zE l at_ k).map fun(i:Nat)=>eI (i:Int)) 0],[]⟩) (fun k=>k≤l.length) (fun k=>l.length-k) 0 rfl (by omega) ?_
 intro k hk;rcases Nat.lt_or_ge k l.length with hlt|hge
 ·have hc:(k:Int)<(l.length:Int):=by omega
  have wk:IntKind.i64.wrap ((k:Int)+1)=((k+1:Nat):Int):=CA _ (by omega) (by omega)
  have C:=fun h K=>z91 l hl hs at_ l.length k h K hlt (by omega)
  have hx:=zl1 l at_ k
  have hle:=z7G l at_ k
  have ml:((zE l at_ k).map fun(i:Nat)=>eI (i:Int)).length=(zE l at_ k).length:=List.length_map ..
  have m1:(zE l at_ k).length+1≤cB:=by unfold cB;omega
  cases hcn:cD l at_ k with
  | true=>
   rw[hcn]at C;rw[hcn,if_pos rfl]at hx;simp only[go_sem,hc,hlt,↓C,C,wk,m1,ml];refine⟨k+1,?_,by omega,by omega⟩
   rw[hx];simp
  | false=>
   rw[hcn]at C;rw[hcn,if_neg (by simp),List.append_nil]at hx
   simp only[go_sem,hc,hlt,↓C,C,wk,m1,ml];refine⟨k+1,?_,by omega,by omega⟩
   rw[hx]
 ·have ek:k=l.length:=by omega
  subst ek;have c0:¬(l.length:Int)<(l.length:Int):=by omega
  have wf:win ((zE l at_ l.length).map fun(i:Nat)=>eI (i:Int)) 0 (zE l at_ l.length).length=(zE l at_ l.length).map fun(i:Nat)=>eI (i:Int):=pF (by simp)
  simp only[go_sem,c0,Nat.lt_irrefl,wf];rw[AL,List.map_map];rfl
end Go.Am
end
section
/- The reference's floor: its memory;runs that end. -/
open Go
set_option linter.all false
set_option maxRecDepth 100000
namespace Go.Am
variable {h:aA} {K:lA}
def QH (h:aA)(o0 o1 o2 o3 o4 o5:Obj)(l:aA):aA:=h++o0::o1::o2::o3::o4::o5::l
section
variable {o0 o1 o2 o3 o4 o5 o:Obj} {l l2:aA}
theorem fV:(QH h o0 o1 o2 o3 o4 o5 l).length=h.length+(6+l.length):=by unfold QH;simp;omega
theorem z3c:QH h o0 o1 o2 o3 o4 o5 l++l2=QH h o0 o1 o2 o3 o4 o5 (l++l2):=by unfold QH;simp
theorem XH (n:Nat):(QH h o0 o1 o2 o3 o4 o5 l)[h.length+n]?=(o0::o1::o2::o3::o4::o5::l)[n]?:=by unfold QH;rw[List.getElem?_append_right (by omega)];simp
theorem mJ (n:Nat):(QH h o0 o1 o2 o3 o4 o5 l).set (h.length+n) o=h++(o0::o1::o2::o3::o4::o5::l).set n o:=by unfold QH;rw[List.set_append_right _ _ (by omega)];simp
theorem QH_g2:(QH h o0 o1 o2 o3 o4 o5 l)[h.length+2]?=some o2:=XH 2
theorem QH_g5:(QH h o0 o1 o2 o3 o4 o5 l)[h.length+5]?=some o5:=XH 5
theorem QH_s2:(QH h o0 o1 o2 o3 o4 o5 l).set (h.length+2) o=QH h o0 o1 o o3 o4 o5 l:=mJ 2
theorem WN (n:Nat):(QH h o0 o1 o2 o3 o4 o5 l)[h.length+(6+n)]?=l[n]?:=by rw[XH,show 6+n=n+6 by omega];rfl
theorem iQ (n:Nat):(QH h o0 o1 o2 o3 o4 o5 l).set (h.length+(6+n)) o=QH h o0 o1 o2 o3 o4 o5 (l.set n o):=by rw[mJ,show 6+n=n+6 by omega];rfl
theorem jQ (n:Nat):(QH h o0 o1 o2 o3 o4 o5 l).take (h.length+(6+n))=QH h o0 o1 o2 o3 o4 o5 (l.take n):=by
 unfold QH;rw[show h.length+(6+n)=h.length+(n+6) by omega,List.take_append,List.take_of_length_le (by omega)]
 congr 1
 simp
end
attribute [-go_sem] nB QA oB TB splice
attribute [local go_sem] fV z3c QH_g2 QH_g5 QH_s2
def RanQ.pv (r:RanQ):PV:=.agg [.str r.board,.str r.site,.str r.step,eI r.frm,eI r.til,.bool r.pass]
def aB (s:Sta):AV:=.p s.pv
def ZD (n:Nat):PV:=eI (n:Int)
abbrev qbx (h:aA)(steps:List Nm)(tries:Int)(a b c:Nat):Obj:=.box [TA steps,AI tries,.mp (h.length+1),.own (h.length+2) a 0 a,.own (h.length+3) b 0 b,.own (h.length+4) c 0 c]
def QS (h:aA)(fb:Obj)(steps:List Nm)(tries:Int)(a:AllQ)(l:aA):aA:=
 QH h fb (vA PV.str aB a.w.bs) (.row (some 6) (a.w.runs.map RanQ.pv) 0) (.row none (a.ref.map ZD) 0) (.row none (a.why.map eI) 0) (qbx h steps tries a.w.runs.length a.ref.length a.why.length) l
section
variable {α:Type}
def xC (f:α→α)(l:List α)(k:Nat):List α:=(l.take k).map f++l.drop k
theorem z8n (f:α→α)(l:List α):xC f l 0=l:=by simp [xC]
theorem zZ (f:α→α)(l:List α)(k:Nat):(xC f l k).length=l.length:=by simp [xC];omega
theorem z8o (f:α→α)(l:List α):xC f l l.length=l.map f:=by
 unfold xC;rw[List.take_length,List.drop_length,List.append_nil]
theorem yZ {f:α→α}{l:List α}{k:Nat}(hk:k<l.length):(xC f l k)[k]?=some l[k]:=by
 unfold xC;rw[List.getElem?_append_right (by simp;omega)]
 have:k-((l.take k).map f).length=0:=by simp;omega
 rw[this,List.getElem?_drop];simp [hk]
theorem AZ {f:α→α}{l:List α}{k:Nat}(hk:k<l.length):xC f l (k+1)=(xC f l k).set k (f l[k]):=by
 unfold xC;rw[List.take_succ_eq_append_getElem hk,List.map_append,List.set_append_right _ _ (by simp;omega)]
 have:k-((l.take k).map f).length=0:=by simp;omega
 rw[this,List.drop_eq_getElem_cons (i:=k) hk,List.append_assoc];rfl
theorem z8p {f:α→α}{l:List α}{k:Nat}(hk:k<l.length)(e:f l[k]=l[k]):xC f l (k+1)=xC f l k:=by
 rw[AZ hk,e];apply List.ext_getElem?
 intro i;rw[List.getElem?_set];split
 ·rename_i hi;subst hi
  rw[zZ,if_pos hk,yZ hk]
 ·rfl
end
def tE (board:Nm)(at_:Int)(ps:Bool)(r:RanQ):RanQ:=if r.board=board∧r.til<0 then { r with til:=at_,pass:=ps } else r
def BE (board:Nm)(at_:Int)(r:RanQ):RanQ:=if r.board=board∧r.til<0 then { r with til:=at_,board:=[] } else r
set_option maxHeartbeats 4000000 in
theorem zoH (fb:Obj)(steps:List Nm)(tries:Int)(a:AllQ)(l:aA)(hr:a.w.runs.length≤1000000)(board:Nm)(at_:Int)(ps:Bool) :
 cA X HL [.ref (h.length+5) 0,AS board,AI at_,AB ps] (QS h fb steps tries a l) K=K (.tup []) (QS h fb steps tries { a with w:={ a.w with runs:=QD a.w.runs board at_ ps } } l) []:=by
 refine uA ?_;rw[zeM rfl];obtain⟨⟨bs,runs⟩,ref,why⟩:=a;dsimp only at hr ⊢;unfold QS;dsimp only;simp only[xR,go_sem];refine UA (fun k:Nat=>⟨[(0,.ref (h.length+5) 0),(1,AS board),(2,AI at_),(3,AB ps),(13,AI runs.length),(14,AI k)],
  QH h fb (vA PV.str aB bs) (.row (some 6) ((xC (tE board at_ ps) runs k).map RanQ.pv) 0) (.row none (ref.map ZD) 0) (.row none (why.map eI) 0) (qbx h steps tries runs.length ref.length why.length) l,[]⟩) (fun k=>k≤runs.length) (fun k=>runs.length-k) 0 (by rw[z8n];rfl) (by omega) ?_
 intro k hk;rcases Nat.lt_or_ge k runs.length with hlt|hge
 ·have w1:IntKind.i64.wrap ((k:Int)+1)=((k+1:Nat):Int):=CA _ (by omega) (by omega)
  have hl:=zZ (tE board at_ ps) runs k
  have hg:((xC (tE board at_ ps) runs k).map RanQ.pv)[k]?=some (RanQ.pv runs[k]):=by rw[List.getElem?_map,yZ hlt];rfl
  have hs1:=AZ (f:=tE board at_ ps) hlt
  have hs2:=fun e=>z8p (f:=tE board at_ ps) hlt e
  have hl2:((xC (tE board at_ ps) runs k).map RanQ.pv).length=runs.length:=by rw[List.length_map,hl]
  generalize runs[k]=r at *;have c0:VA none 0 (RanQ.pv r)=some (.str r.board):=rfl
  have c4:VA none 4 (RanQ.pv r)=some (eI r.til):=rfl
  by_cases h1:r.board=board
  ·by_cases h2:r.til<0
   ·have e1:tE board at_ ps r=⟨r.board,r.site,r.step,r.frm,at_,ps⟩:=by unfold tE;rw[if_pos ⟨h1,h2⟩]
    rw[e1]at hs1;have fp:RanQ.pv r = .agg [.str r.board,.str r.site,.str r.step,eI r.frm,eI r.til,.bool r.pass]:=rfl
    rw[fp]at hg c0 c4;have g2:∀v:PV,(((xC (tE board at_ ps) runs k).map RanQ.pv).set k v)[k]?=some v:=fun v=>by rw[List.getElem?_set];simp [hl2,hlt]
    simp only[go_sem,hlt,hl,hl2,hg,g2,c0,c4,h1,h2,w1,splice,List.set_set,List.length_set];refine⟨k+1,?_,by omega,by omega⟩
    rw[hs1,List.map_set,←h1];rfl
   ·have e1:tE board at_ ps r=r:=by unfold tE;rw[if_neg (by intro z;exact h2 z.2)]
    simp only[go_sem,hlt,hl,hl2,hg,c0,c4,h1,h2,w1];exact⟨k+1,by rw[hs2 e1],by omega,by omega⟩
  ·have e1:tE board at_ ps r=r:=by unfold tE;rw[if_neg (by intro z;exact h1 z.1)]
   simp only[go_sem,hlt,hl,hl2,hg,c0,c4,h1,w1];exact⟨k+1,by rw[hs2 e1],by omega,by omega⟩
 ·have ek:k=runs.length:=by omega
  subst ek;have cl:(QD runs board at_ ps).length=runs.length:=by simp [QD]
  have ca:xC (tE board at_ ps) runs runs.length=QD runs board at_ ps:=z8o _ _
  simp only[go_sem,Nat.lt_irrefl,ca,cl];exact List.take_of_length_le (by rw[fV];exact Nat.le_refl _)
set_option maxHeartbeats 4000000 in
theorem zoV (fb:Obj)(steps:List Nm)(tries:Int)(a:AllQ)(l:aA)(hr:a.w.runs.length≤1000000)(x:Ent) :
 cA X JL [.ref (h.length+5) 0,.p x.pv] (QS h fb steps tries a l) K=K (.tup []) (QS h fb steps tries { a with w:={ a.w with runs:=cE a.w.runs x.board x.time } } l) []:=by
 refine uA ?_;rw[zeP rfl];obtain⟨⟨bs,runs⟩,ref,why⟩:=a;obtain⟨x1,x2,x3,x4,x5,x6,x7,x8⟩:=x;dsimp only at hr ⊢;unfold QS;dsimp only;have gt:=fun(o0 o1 o2 o3 o4 o5:Obj) (b:Obj)=>WN (h:=h) (o0:=o0) (o1:=o1) (o2:=o2) (o3:=o3) (o4:=o4) (o5:=o5) (l:=l++[b]) l.length
 simp only[List.getElem?_append_right (Nat.le_refl l.length),Nat.sub_self,List.getElem?_cons_zero]at gt;have tk:=fun(o0 o1 o2 o3 o4 o5:Obj) (b:aA)=>jQ (h:=h) (o0:=o0) (o1:=o1) (o2:=o2) (o3:=o3) (o4:=o4) (o5:=o5) (l:=l++b) l.length
 simp only[List.take_left]at tk;simp only[AR,go_sem,Ent.pv];refine UA (fun k:Nat=>⟨[(0,.ref (h.length+5) 0),(3,.ref (h.length+(6+l.length)) 0),(9,AI runs.length),(10,AI k)],
  QH h fb (vA PV.str aB bs) (.row (some 6) ((xC (BE x5 x3) runs k).map RanQ.pv) 0) (.row none (ref.map ZD) 0) (.row none (why.map eI) 0) (qbx h steps tries runs.length ref.length why.length) (l++[.box [AS x1,AI x2,AI x3,AI x4,AS x5,AS x6,AS x7,AI x8]]),[]⟩) (fun k=>k≤runs.length) (fun k=>runs.length-k) 0 (by rw[z8n];rfl) (by omega) ?_
 intro k hk;rcases Nat.lt_or_ge k runs.length with hlt|hge
 ·have w1:IntKind.i64.wrap ((k:Int)+1)=((k+1:Nat):Int):=CA _ (by omega) (by omega)
  have hl:=zZ (BE x5 x3) runs k
  have hg:((xC (BE x5 x3) runs k).map RanQ.pv)[k]?=some (RanQ.pv runs[k]):=by rw[List.getElem?_map,yZ hlt];rfl
  have hs1:=AZ (f:=BE x5 x3) hlt
  have hs2:=fun e=>z8p (f:=BE x5 x3) hlt e
  have hl2:((xC (BE x5 x3) runs k).map RanQ.pv).length=runs.length:=by rw[List.length_map,hl]
  generalize runs[k]=r at *;have c0:VA none 0 (RanQ.pv r)=some (.str r.board):=rfl
  have c4:VA none 4 (RanQ.pv r)=some (eI r.til):=rfl
  by_cases h1:r.board=x5
  ·by_cases h2:r.til<0
   ·have e1:BE x5 x3 r=⟨[],r.site,r.step,r.frm,x3,r.pass⟩:=by unfold BE;rw[if_pos ⟨h1,h2⟩]
    rw[e1]at hs1;have fp:RanQ.pv r = .agg [.str r.board,.str r.site,.str r.step,eI r.frm,eI r.til,.bool r.pass]:=rfl
    rw[fp]at hg c0 c4;have g2:∀v:PV,(((xC (BE x5 x3) runs k).map RanQ.pv).set k v)[k]?=some v:=fun v=>by rw[List.getElem?_set];simp [hl2,hlt]
    simp only[go_sem,hlt,hl,hl2,hg,g2,c0,c4,h1,h2,w1,gt,splice,List.set_set,List.length_set];refine⟨k+1,?_,by omega,by omega⟩
    rw[hs1,List.map_set];rfl
   ·have e1:BE x5 x3 r=r:=by unfold BE;rw[if_neg (by intro z;exact h2 z.2)]
    simp only[go_sem,hlt,hl,hl2,hg,c0,c4,h1,h2,w1,gt];exact⟨k+1,by rw[hs2 e1],by omega,by omega⟩
  ·have e1:BE x5 x3 r=r:=by unfold BE;rw[if_neg (by intro z;exact h1 z.1)]
   simp only[go_sem,hlt,hl,hl2,hg,c0,c4,h1,w1,gt];exact⟨k+1,by rw[hs2 e1],by omega,by omega⟩
 ·have ek:k=runs.length:=by omega
  subst ek;have cl:(cE runs x5 x3).length=runs.length:=by simp [cE]
  have ca:xC (BE x5 x3) runs runs.length=cE runs x5 x3:=z8o _ _
  simp only[go_sem,Nat.lt_irrefl,ca,cl,tk];first|done|trace_state
end Go.Am
end
section
/- What the reference says of its floor,plainly: names,who waits,who runs,how many. -/
open Go
set_option linter.all false
namespace Go.Am
section
variable {α:Type}
def jK (c1 c2:α→α→Int)(a b:α):Prop:=c1 a b<0∨(c1 a b=0∧c2 a b<0)
theorem z7M {c1 c2:α→α→Int}(o:Ordr c1)(x:α):∀r:List α,r.Pairwise (fun a b=>jK c1 c2 b a)→(∀y∈r,c2 y x<0)→(BB (ltO c1) x r).Pairwise (fun a b=>jK c1 c2 b a)
 | [],_,_=>by simp [BB]
 | y::r,h,hx=>by
  rw[List.pairwise_cons]at h;unfold BB;cases hc:ltO c1 x y with
  | true=>
   have hc':c1 x y<0:=by simpa [ltO] using hc
   rw[cond_true,List.pairwise_cons];refine⟨fun z hz=>?_,z7M o x r h.2 fun z hz=>hx z (List.mem_cons_of_mem _ hz)⟩
   rcases List.mem_cons.1 ((QO (ltO c1) x r).mem_iff.1 hz) with rfl|hz
   ·exact .inl hc'
   ·exact h.1 z hz
  | false=>
   have hc':¬c1 x y<0:=by simpa [ltO] using hc
   have hy:c1 y x≤0:=by have:=o.neg x y;omega
   have key:∀z,c1 z x≤0→c2 z x<0→jK c1 c2 z x:=fun z g1 g2=>by
    by_cases e:c1 z x=0
    ·exact .inr ⟨e,g2⟩
    ·exact .inl (by omega)
   rw[cond_false,List.pairwise_cons,List.pairwise_cons];refine⟨fun z hz=>?_,h⟩
   rcases List.mem_cons.1 hz with rfl|hz
   ·exact key _ hy (hx _ (List.mem_cons_self ..))
   ·refine key z (o.trans z y x ?_ hy) (hx z (List.mem_cons_of_mem _ hz))
    rcases h.1 z hz with g|⟨g,_⟩ <;> omega
theorem z7R {c1 c2:α→α→Int}(o:Ordr c1):∀l r:List α,r.Pairwise (fun a b=>jK c1 c2 b a)→(∀y∈r,∀x∈l,c2 y x<0)→lI c2 l→(l.foldl (fun r x=>BB (ltO c1) x r) r).Pairwise (fun a b=>jK c1 c2 b a)
 | [],r,h,_,_=>h
 | x::l,r,h,h2,h3=>by
  unfold lI at h3;rw[List.pairwise_cons]at h3;rw[List.foldl_cons];refine z7R o l _ (z7M o x r h fun y hy=>h2 y hy x (List.mem_cons_self ..)) (fun y hy z hz=>?_) h3.2
  rcases List.mem_cons.1 ((QO (ltO c1) x r).mem_iff.1 hy) with rfl|hy
  ·exact h3.1 z hz
  ·exact h2 y hy z (List.mem_cons_of_mem _ hz)
theorem zpP {c1 c2:α→α→Int}(o:Ordr c1){l:List α}(h:lI c2 l):(kB (ltO c1) l).Pairwise (jK c1 c2):=by
 unfold kB;rw[List.pairwise_reverse];exact z7R o l [] .nil (fun y hy=>(by cases hy)) h
end
def JB (bs:List (Nm × Sta)):List Nm:=kB ltS (PB bs)
theorem zno {bs:List (Nm × Sta)}(hu:(PB bs).Nodup){ns:List Nm}(hp:ns.Perm (PB bs)):kB ltS ns=JB bs:=by
 unfold JB;rw[z8l];refine YP BM (zK BM ((hp.nodup_iff.2 hu).imp fun {a b} h hc=>h (xD hc))) (zK BM (hu.imp fun {a b} h hc=>h (xD hc))) fun x=>?_
 rw[PI,PI,hp.mem_iff]
theorem z8x {bs:List (Nm × Sta)}(hu:(PB bs).Nodup):lI EA (JB bs):=by
 unfold JB;rw[z8l];exact zK BM (hu.imp fun {a b} h hc=>h (xD hc))
theorem EZ {bs:List (Nm × Sta)}{k:Nm}:k∈JB bs↔(nA bs k).isSome=true:=by
 unfold JB;rw[PI];constructor
 ·intro h
  cases hg:nA bs k with
  | some v=>rfl
  | none=>
   exfalso;obtain⟨e,he,rfl⟩:=List.mem_map.1 h;unfold nA at hg;rw[Option.map_eq_none_iff,List.find?_eq_none]at hg;exact hg e he (by simp)
 ·intro h
  obtain⟨v,hv⟩:=Option.isSome_iff_exists.1 h;exact List.mem_map_of_mem (f:=fun e:Nm×Sta=>e.1) (JI hv)
def gB (bs:List (Nm × Sta))(k:Nm):Sta:=(nA bs k).getD fE
def sinC (bs:List (Nm × Sta))(a b:Nm):Int:=sB (gB bs a).since (gB bs b).since
def UE (bs:List (Nm × Sta))(step k:Nm):Bool:=decide ((gB bs k).state=1)&&decide ((gB bs k).step=step)
def ON (bs:List (Nm × Sta))(step:Nm):List Nm:=kB (ltO (sinC bs)) ((JB bs).filter (UE bs step))
theorem ord3:Ordr sB where
 neg a b:=sX a b
 trans a b d h1 h2:=by
  unfold sB at *;split at h1 <;> split at h2 <;> split <;> (try split) <;> (try split at h1) <;> (try split at h2) <;> omega
theorem zn3 (bs:List (Nm × Sta)):Ordr (sinC bs):=⟨fun a b=>ord3.neg _ _,fun a b d h1 h2=>ord3.trans _ _ _ h1 h2⟩
theorem z9G (bs:bB)(k:Nm):cC bs k=(gB (asA bs) k).since:=by
 unfold cC gB;cases nA (asA bs) k <;> rfl
theorem uZ (bs:bB):PB (asA bs)=bs.map fun e=>e.1.board:=by unfold PB asA;rw[List.map_map];rfl
theorem zq8 {bs:bB}(hu:(bs.map fun e=>e.1.board).Nodup)(step:Nm):ON (asA bs) step=jE bs step:=by
 have hk:(PB (asA bs)).Nodup:=by rw[uZ];exact hu
 have hn:(JG bs step).Nodup:=hu.sublist (List.filter_sublist.map _)
 have ne:∀{a b:Nm},a≠b→¬LF bs a b=0:=fun {a b} hab hc=>by
  rw[QK]at hc;split at hc
  ·omega
  ·split at hc
   ·omega
   ·exact hab (xD hc)
 refine YP (mP bs) ?_ (zK (mP bs) (hn.imp ne)) fun k=>?_
 ·have h1:=zpP (c2:=EA) (zn3 (asA bs)) (l:=(JB (asA bs)).filter (UE (asA bs) step)) (List.Pairwise.sublist List.filter_sublist (z8x hk))
  refine h1.imp fun {a b} h=>?_
  rw[QK,z9G,z9G];unfold jK sinC sB at h;split
  ·decide
  ·rename_i g
   rw[if_neg g]at h;by_cases e:(gB (asA bs) a).since=(gB (asA bs) b).since
   ·rw[if_pos e]at h
    rw[if_neg (by omega)]
    rcases h with h|⟨_,h⟩
    ·omega
    ·exact h
   ·rw[if_neg e]at h
    omega
 ·rw[zae]
  unfold ON JG;rw[PI,List.mem_filter,EZ,List.mem_map];constructor
  ·rintro⟨h1,h2⟩
   obtain⟨st,hg⟩:=Option.isSome_iff_exists.1 h1;obtain⟨e,he,e1,e2⟩:=oZ hg;refine⟨e,List.mem_filter.2 ⟨he,?_⟩,e1⟩;unfold UE gB at h2;rw[hg]at h2;unfold UH;rw[e2];exact h2
  ·rintro⟨e,he,rfl⟩
   rw[List.mem_filter]at he;have hg:=z77 hu he.1
   refine⟨by rw[hg];rfl,?_⟩
   unfold UE gB;rw[hg];exact he.2
def tX (a b:Nm × Nm):Int:=EA a.1 b.1
theorem z8A:Ordr tX:=⟨fun a b=>BM.neg _ _,fun a b d h1 h2=>BM.trans _ _ _ h1 h2⟩
def mF (bs:List (Nm × Sta)):List (Nm×Nm):=((JB bs).filter fun k=>decide ((gB bs k).state=2)).map fun k=>((gB bs k).site,k)
def xK (bs:List (Nm × Sta)):List (Nm×Nm):=kB (ltO tX) (mF bs)
theorem z8d:∀ a b:Nm,Op.bytesLess a b=decide (a<b)
 | [],[]=>by simp [Op.bytesLess]
 | [],_::_=>by simp [Op.bytesLess]
 | _::_,[]=>by simp [Op.bytesLess]
 | a::x,b::y=>by
  have ih:=z8d x y
  unfold Op.bytesLess;rw[ih,Bool.eq_iff_iff];simp [List.cons_lt_cons_iff]
theorem znb {a b:Nm}(h:a<b):EA a b<0:=by
 have h1:=z8d a b
 rw[iX,decide_eq_true h]at h1;unfold ltS at h1;simpa using h1
theorem z06 {bs:List (Nm × Sta)}{s k:Nm}:(s,k)∈mF bs↔HG bs k s:=by
 unfold mF HG;rw[List.mem_map];constructor
 ·rintro⟨y,hy,e⟩
  simp only[Prod.mk.injEq]at e;obtain⟨e1,rfl⟩:=e;rw[List.mem_filter,EZ]at hy;obtain⟨st,hg⟩:=Option.isSome_iff_exists.1 hy.1;have hs:gB bs y=st:=by unfold gB;rw[hg];rfl
  rw[hs]at hy e1;exact⟨st,hg,by simpa using hy.2,e1⟩
 ·rintro⟨st,hg,h2,rfl⟩
  have hs:gB bs k=st:=by unfold gB;rw[hg];rfl
  refine⟨k,List.mem_filter.2 ⟨EZ.2 (by rw[hg];rfl),?_⟩,?_⟩
  ·rw[hs];simp [h2]
  ·rw[hs]
theorem zol {F:Flo}{q:FlQ}(I:Inv F.P q)(hs:(F.sm.map fun e=>e.1.1).Nodup)(hk:(PB q.bs).Nodup):xK q.bs=SE F:=by
 have hI:=I.sts
 have hb:F.P.bs=q.bs:=I.bs
 have nd:(mF q.bs).Pairwise fun x y=>tX x y≠0:=by
  have h1:((JB q.bs).filter fun k=>decide ((gB q.bs k).state=2)).Pairwise fun a b=>EA a b<0:=List.Pairwise.sublist List.filter_sublist (z8x hk)
  unfold mF;rw[List.pairwise_map];refine List.Pairwise.imp_of_mem (fun {a b} ha hb' h hc=>?_) h1
  have e:(gB q.bs a).site=(gB q.bs b).site:=xD hc
  have ra:HG q.bs a (gB q.bs a).site:=z06.1 (List.mem_map.2 ⟨a,ha,rfl⟩)
  have rb:HG q.bs b (gB q.bs b).site:=z06.1 (List.mem_map.2 ⟨b,hb',rfl⟩)
  rw[←hb]at ra rb;have u1:=(hI _ a).2 ra
  have u2:=(hI _ b).2 rb
  rw[hb]at u1 u2;rw[e,u2]at u1;have:=Option.some.inj u1;rw[this,iO]at h;omega
 unfold xK;refine YP z8A (zK z8A nd) ?_ fun x=>?_
 ·have h1:=zpD hs
  unfold SE lI;rw[List.pairwise_map];exact h1.imp fun {a b} h=>znb h
 ·obtain⟨s,k⟩:=x
  rw[PI,z06,←hb,←hI s k];show nA (asS F.sm) s=some k↔_
  cases hg:nA (asS F.sm) s with
  | some v=>
   rw[←hg];exact(z9l (.inr (by rw[hg];rfl))).symm
  | none=>
   constructor
   ·intro h;cases h
   ·intro h
    exfalso;unfold SE at h;obtain⟨y,hy,e⟩:=List.mem_map.1 h;simp only[Prod.mk.injEq]at e;obtain⟨rfl,_⟩:=e;have hy2:y∈F.sm.map fun e=>e.1.1:=(List.mergeSort_perm _ _).mem_iff.1 hy
    obtain⟨z,hz,rfl⟩:=List.mem_map.1 hy2;unfold nA asS at hg;rw[Option.map_eq_none_iff,List.find?_eq_none]at hg;exact hg z.1 (List.mem_map_of_mem hz) (by simp)
def yJ (bs:List (Nm × Sta))(s:Int):Nat:=(bs.filter fun e=>decide (e.2.state=s)).length
theorem zgb (bs:bB)(s:Int):yJ (asA bs) s=sG bs s:=by
 unfold yJ sG asA;rw[List.filter_map,List.length_map];rfl
def RD (bs:List (Nm × Sta)):List (Nm×Nm):=(List.range 5).map fun k=>(kE.getD k [],itoa (yJ bs ((k+1:Nat):Int)))
theorem zgh (bs:bB):RD (asA bs)=yD bs:=by
 unfold RD yD;simp only[zgb]
end Go.Am
end
section
/- The reference's floor: what an end makes of a board;who runs at a site. -/
open Go
set_option linter.all false
set_option maxRecDepth 100000
namespace Go.Am
variable {h:aA} {K:lA}
def QL (h:aA)(o0 o1 o2 o3 o4 o5:Obj)(l r:aA):aA:=QH h o0 o1 o2 o3 o4 o5 (l++r)
section
variable {o0 o1 o2 o3 o4 o5 o:Obj} {l r l2:aA}
theorem nG:(QL h o0 o1 o2 o3 o4 o5 l r).length=h.length+(6+(l.length+r.length)):=by unfold QL;rw[fV,List.length_append]
theorem EF:QL h o0 o1 o2 o3 o4 o5 l r++l2=QL h o0 o1 o2 o3 o4 o5 l (r++l2):=by unfold QL;rw[z3c,List.append_assoc]
theorem zC:(QL h o0 o1 o2 o3 o4 o5 l r)[h.length+1]?=some o1:=XH 1
theorem YH:(QL h o0 o1 o2 o3 o4 o5 l r)[h.length+2]?=some o2:=XH 2
theorem ZH:(QL h o0 o1 o2 o3 o4 o5 l r)[h.length+3]?=some o3:=XH 3
theorem aI:(QL h o0 o1 o2 o3 o4 o5 l r)[h.length+4]?=some o4:=XH 4
theorem aH:(QL h o0 o1 o2 o3 o4 o5 l r)[h.length+5]?=some o5:=XH 5
theorem bH:(QL h o0 o1 o2 o3 o4 o5 l r).set (h.length+1) o=QL h o0 o o2 o3 o4 o5 l r:=mJ 1
theorem bI:(QL h o0 o1 o2 o3 o4 o5 l r).set (h.length+2) o=QL h o0 o1 o o3 o4 o5 l r:=mJ 2
theorem dI:(QL h o0 o1 o2 o3 o4 o5 l r).set (h.length+3) o=QL h o0 o1 o2 o o4 o5 l r:=mJ 3
theorem fI:(QL h o0 o1 o2 o3 o4 o5 l r).set (h.length+4) o=QL h o0 o1 o2 o3 o o5 l r:=mJ 4
theorem gI:(QL h o0 o1 o2 o3 o4 o5 l r).set (h.length+5) o=QL h o0 o1 o2 o3 o4 o l r:=mJ 5
theorem z3d (n:Nat):(QL h o0 o1 o2 o3 o4 o5 l r)[h.length+(6+(l.length+n))]?=r[n]?:=by
 unfold QL;rw[WN,List.getElem?_append_right (by omega)];congr 1;omega
theorem z3g (n:Nat):(QL h o0 o1 o2 o3 o4 o5 l r).set (h.length+(6+(l.length+n))) o=QL h o0 o1 o2 o3 o4 o5 l (r.set n o):=by
 unfold QL;rw[iQ,List.set_append_right _ _ (by omega)];congr 2;congr 1;omega
theorem jV (n:Nat):(QL h o0 o1 o2 o3 o4 o5 l r).take (h.length+(6+(l.length+n)))=QL h o0 o1 o2 o3 o4 o5 l (r.take n):=by
 unfold QL;rw[jQ,List.take_append,List.take_of_length_le (by omega)];congr 2;congr 1;omega
theorem iI:(QL h o0 o1 o2 o3 o4 o5 l r)[h.length+(6+l.length)]?=r[0]?:=z3d 0
theorem nJ:(QL h o0 o1 o2 o3 o4 o5 l r)[h.length+(6+(l.length+1))]?=r[1]?:=z3d 1
theorem jI:(QL h o0 o1 o2 o3 o4 o5 l r).set (h.length+(6+l.length)) o=QL h o0 o1 o2 o3 o4 o5 l (r.set 0 o):=z3g 0
theorem oJ:(QL h o0 o1 o2 o3 o4 o5 l r).set (h.length+(6+(l.length+1))) o=QL h o0 o1 o2 o3 o4 o5 l (r.set 1 o):=z3g 1
theorem XN:(QL h o0 o1 o2 o3 o4 o5 l r).take (h.length+(6+l.length))=QL h o0 o1 o2 o3 o4 o5 l []:=jV 0
theorem HK:(QL h o0 o1 o2 o3 o4 o5 l r).take (h.length+(6+(l.length+1)))=QL h o0 o1 o2 o3 o4 o5 l (r.take 1):=jV 1
theorem YN:(QL h o0 o1 o2 o3 o4 o5 l r).take (h.length+(6+(l.length+2)))=QL h o0 o1 o2 o3 o4 o5 l (r.take 2):=jV 2
end
attribute [-go_sem] nB QA oB TB IC JC splice
attribute [local go_sem] List.getElem?_cons_zero List.getElem?_cons_succ List.set_cons_zero List.set_cons_succ
attribute [local go_sem] nG EF zC YH ZH aI aH bH bI dI fI gI iI nJ jI oJ XN HK YN
set_option maxHeartbeats 4000000 in
theorem zoD (fb o1 o2 o3 o4:Obj)(a b c:Nat)(steps:List Nm)(tries:Int)(hst:steps.length≤1000)(l r:aA)(s:Sta)(hs:s.step∈steps)(hf:0≤s.failed∧s.failed≤1000000)(at_:Int)(ps:Bool) :
 cA X EL [.ref (h.length+5) 0,.p s.pv,AI at_,AB ps] (QL h fb o1 o2 o3 o4 (qbx h steps tries a b c) l r) K=K (.p (sC steps tries s at_ ps).pv) (QL h fb o1 o2 o3 o4 (qbx h steps tries a b c) l r) []:=by
 refine uA ?_;rw[zeK rfl];have ol:∀r2:aA,QL h fb o1 o2 o3 o4 (qbx h steps tries a b c) l (r++r2)=QL h fb o1 o2 o3 o4 (qbx h steps tries a b c) (l++r) r2:=fun r2=>by unfold QL;rw[List.append_assoc]
 have e0:=ol []
 rw[List.append_nil]at e0;rw[e0];generalize l++r=l at *;obtain⟨s1,s2,s3,s4,s5⟩:=s;dsimp only at hs hf;obtain⟨j,hj⟩:∃j,steps.findIdx (fun y=>decide (y=s3))=j:=⟨_,rfl⟩
 have jl:j<steps.length:=by rw[←hj];exact List.findIdx_lt_length_of_exists ⟨s3,hs,by simp⟩
 have q:=fun h K=>eV (h:=h) (K:=K) steps (KN _) s3 (by omega)
 rw[hj,if_pos jl]at q;have w1:IntKind.i64.wrap ((j:Int)+1)=((j+1:Nat):Int):=CA _ (by omega) (by omega)
 have w5:IntKind.i64.wrap (s5+1)=s5+1:=CA _ (by omega) (by omega)
 unfold sC;rw[hj];cases ps with
 | true=>
  rw[if_pos rfl];by_cases hl:j+1=steps.length
  ·rw[if_pos hl]
   have hl':((j+1:Nat):Int)=(steps.length:Int):=by omega
   simp only[EJ,Sta.pv,go_sem,splice,↓q,q,w1,eq_true hl'];first|done|trace_state
  ·rw[if_neg hl]
   have hl':¬((j+1:Nat):Int)=(steps.length:Int):=by omega
   have hlt:j+1<steps.length:=by omega
   have gs:=GB PV.str hlt
   have cw:∀v:List UInt8,VA none 0 (PV.str v)=some (PV.str v):=fun _=>rfl
   have gd:(steps[j+1]?).getD []=steps[j+1]:=by rw[List.getElem?_eq_getElem hlt];rfl
   rw[gd];simp only[EJ,Sta.pv,go_sem,splice,↓q,q,w1,hl',gs,cw,hlt];first|done|trace_state
 | false=>
  rw[if_neg (by simp)]
  by_cases ht:s5+1=tries
  ·rw[if_pos ht]
   simp only[EJ,Sta.pv,go_sem,splice,w5,eq_true ht];first|done|trace_state
  ·rw[if_neg ht]
   simp only[EJ,Sta.pv,go_sem,splice,w5,ht];first|done|trace_state
def fC (s:Nm)(e:Nm × Sta):Bool:=decide (e.2.state=2)&&decide (e.2.site=s)
def dG (bs:List (Nm × Sta))(s:Nm):Nm:=((bs.find? (fC s)).map (·.1)).getD []
theorem z9a {bs:List (Nm × Sta)}{s:Nm}(hu:∀ e∈bs,∀ f∈bs,fC s e=true→fC s f=true→e.1=f.1){e:Nm × Sta}(he:e∈bs)(hr:fC s e=true):dG bs s=e.1:=by
 unfold dG;cases hf:bs.find? (fC s) with
 | none=>rw[List.find?_eq_none]at hf;exact absurd hr (hf e he)
 | some f=>
  have h1:=List.mem_of_find?_eq_some hf
  have h2:fC s f=true:=List.find?_some hf
  exact hu f h1 e he h2 hr
theorem zoi {bs:List (Nm × Sta)}{s:Nm}(h:∀ e∈bs,fC s e=false):dG bs s=[]:=by
 unfold dG;rw[List.find?_eq_none.2 fun e he=>by rw[h e he];simp]
 rfl
set_option maxHeartbeats 4000000 in
theorem zoS (fb o2 o3 o4 o5:Obj)(bs:List (Nm × Sta))(steps:List Nm)(tries:Int)(a b c:Nat)(l r:aA)(s:Nm)(hu:∀ e∈bs,∀ f∈bs,fC s e=true→fC s f=true→e.1=f.1) :
 cA X IL [.ref (h.length+5) 0,AS s] (QL h fb (vA PV.str aB bs) o2 o3 o4 (qbx h steps tries a b c) l r) K=K (AS (dG bs s)) (QL h fb (vA PV.str aB bs) o2 o3 o4 (qbx h steps tries a b c) l r) []:=by
 refine uA ?_;rw[zeO rfl];have ol:∀r2:aA,QL h fb (vA PV.str aB bs) o2 o3 o4 (qbx h steps tries a b c) l (r++r2)=QL h fb (vA PV.str aB bs) o2 o3 o4 (qbx h steps tries a b c) (l++r) r2:=fun r2=>by unfold QL;rw[List.append_assoc]
 have e0:=ol []
 rw[List.append_nil]at e0;rw[e0];generalize l++r=l at *;simp only[zR];refine⟨_,_,_,⟨rfl,rfl,rfl⟩,?_⟩;have mr:=fP (h:=QL h fb (vA PV.str aB bs) o2 o3 o4 (qbx h steps tries a b c) l []) (id:=h.length+1) (key:=PV.str) (val:=aB) (l:=bs) zC
 rw[nG,EF]at mr;simp only[List.length_nil,Nat.add_zero]at mr;simp only[go_sem,mr];refine UA (fun t:List Nat×Option Nm=>⟨match t.2 with
  | none=>[(1,AS s),(11,.it (h.length+(6+l.length)))]
  | some nm=>[(1,AS s),(5,AS nm),(11,.it (h.length+(6+l.length))),(25,AB false)],
  QL h fb (vA PV.str aB bs) o2 o3 o4 (qbx h steps tries a b c) l [.iter (some (h.length+1)) bs.length t.1 bs.length],[]⟩)
  (fun t=>t.1.Nodup∧(∀i∈t.1,i<bs.length)∧∀i (hi:i<bs.length),i∈t.1→fC s bs[i]=false) (fun t=>bs.length-t.1.length) ([],none) rfl ⟨List.nodup_nil,by simp,by simp⟩ ?_
 rintro⟨seen,on⟩ ⟨hd,hb,hn⟩
 dsimp only at hd hb hn;have f0:h.length+(6+l.length)+1≤h.length+(6+(l.length+1)):=by omega
 rcases on with _|nm
 all_goals
  simp only[go_sem];refine kP (key:=PV.str) (val:=aB) (l:=bs) (m:=h.length+1) (seen:=seen) (by rw[iI];rfl) zC ?_ ?_
  ·intro hall
   have hk:dG bs s=[]:=zoi fun e he=>by
    obtain⟨i,hi,rfl⟩:=List.mem_iff_getElem.1 he;exact hn i hi (hall i hi)
   rw[hk];simp only[go_sem,jI]
  ·intro i hi hni
   have hnn:(seen++[i]).Nodup:=by rw[List.nodup_append];exact⟨hd,by simp,fun a ha b hb=>by rw[List.mem_singleton]at hb;subst hb;intro e;subst e;exact hni ha⟩
   have hbb:∀x∈seen++[i],x<bs.length:=fun x hx=>by
    rcases List.mem_append.1 hx with hx|hx
    ·exact hb x hx
    ·rw[List.mem_singleton]at hx;rw[hx];exact hi
   have hlen:seen.length<bs.length:=by
    have h2:=hnn.length_le_of_subset (l₂:=List.range bs.length) (fun x hx=>by rw[List.mem_range];exact hbb x hx)
    simp at h2;omega
   have me:=ZO (h:=QL h fb (vA PV.str aB bs) o2 o3 o4 (qbx h steps tries a b c) l [.iter (some (h.length+1)) bs.length (seen++[i]) bs.length]) (j:=h.length+(6+l.length)) (m:=h.length+1) (key:=PV.str) (val:=aB) (l:=bs) (seen:=seen) (i:=i) (by rw[iI];rfl) zC (by omega)
   have hm:bs[i]∈bs:=List.getElem_mem hi
   have hnx:fC s bs[i]=false→∀k (hk:k<bs.length),k∈seen++[i]→fC s bs[k]=false:=fun e k hk hx=>by
    rcases List.mem_append.1 hx with hx|hx
    ·exact hn k hk hx
    ·rw[List.mem_singleton]at hx;subst hx;exact e
   rw[jI,List.set_cons_zero];generalize bs[i]=e at *;obtain⟨ek,e1,e2,e3,e4,e5⟩:=e;have sv:aB ⟨e1,e2,e3,e4,e5⟩ = .p (.agg [eI e1,eI e2,.str e3,.str e4,eI e5]):=rfl
   dsimp only at me;rw[sv]at me;by_cases c1:e1=2
   ·by_cases c2:e4=s
    ·have hk:dG bs s=ek:=z9a hu hm (by unfold fC;simp [c1,c2])
     rw[hk];simp only[go_sem,me,splice,eq_true c1,eq_true c2]
    ·simp only[go_sem,me,splice,eq_true c1,c2,f0]
     exact⟨(seen++[i],some ek),rfl,⟨hnn,hbb,hnx (by unfold fC;simp [c2])⟩,by dsimp only;rw[List.length_append];simp;omega⟩
   ·simp only[go_sem,me,splice,c1,f0]
    exact⟨(seen++[i],some ek),rfl,⟨hnn,hbb,hnx (by unfold fC;simp [c1])⟩,by dsimp only;rw[List.length_append];simp;omega⟩
end Go.Am
end
section
/- The reference's floor: an end,a repair,a scrapping. -/
open Go
set_option linter.all false
set_option maxRecDepth 100000
namespace Go.Am
variable {h:aA} {K:lA}
attribute [-go_sem] nB QA oB TB IC JC splice
attribute [local go_sem] List.getElem?_cons_zero List.getElem?_cons_succ List.set_cons_zero List.set_cons_succ
attribute [local go_sem] nG EF zC YH ZH aI aH bH bI dI fI gI iI nJ jI oJ XN HK YN
def eF (steps:List Nm)(tries:Int)(runs:List RanQ)(st:Sta)(x:Ent):Int×Sta×List RanQ:=
 if x.kind=3∨x.kind=4 then(if st.state≠2 then(11,st,runs) else if st.site≠x.site then(13,st,runs)
  else(0,sC steps tries st x.time (decide (x.kind=3)),QD runs x.board x.time (decide (x.kind=3))))
 else if x.kind=5 then(if st.state≠3 then(11,st,runs) else(0,⟨1,x.time,st.step,st.site,st.failed⟩,runs))
 else if st.state=4∨st.state=5 then(11,st,runs)
 else(0,⟨5,x.time,st.step,[],st.failed⟩,cE runs x.board x.time)
theorem ZG (fb:Obj)(steps:List Nm)(tries:Int)(a:AllQ)(l r:aA):QS h fb steps tries a (l++r)=QL h fb (vA PV.str aB a.w.bs) (.row (some 6) (a.w.runs.map RanQ.pv) 0) (.row none (a.ref.map ZD) 0) (.row none (a.why.map eI) 0) (qbx h steps tries a.w.runs.length a.ref.length a.why.length) l r:=rfl
set_option maxHeartbeats 16000000 in
theorem do_k1 (fb:Obj)(steps:List Nm)(tries:Int)(hst:steps.length≤1000)(bs:List (Nm × Sta))(runs:List RanQ)(ref:List Nat)(why:List Int)(hr:runs.length≤1000000)(l:aA)(st:Sta)(hs:st.state=2→st.step∈steps)(hf:0≤st.failed∧st.failed≤1000000)(x:Ent)(hx:3≤x.kind∧x.kind≤6)(b:Bool)(hb:b=decide (x.kind=3∨x.kind=4))(K:Ex→St→Prop)
 (hE:(eF steps tries runs st x).1≠0→K .ret ⟨[(4,AI (eF steps tries runs st x).1)],QS h fb steps tries ⟨⟨bs,runs⟩,ref,why⟩ (l++[x.bx,st.bx]),[]⟩)
 (hN:(eF steps tries runs st x).1=0→K .normal ⟨[(0,.ref (h.length+5) 0),(3,.ref (h.length+(6+l.length)) 0),(5,.ref (h.length+(6+(l.length+1))) 0)],QS h fb steps tries ⟨⟨bs,(eF steps tries runs st x).2.2⟩,ref,why⟩ (l++[x.bx,(eF steps tries runs st x).2.1.bx]),[]⟩) :
 NW (cA X) X.gl uP ⟨[(0,.ref (h.length+5) 0),(3,.ref (h.length+(6+l.length)) 0),(5,.ref (h.length+(6+(l.length+1))) 0),(52,AI x.kind),(96,AB b)],QS h fb steps tries ⟨⟨bs,runs⟩,ref,why⟩ (l++[x.bx,st.bx]),[]⟩ K:=by
 rw[YY];have EN:=fun(l:aA) ps K=>zoH (h:=h) (K:=K) fb steps tries ⟨⟨bs,runs⟩,ref,why⟩ l hr x.board x.time ps
 have SC:=fun(l:aA) K=>zoV (h:=h) (K:=K) fb steps tries ⟨⟨bs,runs⟩,ref,why⟩ l hr x
 have AF:=fun(o1 o2 o3 o4:Obj) (a b c:Nat) (r:aA) hs ps K=>zoD (h:=h) (K:=K) fb o1 o2 o3 o4 a b c steps tries hst l r st hs hf x.time ps
 obtain⟨s1,s2,s3,s4,s5⟩:=st;obtain⟨site,no,time,kind,board,step,of,other⟩:=x;have en:=fun r ps K=>EN (l++r) ps K
 have sc:=fun r K=>SC (l++r) K
 simp only[ZG]at hE hN en sc ⊢;clear EN SC;unfold eF at hE hN;simp only[Ent.bx,Sta.bx,Ent.pv,Sta.pv]at hE hN en sc AF hs hf hx hb ⊢;have cl:∀b,(QD runs board time b).length=runs.length:=fun b=>by simp [QD]
 have sl:(cE runs board time).length=runs.length:=by simp [cE]
 simp only[cl,sl]at en sc;by_cases k34:kind=3∨kind=4
 ·rw[if_pos k34]at hE hN
  rw[decide_eq_true k34]at hb;subst hb;by_cases c1:s1=2
  ·subst c1
   rw[if_neg (by simp)]at hE hN
   by_cases c2:s4=site
   ·subst c2
    rw[if_neg (by simp)]at hE hN
    have af:=fun(o1 o2 o3 o4:Obj) (a b c:Nat) (r:aA) ps K=>AF o1 o2 o3 o4 a b c r (hs rfl) ps K
    have h2:=hN rfl
    dsimp only at h2;simp only[cl]at h2;rcases k34 with e|e
    ·subst e
     simp only[decide_true]at h2;simp only[QF,go_sem,splice,↓en,en,↓af,af];first|exact h2|trace_state
    ·subst e
     have d4:decide ((4:Int)=3)=false:=by decide
     simp only[d4]at h2;simp only[QF,go_sem,splice,↓en,en,↓af,af];first|exact h2|trace_state
   ·rw[if_pos c2]at hE
    have h1:=hE (by dsimp only;decide)
    simp only[QF,go_sem,c2];first|exact h1|trace_state
  ·rw[if_pos c1]at hE
   have h1:=hE (by dsimp only;decide)
   simp only[QF,go_sem,c1];first|exact h1|trace_state
 ·rw[if_neg k34]at hE hN
  rw[decide_eq_false k34]at hb;subst hb;by_cases k5:kind=5
  ·subst k5
   rw[if_pos rfl]at hE hN;by_cases c1:s1=3
   ·subst c1
    rw[if_neg (by simp)]at hE hN
    have h2:=hN rfl
    simp only[QF,go_sem,splice];first|exact h2|trace_state
   ·rw[if_pos c1]at hE
    have h1:=hE (by dsimp only;decide)
    simp only[QF,go_sem,c1];first|exact h1|trace_state
  ·rw[if_neg k5]at hE hN
   have k6:kind=6:=by omega
   subst k6;by_cases c1:s1=4
   ·subst c1
    rw[if_pos (.inl rfl)]at hE;have h1:=hE (by dsimp only;decide)
    simp only[QF,go_sem];first|exact h1|trace_state
   ·by_cases c2:s1=5
    ·subst c2
     rw[if_pos (.inr rfl)]at hE;have h1:=hE (by dsimp only;decide)
     simp only[QF,go_sem];first|exact h1|trace_state
    ·rw[if_neg (by simp [c1,c2])]at hE hN
     have h2:=hN rfl
     simp only[sl]at h2;simp only[QF,go_sem,splice,c1,c2,↓sc,sc];first|exact h2|trace_state
end Go.Am
end
section
/- The reference's floor: an entry is done. -/
open Go
set_option linter.all false
set_option maxRecDepth 100000
namespace Go.Am
variable {h:aA} {K:lA}
attribute [-go_sem] nB QA oB TB IC JC splice YY
attribute [local go_sem] List.getElem?_cons_zero List.getElem?_cons_succ List.set_cons_zero List.set_cons_succ
attribute [local go_sem] nG EF zC YH ZH aI aH bH bI dI fI gI iI nJ jI oJ XN HK YN
structure QOk (steps:List Nm) (w:FlQ) (n:Nat):Prop where
 st:∀e∈w.bs,(e.2.state=1∨e.2.state=2∨e.2.state=3)→e.2.step∈steps
 fl:∀e∈w.bs,0≤e.2.failed∧e.2.failed≤n
 nd:(PB w.bs).Nodup
 ne:[]∉PB w.bs
 un:∀s,∀e∈w.bs,∀f∈w.bs,fC s e=true→fC s f=true→e.1=f.1
 rl:w.runs.length≤n
theorem qOk0 (steps:List Nm):QOk steps ⟨[],[]⟩ 0:=⟨fun e he=>(by cases he),fun e he=>(by cases he),List.nodup_nil,by simp [PB],fun s e he=>(by cases he),Nat.le_refl _⟩
theorem QOk.up {steps:List Nm}{w:FlQ}{n:Nat}(Q:QOk steps w n):QOk steps w (n+1):=⟨Q.st,fun e he=>by have:=Q.fl e he;omega,Q.nd,Q.ne,Q.un,by have:=Q.rl;omega⟩
theorem wM {β:Type}{m:List (Nm × β)}{k:Nm}{v:β}{e:Nm × β}(h:e∈JA m k v):e=(k,v)∨(e∈m∧e.1≠k):=by
 unfold JA at h;split at h
 ·obtain⟨f,hf,e1⟩:=List.mem_map.1 h
  by_cases c:f.1=k
  ·rw[if_pos c]at e1;exact .inl e1.symm
  ·rw[if_neg c]at e1;subst e1;exact .inr ⟨hf,c⟩
 ·rename_i hn
  rcases List.mem_append.1 h with h|h
  ·refine .inr ⟨h,fun c=>hn ?_⟩
   rw[List.any_eq_true];exact⟨e,h,by simp [c]⟩
  ·exact .inl (List.mem_singleton.1 h)
theorem pZ {β:Type}:∀{m:List (Nm×β)},(PB m).Nodup→∀{e:Nm×β},e∈m→nA m e.1=some e.2
 | [],_,e,h=>by cases h
 | y::r,hu,e,h=>by
  unfold PB at hu;rw[List.map_cons,List.nodup_cons]at hu;rw[iF];rcases List.mem_cons.1 h with h|h
  ·rw[h,if_pos rfl]
  ·have:¬y.1=e.1:=fun q=>hu.1 (by rw[q];exact List.mem_map_of_mem h)
   rw[if_neg this];exact pZ hu.2 h
theorem zoh {steps:List Nm}{w:FlQ}{n:Nat}(Q:QOk steps w n)(s:Nm):dG w.bs s≠[]↔rJ w.bs s:=by
 constructor
 ·intro h
  unfold dG at h;cases hf:w.bs.find? (fC s) with
  | none=>rw[hf]at h;exact absurd rfl h
  | some f=>
   have h1:=List.mem_of_find?_eq_some hf
   have h2:fC s f=true:=List.find?_some hf
   unfold fC at h2;rw[Bool.and_eq_true,decide_eq_true_eq,decide_eq_true_eq]at h2;exact⟨f.1,f.2,pZ Q.nd h1,h2.1,h2.2⟩
 ·rintro⟨b,st,h1,h2,h3⟩
  have hm:=JI h1
  rw[z9a (Q.un s) hm (by unfold fC;simp [h2,h3])]
  intro e;have e':b=[]:=e
  subst e';exact Q.ne (List.mem_map_of_mem (f:=fun e:Nm×Sta=>e.1) hm)
theorem QOk.put {steps:List Nm}{w:FlQ}{n:Nat}(Q:QOk steps w n){k:Nm}{v:Sta}{runs:List RanQ}(hk:k≠[])(h1:(v.state=1∨v.state=2∨v.state=3)→v.step∈steps)(h2:0≤v.failed∧v.failed≤n+1)(h3:v.state=2→∀ f∈w.bs,f.1≠k→fC v.site f=false)(hr:runs.length≤n+1):QOk steps ⟨JA w.bs k v,runs⟩ (n+1) where
 st e he:=by
  rcases wM he with rfl|⟨he,_⟩
  ·exact h1
  ·exact Q.st e he
 fl e he:=by
  rcases wM he with rfl|⟨he,_⟩
  ·exact⟨h2.1,by have:=h2.2;dsimp only;omega⟩
  ·have:=Q.fl e he;omega
 nd:=znH Q.nd k v
 ne:=by
  dsimp only;rw[z8L];split
  ·exact Q.ne
  ·rw[List.mem_append,List.mem_singleton]
   rintro (h|h)
   ·exact Q.ne h
   ·exact hk h.symm
 un s e he f hf r1 r2:=by
  have key:∀g:Nm×Sta,g∈w.bs→g.1≠k→fC s (k,v)=true→fC s g=true→False:=fun g hg gk q1 q2=>by
   unfold fC at q1;rw[Bool.and_eq_true,decide_eq_true_eq,decide_eq_true_eq]at q1;have:=h3 q1.1 g hg gk;rw[q1.2,q2]at this;cases this
  rcases wM he with rfl|⟨he,ek⟩
  ·rcases wM hf with rfl|⟨hf,fk⟩
   ·rfl
   ·exact(key f hf fk r1 r2).elim
  ·rcases wM hf with rfl|⟨hf,fk⟩
   ·exact(key e he ek r2 r1).elim
   ·exact Q.un s e he f hf r1 r2
 rl:=hr
theorem zgw {steps:List Nm}(tries:Int){w:FlQ}{n:Nat}(Q:QOk steps w n)(h0:steps≠[])(x:Ent)(hb:x.kind≠7→x.board≠[]):QOk steps (doQ steps tries w x).1 (n+1):=by
 have hrl:=Q.rl
 unfold doQ;by_cases k7:x.kind=7
 ·rw[if_pos k7];exact Q.up
 rw[if_neg k7];have hb:=hb k7
 by_cases k1:x.kind=1
 ·rw[if_pos k1]
  cases nA w.bs x.board with
  | some s=>exact Q.up
  | none=>
   refine Q.put hb (fun _=>?_) ⟨(by dsimp only;omega),(by dsimp only;omega)⟩ (fun h=>by cases h) (by omega)
   cases steps with
   | nil=>exact absurd rfl h0
   | cons a r=>exact List.mem_cons_self ..
 rw[if_neg k1];cases hg:nA w.bs x.board with
 | none=>exact Q.up
 | some b=>
  have hm:=JI hg
  have hf:=Q.fl _ hm
  have hs:=Q.st _ hm
  dsimp only at hf hs ⊢;by_cases k2:x.kind=2
  ·rw[if_pos k2]
   split
   ·exact Q.up
   rename_i s1;split
   ·exact Q.up
   split
   ·exact Q.up
   rename_i hn;refine Q.put hb (fun _=>hs (.inl (by simpa using s1))) ⟨hf.1,by dsimp only;omega⟩ (fun _ f hfm fk=>?_) (by simp;omega)
   cases hr:fC x.site f with
   | false=>rfl
   | true=>
    unfold fC at hr;rw[Bool.and_eq_true,decide_eq_true_eq,decide_eq_true_eq]at hr;exact absurd ⟨f.1,f.2,pZ Q.nd hfm,hr.1,hr.2⟩ hn
  rw[if_neg k2];by_cases k3:x.kind=3∨x.kind=4
  ·rw[if_pos k3]
   split
   ·exact Q.up
   rename_i s2;split
   ·exact Q.up
   have s2':b.state=2:=by simpa using s2
   have hst:=hs (.inr (.inl s2'))
   refine Q.put hb ?_ ?_ ?_ (by unfold QD;rw[List.length_map];omega)
   ·unfold sC
    split
    ·split
     ·intro h;dsimp only at h;omega
     ·rename_i hl
      intro _;dsimp only;have jl:steps.findIdx (fun y=>decide (y=b.step))<steps.length:=List.findIdx_lt_length_of_exists ⟨b.step,hst,by simp⟩
      have hlt:steps.findIdx (fun y=>decide (y=b.step))+1<steps.length:=by omega
      rw[List.getElem?_eq_getElem hlt];exact List.getElem_mem hlt
    ·intro _;exact hst
   ·unfold sC
    split
    ·split <;> exact⟨(by dsimp only;omega),(by dsimp only;omega)⟩
    ·exact⟨(by dsimp only;omega),(by dsimp only;omega)⟩
   ·unfold sC
    split
    ·split <;> (intro h;dsimp only at h;omega)
    ·intro h;dsimp only at h;split at h <;> omega
  rw[if_neg k3];by_cases k5:x.kind=5
  ·rw[if_pos k5]
   split
   ·exact Q.up
   rename_i s3;exact Q.put hb (fun _=>hs (.inr (.inr (by simpa using s3)))) ⟨hf.1,by dsimp only;omega⟩ (fun h=>by cases h) (by omega)
  rw[if_neg k5];split
  ·exact Q.up
  ·refine Q.put hb (fun h=>by dsimp only at h;omega) ⟨hf.1,by dsimp only;omega⟩ (fun h=>by cases h) (by unfold cE;rw[List.length_map];omega)
theorem esc5 (h:aA):∀k n o m,k<5→YB (h.length+5) (.own (h.length+k) n o m)=[]:=fun k n o m hk=>by unfold YB;rw[z0M,if_neg (by omega)]
set_option maxHeartbeats 16000000 in
theorem s_do (fb:Obj)(steps:List Nm)(tries:Int)(hst:steps.length≤1000)(h0:steps≠[])(w:FlQ)(ref:List Nat)(why:List Int)(n:Nat)(hn:n≤100000)(Q:QOk steps w n)(l:aA)(x:Ent)(hx:1≤x.kind∧x.kind≤7) :
 cA X FL [.ref (h.length+5) 0,.p x.pv] (QS h fb steps tries ⟨w,ref,why⟩ l) K =
  K (AI (doQ steps tries w x).2) (QS h fb steps tries ⟨(doQ steps tries w x).1,ref,why⟩ l) []:=by
 have e0:∀a,QS h fb steps tries a l=QL h fb (vA PV.str aB a.w.bs) (.row (some 6) (a.w.runs.map RanQ.pv) 0) (.row none (a.ref.map ZD) 0) (.row none (a.why.map eI) 0) (qbx h steps tries a.w.runs.length a.ref.length a.why.length) l []:=fun a=>by rw[←ZG,List.append_nil]
 rw[e0,e0];clear e0;dsimp only;refine uA ?_;rw[zeL rfl];obtain⟨bs,runs⟩:=w;obtain⟨site,no,time,kind,board,step,of,other⟩:=x;have hrl:=Q.rl
 dsimp only at hrl hx;have lk:=fun(o2 o3 o4 o5:Obj) (r:aA)=>BH (h:=QL h fb (vA PV.str aB bs) o2 o3 o4 o5 l r) (id:=h.length+1) (key:=PV.str) (val:=aB) AH zC (kk:=(none,[2])) (k:=board) NE (ok:=true) (z:=AV.p (.agg [.int .i64 0,.int .i64 0,.str [],.str [],.int .i64 0]))
 simp only[cond_true,GS]at lk;have up:∀(o2 o3 o4 o5:Obj) (r:aA) (a b:Int) (c d:Nm) (e:Int),oB (none,[2]) (.mp (h.length+1)) (AS board) (.p (.agg [eI a,eI b,.str c,.str d,eI e])) (QL h fb (vA PV.str aB bs) o2 o3 o4 o5 l r)=some (.und,QL h fb (vA PV.str aB (JA bs board ⟨a,b,c,d,e⟩)) o2 o3 o4 o5 l r,[]):=fun o2 o3 o4 o5 r a b c d e=>by
  have:=yM (h:=QL h fb (vA PV.str aB bs) o2 o3 o4 o5 l r) (id:=h.length+1) (key:=PV.str) (val:=aB) AH zC (kk:=(none,[2])) (k:=board) NE (v:=⟨a,b,c,d,e⟩) rfl;rw[z9Y Q.nd,bH]at this;exact this
 cases hg:nA bs board with
 | none=>
  rw[hg]at lk;simp only[Option.map_none,Option.getD_none,Option.isSome_none]at lk;by_cases k7:kind=7
  ·subst k7
   have e:doQ steps tries ⟨bs,runs⟩ ⟨site,no,time,7,board,step,of,other⟩=(⟨bs,runs⟩,0):=by unfold doQ;rw[if_pos rfl]
   rw[e];simp only[SD,Ent.pv,go_sem,lk,splice]
  ·by_cases k1:kind=1
   ·subst k1
    have e:doQ steps tries ⟨bs,runs⟩ ⟨site,no,time,1,board,step,of,other⟩=(⟨JA bs board ⟨1,time,steps.headD [],[],0⟩,runs⟩,0):=by
     unfold doQ;rw[if_neg (by dsimp only;decide),if_pos rfl]
     dsimp only;rw[hg]
    rw[e];have hs0:(steps.map PV.str)[0]?=some (.str (steps.headD [])):=by
     cases steps with
     | nil=>exact absurd rfl h0
     | cons a r=>rfl
    have hl0:0<steps.length:=by
     cases steps with
     | nil=>exact absurd rfl h0
     | cons a r=>simp
    have cw:∀v:List UInt8,VA none 0 (PV.str v)=some (PV.str v):=fun _=>rfl
    simp only[SD,Ent.pv,go_sem,lk,splice,hs0,hl0,cw,up];first|done|trace_state
   ·have e:doQ steps tries ⟨bs,runs⟩ ⟨site,no,time,kind,board,step,of,other⟩=(⟨bs,runs⟩,8):=by
     unfold doQ;rw[if_neg k7,if_neg k1];dsimp only;rw[hg]
    rw[e];simp only[SD,Ent.pv,go_sem,lk,splice,k7,k1];first|done|trace_state
 | some st=>
  have hm:=JI hg
  have hf:=Q.fl _ hm
  have hs:=Q.st _ hm
  obtain⟨s1,s2,s3,s4,s5⟩:=st;rw[hg]at lk;have sv:aB ⟨s1,s2,s3,s4,s5⟩ = .p (.agg [eI s1,eI s2,.str s3,.str s4,eI s5]):=rfl
  simp only[Option.map_some,Option.getD_some,Option.isSome_some,sv]at lk;dsimp only at hf hs;by_cases k7:kind=7
  ·subst k7
   have e:doQ steps tries ⟨bs,runs⟩ ⟨site,no,time,7,board,step,of,other⟩=(⟨bs,runs⟩,0):=by unfold doQ;rw[if_pos rfl]
   rw[e];simp only[SD,Ent.pv,go_sem,lk,splice]
  by_cases k1:kind=1
  ·subst k1
   have e:doQ steps tries ⟨bs,runs⟩ ⟨site,no,time,1,board,step,of,other⟩=(⟨bs,runs⟩,6):=by
    unfold doQ;rw[if_neg (by dsimp only;decide),if_pos rfl]
    dsimp only;rw[hg]
   rw[e];simp only[SD,Ent.pv,go_sem,lk,splice];first|done|trace_state
  have dq:doQ steps tries ⟨bs,runs⟩ ⟨site,no,time,kind,board,step,of,other⟩ =
   if kind=2 then(if s1≠1 then(⟨bs,runs⟩,11) else if s3≠step then(⟨bs,runs⟩,3) else if rJ bs site then(⟨bs,runs⟩,12)
    else(⟨JA bs board ⟨2,time,s3,site,s5⟩,runs++[⟨board,site,step,time,-1,false⟩]⟩,0))
   else if kind=3∨kind=4 then(if s1≠2 then(⟨bs,runs⟩,11) else if s4≠site then(⟨bs,runs⟩,13)
    else(⟨JA bs board (sC steps tries ⟨s1,s2,s3,s4,s5⟩ time (decide (kind=3))),QD runs board time (decide (kind=3))⟩,0))
   else if kind=5 then(if s1≠3 then(⟨bs,runs⟩,11) else(⟨JA bs board ⟨1,time,s3,s4,s5⟩,runs⟩,0))
   else if s1=4∨s1=5 then(⟨bs,runs⟩,11)
   else(⟨JA bs board ⟨5,time,s3,[],s5⟩,cE runs board time⟩,0):=by
   unfold doQ;rw[if_neg k7,if_neg k1];dsimp only;rw[hg]
  rw[dq];clear dq;by_cases k2:kind=2
  ·subst k2
   rw[if_pos rfl];by_cases c1:s1=1
   ·subst c1
    rw[if_neg (by simp)]
    by_cases c2:s3=step
    ·subst c2
     rw[if_neg (by simp)]
     have RU:=fun(o2 o3 o4:Obj) (a b c:Nat) (r:aA) K=>zoS (h:=h) (K:=K) fb o2 o3 o4 (.box []) bs steps tries a b c l r site (Q.un site)
     have rb:=zoh Q site
     dsimp only at rb;by_cases c3:rJ bs site
     ·rw[if_pos c3]
      have nb:=rb.2 c3
      simp only[SD,Ent.pv,go_sem,lk,splice,↓RU,RU,nb];first|done|trace_state
     ·rw[if_neg c3]
      have nb:dG bs site=[]:=by
       by_cases z:dG bs site=[]
       ·exact z
       ·exact absurd (rb.1 z) c3
      rw[nb]at RU;have em:(runs++[(⟨board,site,s3,time,-1,false⟩:RanQ)]).map RanQ.pv=runs.map RanQ.pv++[.agg [.str board,.str site,.str s3,eI time,.int .i64 (-1),.bool false]]:=by rw[List.map_append];rfl
      have el:(runs++[(⟨board,site,s3,time,-1,false⟩:RanQ)]).length=runs.length+1:=by simp
      dsimp only;rw[em,el];have e5:=fun n o m=>esc5 h 2 n o m (by decide)
      have m1:runs.length+1≤cB:=by unfold cB;omega
      have rl:(runs.map RanQ.pv).length=runs.length:=List.length_map ..
      simp only[SD,Ent.pv,go_sem,lk,splice,↓RU,RU,m1,rl,up,e5];first|done|trace_state
    ·rw[if_pos c2]
     simp only[SD,Ent.pv,go_sem,lk,splice,c2];first|done|trace_state
   ·rw[if_pos c1]
    simp only[SD,Ent.pv,go_sem,lk,splice,c1];first|done|trace_state
  ·rw[if_neg k2]
   have hdo:(if kind=3∨kind=4 then(if s1≠2 then((⟨bs,runs⟩:FlQ),(11:Int)) else if s4≠site then(⟨bs,runs⟩,13)
    else(⟨JA bs board (sC steps tries ⟨s1,s2,s3,s4,s5⟩ time (decide (kind=3))),QD runs board time (decide (kind=3))⟩,0))
   else if kind=5 then(if s1≠3 then(⟨bs,runs⟩,11) else(⟨JA bs board ⟨1,time,s3,s4,s5⟩,runs⟩,0))
   else if s1=4∨s1=5 then(⟨bs,runs⟩,11)
   else(⟨JA bs board ⟨5,time,s3,[],s5⟩,cE runs board time⟩,0))=(if(eF steps tries runs ⟨s1,s2,s3,s4,s5⟩ ⟨site,no,time,kind,board,step,of,other⟩).1=0 then((⟨JA bs board (eF steps tries runs ⟨s1,s2,s3,s4,s5⟩ ⟨site,no,time,kind,board,step,of,other⟩).2.1,(eF steps tries runs ⟨s1,s2,s3,s4,s5⟩ ⟨site,no,time,kind,board,step,of,other⟩).2.2⟩:FlQ),(0:Int)) else(⟨bs,runs⟩,(eF steps tries runs ⟨s1,s2,s3,s4,s5⟩ ⟨site,no,time,kind,board,step,of,other⟩).1)):=by
    unfold eF;dsimp only;split
    ·split
     ·rfl
     ·split <;> rfl
    ·split
     ·split <;> rfl
     ·split <;> rfl
   rw[hdo];clear hdo;have dk:=fun(ref:List Nat) (why:List Int) (b:Bool) hb (K:Ex→St→Prop)=>do_k1 (h:=h) fb steps tries hst bs runs ref why (by omega) l ⟨s1,s2,s3,s4,s5⟩ (fun e=>hs (.inr (.inl e))) ⟨by dsimp only;omega,by dsimp only;omega⟩ ⟨site,no,time,kind,board,step,of,other⟩ (by dsimp only;omega) b hb K
   dsimp only at dk;generalize eF steps tries runs ⟨s1,s2,s3,s4,s5⟩ ⟨site,no,time,kind,board,step,of,other⟩=R at *;obtain⟨r1,⟨t1,t2,t3,t4,t5⟩,rs⟩:=R;dsimp only at dk ⊢;by_cases k34:kind=3∨kind=4
   ·rcases k34 with e|e
    ·subst e
     simp only[SD,Ent.pv,go_sem,lk,splice];refine dk ref why true (by simp) _ (fun hne=>?_) (fun hz=>?_)
     ·rw[if_neg hne]
      simp only[go_sem,ZG];first|done|trace_state
     ·subst hz
      rw[if_pos rfl];simp only[go_sem,ZG,Ent.bx,Sta.bx,splice,up];first|done|trace_state
    ·subst e
     simp only[SD,Ent.pv,go_sem,lk,splice];refine dk ref why true (by simp) _ (fun hne=>?_) (fun hz=>?_)
     ·rw[if_neg hne]
      simp only[go_sem,ZG];first|done|trace_state
     ·subst hz
      rw[if_pos rfl];simp only[go_sem,ZG,Ent.bx,Sta.bx,splice,up];first|done|trace_state
   ·have k3:¬kind=3:=fun e=>k34 (.inl e)
    have k4:¬kind=4:=fun e=>k34 (.inr e)
    simp only[SD,Ent.pv,go_sem,lk,splice,k7,k1,k2,k3,k4];refine dk ref why false (by simp [k3,k4]) _ (fun hne=>?_) (fun hz=>?_)
    ·rw[if_neg hne]
     simp only[go_sem,ZG];first|done|trace_state
    ·subst hz
     rw[if_pos rfl];simp only[go_sem,ZG,Ent.bx,Sta.bx,splice,up];first|done|trace_state
end Go.Am
end
section
/- The reference: all entries that count are followed. -/
open Go
set_option linter.all false
set_option maxRecDepth 100000
namespace Go.Am
variable {h:aA} {K:lA}
attribute [-go_sem] nB QA oB TB IC JC
attribute [local go_sem] nG EF zC YH ZH aI aH bH bI dI fI gI iI nJ jI oJ XN HK YN
theorem pJ (fb:Obj)(steps:List Nm)(tries:Int)(a:AllQ):QS h fb steps tries a []=QL h fb (vA PV.str aB a.w.bs) (.row (some 6) (a.w.runs.map RanQ.pv) 0) (.row none (a.ref.map ZD) 0) (.row none (a.why.map eI) 0) (qbx h steps tries a.w.runs.length a.ref.length a.why.length) [] []:=by rw[←ZG];rfl
theorem z3e {o0 o1 o2 o3 o4 o5:Obj}:(QL h o0 o1 o2 o3 o4 o5 [] []).take (h.length+6)=QL h o0 o1 o2 o3 o4 o5 [] []:=List.take_of_length_le (by rw[nG];exact Nat.le_refl _)
structure QAll (steps:List Nm) (a:AllQ) (n:Nat):Prop where
 ok:QOk steps a.w n
 rf:a.ref.length≤n
 wy:a.why.length≤n
theorem zpK {steps:List Nm}(tries:Int){a:AllQ}{n:Nat}(Q:QAll steps a n)(h0:steps≠[])(i:Nat)(x:Ent)(hb:x.kind≠7→x.board≠[]):QAll steps (stQ steps tries a i x) (n+1):=by
 have h1:=zgw tries Q.ok h0 x hb
 have h2:=Q.rf
 have h3:=Q.wy
 unfold stQ;split
 ·exact⟨h1,by simp;omega,by simp;omega⟩
 ·exact⟨h1,by dsimp only;omega,by dsimp only;omega⟩
theorem z7j (steps:List Nm)(tries:Int)(l:List Ent)(is:List Nat)(i:Nat)(a:AllQ):xE steps tries l (is++[i]) a=stQ steps tries (xE steps tries l is a) i (l.getD i nH):=by
 unfold xE;rw[List.foldl_append];rfl
theorem z7i {steps:List Nm}(tries:Int)(h0:steps≠[]){l:List Ent}(hl:∀ x∈l,EntW x):∀(k:Nat) (is:List Nat),is.length=k→(∀i∈is,i<l.length)→QAll steps (xE steps tries l is GF) k
 | 0,is,hk,_=>by
  rw[List.eq_nil_of_length_eq_zero hk];exact⟨qOk0 steps,Nat.le_refl _,Nat.le_refl _⟩
 | k+1,is,hk,hi=>by
  obtain⟨m,x,rfl⟩:∃m x,is=m++[x]:=⟨is.dropLast,is.getLast (by intro e;rw[e]at hk;cases hk),(List.dropLast_concat_getLast _).symm⟩
  rw[List.length_append,List.length_singleton]at hk;rw[z7j];have hx:x<l.length:=hi x (by simp)
  have e:l.getD x nH=l[x]:=by rw[List.getD_eq_getElem?_getD,List.getElem?_eq_getElem hx];rfl
  rw[e];exact zpK tries (z7i tries h0 hl k m (by omega) fun i hm=>hi i (List.mem_append_left _ hm)) h0 x _ (hl _ (List.getElem_mem hx)).b
set_option maxHeartbeats 8000000 in
theorem QP (steps:List Nm)(tries:Int)(hst:steps.length≤1000)(h0:steps≠[])(l:List Ent)(hl:l.length≤1000)(hw:∀ x∈l,EntW x)(hs:l.Pairwise fun a b=>a.time≤b.time)(at_:Int) :
 cA X UC [EB steps tries,eB l,AI at_] h K=K (.ref (h.length+5) 0) (QS h (flB steps tries) steps tries (tC steps tries (upL l at_)) []) []:=by
 refine uA ?_;rw[zeS rfl];have CE:=fun h K=>zop (h:=h) (K:=K) l (by omega) hs at_
 rw[←zkY];have hix:(LI l at_).length≤l.length:=z7G l at_ l.length
 have hil:∀i∈LI l at_,i<l.length:=fun i hi=>Nat.lt_of_lt_of_le (z7H hi) (cQ l at_)
 generalize LI l at_=is at *;simp only[CR,go_sem,↓CE,CE];refine UA (fun k:Nat=>⟨[(1,eB l),(7,.ref (h.length+5) 0),(17,AL (is.map fun(i:Nat)=>(i:Int))),(18,AI is.length),(19,AI k)],QS h (flB steps tries) steps tries (xE steps tries l (is.take k) GF) [],[]⟩) (fun k=>k≤is.length) (fun k=>is.length-k) 0 rfl (by omega) ?_
 intro k hk;rcases Nat.lt_or_ge k is.length with hlt|hge
 ·have hc:(k:Int)<(is.length:Int):=by omega
  have wk:IntKind.i64.wrap ((k:Int)+1)=((k+1:Nat):Int):=CA _ (by omega) (by omega)
  have hkl:k<(is.map fun(i:Nat)=>(i:Int)).length:=by rw[List.length_map];exact hlt
  have g:((is.map fun(i:Nat)=>(i:Int)).map eI)[k]?=some (eI (is[k]:Int)):=by rw[List.getElem?_map,List.getElem?_map,List.getElem?_eq_getElem hlt];rfl
  have hi:=hil _ (List.getElem_mem hlt)
  have hge:=GB Ent.pv hi
  have cx:=oH (x:=l[is[k]])
  have ew:=hw _ (List.getElem_mem hi)
  have Q:=z7i tries h0 hw k (is.take k) (by rw[List.length_take];omega) fun i hm=>hil i (List.mem_of_mem_take hm)
  have et:xE steps tries l (is.take (k+1)) GF=stQ steps tries (xE steps tries l (is.take k) GF) is[k] l[is[k]]:=by
   rw[List.take_succ_eq_append_getElem hlt,z7j];congr 1
   rw[List.getD_eq_getElem?_getD,List.getElem?_eq_getElem hi];rfl
  generalize xE steps tries l (is.take k) GF=a at *;generalize l[is[k]]=e at *;generalize is[k]=i at *;obtain⟨w,ref,why⟩:=a;have DO:=fun K=>s_do (h:=h) (K:=K) (flB steps tries) steps tries hst h0 w ref why k (by omega) Q.ok [] e ew.k
  have hrf:=Q.rf
  have hwy:=Q.wy
  dsimp only at hrf hwy;have m1:ref.length+1≤cB:=by unfold cB;omega
  have m2:why.length+1≤cB:=by unfold cB;omega
  have l1:(ref.map ZD).length=ref.length:=List.length_map ..
  have l2:(why.map eI).length=why.length:=List.length_map ..
  have e5:=fun k n o m hk=>esc5 h k n o m hk
  have e53:=fun n o m=>esc5 h 3 n o m (by decide)
  have e54:=fun n o m=>esc5 h 4 n o m (by decide)
  unfold stQ at et;dsimp only at et;generalize doQ steps tries w e=R at *;obtain⟨w',c⟩:=R;dsimp only at et DO;have qs:=fun a=>pJ (h:=h) (flB steps tries) steps tries a
  rw[qs]at DO;simp only[qs];rw[qs]at DO;by_cases hz:c=0
  ·subst hz
   rw[if_neg (by simp)]at et
   simp only[go_sem,hc,hkl,List.length_map,g,hi,hge,cx,↓DO,DO,wk];refine⟨k+1,?_,by omega,by omega⟩
   rw[et,z3e]
  ·rw[if_pos hz]at et
   simp only[go_sem,hc,hkl,List.length_map,g,hi,hge,cx,↓DO,DO,hz,m1,m2,l1,l2,e53,e54,splice,wk];refine⟨k+1,?_,by omega,by omega⟩
   rw[et,z3e];dsimp only;rw[List.map_append,List.map_append,List.length_append,List.length_append];rfl
 ·have ek:k=is.length:=by omega
  subst ek;have c0:¬(is.length:Int)<(is.length:Int):=by omega
  rw[List.take_length];generalize xE steps tries l is GF=a;have hl6:(QS h (flB steps tries) steps tries a []).length=h.length+6:=by rw[pJ,nG];rfl
  have f5:h.length+5+1≤(QS h (flB steps tries) steps tries a []).length:=by rw[hl6];exact Nat.le_refl _
  have r5:∀m H,MA m H (.ref (h.length+5) 0)=some (.ref (h.length+5) 0):=fun m H=>by simp [MA]
  have t5:AV.top (.ref (h.length+5) 0)=h.length+6:=by simp [AV.top]
  have m5:max h.length (h.length+6)=h.length+6:=by omega
  have k5:(QS h (flB steps tries) steps tries a []).take (h.length+6)=QS h (flB steps tries) steps tries a []:=List.take_of_length_le (by rw[hl6];exact Nat.le_refl _)
  simp only[go_sem,c0,f5,r5,t5,m5,k5];first|done|trace_state
end Go.Am
end
section
/- A stable sort of the front of a row: printed by program. -/
open Go
set_option linter.unusedSimpArgs false
namespace Go.Am
attribute [-go_sem] PV.cells splice
variable {h:aA} {K:lA}
theorem zpN (id n:Nat)(l tl:List PV)(hn:n=l.length+tl.length)(hs:VC none l)(hl:l.length≤19)(hh:h[id]?=some (.row none (l++tl) 0)){g:Nat}{caps:List AV}{c:PV→PV→Int}(hc:iJ g caps c l id h) :
 cA X YL [.own id n 0 l.length,.fn g caps] h K=K (.tup []) (h.set id (.row none (kB (ltC c) l++tl) 0)) []:=by
 refine uA ?_;rw[zfk];have key:∀K:lA,cA X cM [.own id n 0 l.length,AI l.length,.fn g caps] h K=K (.tup []) (h.set id (.row none (kB (ltC c) l++tl) 0)) []:=by
  intro K;refine uA ?_;rw[zft];have is:=fun K=>z7L (h:=h) (K:=K) id n l tl hn hs (by omega) hh hc
  have b1:¬((20:Int)≤(l.length:Int)):=by omega
  have b2:¬((20:Int)<(l.length:Int)):=by omega
  simp only[VR,go_sem];refine UA (fun _:Unit=>⟨[(0,.own id n 0 l.length),(1,AI l.length),(2,.fn g caps),(6,AI 20),(7,AI 0),(8,AI 20)],h,[]⟩) (fun _=>True) (fun _=>0) () rfl trivial ?_
  intro _ _;simp only[go_sem,b1,is];refine UA (fun _:Unit=>⟨[(0,.own id n 0 l.length),(1,AI l.length),(2,.fn g caps),(6,AI 20)],h.set id (.row none (kB (ltC c) l++tl) 0),[]⟩) (fun _=>True) (fun _=>0) () rfl trivial ?_
  intro _ _;simp only[go_sem,b2]
 simp only[mY,go_sem,key]
end Go.Am
end
section
/- Texts sorted. -/
open Go
set_option linter.all false
namespace Go.Am
variable {h:aA} {K:lA}
theorem zoO (a:List UInt8):cA X xI [AS a] h K=K (AB false) h []:=by
 refine uA ?_;rw[zei rfl];simp only[zX,go_sem]
theorem zo2 (a b:List UInt8):cA X UF [AS a,AS b] h K=K (AB (ltS a b)) h []:=by
 refine uA ?_;rw[zef rfl];simp only[xX,go_sem,zoO,iX]
theorem zmP {us:List (List UInt8)}:∀x∈us.map PV.str,∀y∈us.map PV.str,∀(h:aA) (K:lA),cA X UF [.p x,.p y] h K=K (AB (ltPS x y)) h []:=by
 intro x hx y hy h K;obtain⟨a,_,rfl⟩:=List.mem_map.1 hx;obtain⟨b,_,rfl⟩:=List.mem_map.1 hy;exact zo2 a b
theorem zo8 (id:Nat)(us:List (List UInt8))(hl:us.length≤12)(hh:h[id]?=some (.row none (us.map PV.str) 0)) :
 cA X OJ [.own id us.length 0 us.length] h K=K (.tup []) (h.set id (.row none ((kB ltS us).map PV.str) 0)) []:=by
 have:=zdh (h:=h) (K:=K) id us.length (us.map PV.str) [] (by simp) LN (by simpa using hl) (by simpa using hh) (lt:=ltPS) zmP
 simp only[List.length_map,List.append_nil,zlH]at this;exact this
end Go.Am
end
section
/- Finding and deleting records,strings: printed by program. -/
open Go
set_option linter.unusedSimpArgs false
namespace Go.Am
attribute [-go_sem] PV.cells splice
variable {h:aA} {K:lA}
theorem zcf {v:AV}{g:Nat}{caps:List AV}{p:PV→Bool}{xs:List PV}(hv:Shows none v xs h)(hp:qV g caps p xs h)(hl:xs.length≤1000000000) :
 cA X UL [v,.fn g caps] h K=K (AI (jF p xs)) h []:=by
 refine uA ?_;rw[zff];have vl:=hv.len
 simp only[KR,go_sem,vl];refine UA (fun k:Nat=>⟨[(0,v),(1,.fn g caps),(7,AI xs.length),(8,AI k)],h,[]⟩) (fun k=>k≤xs.length∧∀x∈xs.take k,p x=false) (fun k=>xs.length-k) 0 rfl (by simp) ?_
 rintro k ⟨hk,hn⟩
 rcases Nat.lt_or_ge k xs.length with hlt|hge
 ·obtain⟨a,ha,hb⟩:=hv.get k hlt
  have w2:IntKind.i64.wrap ((k:Int)+1)=((k+1:Nat):Int):=CA _ (by omega) (by omega)
  have ht:=hp _ (List.getElem_mem hlt)
  cases hpk:p xs[k]with
  | true=>
   have hf:xs.findIdx p=k:=by
    rw[List.findIdx_eq hlt];refine⟨hpk,fun j hj=>?_⟩
    have:=hn xs[j] (by rw[List.mem_take_iff_getElem];exact⟨j,by omega,rfl⟩)
    simpa using this
   simp only[go_sem,hlt,ha,hb,ht,hpk,w2];simp only[jF,hf,hlt,if_true]
  | false=>
   simp only[go_sem,hlt,ha,hb,ht,hpk,w2];refine⟨k+1,rfl,⟨by omega,fun x hx=>?_⟩,by omega⟩
   rw[List.take_succ_eq_append_getElem hlt,List.mem_append,List.mem_singleton]at hx;rcases hx with hx|hx
   ·exact hn x hx
   ·rw[hx];exact hpk
 ·have e1:k=xs.length:=by omega
  subst e1;simp only[go_sem,Nat.lt_irrefl];rw[List.take_length]at hn;have:¬xs.findIdx p<xs.length:=by
   rw[Nat.not_lt,Nat.le_iff_lt_or_eq];right
   exact(List.findIdx_eq_length.2 (fun x hx=>by simp [hn x hx])).symm
  simp [jF,this]
theorem zaw (id:Nat)(l:List PV)(hs:VC none l)(hl:l.length≤100000)(hh:h[id]?=some (.row none l 0)){g:Nat}{caps:List AV}{p:PV→Bool}(hp:zdk g caps p l id h) :
 cA X OL [.own id l.length 0 l.length,.fn g caps] h K=K (.own id l.length 0 (l.filter fun x=>!p x).length) (h.set id (.row none ((l.filter fun x=>!p x)++List.replicate (l.length-(l.filter fun x=>!p x).length) (PV.str [])) 0)) []:=by
 refine uA ?_;rw[zeZ];have hid:=ZF hh
 have hst:∀o,(h.set id o)[id]?=some o:=fun o=>PG hid
 have hi:=fun K=>zcf (h:=h) (K:=K) (zp3 hs hh) (fun x hx K=>by have:=hp (.row none l 0) x hx K;rwa [cJ hh]at this) (by omega)
 simp only[FR,go_sem,hi];by_cases hf:l.findIdx p<l.length
 ·have e1:jF p l=(l.findIdx p:Int):=by simp [jF,hf]
  have e2:¬((l.findIdx p:Int) = -1):=by omega
  have w0:IntKind.i64.wrap ((l.findIdx p:Int)+1)=((l.findIdx p+1:Nat):Int):=CA _ (by omega) (by omega)
  simp only[go_sem,e1,e2,w0];have hF0:((l.take (l.findIdx p+1)).filter fun x=>!p x)=l.take (l.findIdx p):=by
   rw[List.take_succ_eq_append_getElem hf,List.filter_append];have q1:(l.take (l.findIdx p)).filter (fun x=>!p x)=l.take (l.findIdx p):=by
    rw[List.filter_eq_self];intro x hx;obtain⟨j,hj,rfl⟩:=List.mem_take_iff_getElem.1 hx;have:=List.not_of_lt_findIdx (show j<l.findIdx p by omega)
    simpa using this
   rw[q1];have:p l[l.findIdx p]=true:=List.findIdx_getElem (w:=hf)
   simp [this]
  refine UA (fun t:List PV×Nat×Nat=>⟨[(0,.own id l.length 0 l.length),(1,.fn g caps),(5,AI t.2.1),(6,AI t.2.2)],h.set id (.row none t.1 0),[]⟩)
   (fun t=>t.1.length=l.length∧VC none t.1∧t.2.1<t.2.2∧t.2.2≤l.length∧t.1.take t.2.1=((l.take t.2.2).filter fun x=>!p x)∧t.1.drop t.2.2=l.drop t.2.2) (fun t=>l.length-t.2.2)
   (l,l.findIdx p,l.findIdx p+1) (by rw[cJ hh]) ⟨rfl,hs,by simp,hf,by rw[hF0],rfl⟩ ?_
  rintro⟨row,i,j⟩ ⟨r1,r2,r3,r4,r5,r6⟩
  dsimp only at r1 r2 r3 r4 r5 r6;have w1:IntKind.i64.wrap ((j:Int)+1)=((j+1:Nat):Int):=CA _ (by omega) (by omega)
  have w2:IntKind.i64.wrap ((i:Int)+1)=((i+1:Nat):Int):=CA _ (by omega) (by omega)
  rcases Nat.lt_or_ge j l.length with hlt|hge
  ·have g1:row[j]?=some l[j]:=by
    have:=congrArg (·[0]?) r6
    simp only[List.getElem?_drop,Nat.add_zero]at this;rw[this,List.getElem?_eq_getElem hlt]
   have hsj:=IU hs hlt
   have cx:=gG hsj
   have hil:i<l.length:=by omega
   have g2:row[i]?=some row[i]:=List.getElem?_eq_getElem (by omega)
   have hsi:=IU r2 (show i<row.length by omega)
   have t1:=fun xs h1=>RH hsj hsi id i 0 xs h1
   have lx:=PH hsj
   have sx:=OH hsj
   simp only[kA]at lx;have hpj:=fun o K=>hp o _ (List.getElem_mem hlt) K
   cases hpx:p l[j]with
   | true=>
    simp only[go_sem,hst,r1,hlt,g1,cx,hpj,hpx,w1];refine⟨(row,i,j+1),rfl,⟨r1,r2,by dsimp only;omega,by dsimp only;omega,?_,?_⟩,by dsimp only;omega⟩
    ·rw[List.take_succ_eq_append_getElem hlt,List.filter_append]
     simp [hpx,r5]
    ·rw[←List.drop_drop,r6,List.drop_drop]
   | false=>
    simp only[go_sem,hst,r1,hlt,hil,g1,g2,cx,hpj,hpx,w1,w2,lx,sx,t1];refine⟨(row.set i l[j],i+1,j+1),rfl,⟨by simpa using r1,fun x hx=>?_,by dsimp only;omega,by dsimp only;omega,?_,?_⟩,by dsimp only;omega⟩
    ·rcases List.mem_or_eq_of_mem_set hx with hx|rfl
     ·exact r2 x hx
     ·exact hsj
    ·dsimp only
     rw[List.take_succ_eq_append_getElem hlt,List.filter_append,←r5,List.take_succ_eq_append_getElem (by simp;omega)]
     simp [hpx,List.take_set_of_le]
    ·dsimp only
     rw[List.drop_set_of_lt (by omega),←List.drop_drop,r6,List.drop_drop]
  ·have ej:j=l.length:=by omega
   subst ej;rw[List.take_length]at r5;have hm:(l.filter fun x=>!p x).length=i:=by rw[←r5];simp;omega
   have hil:i≤l.length:=by omega
   have e3:l.length-i+i=l.length:=by omega
   have sp:splice row i (List.replicate (l.length-i) (PV.str []))=(l.filter fun x=>!p x)++List.replicate (l.length-i) (PV.str []):=by
    unfold splice;rw[r5,List.length_replicate,List.drop_of_length_le (by omega),List.append_nil]
   have rl:((l.filter fun x=>!p x)++List.replicate (l.length-i) (PV.str [])).length=l.length:=by simp only[List.length_append,hm,List.length_replicate];omega
   rw[hm];generalize (l.filter fun x=>!p x)++List.replicate (l.length-i) (PV.str [])=row' at *
   have hb:¬h.length≤id:=by omega
   have hb2:max h.length (id+1)=h.length:=by omega
   have hb3:id+1≤h.length:=hid
   simp only[go_sem,Nat.lt_irrefl,hst,r1,rl,hil,sp,show i+(l.length-i)=l.length by omega,hb,hb2,hb3]
 ·have e1:jF p l = -1:=by simp [jF,hf]
  have hF:(l.filter fun x=>!p x)=l:=by
   rw[List.filter_eq_self];intro x hx;cases hpx:p x with
   | false=>rfl
   | true=>exact absurd (List.findIdx_lt_length_of_exists ⟨x,hx,hpx⟩) hf
  have hb:¬h.length≤id:=by omega
  have hb2:max h.length (id+1)=h.length:=by omega
  have hb3:id+1≤h.length:=hid
  simp only[go_sem,e1,hF,Nat.sub_self,List.replicate_zero,List.append_nil,hb,hb2,hb3];rw[cJ hh]
attribute [-go_sem] AV.cells cut
attribute [go_sem] AV.cells cut
end Go.Am
end
section
/- The reference: names of boards,and who waits. -/
open Go
set_option linter.all false
set_option maxRecDepth 100000
namespace Go.Am
variable {h:aA} {K:lA}
attribute [-go_sem] nB QA oB TB IC JC
attribute [local go_sem] List.getElem?_cons_zero List.getElem?_cons_succ List.set_cons_zero List.set_cons_succ
attribute [local go_sem] nG EF zC YH ZH aI aH bH bI dI fI gI iI nJ jI oJ XN HK YN
def DE (bs:List (Nm × Sta))(seen:List Nat):List Nm:=seen.filterMap fun i=>(bs[i]?).map (·.1)
theorem zpt {bs:List (Nm × Sta)}{seen:List Nat}{i:Nat}(hi:i<bs.length):DE bs (seen++[i])=DE bs seen++[bs[i].1]:=by
 unfold DE;rw[List.filterMap_append,List.filterMap_cons,List.filterMap_nil,List.getElem?_eq_getElem hi];rfl
theorem zpr {bs:List (Nm × Sta)}{seen:List Nat}(hd:seen.Nodup)(hb:∀ i∈seen,i<bs.length)(ha:∀ i,i<bs.length→i∈seen):(DE bs seen).Perm (PB bs):=by
 refine((GU hd hb ha).filterMap _).trans (List.Perm.of_eq ?_);unfold PB;apply List.ext_getElem?
 intro j;have:∀(pre bs:List (Nm×Sta)),((List.range' pre.length bs.length).filterMap fun i=>((pre++bs)[i]?).map (·.1))=bs.map (·.1):=by
  intro pre bs;induction bs generalizing pre with
  | nil=>rfl
  | cons e r ih=>
   have h2:=ih (pre++[e])
   rw[List.append_assoc,List.length_append]at h2;have h1:(pre++e::r)[pre.length]?=some e:=by simp
   rw[List.length_cons,List.range'_succ,List.filterMap_cons,h1];simp only[Option.map_some,List.map_cons];exact congrArg _ h2
 have:=this [] bs;rw[List.range_eq_range'];rw[show(List.range' 0 bs.length).filterMap (fun i=>(bs[i]?).map (·.1))=bs.map (·.1) from this]
theorem zps (bs:List (Nm × Sta))(seen:List Nat):(DE bs seen).length≤seen.length:=List.length_filterMap_le _ _
theorem z7Y (bs:List (Nm × Sta)):(PB bs).length=bs.length:=List.length_map _
theorem DZ (bs:List (Nm × Sta)):(JB bs).length=bs.length:=by unfold JB;rw[pM,z7Y]
set_option maxHeartbeats 4000000 in
theorem z93 (fb o2 o3 o4:Obj)(bs:List (Nm × Sta))(hu:(PB bs).Nodup)(hbl:bs.length≤12)(steps:List Nm)(tries:Int)(a b c:Nat)(l:aA) :
 cA X DI [.ref (h.length+5) 0] (QL h fb (vA PV.str aB bs) o2 o3 o4 (qbx h steps tries a b c) l []) K=K (.own (h.length+(6+l.length)) bs.length 0 bs.length) (QL h fb (vA PV.str aB bs) o2 o3 o4 (qbx h steps tries a b c) l [.row none ((JB bs).map PV.str) 0]) []:=by
 refine uA ?_;rw[zeN rfl];simp only[yR];refine⟨_,_,_,⟨rfl,rfl,rfl⟩,?_⟩;have mr:=fP (h:=QL h fb (vA PV.str aB bs) o2 o3 o4 (qbx h steps tries a b c) l [.row none [] 0]) (id:=h.length+1) (key:=PV.str) (val:=aB) (l:=bs) zC
 rw[nG,EF]at mr;simp only[List.length_cons,Nat.zero_add]at mr;simp only[go_sem,mr];refine UA (fun t:List Nat=>⟨[(3,.own (h.length+(6+l.length)) (DE bs t).length 0 (DE bs t).length),(9,.it (h.length+(6+(l.length+1))))],
  QL h fb (vA PV.str aB bs) o2 o3 o4 (qbx h steps tries a b c) l [.row none ((DE bs t).map PV.str) 0,.iter (some (h.length+1)) bs.length t bs.length],[]⟩)
  (fun t=>t.Nodup∧(∀i∈t,i<bs.length)) (fun t=>bs.length-t.length) [] rfl ⟨List.nodup_nil,by simp⟩ ?_
 rintro seen ⟨hd,hb⟩
 have hsl:seen.length≤bs.length:=by
  have h2:=hd.length_le_of_subset (l₂:=List.range bs.length) (fun x hx=>by rw[List.mem_range];exact hb x hx)
  simpa using h2
 have hwl:=zps bs seen
 have f0:h.length+(6+l.length)+1≤h.length+(6+(l.length+2)):=by omega
 have f1:h.length+(6+(l.length+1))+1≤h.length+(6+(l.length+2)):=by omega
 simp only[go_sem];refine kP (key:=PV.str) (val:=aB) (l:=bs) (m:=h.length+1) (seen:=seen) (by rw[nJ];rfl) zC ?_ ?_
 ·intro hall
  have hp:=zpr hd hb hall
  have hpl:(DE bs seen).length=bs.length:=by rw[hp.length_eq,z7Y]
  have hn:=zno hu hp
  rw[oJ];simp only[List.set_cons_zero,List.set_cons_succ];generalize DE bs seen=ns at *;have so:=fun K=>zo8 (h:=QL h fb (vA PV.str aB bs) o2 o3 o4 (qbx h steps tries a b c) l [.row none (ns.map PV.str) 0,.iter none 1 [] 0]) (K:=K) (h.length+(6+l.length)) ns (by omega) (by rw[iI];rfl)
  simp only[jI,List.set_cons_zero,hn]at so;simp only[go_sem,f0,f1,↓so,so];have emx:max (h.length+(6+l.length)) (h.length+(6+l.length)+1)=h.length+(6+(l.length+1)):=by omega
  rw[hpl,emx,HK];exact⟨rfl,rfl⟩
 ·intro i hi hni
  have hnn:(seen++[i]).Nodup:=by rw[List.nodup_append];exact⟨hd,by simp,fun a ha b hb=>by rw[List.mem_singleton]at hb;subst hb;intro e;subst e;exact hni ha⟩
  have hbb:∀x∈seen++[i],x<bs.length:=fun x hx=>by
   rcases List.mem_append.1 hx with hx|hx
   ·exact hb x hx
   ·rw[List.mem_singleton]at hx;rw[hx];exact hi
  have hlen:seen.length<bs.length:=by
   have h2:=hnn.length_le_of_subset (l₂:=List.range bs.length) (fun x hx=>by rw[List.mem_range];exact hbb x hx)
   simp at h2;omega
  have me:=ZO (h:=QL h fb (vA PV.str aB bs) o2 o3 o4 (qbx h steps tries a b c) l [.row none ((DE bs seen).map PV.str) 0,.iter (some (h.length+1)) bs.length (seen++[i]) bs.length]) (j:=h.length+(6+(l.length+1))) (m:=h.length+1) (key:=PV.str) (val:=aB) (l:=bs) (seen:=seen) (i:=i) (by rw[nJ];rfl) zC (by omega)
  have hsn:=zpt (seen:=seen) hi
  rw[oJ];simp only[List.set_cons_zero,List.set_cons_succ];have ml:((DE bs seen).map PV.str).length=(DE bs seen).length:=List.length_map ..
  have m1:(DE bs seen).length+1≤cB:=by unfold cB;omega
  generalize bs[i]=e at *;simp only[go_sem,me,m1,ml,f0,f1];refine⟨seen++[i],?_,⟨hnn,hbb⟩,by rw[List.length_append];simp;omega⟩
  rw[hsn,List.map_append,List.length_append];rfl
structure QAt (H:aA) (p F m:Nat) (bs:List (Nm × Sta)):Prop where
 p:H[p]?=some (.box [.ref F 0])
 f:∃a0 a1 a3 a4 a5:AV,H[F]?=some (.box [a0,a1,.mp m,a3,a4,a5])
 m:H[m]?=some (vA PV.str aB bs)
theorem ZS {H:aA}{m:Nat}{bs:List (Nm × Sta)}(hm:H[m]?=some (vA PV.str aB bs))(k:Nm):QA (none,[2]) false (.p (.agg [.int .i64 0,.int .i64 0,.str [],.str [],.int .i64 0])) (.mp m) (AS k) H=some (.p (gB bs k).pv):=by
 have:=BH (val:=aB) AH hm (kk:=(none,[2])) (k:=k) NE (ok:=false) (z:=AV.p (.agg [.int .i64 0,.int .i64 0,.str [],.str [],.int .i64 0]));rw[cond_false,GS]at this;refine this.trans ?_;unfold gB;cases nA bs k <;> rfl
theorem zpj {p F m q:Nat}{bs:List (Nm × Sta)}(Q:QAt h p F m bs)(k step:Nm)(hq:h[q]?=some (.box [AS step])):cA X MJ [AS k,.ref p 0,.ref q 0] h K=K (AB (!UE bs step k)) h []:=by
 refine uA ?_;rw[zeH rfl];obtain⟨hp,⟨a0,a1,a3,a4,a5,hf⟩,hm⟩:=Q;have lk:=ZS hm k
 unfold UE;generalize gB bs k=s at *;obtain⟨s1,s2,s3,s4,s5⟩:=s;unfold Sta.pv at lk;dsimp only at lk ⊢;by_cases c1:s1=1
 ·by_cases c2:s3=step
  ·simp [nO,go_sem,hp,hf,lk,hq,c1,c2]
  ·simp [nO,go_sem,hp,hf,lk,hq,c1,c2]
 ·simp [nO,go_sem,hp,hf,lk,hq,c1]
theorem zpk {p F m:Nat}{bs:List (Nm × Sta)}(Q:QAt h p F m bs)(hz:∀ k,-100000000000000000≤(gB bs k).since∧(gB bs k).since≤100000000000000000)(a b:Nm):cA X NJ [AS a,AS b,.ref p 0] h K=K (AI (Int.sign ((gB bs a).since-(gB bs b).since))) h []:=by
 refine uA ?_;rw[zeI rfl];obtain⟨hp,⟨a0,a1,a3,a4,a5,hf⟩,hm⟩:=Q;have la:=ZS hm a
 have lb:=ZS hm b
 have za:=hz a
 have zb:=hz b
 have sg:=fun n h K=>RP (h:=h) (K:=K) n
 generalize gB bs a=s at *;generalize gB bs b=t at *;obtain⟨s1,s2,s3,s4,s5⟩:=s;obtain⟨t1,t2,t3,t4,t5⟩:=t;unfold Sta.pv at la lb;dsimp only at la lb za zb ⊢;have w:IntKind.i64.wrap (s2-t2)=s2-t2:=CA _ (by omega) (by omega)
 simp only[ZX,go_sem,hp,hf,la,lb,w,↓sg,sg];first|done|trace_state
end Go.Am
end
section
/- The reference: who waits for a step. -/
open Go
set_option linter.all false
set_option maxRecDepth 100000
namespace Go.Am
variable {h:aA} {K:lA}
attribute [-go_sem] nB QA oB TB IC JC
theorem zgx {P:Int→Prop}(steps:List Nm)(tries:Int){w:FlQ}(h:∀ e∈w.bs,P e.2.since){x:Ent}(hx:P x.time):∀e∈(doQ steps tries w x).1.bs,P e.2.since:=by
 have key:∀(k:Nm) (v:Sta),v.since=x.time→∀e∈JA w.bs k v,P e.2.since:=fun k v hv e he=>by
  rcases wM he with rfl|⟨he,_⟩
  ·dsimp only;rw[hv];exact hx
  ·exact h e he
 unfold doQ;split
 ·exact h
 split
 ·split
  ·exact h
  ·exact key _ _ rfl
 split
 ·exact h
 split
 ·split
  ·exact h
  split
  ·exact h
  split
  ·exact h
  ·exact key _ _ rfl
 split
 ·split
  ·exact h
  split
  ·exact h
  ·refine key _ _ ?_
   unfold sC;split
   ·split <;> rfl
   ·rfl
 split
 ·split
  ·exact h
  ·exact key _ _ rfl
 split
 ·exact h
 ·exact key _ _ rfl
theorem IS {P:Int→Prop}(steps:List Nm)(tries:Int):∀(l:List (Ent×Bool)) (a:AllQ) (i:Nat),(∀e∈a.w.bs,P e.2.since)→(∀y∈l,P y.1.time)→∀e∈(goQ steps tries a i l).w.bs,P e.2.since
 | [],a,i,h,_=>h
 | (x,c)::r,a,i,h,hx=>by
  have hr:=fun y hy=>hx y (List.mem_cons_of_mem (x,c) hy)
  unfold goQ;split
  ·exact IS steps tries r a (i+1) h hr
  ·have h1:=zgx steps tries h (hx (x,c) (List.mem_cons_self ..))
   split
   ·exact IS steps tries r _ (i+1) h1 hr
   ·exact IS steps tries r _ (i+1) h1 hr
theorem zql {P:Int→Prop}(steps:List Nm)(tries:Int){U:List Ent}(h:∀ x∈U,P x.time):∀e∈(tC steps tries U).w.bs,P e.2.since:=
 IS steps tries (WC U) GF 0 (fun e he=>by cases he) fun y hy=>h y.1 (List.of_mem_zip hy).1
theorem zpM {P:Int→Prop}{bs:List (Nm × Sta)}(h:∀ e∈bs,P e.2.since)(h0:P 0)(k:Nm):P (gB bs k).since:=by
 unfold gB;cases hg:nA bs k with
 | none=>exact h0
 | some s=>exact h _ (JI hg)
section
variable {o0 o1 o2 o3 o4 o5 o:Obj} {l r l2:aA}
theorem z3f:QL h o0 o1 o2 o3 o4 o5 l r=QL h o0 o1 o2 o3 o4 o5 [] (l++r):=rfl
theorem kQ:(QL h o0 o1 o2 o3 o4 o5 [] r).length=h.length+(6+r.length):=by rw[nG];simp
theorem ZN:(QL h o0 o1 o2 o3 o4 o5 [] r)[h.length+6]?=r[0]?:=WN 0
theorem kI:(QL h o0 o1 o2 o3 o4 o5 [] r)[h.length+7]?=r[1]?:=WN 1
theorem nV:(QL h o0 o1 o2 o3 o4 o5 [] r)[h.length+8]?=r[2]?:=WN 2
theorem lQ:(QL h o0 o1 o2 o3 o4 o5 [] r).set (h.length+6) o=QL h o0 o1 o2 o3 o4 o5 [] (r.set 0 o):=iQ 0
theorem cH:(QL h o0 o1 o2 o3 o4 o5 [] r).set (h.length+7) o=QL h o0 o1 o2 o3 o4 o5 [] (r.set 1 o):=iQ 1
theorem oV:(QL h o0 o1 o2 o3 o4 o5 [] r).set (h.length+8) o=QL h o0 o1 o2 o3 o4 o5 [] (r.set 2 o):=iQ 2
theorem kV:(QL h o0 o1 o2 o3 o4 o5 [] r).take (h.length+7)=QL h o0 o1 o2 o3 o4 o5 [] (r.take 1):=jQ 1
theorem lV:(QL h o0 o1 o2 o3 o4 o5 [] r).take (h.length+8)=QL h o0 o1 o2 o3 o4 o5 [] (r.take 2):=jQ 2
end
theorem z3h {fb o2 o3 o4:Obj}{bs:List (Nm × Sta)}{steps:List Nm}{tries:Int}{a b c:Nat}{r:aA}:QAt (QL h fb (vA PV.str aB bs) o2 o3 o4 (qbx h steps tries a b c) [] (.box [.ref (h.length+5) 0]::r)) (h.length+6) (h.length+5) (h.length+1) bs where
 p:=ZN
 f:=⟨_,_,_,_,_,aH⟩
 m:=zC
theorem iV {o0 o1 o2 o3 o4 o5:Obj}{l r:aA}{i:Nat}(hi:i<h.length):(QL h o0 o1 o2 o3 o4 o5 l r)[i]?=h[i]?:=by
 unfold QL QH;rw[List.getElem?_append_left hi]
attribute [local go_sem] kQ EF zC YH ZH aI aH bH bI dI fI gI ZN kI nV lQ cH oV kV lV
structure QIn (steps:List Nm) (tries:Int) (l:List Ent) (at_:Int):Prop where
 st:steps.length≤1000
 h0:steps≠[]
 ll:l.length≤1000
 w:∀x∈l,EntW x
 s:l.Pairwise fun a b=>a.time≤b.time
 t:∀x∈l,-100000000000000000≤x.time∧x.time≤100000000000000000
 nd:(PB (tC steps tries (upL l at_)).w.bs).Nodup
 bl:(tC steps tries (upL l at_)).w.bs.length≤12
theorem QIn.sin {steps:List Nm}{tries:Int}{l:List Ent}{at_:Int}(I:QIn steps tries l at_)(k:Nm) : -100000000000000000≤(gB (tC steps tries (upL l at_)).w.bs k).since∧(gB (tC steps tries (upL l at_)).w.bs k).since≤100000000000000000:=
 zpM (P:=fun z=>-100000000000000000≤z∧z≤100000000000000000) (zql (P:=fun z=>-100000000000000000≤z∧z≤100000000000000000) steps tries (U:=upL l at_) fun x hx=>I.t x ((show(upL l at_).Sublist l from List.take_sublist _ _).subset hx)) (by omega) k
theorem zp2 (a b:Int):decide (Int.sign (a-b)<0)=decide (sB a b<0):=by
 rw[decide_eq_decide];unfold sB;by_cases h1:a<b
 ·rw[if_pos h1,Int.sign_eq_neg_one_of_neg (by omega)]
 ·rw[if_neg h1]
  by_cases h2:a=b
  ·subst h2;simp
  ·rw[if_neg h2,Int.sign_eq_one_of_pos (by omega)]
theorem zoa {b i N n:Nat}{P:lA}{H:aA}{x:Esc}{sh:Sh}{xs ys:List PV}(hx:x=[])(hi:b≤i)(gi:H[i]?=some (.row sh ys 0))(hn:N=ys.length)(hle:n≤N)(hw:win ys 0 n=xs)
 (k:P (.p (.sl sh xs)) (H.take b) []):CC false b P (some [.own i N 0 n]) H x:=by
 subst hx hn hw;have r1:rd H (.own i ys.length 0 n)=some (sh,win ys 0 n):=by simp [rd,gi,hle]
 rw[tK (v:=.p (.sl sh (win ys 0 n))) (fun y hy=>by cases hy) (by simp [MA,fD,dB,hi,r1]) (by simp [AV.top,AV.tops])]
 exact k
theorem GK {o0 o1 o2 o3 o4 o5:Obj}{r t:aA}:(QL (h++t) o0 o1 o2 o3 o4 o5 [] r).take h.length=h:=by
 unfold QL QH;rw[List.append_assoc,List.take_left]
set_option maxHeartbeats 4000000 in
theorem zoC (steps:List Nm)(tries:Int)(l:List Ent)(at_:Int)(I:QIn steps tries l at_)(step:Nm) :
 cA X DL [EB steps tries,eB l,AS step,AI at_] h K=K (TA (ON (tC steps tries (upL l at_)).w.bs step)) h []:=by
 refine uA ?_;rw[zeG rfl];have RE:=fun h K=>QP (h:=h) (K:=K) steps tries I.st I.h0 l I.ll I.w I.s at_
 have hz:=I.sin
 have hnd:=I.nd
 have hbl:=I.bl
 simp only[pJ]at RE;generalize tC steps tries (upL l at_)=q at *;obtain⟨g,hg⟩:∃g,h++[Obj.box [TA steps,AI tries],Obj.box [AS step]]=g:=⟨_,rfl⟩;have gl:g.length=h.length+2:=by rw[←hg];simp
 have g1:g[h.length+1]?=some (.box [AS step]):=by rw[←hg,List.getElem?_append_right (by omega)];simp
 have RE1:=fun K=>RE g K
 have RE2:=fun(K:lA)=>(congrArg (fun z=>cA X UC [EB steps tries,eB l,AI at_] z K) hg).trans (RE g K)
 obtain⟨⟨bs,runs⟩,ref,why⟩:=q;dsimp only at RE2 hz hnd hbl ⊢;have NM:=fun(fb o2 o3 o4:Obj) (a b c:Nat) K=>z93 (h:=g) (K:=K) fb o2 o3 o4 bs hnd hbl steps tries a b c [.box [.ref (g.length+5) 0]]
 simp only[z3f (l:=[_]),List.length_cons,List.length_nil,Nat.zero_add,Nat.reduceAdd,List.cons_append,List.nil_append]at NM;simp only[YX,go_sem,↓RE2,RE2,List.length_nil,List.length_cons,Nat.zero_add,Nat.add_zero,Nat.reduceAdd,List.nil_append,List.getElem?_cons_zero,List.set_cons_zero,↓NM,NM];have nl:=DZ bs
 have fl:((JB bs).filter (UE bs step)).length≤bs.length:=by rw[←nl];exact List.length_filter_le ..
 have ef:((JB bs).map PV.str).filter (fun x=>!(!UE bs step (TE x)))=((JB bs).filter (UE bs step)).map PV.str:=by
  rw[List.filter_map];congr 1
  refine List.filter_congr fun x _=>?_
  simp [TE]
 have W1:=fun(o0 o2 o3 o4:Obj) (a b c:Nat) (o:Obj) (k:Nm) K=>zpj (h:=QL g o0 (vA PV.str aB bs) o2 o3 o4 (qbx g steps tries a b c) [] [.box [.ref (g.length+5) 0],o]) (K:=K) z3h k step (q:=h.length+1) (by rw[iV (by omega)];exact g1)
 have W2:=fun(o0 o2 o3 o4:Obj) (a b c:Nat) (o:Obj) (k j:Nm) K=>zpk (h:=QL g o0 (vA PV.str aB bs) o2 o3 o4 (qbx g steps tries a b c) [] [.box [.ref (g.length+5) 0],o]) (K:=K) z3h hz k j
 have DF:=fun(o0 o2 o3 o4:Obj) (a b c:Nat) K=>zaw (h:=QL g o0 (vA PV.str aB bs) o2 o3 o4 (qbx g steps tries a b c) [] [.box [.ref (g.length+5) 0],.row none ((JB bs).map PV.str) 0]) (K:=K) (g.length+7) ((JB bs).map PV.str) LN (by rw[List.length_map];omega) kI
  (g:=MJ) (caps:=[.ref (g.length+6) 0,.ref (h.length+1) 0]) (p:=fun v=>!UE bs step (TE v)) (fun o x hx K=>by
   obtain⟨n,_,rfl⟩:=List.mem_map.1 hx;rw[cH];exact W1 o0 o2 o3 o4 a b c o n K)
 simp only[ef,List.length_map,nl,cH,List.set_cons_succ,List.set_cons_zero]at DF;have es:kB (ltC fun x y=>Int.sign ((gB bs (TE x)).since-(gB bs (TE y)).since)) (((JB bs).filter (UE bs step)).map PV.str)=(ON bs step).map PV.str:=PS PV.str (fun a b=>zp2 _ _) _
 have wl:(ON bs step).length=((JB bs).filter (UE bs step)).length:=pM _ _
 generalize hF:(JB bs).filter (UE bs step)=F at *;have SS:=fun(o0 o2 o3 o4:Obj) (a b c:Nat) K=>zpN (h:=QL g o0 (vA PV.str aB bs) o2 o3 o4 (qbx g steps tries a b c) [] [.box [.ref (g.length+5) 0],.row none (F.map PV.str++List.replicate (bs.length-F.length) (PV.str [])) 0]) (K:=K) (g.length+7) bs.length (F.map PV.str) (List.replicate (bs.length-F.length) (PV.str [])) (by simp;omega) LN (by rw[List.length_map];omega) kI
  (g:=NJ) (caps:=[.ref (g.length+6) 0]) (c:=fun x y=>Int.sign ((gB bs (TE x)).since-(gB bs (TE y)).since)) (fun o x hx y hy K=>by
   obtain⟨n,_,rfl⟩:=List.mem_map.1 hx;obtain⟨m,_,rfl⟩:=List.mem_map.1 hy;rw[cH];exact W2 o0 o2 o3 o4 a b c o n m K)
 simp only[es,List.length_map,cH,List.set_cons_succ,List.set_cons_zero]at SS;have e6:YB (g.length+6) (.ref (g.length+5) 0)=[]:=by simp [YB,AV.top]
 simp only[↓DF,DF,↓SS,SS,e6];refine zoa (xs:=(ON bs step).map PV.str) rfl (by omega) kI (by simp [wl];omega) fl (by unfold win;simp [wl]) ⟨rfl,?_,rfl⟩
 rw[←hg];exact GK
end Go.Am
end
section
/- Lists of pairs sorted: printed by program. -/
open Go
set_option linter.unusedSimpArgs false
namespace Go.Am
attribute [-go_sem] PV.cells splice
variable {h:aA} {K:lA}
theorem zl8 (id n:Nat)(l tl:List PV)(hn:n=l.length+tl.length)(hs:VC (some 2) l)(hl:l.length≤1000)(hh:h[id]?=some (.row (some 2) (l++tl) 0)){g:Nat}{caps:List AV}{c:PV→PV→Int}(hc:iJ g caps c l id h) :
 cA X ZL [.own id n 0 l.length,AI 0,AI l.length,.fn g caps] h K=K (.tup []) (h.set id (.row (some 2) (kB (ltC c) l++tl) 0)) []:=by
 refine uA ?_;rw[zfm];have hid:=ZF hh
 have hst:∀o,(h.set id o)[id]?=some o:=fun o=>PG hid
 simp only[MR,go_sem,show IntKind.i64.wrap 1=1 from rfl]
 refine UA (fun i:Nat=>⟨[(0,.own id n 0 l.length),(1,AI 0),(2,AI l.length),(3,.fn g caps),(8,AI i)],h.set id (.row (some 2) ((wC (ltC c) (l.take i)).reverse++(l.drop i++tl)) 0),[]⟩) (fun i=>1≤i∧(i≤l.length∨i=1)) (fun i=>l.length-i) 1 ?_ (by simp) ?_
 ·have:(wC (ltC c) (l.take 1)).reverse++(l.drop 1++tl)=l++tl:=by cases l <;> rfl
  rw[this,cJ hh];rfl
 rintro i ⟨hi1,hi2⟩
 rcases Nat.lt_or_ge i l.length with hlt|hge
 ·simp only[go_sem,hlt]
  have hxl:l[i]∈l:=List.getElem_mem hlt
  generalize hx:l[i]=x at *;generalize hR:wC (ltC c) (l.take i)=R;have hRl:R.length=i:=by rw[←hR,NS];simp;omega
  have hRm:∀z∈R,z∈l:=fun z hz=>List.mem_of_mem_take ((oM (ltC c) (l.take i)).mem_iff.1 (by rw[hR];exact hz))
  have hdrop:l.drop i=x::l.drop (i+1):=by rw[←hx];exact List.drop_eq_getElem_cons hlt
  have hnext:wC (ltC c) (l.take (i+1))=BB (ltC c) x R:=by rw[OS _ _ _ hlt,hR,hx]
  refine UA (fun t:List PV×List PV=>⟨[(0,.own id n 0 l.length),(1,AI 0),(2,AI l.length),(3,.fn g caps),(8,AI i),(9,AI t.1.length)],h.set id (.row (some 2) (t.1.reverse++x::t.2) 0),[]⟩)
   (fun t=>∃B,R=B++t.1∧t.2=B.reverse++(l.drop (i+1)++tl)∧∀b∈B,ltC c x b=true) (fun t=>t.1.length) (R,l.drop (i+1)++tl) (by rw[hdrop,hRl];rfl) ⟨[],rfl,rfl,by simp⟩ ?_
  rintro⟨A,C⟩ ⟨B,q1,q2,q3⟩
  dsimp only at q1 q2 q3;have hlen:(A.reverse++x::C).length=n:=by
   have:R.length=B.length+A.length:=by rw[q1];simp
   rw[q2];simp;omega
  have hBA:B.length+A.length<l.length:=by
   have:R.length=B.length+A.length:=by rw[q1];simp
   omega
  have hln:l.length≤n:=by omega
  have w1:IntKind.i64.wrap ((i:Int)+1)=((i+1:Nat):Int):=CA _ (by omega) (by omega)
  cases A with
  | nil=>
   have hd:BB (ltC c) x R=B++[x]:=by rw[q1];exact NI (ltC c) x [] B q3 (fun y r h=>by cases h)
   simp only[go_sem,Int.lt_irrefl,w1];refine⟨i+1,?_,by omega,by omega⟩
   simp only[hnext,hd,q2,List.reverse_append,List.reverse_nil,List.nil_append,List.reverse_cons,List.append_assoc,List.cons_append]
  | cons y A=>
   have hyl:y∈l:=hRm y (by rw[q1];simp)
   have g1:=KS (y::A) C x
   have g2:=LS A C x y
   have sw:=MS A C x y
   simp only[List.length_cons]at hBA;generalize hrow:(y::A).reverse++x::C=row at *;simp only[List.length_cons]at g1;have w2:IntKind.i64.wrap (((A.length+1:Nat):Int)-1)=(A.length:Int):=by rw[CA _ (by omega) (by omega)];omega
   have p1:(0:Int)<((A.length+1:Nat):Int):=by omega
   have b1:A.length+1<l.length:=by omega
   have b2:A.length<l.length:=by omega
   have cx:=gG (hs x hxl)
   have cy:=gG (hs y hyl)
   have hcc:=fun o K=>hc o x hxl y hyl K
   by_cases hxy:c x y<0
   ·have g3:(row.set (A.length+1) y)[A.length]?=some y:=by rw[List.getElem?_set_ne (by omega),g2]
    have lx:=PH (hs x hxl)
    have ly:=PH (hs y hyl)
    have sx:=OH (hs x hxl)
    have sy:=OH (hs y hyl)
    simp only[kA]at lx ly;have t1:=fun i xs h1=>RH (hs x hxl) (hs y hyl) id i 0 xs h1
    have t2:=fun i xs h1=>RH (hs y hyl) (hs x hxl) id i 0 xs h1
    simp only[go_sem,hst,p1,hlen,g1,g2,g3,w2,b1,b2,hln,cx,cy,hcc,hxy,lx,ly,sx,sy,t1,t2,sw];refine⟨(A,y::C),rfl,⟨B++[y],by simp [q1],by simp [q2],fun b hb=>?_⟩,by simp⟩
    rw[List.mem_append,List.mem_singleton]at hb;rcases hb with hb|rfl
    ·exact q3 b hb
    ·simpa [ltC] using hxy
   ·have hd:BB (ltC c) x R=B++x::y::A:=by rw[q1];exact NI (ltC c) x (y::A) B q3 (fun z r h=>by cases h;simpa [ltC] using hxy)
    simp only[go_sem,hst,p1,hlen,g1,g2,w2,b1,b2,hln,cx,cy,hcc,hxy,w1];refine⟨i+1,?_,by omega,by omega⟩
    simp only[hnext,hd,←hrow,q2,List.reverse_append,List.reverse_cons,List.append_assoc,List.cons_append,List.nil_append]
 ·have hge':¬i<l.length:=by omega
  have e1:l.take i=l:=List.take_of_length_le hge
  have e2:l.drop i=[]:=List.drop_of_length_le hge
  simp only[go_sem,hge',e1,e2];rfl
theorem zdf (id:Nat)(l:List PV)(hs:VC (some 2) l)(hl:l.length≤12)(hh:h[id]?=some (.row (some 2) l 0)){g:Nat}{caps:List AV}{c:PV→PV→Int}(hc:iJ g caps c l id h) :
 cA X VL [.own id l.length 0 l.length,.fn g caps] h K=K (.tup []) (h.set id (.row (some 2) (kB (ltC c) l) 0)) []:=by
 refine uA ?_;rw[zfh];have w0:IntKind.u64.wrap (l.length:Int)=l.length:=z0Q _ (by omega) (by omega)
 obtain⟨m,hm⟩:=wZ (l.length:Int) (by omega) (by omega)
 have is:=fun K=>zl8 (h:=h) (K:=K) id l.length l [] rfl hs (by omega) (by rw[List.append_nil];exact hh) hc
 simp only[List.append_nil]at is;have key:∀K:lA,cA X DG [.own id l.length 0 l.length,AI 0,AI l.length,AI m,.fn g caps] h K=K (.tup []) (h.set id (.row (some 2) (kB (ltC c) l) 0)) []:=by
  intro K;refine uA ?_;rw[zfp];simp only[PR,go_sem];refine UA (fun _:Unit=>⟨[(0,.own id l.length 0 l.length),(1,AI 0),(2,AI l.length),(3,AI m),(4,.fn g caps),(10,AB true),(11,AB true)],h,[]⟩) (fun _=>True) (fun _=>0) () rfl trivial ?_
  intro _ _;have w1:IntKind.i64.wrap ((l.length:Int)-0)=l.length:=by rw[CA _ (by omega) (by omega)];omega
  have b1:((l.length:Int)≤12):=by omega
  simp only[go_sem,w1,b1,is]
 simp only[jY,go_sem,w0,hm,key]
end Go.Am
end
section
/- The reference: what is refused,the status of a board,who runs,how many. -/
open Go
set_option linter.all false
set_option maxRecDepth 100000
namespace Go.Am
variable {h:aA} {K:lA}
attribute [-go_sem] nB QA oB TB IC JC splice
attribute [local go_sem] List.getElem?_cons_zero List.getElem?_cons_succ List.set_cons_zero List.set_cons_succ
attribute [local go_sem] kQ EF zC YH ZH aI aH bH bI dI fI gI ZN kI nV lQ cH oV kV lV
section
variable {steps:List Nm} {tries:Int} {l:List Ent} {at_:Int}
theorem zo5 (I:QIn steps tries l at_):cA X zL [EB steps tries,eB l,AI at_] h K=K (.tup [AL ((tC steps tries (upL l at_)).ref.map fun(j:Nat)=>(j:Int)),AL (tC steps tries (upL l at_)).why]) h []:=by
 refine uA ?_;rw[zeC rfl];have RE:=fun h K=>QP (h:=h) (K:=K) steps tries I.st I.h0 l I.ll I.w I.s at_
 simp only[pJ]at RE;generalize tC steps tries (upL l at_)=q at *;obtain⟨⟨bs,runs⟩,ref,why⟩:=q;dsimp only at RE ⊢;obtain⟨g,hg⟩:∃g,h++[Obj.box [TA steps,AI tries]]=g:=⟨_,rfl⟩;have gl:g.length=h.length+1:=by rw[←hg];simp
 have RE2:=fun(K:lA)=>(congrArg (fun z=>cA X UC [EB steps tries,eB l,AI at_] z K) hg).trans (RE g K)
 simp only[VX,go_sem,↓RE2,RE2];have w1:win (ref.map ZD) 0 ref.length=ref.map ZD:=pF (by simp)
 have w2:win (why.map eI) 0 why.length=why.map eI:=pF (by simp)
 have i1:h.length≤g.length+3:=by omega
 have i2:h.length≤g.length+4:=by omega
 have qb:∀(o0 o1 o2 o3 o4 o5:Obj) (r:aA),(QL g o0 o1 o2 o3 o4 o5 [] r).take h.length=h:=fun o0 o1 o2 o3 o4 o5 r=>by rw[←hg];exact GK
 have ea:AL (ref.map fun(j:Nat)=>(j:Int)) = .p (.sl none (ref.map ZD)):=by rw[AL,List.map_map];rfl
 rw[ea];simp [w1,w2,i1,i2,qb,AV.top,AV.tops]
theorem zoA (I:QIn steps tries l at_)(board:Nm):cA X CL [EB steps tries,eB l,AS board,AI at_] h K=K (.tup [.p (gB (tC steps tries (upL l at_)).w.bs board).pv,AB (nA (tC steps tries (upL l at_)).w.bs board).isSome]) h []:=by
 refine uA ?_;rw[zeF rfl];have RE:=fun h K=>QP (h:=h) (K:=K) steps tries I.st I.h0 l I.ll I.w I.s at_
 simp only[pJ]at RE;generalize tC steps tries (upL l at_)=q at *;obtain⟨⟨bs,runs⟩,ref,why⟩:=q;dsimp only at RE ⊢;have RE1:=fun K=>RE (h++[Obj.box [TA steps,AI tries],.box [AI 0,AI 0,AS [],AS [],AI 0]]) K
 obtain⟨g,hg⟩:∃g,h++[Obj.box [TA steps,AI tries],.box [AI 0,AI 0,AS [],AS [],AI 0]]=g:=⟨_,rfl⟩;have gl:g.length=h.length+2:=by rw[←hg];simp
 have RE2:=fun(K:lA)=>(congrArg (fun z=>cA X UC [EB steps tries,eB l,AI at_] z K) hg).trans (RE g K)
 have lk:=fun(o0 o2 o3 o4 o5:Obj) (r:aA)=>BH (h:=QL g o0 (vA PV.str aB bs) o2 o3 o4 o5 [] r) (id:=g.length+1) (key:=PV.str) (val:=aB) AH zC (kk:=(none,[2])) (k:=board) NE (ok:=true) (z:=AV.p (.agg [.int .i64 0,.int .i64 0,.str [],.str [],.int .i64 0]))
 simp only[cond_true,GS]at lk;have sp:∀(o0 o1 o2 o3 o4 o5 o:Obj) (r:aA),(QL g o0 o1 o2 o3 o4 o5 [] r).set (h.length+1) o=QL (h++[Obj.box [TA steps,AI tries],o]) o0 o1 o2 o3 o4 o5 [] r:=fun o0 o1 o2 o3 o4 o5 o r=>by
  unfold QL QH;rw[List.set_append_left _ _ (by omega),←hg,List.set_append_right _ _ (by omega)]
  simp
 have gp:∀(o0 o1 o2 o3 o4 o5:Obj) (r:aA),(QL g o0 o1 o2 o3 o4 o5 [] r)[h.length+1]?=some (.box [AI 0,AI 0,AS [],AS [],AI 0]):=fun o0 o1 o2 o3 o4 o5 r=>by
  rw[iV (by omega),←hg,List.getElem?_append_right (by omega)]
  simp
 have gp2:∀(o0 o1 o2 o3 o4 o5 o:Obj) (r:aA),(QL (h++[Obj.box [TA steps,AI tries],o]) o0 o1 o2 o3 o4 o5 [] r)[h.length+1]?=some o:=fun o0 o1 o2 o3 o4 o5 o r=>by
  rw[iV (by simp),List.getElem?_append_right (by omega)]
  simp
 unfold gB;cases hb:nA bs board with
 | none=>
  rw[hb]at lk;simp only[Option.map_none,Option.getD_none,Option.isSome_none]at lk;simp only[wR,go_sem,↓RE2,RE2,lk,sp,gp,gp2,splice];exact⟨rfl,GK⟩
 | some s=>
  obtain⟨s1,s2,s3,s4,s5⟩:=s;have sv:aB ⟨s1,s2,s3,s4,s5⟩ = .p (.agg [eI s1,eI s2,.str s3,.str s4,eI s5]):=rfl
  rw[hb]at lk;simp only[Option.map_some,Option.getD_some,Option.isSome_some,sv]at lk;simp only[wR,go_sem,↓RE2,RE2,lk,sp,gp,gp2,splice];exact⟨rfl,GK⟩
end
end Go.Am
end
