/- Texts of the proof, laid together: SpStream, SpMap, MathFrac, SpBase, SpList, PSort, SpShp, SpStr, SpFind, SpLimD, SpLim, SpLotA, SpRecD, PEnt, PFollow, PPass, PReplay, SpFlo1, PSplit, PTxt, PNum, PFlt, PFltR, PWrit, PEntT, SpRec, SpEnt1, SpEnt3, SpEnt2, SpEnt4, SpSortE, SpEnt5, SpIdx, SpLen, SpStrs, SpGenA, SpSome, SpGenL, SpSortRec, SpCompact, SpGenR, PMerge, SpMrgA, SpSort, SpMrgB, SpMrgC, SpMrgD, PFin, SpTxt, AmL4, AmL5, SpSplit, SpLines, SpNum, SpNums, SpQNum, SpFlt1, SpFlt2, SpWords, SpJoin, SpBld, PBits, SpFlt3, SpFlt4, SpFlt5, SpArg, SpFlt6, SpFltT, SpSortO, SpGenF, SpChg. -/
import Derived.Shelf.Strings.Repeat
import Derived.Shelf.Strings.SlTrimAscii
import Derived.Shelf.Spec.TrailingZeros
import Derived.Shelf.Strings.Count
import Derived.Shelf.Strings.OnBuilder
import Derived.Test.YtpmepdkfbangiaaGreatDoorlawBF6
set_option linter.all false
section
/- The stream of numbers out of which the laws draw. -/
open Go
namespace Go.Am
abbrev eI (n:Int):PV:=.int .i64 n
abbrev AL (l:List Int):AV:=.p (.sl none (l.map eI))
abbrev IA (L:List Int)(a:Int):Obj:=.box [AL L,AI a]
def nI (x n:Int):Int:=if n<1 then 0 else if x.tmod n<0 then IntKind.i64.wrap (x.tmod n+n) else x.tmod n
theorem z9m (x n:Int)(h:aA)(K:lA):cA X zG [AI x,AI n] h K=K (AI (nI x n)) h []:=by
 refine uA ?_;rw[zeu rfl];simp only[mR,go_sem];unfold nI;by_cases h1:n<1
 ·simp only[h1,if_true]
 ·simp only[h1,if_false,show ¬n=0 by omega]
  split <;> rfl
theorem zdC (x n:Int)(h1:1≤n)(h2:n≤4611686018427387904):0≤nI x n∧nI x n<n:=by
 unfold nI;rw[if_neg (by omega)]
 have:=Int.tmod_lt_of_pos x (show 0<n by omega)
 have h3 : -n<x.tmod n:=by
  have:=Int.lt_tmod_of_pos x (show 0<n by omega)
  exact this
 split
 ·rw[CA _ (by omega) (by omega)];omega
 ·omega
def QB (L:List Int)(a n:Int):Int:=
 if L.length=0 then nI (IntKind.i64.wrap ((a+1)*7919)) n
 else nI (IntKind.i64.wrap (nI (L.getD (a.tmod L.length).toNat 0) 1073741824+IntKind.i64.wrap (IntKind.i64.wrap (a.tdiv L.length)*IntKind.i64.wrap (7919+a.tmod L.length)))) n
theorem iP (L:List Int)(a n:Int)(h1:1≤n)(h2:n≤4611686018427387904):0≤QB L a n∧QB L a n<n:=by
 unfold QB;split <;> exact zdC _ _ h1 h2
theorem PG {h:aA}{id:Nat}{o':Obj}(hid:id<h.length):(h.set id o')[id]?=some o':=by simp [hid]
theorem ZF {h:aA}{id:Nat}{o:Obj}(hh:h[id]?=some o):id<h.length:=(List.getElem?_eq_some_iff.1 hh).1
def XA (n:Nat)(a:Int):Prop:=0≤a∧a+n<4611686018427387904
theorem UB {n m:Nat}{a b:Int}(H:XA m a)(h:a≤b)(hn:b+n≤a+m):XA n b:=by unfold XA at *;omega
theorem JH {a:Int}(H:XA 14 a):XA 0 (a)∧XA 0 (a+1)∧XA 0 (a+1+1)∧XA 0 (a+1+1+1)∧XA 0 (a+1+1+1+1)∧XA 0 (a+1+1+1+1+1)∧XA 0 (a+1+1+1+1+1+1)∧XA 0 (a+1+1+1+1+1+1+1)∧XA 0 (a+1+1+1+1+1+1+1+1)∧XA 0 (a+1+1+1+1+1+1+1+1+1)∧XA 0 (a+1+1+1+1+1+1+1+1+1+1)∧XA 0 (a+1+1+1+1+1+1+1+1+1+1+1)∧XA 0 (a+1+1+1+1+1+1+1+1+1+1+1+1)∧XA 0 (a+1+1+1+1+1+1+1+1+1+1+1+1+1)∧XA 0 (a+1+1+1+1+1+1+1+1+1+1+1+1+1+1):=by
 unfold XA at *;omega
def Gen (f:Nat)(args:List AV)(L:List Int)(a a2:Int)(v:AV):Prop:=∀(h:aA) (id:Nat) (K:lA),h[id]?=some (IA L a)→cA X f (.ref id 0::args) h K=K v (h.set id (IA L a2)) []
section
variable {f:Nat} {args:List AV} {L:List Int} {a a2:Int} {v:AV} {h l:aA} {id:Nat} {K:lA}
theorem Gen.set (g:Gen f args L a a2 v)(hid:id<h.length):cA X f (.ref id 0::args) (h.set id (IA L a)) K=K v (h.set id (IA L a2)) []:=by
 rw[g _ _ _ (PG hid),List.set_set]
theorem Gen.app (g:Gen f args L a a2 v)(hid:id<h.length):cA X f (.ref id 0::args) (h.set id (IA L a)++l) K=K v (h.set id (IA L a2)++l) []:=by
 rw[g _ _ _ (by rw[z7A (by simpa using hid)];exact PG hid),z9E (by simpa using hid),List.set_set]
theorem Gen.hd (g:Gen f args L a a2 v):cA X f (.ref 0 0::args) (IA L a::l) K=K v (IA L a2::l) []:=by
 rw[g _ _ _ rfl];rfl
theorem Gen.of (H:∀ (h:aA) (id:Nat),id<h.length→cA X f (.ref id 0::args) (h.set id (IA L a)) fun v1 h1 x1=>v1=v∧h1=h.set id (IA L a2)∧x1=[]):Gen f args L a a2 v:=by
 intro h id K hh;have hid:=ZF hh
 have:h.set id (IA L a)=h:=by
  apply List.ext_getElem?
  intro i;rw[List.getElem?_set];split
  ·rename_i e;subst e;rw[hh]
  ·rfl
 have k:=H h id hid
 rw[this]at k;exact uA k
end
def XE (f:Nat)(args:List AV)(L:List Int)(a:Int)(Q:AV→Int→Prop):Prop:=∀(h:aA) (id:Nat),h[id]?=some (IA L a)→∃v a2,Q v a2∧∀K:lA,cA X f (.ref id 0::args) h K=K v (h.set id (IA L a2)) []
section
variable {f:Nat} {args:List AV} {L:List Int} {a:Int} {Q:AV→Int→Prop}
theorem XE.set (g:XE f args L a Q){h:aA}{id:Nat}(hid:id<h.length):∃v a2,Q v a2∧∀K:lA,cA X f (.ref id 0::args) (h.set id (IA L a)) K=K v (h.set id (IA L a2)) []:=by
 obtain⟨v,a2,q,r⟩:=g _ _ (PG hid);exact⟨v,a2,q,fun K=>by rw[r,List.set_set]⟩
theorem XE.app (g:XE f args L a Q){h l:aA}{id:Nat}(hid:id<h.length):∃v a2,Q v a2∧∀K:lA,cA X f (.ref id 0::args) (h.set id (IA L a)++l) K=K v (h.set id (IA L a2)++l) []:=by
 obtain⟨v,a2,q,r⟩:=g (h.set id (IA L a)++l) id (by rw[z7A (by simpa using hid)];exact PG hid)
 exact⟨v,a2,q,fun K=>by rw[r,z9E (by simpa using hid),List.set_set]⟩
theorem XE.hd (g:XE f args L a Q){l:aA}:∃v a2,Q v a2∧∀K:lA,cA X f (.ref 0 0::args) (IA L a::l) K=K v (IA L a2::l) []:=g (IA L a::l) 0 rfl
theorem XE.of (H:∀ (h:aA) (id:Nat),id<h.length→cA X f (.ref id 0::args) (h.set id (IA L a)) fun v1 h1 x1=>∃ a2,Q v1 a2∧h1=h.set id (IA L a2)∧x1=[]):XE f args L a Q:=by
 intro h id hh;have hid:=ZF hh
 have:h.set id (IA L a)=h:=by
  apply List.ext_getElem?
  intro i;rw[List.getElem?_set];split
  ·rename_i e;subst e;rw[hh]
  ·rfl
 have k:=H h id hid
 rw[this]at k;obtain⟨v,h',x,⟨a2,q,e1,e2⟩,r⟩:=cA.one z3m k;subst e1;subst e2
 exact⟨v,a2,q,r⟩
end
def rD (l:List Int)(L:List Int)(a:Int):Int:=l.getD (QB L a l.length).toNat 0
theorem z0z {l L:List Int}{a:Int}(hl:0<l.length)(hl2:l.length<4611686018427387904):rD l L a∈l:=by
 obtain⟨b1,b2⟩:=iP L a l.length (by omega) (by omega)
 unfold rD;have:(QB L a l.length).toNat<l.length:=by omega
 simp only[List.getD,List.getElem?_eq_getElem this,Option.getD_some];exact List.getElem_mem _
def isI:PV→Bool
 | .int .i64 _=>true
 | _=>false
def unI:PV→Int
 | .int _ n=>n
 | _=>0
theorem zqz {xs:List PV}(h:xs.all isI=true):xs=(xs.map unI).map eI:=by
 induction xs with
 | nil=>rfl
 | cons x r ih=>
  simp only[List.all_cons,Bool.and_eq_true]at h;simp only[List.map_cons];rw[←ih h.2];cases x with
  | int k n=>cases k <;> first|rfl|cases h.1
  | _=>cases h.1
set_option maxHeartbeats 400000 in
theorem z74 (L:List Int)(a n:Int)(hp:XA 0 a):Gen AD [AI n] L a (a+1) (AI (QB L a n)):=by
 refine Gen.of fun h id hid=>?_
 rw[zez rfl];obtain⟨h0,h1⟩:=hp;have w1:IntKind.i64.wrap (a+1)=a+1:=CA _ (by omega) (by omega)
 have w2:IntKind.i64.wrap (a+1-1)=a:=by rw[CA _ (by omega) (by omega)];omega
 have hs:∀o',(h.set id o')[id]?=some o':=fun o'=>PG hid
 rcases Nat.eq_zero_or_pos L.length with hl|hl
 ·simp only[pR,go_sem,hs,z9m,hl,w1]
  simp only[QB,hl,if_true]
 ·have e1:((L.length:Int)=0)=False:=by simp only[eq_iff_iff,iff_false];omega
  have e2:0≤a.tmod L.length:=Int.tmod_nonneg _ h0
  have e3:a.tmod L.length<L.length:=Int.tmod_lt_of_pos _ (by omega)
  have e4:=eT (k:=.i64) e2
  have e5:(L.map eI)[(a.tmod L.length).toNat]?=some (eI (L.getD (a.tmod L.length).toNat 0)):=by
   rw[GB eI (show(a.tmod L.length).toNat<L.length by omega)]
   simp [List.getD,show(a.tmod L.length).toNat<L.length by omega]
  simp only[pR,go_sem,hs,z9m,e1,w1,w2,e4,e5];simp only[QB,show ¬L.length=0 by omega,if_false]
section
variable {L:List Int} {a:Int} {h l:aA} {id:Nat} {K:lA}
theorem DN (hid:id<h.length)(hp:XA 0 a)(n:Int):cA X AD [.ref id 0,AI n] (h.set id (IA L a)) K=K (AI (QB L a n)) (h.set id (IA L (a+1))) []:=(z74 L a n hp).set hid
theorem z9s (hid:id<h.length)(hp:XA 0 a)(n:Int):cA X AD [.ref id 0,AI n] (h.set id (IA L a)++l) K=K (AI (QB L a n)) (h.set id (IA L (a+1))++l) []:=(z74 L a n hp).app hid
theorem z73 (hp:XA 0 a)(n:Int):Gen vE [AI n] L a (a+1) (AB (decide (QB L a n=0))):=by
 refine Gen.of fun h id hid=>?_
 rw[zey rfl];simp only[NX,go_sem,DN hid hp]
theorem z9p (hid:id<h.length)(hp:XA 0 a)(n:Int):cA X vE [.ref id 0,AI n] (h.set id (IA L a)) K=K (AB (decide (QB L a n=0))) (h.set id (IA L (a+1))) []:=(z73 hp n).set hid
theorem z9o (hid:id<h.length)(hp:XA 0 a)(n:Int):cA X vE [.ref id 0,AI n] (h.set id (IA L a)++l) K=K (AB (decide (QB L a n=0))) (h.set id (IA L (a+1))++l) []:=(z73 hp n).app hid
theorem z75 (hp:XA 0 a)(xs:List PV)(hx:xs.all isI=true)(hl:0<xs.length)(hl2:xs.length<4611686018427387904) :
 Gen wE [.p (.sl none xs)] L a (a+1) (AI (rD (xs.map unI) L a)):=by
 refine Gen.of fun h id hid=>?_
 rw[ze0 rfl];obtain⟨b1,b2⟩:=iP L a xs.length (by omega) (by omega)
 have e4:=eT (k:=.i64) b1
 have e5:xs[(QB L a xs.length).toNat]?=some (eI (rD (xs.map unI) L a)):=by
  have hm:=zqz hx
  generalize hq:xs.map unI=q at *;subst hm;simp only[List.length_map]at *;rw[GB eI (show(QB L a q.length).toNat<q.length by omega)]
  simp [rD,List.getD,show(QB L a q.length).toNat<q.length by omega]
 simp only[OX,go_sem,DN hid hp,e4,e5]
theorem z0B (hid:id<h.length)(hp:XA 0 a){xs:List PV}(hx:xs.all isI=true)(hl:0<xs.length)(hl2:xs.length<4611686018427387904) :
 cA X wE [.ref id 0,.p (.sl none xs)] (h.set id (IA L a)) K=K (AI (rD (xs.map unI) L a)) (h.set id (IA L (a+1))) []:=(z75 hp xs hx hl hl2).set hid
theorem z9t (hid:id<h.length)(hp:XA 0 a){xs:List PV}(hx:xs.all isI=true)(hl:0<xs.length)(hl2:xs.length<4611686018427387904) :
 cA X wE [.ref id 0,.p (.sl none xs)] (h.set id (IA L a)++l) K=K (AI (rD (xs.map unI) L a)) (h.set id (IA L (a+1))++l) []:=(z75 hp xs hx hl hl2).app hid
def KC (u v:Int)(L:List Int)(a:Int):Int:=u+QB L a (v-u+1)
theorem JP {u v:Int}(L:List Int)(a:Int)(h1:u≤v)(h2:v≤u+4611686018427387900):u≤KC u v L a∧KC u v L a≤v:=by
 have:=iP L a (v-u+1) (by omega) (by omega)
 unfold KC;omega
theorem nZ (hp:XA 0 a)(u v:Int)(huv:u≤v)(hu : -1152921504606846976≤u)(hv:v≤1152921504606846976) :
 Gen lC [AI u,AI v] L a (a+1) (AI (KC u v L a)):=by
 refine Gen.of fun h id hid=>?_
 rw[ze1 rfl];obtain⟨b1,b2⟩:=JP L a huv (by omega)
 have w1:IntKind.i64.wrap (v-u)=v-u:=CA _ (by omega) (by omega)
 have w2:IntKind.i64.wrap (v-u+1)=v-u+1:=CA _ (by omega) (by omega)
 have w3:IntKind.i64.wrap (u+QB L a (v-u+1))=KC u v L a:=CA (KC u v L a) (by omega) (by omega)
 simp only[PX,go_sem,show ¬v<u by omega,w1,w2,DN hid hp,w3]
theorem z9w (hid:id<h.length)(hp:XA 0 a){u v:Int}(huv:u≤v)(hu : -1152921504606846976≤u)(hv:v≤1152921504606846976) :
 cA X lC [.ref id 0,AI u,AI v] (h.set id (IA L a)) K=K (AI (KC u v L a)) (h.set id (IA L (a+1))) []:=(nZ hp u v huv hu hv).set hid
theorem z9u (hid:id<h.length)(hp:XA 0 a){u v:Int}(huv:u≤v)(hu : -1152921504606846976≤u)(hv:v≤1152921504606846976) :
 cA X lC [.ref id 0,AI u,AI v] (h.set id (IA L a)++l) K=K (AI (KC u v L a)) (h.set id (IA L (a+1))++l) []:=(nZ hp u v huv hu hv).app hid
theorem z9v (hp:XA 0 a){u v:Int}(huv:u≤v)(hu : -1152921504606846976≤u)(hv:v≤1152921504606846976) :
 cA X lC [.ref 0 0,AI u,AI v] (IA L a::l) K=K (AI (KC u v L a)) (IA L (a+1)::l) []:=(nZ hp u v huv hu hv).hd
end
attribute [go_sem ↓] DN z9s z9p z9o z0B z9t z9w z9u z9v
attribute [go_sem] DN z9s z9p z9o z0B z9t z9w z9u z9v isI unI
end Go.Am
end
section
/- Maps,asv lists of keys with values. -/
open Go
set_option linter.all false
namespace Go.Am
section
variable {α β:Type} [DecidableEq α]
def BC (key:α→PV)(val:β→AV):Nat→List (α×β)→List ME
 | _,[]=>[]
 | n,e::r=>⟨key e.1,val e.2,n⟩::BC key val (n+1) r
def vA (key:α→PV)(val:β→AV)(l:List (α × β)):Obj:=.amap (BC key val 0 l) l.length
def yC (k:α):List (α×β)→Option Nat
 | []=>none
 | e::r=>if k=e.1 then some 0 else(yC k r).map (· + 1)
def xB (k:α):List (α×β)→Option β
 | []=>none
 | e::r=>if k=e.1 then some e.2 else xB k r
def LC (k:α)(v:β):List (α×β)→List (α×β)
 | []=>[(k,v)]
 | e::r=>if k=e.1 then(k,v)::r else e::LC k v r
def EK (key:α→PV):Prop:=∀a b,PV.eqv (key a) (key b)=some (decide (a=b))
theorem AH:EK PV.str:=fun a b=>rfl
theorem z7U:EK (fun n:Int=>PV.int .i64 n):=fun a b=>by simp [PV.eqv,PV.eq1]
theorem NE {s:List UInt8}:pC (none,[2]) (.p (.str s))=some (.str s):=by simp [pC,PV.key,PV.shp,PV.sc,PV.cells,PV.kind]
theorem z7V {n:Int}{k:IntKind}:pC (none,[0]) (.p (.int k n))=some (.int k n):=by simp [pC,PV.key,PV.shp,PV.sc,PV.cells,PV.kind]
variable {key:α→PV} {val:β→AV}
theorem BZ (hk:EK key)(k:α):∀(l:List (α×β)) (n:Nat),mC (key k) (BC key val n l)=some (yC k l)
 | [],n=>rfl
 | e::r,n=>by
  simp only[BC,mC,hk k e.1,yC];by_cases h:k=e.1
  ·simp [h]
  ·simp [h,BZ hk k r (n+1)]
theorem z8s:∀ (l:List (α × β))(n:Nat),(BC key val n l).length=l.length
 | [],n=>rfl
 | e::r,n=>by simp [BC,z8s r (n+1)]
theorem SI:∀ (l:List (α × β))(n i:Nat),(BC key val n l)[i]?=(l[i]?).map fun e=>⟨key e.1,val e.2,n+i⟩
 | [],n,i=>rfl
 | e::r,n,0=>rfl
 | e::r,n,i+1=>by simp only[BC,List.getElem?_cons_succ,SI r (n+1) i];rw[show n+1+i=n+(i+1) by omega]
theorem zag {k:α}:∀{l:List (α×β)} {i:Nat},yC k l=some i→i<l.length
 | [],i,h=>by cases h
 | e::r,i,h=>by
  unfold yC at h;split at h
  ·cases h;simp
  ·obtain⟨j,hj,e2⟩:=Option.map_eq_some_iff.1 h
   have:=zag hj;simp;omega
theorem z0T {k:α}:∀{l:List (α×β)} {i:Nat},yC k l=some i→l[i]?=(xB k l).map fun v=>(k,v)
 | [],i,h=>by cases h
 | e::r,i,h=>by
  unfold yC at h;unfold xB;split at h
  ·rename_i hk;cases h;simp [hk]
  ·rename_i hk
   obtain⟨j,hj,e2⟩:=Option.map_eq_some_iff.1 h;subst e2;rw[if_neg hk,List.getElem?_cons_succ];exact z0T hj
theorem z0U {k:α}:∀{l:List (α×β)},yC k l=none→xB k l=none
 | [],h=>rfl
 | e::r,h=>by
  unfold yC at h;unfold xB;split at h
  ·cases h
  ·rename_i hk
   rw[if_neg hk];exact z0U (by simpa using h)
theorem z0V {k:α}:∀{l:List (α×β)} {i:Nat},yC k l=some i→(xB k l).isSome=true
 | [],i,h=>by cases h
 | e::r,i,h=>by
  unfold yC at h;unfold xB;split at h
  ·rename_i hk;simp [hk]
  ·rename_i hk
   obtain⟨j,hj,e2⟩:=Option.map_eq_some_iff.1 h;rw[if_neg hk];exact z0V hj
theorem zaf {k:α}{l:List (α × β)}:(yC k l).isSome=(xB k l).isSome:=by
 generalize h:yC k l=o;cases o with
 | none=>rw[z0U h];rfl
 | some i=>rw[z0V h];rfl
theorem zna {k:α}{l:List (α × β)}{n:Nat}:((yC k l).bind fun i=>(BC key val n l)[i]?).map ME.val=(xB k l).map val:=by
 cases h:yC k l with
 | none=>rw[z0U h];rfl
 | some i=>
  simp only[Option.bind_some,SI,z0T h];cases xB k l <;> rfl
theorem MU {k:α}{v:β}:∀{l:List (α×β)},yC k l=none→LC k v l=l++[(k,v)]
 | [],h=>rfl
 | e::r,h=>by
  unfold yC at h;unfold LC;split at h
  ·cases h
  ·rename_i hk
   rw[if_neg hk,MU (by simpa using h)];rfl
theorem z9Z {k:α}{v:β}:∀{l:List (α×β)} {i:Nat},yC k l=some i→LC k v l=l.set i (k,v)
 | [],i,h=>by cases h
 | e::r,i,h=>by
  unfold yC at h;unfold LC;split at h
  ·rename_i hk;cases h;simp [hk]
  ·rename_i hk
   obtain⟨j,hj,e2⟩:=Option.map_eq_some_iff.1 h;subst e2;rw[if_neg hk,z9Z hj];rfl
theorem z8t (k:α)(v:β):∀(l:List (α×β)) (n:Nat),BC key val n (l++[(k,v)])=BC key val n l++[⟨key k,val v,n+l.length⟩]
 | [],n=>rfl
 | e::r,n=>by simp only[List.cons_append,BC,z8t k v r (n+1),List.length_cons];rw[show n+1+r.length=n+(r.length+1) by omega]
theorem zng {k:α}{v:β}{l:List (α × β)}{i n:Nat}(h:yC k l=some i):(BC key val n l).modify i (fun e=>{ e with val:=val v })=BC key val n (l.set i (k,v)):=by
 apply List.ext_getElem?
 intro j;rw[List.getElem?_modify,SI,SI,List.getElem?_set];have hi:=zag h
 have hg:=z0T h
 by_cases hij:i=j
 ·subst hij
  rw[hg];simp only[if_true,hi];obtain⟨w,hw⟩:=Option.isSome_iff_exists.1 (z0V h);rw[hw];rfl
 ·simp [hij]
variable {h:aA} {id:Nat} {l:List (α × β)} {kk:Sh × List Nat} {k:α}
theorem dP (hh:h[id]?=some (vA key val l)):IB h (.mp id)=some (id,BC key val 0 l,l.length):=by
 simp only[IB,hh,vA]
theorem BH (hk:EK key)(hh:h[id]?=some (vA key val l))(hq:pC kk (.p (key k))=some (key k)){ok:Bool}{z:AV} :
 QA kk ok z (.mp id) (.p (key k)) h=some (bif ok then .tup [((xB k l).map val).getD z,AV.p (.bool (xB k l).isSome)] else((xB k l).map val).getD z):=by
 simp only[QA,hq,dP hh,Option.map_some,BZ hk,zna,Option.isSome_map];rfl
theorem yM (hk:EK key)(hh:h[id]?=some (vA key val l))(hq:pC kk (.p (key k))=some (key k)){v:β}(hv:HH (val v)=true) :
 oB kk (.mp id) (.p (key k)) (val v) h=some (.und,h.set id (vA key val (LC k v l)),YB id (val v)):=by
 simp only[oB,hq,dP hh,hv,BZ hk];cases hw:yC k l with
 | none=>
  simp only[vA,MU hw,z8t,List.length_append,List.length_cons,List.length_nil,Nat.zero_add]
 | some i=>
  simp only[vA,z9Z hw,zng hw,List.length_set]
theorem zdS {l:List (α × β)}{i:Nat}(hi:i<l.length):(BC key val 0 l).findIdx? (fun e=>e.born==i)=some i:=by
 rw[List.findIdx?_eq_some_iff_getElem];have hl:=z8s (key:=key) (val:=val) l 0
 have hb:∀j (hj:j<(BC key val 0 l).length),(BC key val 0 l)[j].born=j:=fun j hj=>by
  have h1:=List.getElem?_eq_getElem hj
  rw[SI,List.getElem?_eq_getElem (by omega)]at h1
  simp only[Option.map_some,Option.some.injEq]at h1;rw[←h1];simp
 refine⟨by omega,by simp [hb],fun j hj=>?_⟩
 simp [hb];omega
theorem KO (k k':α)(v:β):∀(l:List (α×β)),xB k' (LC k v l)=if k'=k then some v else xB k' l
 | []=>by simp [LC,xB]
 | e::r=>by
  unfold LC;by_cases h1:k=e.1
  ·rw[if_pos h1];simp only[xB]
   by_cases h2:k'=k
   ·simp [h2]
   ·rw[if_neg h2,if_neg h2,if_neg (by rw[←h1];exact h2)]
  ·rw[if_neg h1];simp only[xB,KO k k' v r]
   by_cases h2:k'=e.1
   ·rw[if_pos h2,if_pos h2,if_neg (by rw[h2];exact fun h=>h1 h.symm)]
   ·rw[if_neg h2,if_neg h2]
theorem kP {j m:Nat}{seen:List Nat}{K:AV→aA→Esc→Prop}(hj:h[j]?=some (.iter (some m) l.length seen l.length))(hm:h[m]?=some (vA key val l))
 (hend:(∀i,i<l.length→i∈seen)→K (.tup [AV.p (.bool false)]) (h.set j (.iter none 1 [] 0)) [])
 (hstep:∀(i:Nat) (hi:i<l.length),i∉seen→K (.tup [AV.p (.bool true),.p (key l[i].1),val l[i].2]) (h.set j (.iter (some m) l.length (seen++[i]) l.length)) []):nxK (.it j) h K:=by
 unfold nxK eP;simp only[hj,dP hm,and_self,if_true];have hmem:∀e∈(BC key val 0 l).filter (fun e=>!seen.contains e.born),∃(i:Nat) (hi:i<l.length),e=⟨key l[i].1,val l[i].2,i⟩∧i∉seen:=by
  intro e he;obtain⟨h1,h2⟩:=List.mem_filter.1 he;obtain⟨i,hi,e2⟩:=List.mem_iff_getElem?.1 h1 |>.elim fun i hi=>by
   rw[SI]at hi;obtain⟨x,hx,e3⟩:=Option.map_eq_some_iff.1 hi;obtain⟨hl,e4⟩:=List.getElem?_eq_some_iff.1 hx;exact(⟨i,hl,by rw[←e3,←e4];simp⟩:∃(i:Nat) (hi:i<l.length),e=⟨key l[i].1,val l[i].2,i⟩)
  refine⟨i,hi,e2,?_⟩;rw[e2]at h2;simpa using h2
 have hnil:(BC key val 0 l).filter (fun e=>!seen.contains e.born)=[]→∀i,i<l.length→i∈seen:=by
  intro hf i hi;have h1:=List.filter_eq_nil_iff.1 hf ⟨key l[i].1,val l[i].2,i⟩ (by
   apply List.mem_iff_getElem?.2
   exact⟨i,by rw[SI,List.getElem?_eq_getElem hi];simp⟩)
  simpa using h1
 generalize (BC key val 0 l).filter (fun e=>!seen.contains e.born)=F at *
 cases F with
 | nil=>
  refine⟨by simp,fun y hy=>?_⟩
  rw[List.mem_singleton]at hy;subst hy;exact hend (hnil rfl)
 | cons e F=>
  refine⟨by simp,fun y hy=>?_⟩
  obtain⟨e',he',rfl⟩:=List.mem_map.1 hy;obtain⟨i,hi,e2,h2⟩:=hmem e' he';subst e2;exact hstep i hi h2
theorem fP (hh:h[id]?=some (vA key val l)):JC (.mp id) h=some (.it h.length,h++[.iter (some id) l.length [] l.length],[]):=by
 simp only[JC,dP hh]
theorem ZO {j m:Nat}{seen:List Nat}{i:Nat}(hj:h[j]?=some (.iter (some m) l.length (seen++[i]) l.length))(hm:h[m]?=some (vA key val l))(hi:i<l.length) :
 IC (.it j) h=some (.tup [.p (key l[i].1),val l[i].2],h,[]):=by
 simp only[IC,hj,dP hm,List.getLast?_append,List.getLast?_singleton,Option.some_or,if_true];have hb:=zdS (key:=key) (val:=val) hi
 have hg:=SI (key:=key) (val:=val) l 0 i
 rw[List.getElem?_eq_getElem hi]at hg;have hf:(BC key val 0 l).find? (fun e=>e.born==i)=some ⟨key l[i].1,val l[i].2,i⟩:=by
  rw[List.find?_eq_some_iff_getElem];rw[List.findIdx?_eq_some_iff_getElem]at hb;obtain⟨h1,h2,h3⟩:=hb;refine⟨by simp,i,h1,?_,fun j hj=>by simpa using h3 j hj⟩
  have:=List.getElem?_eq_getElem h1;rw[hg]at this;simpa using (Option.some.inj this).symm
 rw[hf];rfl
theorem GU {n:Nat}{seen:List Nat}(hd:seen.Nodup)(hb:∀ i∈seen,i<n)(ha:∀ i,i<n→i∈seen):seen.Perm (List.range n):=by
 rw[List.perm_ext_iff_of_nodup hd List.nodup_range];intro i;rw[List.mem_range];exact⟨hb i,ha i⟩
end
end Go.Am
end
section
/- Plain laws of fractions in lowest terms. -/
namespace Go.Am
end Go.Am
end
section
/- Small functions of numbers and of lists of numbers. -/
open Go
namespace Go.Am
variable {h:aA} {K:lA}
theorem s_Out (n a b:Int):cA X zD [AI n,AI a,AI b] h K=K (AB (decide (n<a)||decide (b<n))) h []:=by
 refine uA ?_;rw[zec rfl];by_cases h1:n<a <;> simp only[wX,go_sem,h1]
theorem PP (n a b:Int):cA X qD [AI n,AI a,AI b] h K=K (AB (decide (a≤n)&&decide (n≤b))) h []:=by
 refine uA ?_;rw[zeQ rfl];by_cases h1:a≤n <;> simp only[cY,go_sem,h1]
theorem zn4 (n a b:Int):(decide (n<a)||decide (b<n)) = !(decide (a≤n)&&decide (n≤b)):=by
 rw[Bool.eq_iff_iff];simp
theorem RP (n:Int):cA X BG [AI n] h K=K (AI n.sign) h []:=by
 refine uA ?_;rw[zeU rfl];rcases Int.lt_trichotomy n 0 with h1|h1|h1
 ·simp only[pO,go_sem,h1,Int.sign_eq_neg_one_of_neg h1]
 ·subst h1;simp only[pO,go_sem,Int.sign_zero]
 ·simp only[pO,go_sem,show ¬n<0 by omega,h1,Int.sign_eq_one_of_pos h1]
theorem z0Q (n:Int)(h1:0≤n)(h2:n<18446744073709551616):IntKind.u64.wrap n=n:=by
 simp [IntKind.wrap,IntKind.bits,IntKind.signed];omega
abbrev AU (n:Int):AV:=.p (.int .u64 n)
def sB (x y:Int):Int:=if x<y then -1 else if x=y then 0 else 1
theorem ZQ (x y:Int):sB x y=(x-y).sign:=by
 unfold sB;rcases Int.lt_trichotomy x y with h|h|h
 ·rw[if_pos h,Int.sign_eq_neg_one_of_neg (by omega)]
 ·rw[if_neg (by omega),if_pos h,h];simp
 ·rw[if_neg (by omega),if_neg (by omega),Int.sign_eq_one_of_pos (by omega)]
end Go.Am
end
section
/- Functions of lists. -/
open Go
namespace Go.Am
variable {h:aA} {K:lA}
theorem z0C (a:Int):cA X tH [AI a] h K=K (AB false) h []:=by
 refine uA ?_;rw[zeh rfl];simp only[yX,go_sem]
theorem z9z (a b:Int):cA X TF [AI a,AI b] h K=K (AI (sB a b)) h []:=by
 refine uA ?_;rw[zee rfl];unfold sB;by_cases h1:a<b
 ·simp only[jO,go_sem,z0C,h1]
 ·by_cases h2:b<a
  ·simp only[jO,go_sem,z0C,h1,h2,show ¬a=b by omega]
  ·simp only[jO,go_sem,z0C,h1,h2,show a=b by omega,Int.lt_irrefl]
theorem zoy (l m:List Int)(hl:l.length≤1000000000):cA X RL [AL l,AL m] h K=K (AB (decide (l=m))) h []:=by
 refine uA ?_;rw[zfc rfl];by_cases hlen:l.length=m.length
 ·simp only[qO,go_sem,hlen]
  refine UA (fun k:Nat=>⟨[(0,AL l),(1,AL m),(12,AI m.length),(13,AI k)],h,[]⟩) (fun k=>k≤m.length∧l.take k=m.take k) (fun k=>m.length-k) 0 rfl (by simp) ?_
  rintro k ⟨hk,hp⟩
  rcases Nat.lt_or_ge k m.length with hlt|hge
  ·have hg1:=GB eI (show k<l.length by omega)
   have hg2:=GB eI hlt
   have w2:IntKind.i64.wrap ((k:Int)+1)=((k+1:Nat):Int):=CA _ (by omega) (by omega)
   by_cases he:l[k]=m[k]
   ·simp only[go_sem,hlt,hg1,hg2,w2,he]
    exact⟨k+1,rfl,⟨by omega,by rw[List.take_succ_eq_append_getElem (by omega),List.take_succ_eq_append_getElem hlt,hp,he]⟩,by omega⟩
   ·simp only[go_sem,hlt,hg1,hg2,w2,he]
    have:¬l=m:=fun h=>he (by simp only[h])
    simp [this]
  ·have e1:k=m.length:=by omega
   have e2:l=m:=by rw[←List.take_length (l:=l),←List.take_length (l:=m),hlen,←e1,hp]
   subst e1;simp only[go_sem,Nat.lt_irrefl];simp [e2]
 ·have e1:((l.length:Int)=m.length)=False:=by simp only[eq_iff_iff,iff_false];omega
  simp only[qO,go_sem,e1];have:¬l=m:=fun h=>hlen (by rw[h])
  simp [this]
def qV (g:Nat)(caps:List AV)(p:PV→Bool)(xs:List PV)(h:aA):Prop:=∀x∈xs,∀K:lA,cA X g (.p x::caps) h K=K (AB (p x)) h []
def jF (p:PV→Bool)(xs:List PV):Int:=if xs.findIdx p<xs.length then(xs.findIdx p:Int) else -1
theorem zl2 (p:PV→Bool)(xs:List PV):decide (0≤jF p xs)=xs.any p:=by
 unfold jF;rw[Bool.eq_iff_iff];by_cases h:xs.findIdx p<xs.length
 ·rw[if_pos h];simp only[decide_eq_true_eq,List.any_eq_true]
  exact⟨fun _=>⟨_,List.getElem_mem h,List.findIdx_getElem⟩,fun _=>by omega⟩
 ·rw[if_neg h];simp only[decide_eq_true_eq,List.any_eq_true]
  refine⟨fun h=>by omega,fun⟨x,hx,hp⟩=>absurd (List.findIdx_lt_length_of_exists ⟨x,hx,hp⟩) h⟩
def DD:List Int→Int
 | []=>0
 | e::r=>if e=0 then DD r else e
theorem EU (l:List Int)(hl:l.length≤1000):cA X fF [AL l] h K=K (AI (DD l)) h []:=by
 refine uA ?_;rw[zep rfl];simp only[jR,go_sem];refine UA (fun k:Nat=>⟨[(5,AL l),(6,AI l.length),(7,AI k)],h,[]⟩) (fun k=>k≤l.length∧DD (l.drop k)=DD l) (fun k=>l.length-k) 0 rfl (by simp) ?_
 rintro k ⟨hk,hp⟩
 rcases Nat.lt_or_ge k l.length with hlt|hge
 ·have hg:=GB eI hlt
  have w2:IntKind.i64.wrap ((k:Int)+1)=((k+1:Nat):Int):=CA _ (by omega) (by omega)
  rw[List.drop_eq_getElem_cons hlt,DD]at hp;by_cases he:l[k]=0
  ·rw[if_pos he]at hp
   simp only[go_sem,hlt,hg,w2,he];exact⟨k+1,rfl,⟨by omega,hp⟩,by omega⟩
  ·rw[if_neg he]at hp
   simp only[go_sem,hlt,hg,w2,he];rw[hp]
 ·have e1:k=l.length:=by omega
  subst e1;simp only[go_sem,Nat.lt_irrefl];rw[List.drop_length]at hp;rw[←hp];rfl
end Go.Am
end
section
/- Plain lists: insertion sort asv Go's package slices does it on short lists;deleting;compacting. -/
namespace Go.Am
variable {α:Type}
def BB (lt:α→α→Bool)(x:α):List α→List α
 | []=>[x]
 | y::r=>bif lt x y then y::BB lt x r else x::y::r
def wC (lt:α→α→Bool)(l:List α):List α:=l.foldl (fun r x=>BB lt x r) []
def kB (lt:α→α→Bool)(l:List α):List α:=(wC lt l).reverse
theorem QO (lt:α→α→Bool)(x:α):∀r:List α,(BB lt x r).Perm (x::r)
 | []=>.refl _
 | y::r=>by
  unfold BB;cases lt x y with
  | true=>exact((QO lt x r).cons y).trans (.swap _ _ _)
  | false=>exact .refl _
theorem z7P (lt:α→α→Bool):∀(l r:List α),(l.foldl (fun r x=>BB lt x r) r).Perm (l++r)
 | [],r=>.refl _
 | x::l,r=>by
  simp only[List.foldl_cons,List.cons_append];refine(z7P lt l _).trans ?_;exact((QO lt x r).append_left l).trans (List.perm_middle)
theorem oM (lt:α→α→Bool)(l:List α):(wC lt l).Perm l:=by
 have:=z7P lt l [];rwa [List.append_nil]at this
theorem rZ (lt:α→α→Bool)(l:List α):(kB lt l).Perm l:=(List.reverse_perm _).trans (oM lt l)
theorem pM (lt:α→α→Bool)(l:List α):(kB lt l).length=l.length:=(rZ lt l).length_eq
theorem PI {lt:α→α→Bool}{l:List α}{x:α}:x∈kB lt l↔x∈l:=(rZ lt l).mem_iff
theorem NS (lt:α→α→Bool)(l:List α):(wC lt l).length=l.length:=(oM lt l).length_eq
structure Weak (lt:α→α→Bool):Prop where
 asym:∀a b,lt a b=true→lt b a=false
 ntrans:∀a b c,lt b a=false→lt c b=false→lt c a=false
theorem z7N {lt:α→α→Bool}(w:Weak lt)(x:α):∀r:List α,r.Pairwise (fun a b=>lt a b=false)→(BB lt x r).Pairwise (fun a b=>lt a b=false)
 | [],_=>by simp [BB]
 | y::r,h=>by
  unfold BB;rw[List.pairwise_cons]at h;cases hxy:lt x y with
  | true=>
   rw[cond_true,List.pairwise_cons];refine⟨fun z hz=>?_,z7N w x r h.2⟩
   rcases List.mem_cons.1 ((QO lt x r).mem_iff.1 hz) with rfl|hz
   ·exact w.asym _ _ hxy
   ·exact h.1 z hz
  | false=>
   rw[cond_false,List.pairwise_cons,List.pairwise_cons];refine⟨fun z hz=>?_,h⟩
   rcases List.mem_cons.1 hz with rfl|hz
   ·exact hxy
   ·exact w.ntrans _ _ _ (h.1 z hz) hxy
theorem z7Q {lt:α→α→Bool}(w:Weak lt):∀(l r:List α),r.Pairwise (fun a b=>lt a b=false)→(l.foldl (fun r x=>BB lt x r) r).Pairwise (fun a b=>lt a b=false)
 | [],r,h=>h
 | x::l,r,h=>z7Q w l _ (z7N w x r h)
theorem zlG {lt:α→α→Bool}(w:Weak lt)(l:List α):(kB lt l).Pairwise (fun a b=>lt b a=false):=by
 unfold kB;rw[List.pairwise_reverse];exact z7Q w l [] .nil
theorem OS (lt:α→α→Bool)(l:List α)(k:Nat)(hk:k<l.length):wC lt (l.take (k+1))=BB lt l[k] (wC lt (l.take k)):=by
 rw[List.take_succ_eq_append_getElem hk];unfold wC;rw[List.foldl_append];rfl
theorem z8q {β:Type}(f:α→β){lt:α→α→Bool}{lt':β→β→Bool}(h:∀ a b,lt' (f a) (f b)=lt a b)(x:α):∀r:List α,BB lt' (f x) (r.map f)=(BB lt x r).map f
 | []=>rfl
 | y::r=>by
  simp only[List.map_cons,BB,h];cases lt x y with
  | true=>simp only[cond_true,List.map_cons,z8q f h x r]
  | false=>rfl
theorem z7O (lt:α→α→Bool)(x:α)(A:List α):∀B:List α,(∀b∈B,lt x b=true)→BB lt x (B++A)=B++BB lt x A
 | [],_=>rfl
 | b::B,h=>by
  simp only[List.cons_append,BB,h b (by simp),cond_true]
  rw[z7O lt x A B (fun b hb=>h b (by simp [hb]))]
theorem KS (A C:List α)(x:α):(A.reverse++x::C)[A.length]?=some x:=by
 rw[List.getElem?_append_right (by simp)];simp
theorem LS (A C:List α)(x y:α):((y::A).reverse++x::C)[A.length]?=some y:=by
 rw[List.getElem?_append_left (by simp)];simp
theorem MS (A C:List α)(x y:α):(((y::A).reverse++x::C).set (A.length+1) y).set A.length x=A.reverse++x::y::C:=by
 have e:(y::A).reverse++x::C=A.reverse++y::x::C:=by simp
 rw[e,List.set_append_right _ _ (by simp),List.length_reverse,Nat.add_sub_cancel_left,List.set_append_right _ _ (by simp),List.length_reverse,Nat.sub_self]
 rfl
theorem NI (lt:α→α→Bool)(x:α)(A B:List α)(hB:∀ b∈B,lt x b=true)(hA:∀ y r,A=y::r→lt x y=false):BB lt x (B++A)=B++x::A:=by
 rw[z7O lt x A B hB];cases A with
 | nil=>rfl
 | cons y r=>simp only[BB,hA y r rfl,cond_false]
theorem PS {β:Type}(f:α→β){lt:α→α→Bool}{lt':β→β→Bool}(h:∀ a b,lt' (f a) (f b)=lt a b)(l:List α):kB lt' (l.map f)=(kB lt l).map f:=by
 have key:∀(l r:List α),(l.map f).foldl (fun r x=>BB lt' x r) (r.map f)=(l.foldl (fun r x=>BB lt x r) r).map f:=by
  intro l;induction l with
  | nil=>intro r;rfl
  | cons x l ih=>intro r;simp only[List.map_cons,List.foldl_cons,z8q f h,ih]
 unfold kB wC;have:=key l [];simp only[List.map_nil]at this;rw[this,List.map_reverse]
end Go.Am
namespace Go.Am
variable {α:Type}
end Go.Am
end
section
/- Values of a shape: loads and stores in rows. -/
open Go
namespace Go.Am
variable {h:aA} {K:lA}
theorem gG {sh:Sh}{x:PV}(hx:x.shp sh=true):VA sh 0 x=some x:=by
 cases sh with
 | none=>exact zgq hx
 | some n=>
  cases x with
  | agg cs=>
   simp only[PV.shp,Bool.and_eq_true,beq_iff_eq]at hx;simp [VA,hx.1];exact List.take_of_length_le (by omega)
  | _=>cases hx
theorem PH {sh:Sh}{x:PV}(hx:x.shp sh=true):x.cells.length=kA sh:=by
 cases sh with
 | none=>cases x <;> first|rfl|cases hx
 | some n=>
  cases x with
  | agg cs=>simp only[PV.shp,Bool.and_eq_true,beq_iff_eq]at hx;exact hx.1
  | _=>cases hx
theorem OH {sh:Sh}{x:PV}(hx:x.shp sh=true):x.cells.all PV.sc=true:=by
 cases sh with
 | none=>cases x <;> first|rfl|cases hx
 | some n=>
  cases x with
  | agg cs=>simp only[PV.shp,Bool.and_eq_true,beq_iff_eq]at hx;exact hx.2
  | _=>cases hx
theorem RH {sh:Sh}{x y:PV}(hx:x.shp sh=true)(hy:y.shp sh=true)(id i fz:Nat)(xs:List PV)(h1:aA):stE sh id i 0 fz sh xs x h1 (some y)=some (.und,h1.set id (.row sh (xs.set i x) fz),[]):=by
 cases sh with
 | none=>
  cases y with
  | agg cs=>cases hy
  | _=>simp only[PV.shp]at hx;simp [stE,hx]
 | some n=>
  cases y with
  | agg cs=>
   cases x with
   | agg ds=>
    simp only[PV.shp,Bool.and_eq_true,beq_iff_eq]at hx hy;simp [stE,PV.cells,splice,hx.1,hy.1,show cs.drop n=[] from List.drop_of_length_le (by omega)]
   | _=>cases hx
  | _=>cases hy
def VC (sh:Sh)(xs:List PV):Prop:=∀x∈xs,x.shp sh=true
theorem IU {sh:Sh}{xs:List PV}(hx:VC sh xs){i:Nat}(hi:i<xs.length):xs[i].shp sh=true:=hx _ (List.getElem_mem hi)
theorem cJ {h:aA}{id:Nat}{o:Obj}(hh:h[id]?=some o):h.set id o=h:=by
 apply List.ext_getElem?
 intro i;rw[List.getElem?_set];split
 ·rename_i e;subst e;rw[hh];simp [ZF hh]
 ·rfl
def iJ (g:Nat)(caps:List AV)(c:PV→PV→Int)(xs:List PV)(id:Nat)(h:aA):Prop:=∀(o:Obj) (x:PV),x∈xs→∀y,y∈xs→∀K:lA,cA X g (.p x :: .p y::caps) (h.set id o) K=K (AI (c x y)) (h.set id o) []
def ltC (c:PV→PV→Int)(a b:PV):Bool:=decide (c a b<0)
structure Shows (sh:Sh) (v:AV) (xs:List PV) (h:aA):Prop where
 len:OA v=some (AI xs.length)
 get:∀(k:Nat) (hk:k<xs.length),∃a,wA sh v (AI k) h=some a∧eA sh a h=some (.p xs[k])
theorem z9F {sh:Sh}{xs:List PV}(hs:VC sh xs):Shows sh (.p (.sl sh xs)) xs h:=by
 refine⟨rfl,fun k hk=>⟨.vp xs[k],?_,?_⟩⟩
 ·simp [wA,uB,hk]
 ·simp only[z8g,gG (IU hs hk)];rfl
theorem zp4 {sh:Sh}{id off len fz:Nat}{xs:List PV}(hs:VC sh xs)(hh:h[id]?=some (.row sh xs fz))(hl:off+len≤xs.length):Shows sh (.own id xs.length off len) (win xs off len) h:=by
 have hw:(win xs off len).length=len:=by simp [win];omega
 refine⟨by rw[hw];rfl,fun k hk=>⟨.rref id xs.length (off+k) 0,?_,?_⟩⟩
 ·rw[hw]at hk
  simp [wA,uB,hh,hl,hk]
 ·have hk':off+k<xs.length:=by rw[hw]at hk;omega
  have e:(win xs off len)[k]=xs[off+k]:=by simp [win]
  rw[e];simp only[z8f,hh,z8b,if_true,List.getElem?_eq_getElem hk',Option.bind_some,gG (IU hs hk'),Option.map_some]
theorem zp3 {sh:Sh}{id fz:Nat}{xs:List PV}(hs:VC sh xs)(hh:h[id]?=some (.row sh xs fz)):Shows sh (.own id xs.length 0 xs.length) xs h:=by
 have:=zp4 hs hh (off:=0) (len:=xs.length) (by omega)
 rwa [zah]at this
def zdk (g:Nat)(caps:List AV)(p:PV→Bool)(xs:List PV)(id:Nat)(h:aA):Prop:=∀(o:Obj) (x:PV),x∈xs→∀K:lA,cA X g (.p x::caps) (h.set id o) K=K (AB (p x)) (h.set id o) []
end Go.Am
end
section
/- Strings: keys,the library's functions without text. -/
open Go
set_option linter.unusedSimpArgs false
namespace Go.Am
variable {h:aA} {K:lA}
abbrev AS (s:List UInt8):AV:=.p (.str s)
theorem z3l:X.ext=GJ wG xG:=rfl
theorem zoN (s:List UInt8)(c:UInt8):cA X wG [AS s,.p (.int .u8 c.toNat)] h K=K (AI (bG s c)) h []:=by
 have:=z67 (X:=X) (f:=wG) (asv:=[AS s,.p (.int .u8 c.toNat)]) (vs:=[.str s,.int .u8 c.toNat]) (h:=h) (h1:=h) (r:=.int .i64 (bG s c)) (K:=K) (by kernel_rfl) rfl rfl rfl ?_
 ·exact this
 ·rw[z3l]
  unfold GJ;rw[show Nat.beq wG wG=true from by kernel_rfl]
  simp
theorem zoF (a b:List UInt8):cA X xG [AS a,AS b] h K=K (AI (EA a b)) h []:=by
 have:=z67 (X:=X) (f:=xG) (asv:=[AS a,AS b]) (vs:=[.str a,.str b]) (h:=h) (h1:=h) (r:=.int .i64 (EA a b)) (K:=K) (by kernel_rfl) rfl rfl rfl ?_
 ·exact this
 ·rw[z3l]
  unfold GJ;rw[show Nat.beq xG wG=false from by kernel_rfl,show Nat.beq xG xG=true from by kernel_rfl]
  rfl
theorem SP (a b:List UInt8):cA X LE [AS a,AS b] h K=K (AI (EA a b)) h []:=by
 have key:∀(h:aA) (K:lA),cA X IJ [AS a,AS b] h K=K (AI (EA a b)) h []:=by
  intro h K;refine uA ?_;rw[zej rfl];simp only[AX,go_sem,zoF]
 refine uA ?_;rw[zfH rfl];simp only[RY,go_sem,key]
theorem z9q (s:List UInt8)(c:UInt8):cA X mM [AS s,.p (.int .u8 c.toNat)] h K=K (AI (bG s c)) h []:=by
 have key:∀(h:aA) (K:lA),cA X kL [AS s,.p (.int .u8 c.toNat)] h K=K (AI (bG s c)) h []:=by
  intro h K;refine uA ?_;rw[zek rfl];simp only[BX,go_sem,zoN]
 refine uA ?_;rw[zfI rfl];simp only[SY,go_sem,key]
theorem iO:∀ a,EA a a=0
 | []=>rfl
 | x::a=>by simp only[EA,UInt8.lt_irrefl,if_false];exact iO a
theorem xD:∀ {a b:List UInt8},EA a b=0→a=b
 | [],[],_=>rfl
 | [],_::_,h=>by simp [EA]at h
 | _::_,[],h=>by simp [EA]at h
 | x::a,y::b,h=>by
  simp only[EA]at h;split at h
  ·cases h
  ·split at h
   ·cases h
   ·rename_i h1 h2
    have:x=y:=UInt8.le_antisymm (UInt8.not_lt.1 h2) (UInt8.not_lt.1 h1)
    rw[this,xD h]
theorem gO:∀ a b,EA b a = - EA a b
 | [],[]=>rfl
 | [],_::_=>rfl
 | _::_,[]=>rfl
 | x::a,y::b=>by
  simp only[EA];by_cases h1:x<y
  ·have h2:¬y<x:=UInt8.lt_asymm h1
   simp [h1,h2]
  ·by_cases h2:y<x
   ·simp [h1,h2]
   ·simp [h1,h2,gO a b]
theorem aR:∀ {a b c:List UInt8},EA a b<0→EA b c<0→EA a c<0
 | [],[],_,h,_=>by simp [EA]at h
 | [],_::_,[],_,h=>by simp [EA]at h
 | [],_::_,_::_,_,_=>by simp [EA]
 | _::_,[],_,h,_=>by simp [EA]at h
 | _::_,_::_,[],_,h=>by simp [EA]at h
 | x::a,y::b,z::c,h1,h2=>by
  simp only[EA]at h1 h2 ⊢;by_cases hxy:x<y
  ·by_cases hyz:y<z
   ·simp [UInt8.lt_trans hxy hyz]
   ·by_cases hzy:z<y
    ·simp [hyz,hzy]at h2
    ·have:y=z:=UInt8.le_antisymm (UInt8.not_lt.1 hzy) (UInt8.not_lt.1 hyz)
     subst this;simp [hxy]
  ·by_cases hyx:y<x
   ·simp [hxy,hyx]at h1
   ·have:x=y:=UInt8.le_antisymm (UInt8.not_lt.1 hyx) (UInt8.not_lt.1 hxy)
    subst this;simp only[UInt8.lt_irrefl,if_false]at h1;by_cases hyz:x<z
    ·simp [hyz]
    ·by_cases hzy:z<x
     ·simp [hyz,hzy]at h2
     ·simp only[hyz,hzy,if_false]at h2 ⊢
      exact aR h1 h2
def kF (c:UInt8):Bool:=decide ((97:Int)≤c.toNat)&&decide ((c.toNat:Int)≤122)||decide ((48:Int)≤c.toNat)&&decide ((c.toNat:Int)≤57)||decide ((c.toNat:Int)=45)||decide ((c.toNat:Int)=95)
def mB (s:List UInt8):Bool:=match s with
 | []=>false
 | c::r=>decide (r.length<40)&&(decide ((97:Int)≤c.toNat)&&decide ((c.toNat:Int)≤122))&&(c::r).all kF
theorem CN (s:List UInt8)(hl:s.length≤1000000000):cA X pD [AS s] h K=K (AB (mB s)) h []:=by
 refine uA ?_;rw[zea rfl];cases s with
 | nil=>simp only[tI,go_sem,mB]
 | cons c r=>
  have n0:((c::r)=[])=False:=by simp
  have e1:(((r.length+1:Nat):Int)≤40)=(r.length<40):=by simp only[eq_iff_iff];omega
  by_cases h1:(40:Int)<((r.length+1:Nat):Int)
  ·have:¬r.length<40:=by omega
   simp only[tI,go_sem,n0,h1,mB,this]
  have h1':r.length<40:=by omega
  by_cases h2:(c.toNat:Int)<97
  ·have:¬(97:Int)≤c.toNat:=by omega
   simp only[tI,go_sem,n0,h1,h2,mB,this,h1']
  have h2':(97:Int)≤c.toNat:=by omega
  by_cases h3:(122:Int)<c.toNat
  ·have:¬(c.toNat:Int)≤122:=by omega
   simp only[tI,go_sem,n0,h1,h2,h3,mB,this,h1',h2']
  have h3':(c.toNat:Int)≤122:=by omega
  have ek:mB (c::r)=(c::r).all kF:=by simp [mB,h1',h2',h3']
  rw[ek];generalize hB:(c::r).all kF=B;simp only[tI,go_sem,n0,h1,h2,h3];have hlen:(c::r).length=r.length+1:=rfl
  rw[←hlen];generalize c::r=s at *;refine UA (fun k:Nat=>⟨[(0,AS s),(23,AI s.length),(24,AI k)],h,[]⟩) (fun k=>k≤s.length∧(s.take k).all kF=true) (fun k=>s.length-k) 0 rfl ⟨by omega,rfl⟩ ?_
  rintro k ⟨hk,hp⟩
  rcases Nat.lt_or_ge k s.length with hlt|hge
  ·have hg:s[k]?=some s[k]:=List.getElem?_eq_getElem hlt
   have w2:IntKind.i64.wrap ((k:Int)+1)=((k+1:Nat):Int):=CA _ (by omega) (by omega)
   generalize hc:s[k]=c at *;have key:(decide ((97:Int)≤c.toNat)&&decide ((c.toNat:Int)≤122)||decide ((48:Int)≤c.toNat)&&decide ((c.toNat:Int)≤57)||decide ((c.toNat:Int)=45)||decide ((c.toNat:Int)=95))=kF c:=rfl
   cases hkc:kF c with
   | true=>
    rw[hkc]at key;have hn:(s.take (k+1)).all kF=true:=by rw[List.take_succ_eq_append_getElem hlt,List.all_append,hp,hc];simp [hkc]
    by_cases b1:(97:Int)≤c.toNat <;> by_cases b2:(c.toNat:Int)≤122 <;> by_cases b3:(48:Int)≤c.toNat <;> by_cases b4:(c.toNat:Int)≤57 <;> by_cases b5:(c.toNat:Int)=45 <;> by_cases b6:(c.toNat:Int)=95
    all_goals first
     | (simp only[b1,b2,b3,b4,b5,b6,decide_true,decide_false,Bool.and_self,Bool.and_true,Bool.and_false,Bool.or_self,Bool.or_true,Bool.or_false,Bool.true_or,Bool.false_or,Bool.false_and,reduceCtorEq]at key;done)
     | (exfalso;omega)
     | (simp only[go_sem,hlt,hg,w2,b1,b2,b3,b4,b5,b6];exact⟨k+1,rfl,⟨by omega,hn⟩,by omega⟩)
   | false=>
    rw[hkc]at key;have hn:s.all kF=false:=by rw[List.all_eq_false];exact⟨_,List.getElem_mem hlt,by rw[hc,hkc];simp⟩
    rw[hn]at hB;subst hB;by_cases b1:(97:Int)≤c.toNat <;> by_cases b2:(c.toNat:Int)≤122 <;> by_cases b3:(48:Int)≤c.toNat <;> by_cases b4:(c.toNat:Int)≤57 <;> by_cases b5:(c.toNat:Int)=45 <;> by_cases b6:(c.toNat:Int)=95
    all_goals first
     | (simp only[b1,b2,b3,b4,b5,b6,decide_true,decide_false,Bool.and_self,Bool.and_true,Bool.and_false,Bool.or_self,Bool.or_true,Bool.or_false,Bool.true_or,Bool.false_or,Bool.false_and,reduceCtorEq]at key;done)
     | (exfalso;omega)
     | (simp only[go_sem,hlt,hg,b1,b2,b3,b4,b5,b6])
  ·have ek:k=s.length:=by omega
   subst ek;rw[List.take_length,hB]at hp;subst hp;simp only[go_sem,Nat.lt_irrefl]
theorem zl0 (s:List UInt8)(c:UInt8):decide (bG s c<0) = !s.contains c:=by
 unfold bG;rw[Bool.eq_iff_iff];by_cases hf:s.findIdx (· == c)<s.length
 ·rw[if_pos hf]
  have:=List.findIdx_getElem (w:=hf);simp only[beq_iff_eq]at this;have hm:c∈s:=by rw[←this];exact List.getElem_mem hf
  simp [hm]
 ·rw[if_neg hf]
  have hm:¬c∈s:=fun hm=>hf (List.findIdx_lt_length_of_exists ⟨c,hm,by simp⟩)
  simp [hm]
theorem z94 (s t:List UInt8)(hl:s.length≤1000000000):cA X EI [AS s,AS t] h K=K (AB (s.all fun c=>t.contains c)) h []:=by
 refine uA ?_;rw[zeR rfl];simp only[BR,go_sem];refine UA (fun k:Nat=>⟨[(0,AS s),(1,AS t),(7,AI s.length),(8,AI k)],h,[]⟩) (fun k=>k≤s.length∧(s.take k).all (fun c=>t.contains c)=true) (fun k=>s.length-k) 0 rfl ⟨by omega,rfl⟩ ?_
 rintro k ⟨hk,hp⟩
 rcases Nat.lt_or_ge k s.length with hlt|hge
 ·have hg:s[k]?=some s[k]:=List.getElem?_eq_getElem hlt
  have w2:IntKind.i64.wrap ((k:Int)+1)=((k+1:Nat):Int):=CA _ (by omega) (by omega)
  have hi:=zl0 t s[k]
  by_cases hc:bG t s[k]<0
  ·have:s.all (fun c=>t.contains c)=false:=by
    rw[List.all_eq_false];refine⟨_,List.getElem_mem hlt,?_⟩;rw[decide_eq_true hc]at hi;cases hq:t.contains s[k]with
    | true=>rw[hq]at hi;cases hi
    | false=>simp
   simp only[go_sem,hlt,hg,z9q,hc,this]
  ·rw[decide_eq_false hc]at hi
   have hq:t.contains s[k]=true:=by cases hq:t.contains s[k]with|true=>rfl|false=>rw[hq]at hi;cases hi
   simp only[go_sem,hlt,hg,z9q,hc,w2];exact⟨k+1,rfl,⟨by omega,by rw[List.take_succ_eq_append_getElem hlt,List.all_append,hp];simp only[List.all_cons,List.all_nil,hq];rfl⟩,by omega⟩
 ·have ek:k=s.length:=by omega
  subst ek;rw[List.take_length]at hp;simp only[go_sem,Nat.lt_irrefl,hp]
def UP:List UInt8:=[97,98,99,100,101,102,103,104,105,106,107,108,109,110,111,112,113,114,115,116,117,118,119,120,121,122]
def TO:List UInt8:=[97,98,99,100,101,102,103,104,105,106,107,108,109,110,111,112,113,114,115,116,117,118,119,120,121,122,48,49,50,51,52,53,54,55,56,57,45,95]
theorem z9T {p:UInt8→Bool}(h:((List.range 256).all fun n=>p (UInt8.ofNat n))=true)(c:UInt8):p c=true:=by
 have:=List.all_eq_true.1 h c.toNat (by simp;exact c.toNat_lt)
 rwa [UInt8.ofNat_toNat]at this
theorem zpC (c:UInt8):UP.contains c=(decide ((97:Int)≤c.toNat)&&decide ((c.toNat:Int)≤122)):=by
 have:=z9T (p:=fun c=>UP.contains c==(decide ((97:Int)≤c.toNat)&&decide ((c.toNat:Int)≤122))) (by kernel_rfl) c
 simpa using this
theorem zlL (c:UInt8):TO.contains c=kF c:=by
 have:=z9T (p:=fun c=>TO.contains c==kF c) (by kernel_rfl) c
 simpa using this
theorem FN (s:List UInt8)(hl:s.length≤1000000000):cA X BD [AS s] h K=K (AB (mB s)) h []:=by
 refine uA ?_;rw[ze9 rfl];have o1:=fun h K=>z94 (h:=h) (K:=K) s TO hl
 have e2:(s.all fun c=>TO.contains c)=s.all kF:=by congr 1;funext c;exact zlL c
 rw[e2]at o1;unfold TO at o1;cases s with
 | nil=>simp only[WK,go_sem,PP,mB]
 | cons c r=>
  have o2:=fun h K=>z94 (h:=h) (K:=K) [c] UP (by simp)
  have e3:([c].all fun c=>UP.contains c)=(decide ((97:Int)≤c.toNat)&&decide ((c.toNat:Int)≤122)):=by simp only[List.all_cons,List.all_nil,Bool.and_true];exact zpC c
  rw[e3]at o2;unfold UP at o2;have q1:(1:Int)≤((r.length+1:Nat):Int):=by omega
  have q2:1≤r.length+1:=by omega
  by_cases h1:r.length<40
  ·have h1':((r.length+1:Nat):Int)≤40:=by omega
   cases h2:(decide ((97:Int)≤c.toNat)&&decide ((c.toNat:Int)≤122)) with
   | true=>
    have ek:mB (c::r)=(c::r).all kF:=by
     simp only[mB,h1,decide_true,Bool.true_and,h2]
    rw[ek];simp only[WK,go_sem,PP,h1',q1,q2,win,↓o2,o2,h2,↓o1,o1]
   | false=>
    have ek:mB (c::r)=false:=by simp only[mB,h1,decide_true,Bool.true_and,h2,Bool.false_and]
    rw[ek];simp only[WK,go_sem,PP,h1',q1,q2,win,↓o2,o2,h2]
  ·have h1':¬((r.length+1:Nat):Int)≤40:=by omega
   have ek:mB (c::r)=false:=by simp only[mB,h1,decide_false,Bool.false_and]
   rw[ek];simp only[WK,go_sem,PP,h1',q1]
end Go.Am
end
section
/- Finding values in lists: printed by program. -/
open Go
set_option linter.unusedSimpArgs false
namespace Go.Am
attribute [-go_sem] PV.cells
variable {h:aA} {K:lA}
end Go.Am
end
section
/- Limits: what they are,what is wrong with them. -/
open Go
namespace Go.Am
variable {h:aA} {K:lA}
structure Lim where
 key:List UInt8
 lo:Int
 hi:Int
 bin:Int
def Lim.pv (x:Lim):PV:=.agg [.str x.key,eI x.lo,eI x.hi,eI x.bin]
def inB (a n b:Int):Bool:=decide (a≤n)&&decide (n≤b)
theorem AE (n a b:Int):cA X zD [AI n,AI a,AI b] h K=K (AB (!inB a n b)) h []:=by rw[s_Out,zn4];rfl
theorem nF (n a b:Int):cA X qD [AI n,AI a,AI b] h K=K (AB (inB a n b)) h []:=PP n a b
end Go.Am
end
section
/- What is wrong with limits,qE ways: printed by program. -/
open Go
set_option linter.unusedSimpArgs false
namespace Go.Am
variable {h:aA} {K:lA}
end Go.Am
end
section
/- Package lot on measured values,and what the reference says of them. -/
open Go
namespace Go.Am
variable {h:aA} {K:lA}
end Go.Am
end
section
/- Records: what they are,what is wrong with them. -/
open Go
set_option linter.unusedSimpArgs false
namespace Go.Am
variable {h:aA} {K:lA}
theorem znX {b:Nat}{P:lA}{vs:List AV}{h:aA}:CC true b P (some vs) h []=P (dB vs) (h.take (max b (dB vs).top)) []:=by
 simp [CC,close,FB]
attribute [go_sem] znX
structure Rec where
 unit:List UInt8
 time:Int
 site:List UInt8
 res:List Int
def Rec.pv (r:Rec):PV:=.agg [.str r.unit,eI r.time,.str r.site,.sl none (r.res.map eI)]
def OE (n:Int):Bool:=inB 0 n 345686399999
theorem sX (x y:Int):sB y x = - sB x y:=by
 unfold sB;split <;> split <;> (try split) <;> (try split) <;> omega
theorem MH (n:Int):cA X rH [AI n] h K=K (AB (OE n)) h []:=by
 refine uA ?_;rw[zeb rfl];simp only[vX,go_sem,AE,Bool.not_not];rfl
theorem NG (n:Int):cA X zI [AI n] h K=K (AB (OE n)) h []:=by
 refine uA ?_;rw[zeA rfl];simp only[UX,go_sem,nF];rfl
end Go.Am
end
section
/- Entries of stations,plainly: what is wrong with them. -/
set_option linter.all false
namespace Go.Am
structure Ent where
 site:List UInt8
 no:Int
 time:Int
 kind:Int
 board:List UInt8
 step:List UInt8
 of:List UInt8
 other:Int
 deriving DecidableEq
def Ent.pv (x:Ent):PV:=.agg [.str x.site,eI x.no,eI x.time,eI x.kind,.str x.board,.str x.step,.str x.of,eI x.other]
def noB (n:Int):Bool:=inB 1 n 1000000
def zM (x:Ent):Bool:=if x.kind=7 then mB x.of else if x.kind=2 then mB x.board&&mB x.step else mB x.board
def NU (x:Ent):Ent:=if x.kind=7 then⟨x.site,x.no,x.time,x.kind,[],[],x.of,x.other⟩ else if x.kind=2 then⟨x.site,x.no,x.time,x.kind,x.board,x.step,[],0⟩ else⟨x.site,x.no,x.time,x.kind,x.board,[],[],0⟩
def WB (x:Ent):Int:=
 if mB x.site=false then 5 else if noB x.no=false∨OE x.time=false then 1 else if inB 1 x.kind 7=false then 4
 else if zM x=false then 5 else if x.kind=7∧noB x.other=false then 1 else if x≠NU x then 3 else 0
def eC (a b:Ent):Int:=if sB a.time b.time≠0 then sB a.time b.time else if EA a.site b.site≠0 then EA a.site b.site else sB a.no b.no
theorem zk3 (a b:Ent):eC b a = - eC a b:=by
 unfold eC;rw[sX a.time b.time,gO a.site b.site,sX a.no b.no];by_cases h1:sB a.time b.time=0
 ·by_cases h2:EA a.site b.site=0
  ·simp [h1,h2]
  ·simp [h1,h2]
 ·simp [h1]
def PC (a b:Ent):Bool:=decide (a.site=b.site)&&decide (a.no=b.no)
def OC:Option Ent→List Ent→Int
 | _,[]=>0
 | p,x::r=>if WB x≠0 then WB x else if(match p with|some q=>decide (eC x q≤0)|none=>false)=true then 7 else OC (some x) r
def iE (seen:List Ent):List Ent→Bool
 | []=>false
 | x::r=>if seen.any (fun o=>PC o x) then true else iE (seen++[x]) r
def oD (l:List Ent):Int:=if(2000:Int)<l.length then 2 else if OC none l≠0 then OC none l else if iE [] l then 6 else 0
end Go.Am
end
section
/- Boards followed through their steps,plainly: the program's floor and the reference's agree. -/
set_option linter.all false
namespace Go.Am
abbrev Nm:=List UInt8
section
variable {β:Type}
def nA (l:List (Nm × β))(k:Nm):Option β:=(l.find? fun e=>decide (e.1=k)).map (·.2)
def JA (l:List (Nm × β))(k:Nm)(v:β):List (Nm×β):=if l.any (fun e=>decide (e.1=k)) then l.map (fun e=>if e.1=k then(k,v) else e) else l++[(k,v)]
def mH (l:List (Nm × β))(k:Nm):List (Nm×β):=l.filter fun e=>!decide (e.1=k)
theorem iF (e:Nm × β)(l:List (Nm × β))(k:Nm):nA (e::l) k=if e.1=k then some e.2 else nA l k:=by
 unfold nA;rw[List.find?_cons];by_cases h:e.1=k <;> simp [h]
theorem zlo {l:List (Nm × β)}{k:Nm}(h:l.any (fun e=>decide (e.1=k))=false):nA l k=none:=by
 unfold nA;rw[List.find?_eq_none.2 (fun x hx=>by rw[List.any_eq_false]at h;exact h x hx)]
 rfl
theorem zlm (l m:List (Nm × β))(k:Nm):nA (l++m) k=(nA l k).or (nA m k):=by
 unfold nA;rw[List.find?_append];cases l.find? (fun e=>decide (e.1=k)) <;> rfl
theorem zln (l:List (Nm × β))(k:Nm)(v:β)(j:Nm):nA (l.map fun e=>if e.1=k then(k,v) else e) j=if j=k then(nA l k).map (fun _=>v) else nA l j:=by
 induction l with
 | nil=>simp [nA]
 | cons e l ih=>
  rw[List.map_cons,iF,ih,iF,iF];by_cases h1:e.1=k
  ·rw[if_pos h1]
   by_cases h2:j=k
   ·subst h2;simp [h1]
   ·have h3:¬k=j:=fun q=>h2 q.symm
    simp [h1,h2,h3]
  ·rw[if_neg h1]
   by_cases h2:j=k
   ·subst h2;simp [h1]
   ·simp [h2]
theorem nM (l:List (Nm × β))(k:Nm)(v:β)(j:Nm):nA (JA l k v) j=if j=k then some v else nA l j:=by
 unfold JA;cases h:l.any (fun e=>decide (e.1=k)) with
 | true=>
  rw[if_pos rfl,zln];by_cases hj:j=k
  ·rw[if_pos hj,if_pos hj]
   obtain⟨e,he,hk⟩:=List.any_eq_true.1 h;have:nA l k≠none:=by
    unfold nA;intro hn;rw[Option.map_eq_none_iff,List.find?_eq_none]at hn;exact hn e he hk
   cases hg:nA l k with
   | none=>exact absurd hg this
   | some x=>rfl
  ·rw[if_neg hj,if_neg hj]
 | false=>
  rw[if_neg (by simp),zlm,iF]
  by_cases hj:j=k
  ·subst hj
   rw[zlo h,if_pos rfl,if_pos rfl];rfl
  ·rw[if_neg (fun q=>hj q.symm),if_neg hj]
   cases nA l j <;> rfl
theorem z78 (l:List (Nm × β))(k j:Nm):nA (mH l k) j=if j=k then none else nA l j:=by
 induction l with
 | nil=>simp [nA,mH]
 | cons e l ih=>
  unfold mH at ih ⊢;rw[List.filter_cons,iF];by_cases h1:e.1=k
  ·rw[if_neg (by simp [h1]),ih]
   by_cases h2:j=k
   ·rw[if_pos h2,if_pos h2]
   ·rw[if_neg h2,if_neg h2,if_neg (by rw[h1];exact fun q=>h2 q.symm)]
  ·rw[if_pos (by simp [h1]),iF,ih]
   by_cases h2:e.1=j
   ·rw[if_pos h2,if_pos h2,if_neg (fun q=>h1 (h2.trans q))]
   ·rw[if_neg h2,if_neg h2]
end
structure Sta where
 state:Int
 since:Int
 step:Nm
 site:Nm
 failed:Int
 deriving DecidableEq
structure EndP where
 board:Nm
 step:Nm
 frm:Int
 til:Int
 pass:Bool
 deriving DecidableEq
structure RunP where
 site:Nm
 frm:Int
 til:Int
 deriving DecidableEq
structure RanQ where
 board:Nm
 site:Nm
 step:Nm
 frm:Int
 til:Int
 pass:Bool
 deriving DecidableEq
def RanQ.run (r:RanQ):RunP:=⟨r.site,r.frm,r.til⟩
def RanQ.fin (r:RanQ):EndP:=⟨r.board,r.step,r.frm,r.til,r.pass⟩
structure FlP where
 bs:List (Nm×Sta)
 sites:List (Nm×Nm)
 ends:List EndP
 runs:List RunP
structure FlQ where
 bs:List (Nm×Sta)
 runs:List RanQ
def sC (steps:List Nm)(tries:Int)(s:Sta)(at_:Int)(pass:Bool):Sta:=
 if pass then(if steps.findIdx (fun y=>decide (y=s.step))+1=steps.length then⟨4,at_,[],[],0⟩ else⟨1,at_,(steps[steps.findIdx (fun y=>decide (y=s.step))+1]?).getD [],[],0⟩)
 else⟨if s.failed+1=tries then 5 else 3,at_,s.step,[],s.failed+1⟩
def bD (l:List RunP)(site:Nm)(at_:Int):List RunP:=l.map fun r=>if r.site=site∧r.til<0 then { r with til:=at_ } else r
def QD (l:List RanQ)(board:Nm)(at_:Int)(pass:Bool):List RanQ:=l.map fun r=>if r.board=board∧r.til<0 then { r with til:=at_,pass:=pass } else r
def cE (l:List RanQ)(board:Nm)(at_:Int):List RanQ:=l.map fun r=>if r.board=board∧r.til<0 then { r with til:=at_,board:=[] } else r
def mD (steps:List Nm)(tries:Int)(w:FlP)(x:Ent):FlP×Int:=
 if x.kind=1 then(match nA w.bs x.board with|some _=>(w,6)|none=>({ w with bs:=JA w.bs x.board ⟨1,x.time,steps.headD [],[],0⟩ },0))
 else match nA w.bs x.board with
 | none=>(w,8)
 | some b=>
  if x.kind=2 then(if b.state≠1 then(w,11) else if x.step≠b.step then(w,3) else if(nA w.sites x.site).isSome then(w,12)
   else({ w with bs:=JA w.bs x.board { b with state:=2,since:=x.time,site:=x.site },sites:=JA w.sites x.site x.board,runs:=w.runs++[⟨x.site,x.time,-1⟩] },0))
  else if x.kind=3∨x.kind=4 then(if b.state≠2 then(w,11) else if b.site≠x.site then(w,13)
   else({ bs:=JA w.bs x.board (sC steps tries b x.time (decide (x.kind=3))),sites:=mH w.sites b.site,ends:=w.ends++[⟨x.board,b.step,b.since,x.time,decide (x.kind=3)⟩],runs:=bD w.runs b.site x.time },0))
  else if x.kind=5 then(if b.state≠3 then(w,11) else({ w with bs:=JA w.bs x.board { b with state:=1,since:=x.time } },0))
  else if b.state=4∨b.state=5 then(w,11)
  else if b.state=2 then({ w with bs:=JA w.bs x.board { b with state:=5,since:=x.time,site:=[] },sites:=mH w.sites b.site,runs:=bD w.runs b.site x.time },0)
  else({ w with bs:=JA w.bs x.board { b with state:=5,since:=x.time } },0)
def rJ (bs:List (Nm × Sta))(site:Nm):Prop:=∃b st,nA bs b=some st∧st.state=2∧st.site=site
theorem JI {β:Type}{l:List (Nm × β)}{k:Nm}{v:β}(h:nA l k=some v):(k,v)∈l:=by
 unfold nA at h;obtain⟨e,h1,h2⟩:=Option.map_eq_some_iff.1 h;have hm:=List.mem_of_find?_eq_some h1
 have hk:e.1=k:=by simpa using List.find?_some h1
 subst hk h2;exact hm
theorem zdY (bs:List (Nm × Sta))(site:Nm):(bs.any fun e=>decide (nA bs e.1=some e.2)&&(decide (e.2.state=2)&&decide (e.2.site=site)))=true↔rJ bs site:=by
 rw[List.any_eq_true];constructor
 ·rintro⟨e,_,h⟩
  simp only[Bool.and_eq_true,decide_eq_true_eq]at h;exact⟨e.1,e.2,h.1,h.2.1,h.2.2⟩
 ·rintro⟨b,st,h1,h2,h3⟩
  exact⟨(b,st),JI h1,by simp [h1,h2,h3]⟩
instance (bs:List (Nm × Sta)) (site:Nm):Decidable (rJ bs site):=decidable_of_iff _ (zdY bs site)
def doQ (steps:List Nm)(tries:Int)(w:FlQ)(x:Ent):FlQ×Int:=
 if x.kind=7 then(w,0)
 else if x.kind=1 then(match nA w.bs x.board with|some _=>(w,6)|none=>({ w with bs:=JA w.bs x.board ⟨1,x.time,steps.headD [],[],0⟩ },0))
 else match nA w.bs x.board with
 | none=>(w,8)
 | some b=>
  if x.kind=2 then(if b.state≠1 then(w,11) else if b.step≠x.step then(w,3) else if rJ w.bs x.site then(w,12)
   else({ bs:=JA w.bs x.board { b with state:=2,since:=x.time,site:=x.site },runs:=w.runs++[⟨x.board,x.site,x.step,x.time,-1,false⟩] },0))
  else if x.kind=3∨x.kind=4 then(if b.state≠2 then(w,11) else if b.site≠x.site then(w,13)
   else({ bs:=JA w.bs x.board (sC steps tries b x.time (decide (x.kind=3))),runs:=QD w.runs x.board x.time (decide (x.kind=3)) },0))
  else if x.kind=5 then(if b.state≠3 then(w,11) else({ w with bs:=JA w.bs x.board { b with state:=1,since:=x.time } },0))
  else if b.state=4∨b.state=5 then(w,11)
  else({ bs:=JA w.bs x.board { b with state:=5,since:=x.time,site:=[] },runs:=cE w.runs x.board x.time },0)
def HG (bs:List (Nm × Sta))(b s:Nm):Prop:=∃st,nA bs b=some st∧st.state=2∧st.site=s
structure Inv (p:FlP) (q:FlQ):Prop where
 bs:p.bs=q.bs
 sts:∀s b,nA p.sites s=some b↔HG p.bs b s
 idle:∀b st,nA p.bs b=some st→st.state≠2→st.site=[]
 name:∀st,nA p.bs []≠some st
 runs:p.runs=q.runs.map RanQ.run
 gone:∀r∈q.runs,r.board=[]→0≤r.til
 brd:∀b,b≠[]→∃C:List RanQ,(∀r∈C,0≤r.til)∧p.ends.filter (fun e=>decide (e.board=b))=C.map RanQ.fin ∧
  (((∀st,nA p.bs b=some st→st.state≠2)∧q.runs.filter (fun r=>decide (r.board=b))=C) ∨
   (∃st,nA p.bs b=some st∧st.state=2∧q.runs.filter (fun r=>decide (r.board=b))=C++[⟨b,st.site,st.step,st.since,-1,false⟩]))
theorem Inv.busy {p:FlP}{q:FlQ}(I:Inv p q)(s:Nm):(nA p.sites s).isSome=true↔rJ q.bs s:=by
 rw[Option.isSome_iff_exists];constructor
 ·rintro⟨b,h⟩
  obtain⟨st,h1,h2,h3⟩:=(I.sts s b).1 h;exact⟨b,st,by rw[←I.bs];exact h1,h2,h3⟩
 ·rintro⟨b,st,h1,h2,h3⟩
  exact⟨b,(I.sts s b).2 ⟨st,by rw[I.bs];exact h1,h2,h3⟩⟩
theorem Inv.opened {p:FlP}{q:FlQ}(I:Inv p q){r:RanQ}(hr:r∈q.runs)(ho:r.til<0):∃st,nA p.bs r.board=some st∧st.state=2∧r=⟨r.board,st.site,st.step,st.since,-1,false⟩:=by
 have hb:r.board≠[]:=fun e=>by have:=I.gone r hr e;omega
 obtain⟨C,c1,c2,h⟩:=I.brd r.board hb;have hm:r∈q.runs.filter (fun x=>decide (x.board=r.board)):=List.mem_filter.2 ⟨hr,by simp⟩
 rcases h with⟨_,h⟩|⟨st,h1,h2,h⟩
 ·rw[h]at hm
  have:=c1 r hm;omega
 ·rw[h]at hm
  rcases List.mem_append.1 hm with hm|hm
  ·have:=c1 r hm
   omega
  ·exact⟨st,h1,h2,List.mem_singleton.1 hm⟩
theorem Inv.close {p:FlP}{q:FlQ}(I:Inv p q){board:Nm}{st:Sta}(h1:nA p.bs board=some st)(h2:st.state=2)(at_:Int){f:RanQ→RanQ}(hf:∀ r,r.til<0→(f r).run=⟨r.site,r.frm,at_⟩) :
 bD p.runs st.site at_=(q.runs.map fun r=>if r.board=board∧r.til<0 then f r else r).map RanQ.run:=by
 unfold bD;rw[I.runs,List.map_map,List.map_map];apply List.map_congr_left
 intro r hr;simp only[Function.comp];by_cases ho:r.til<0
 ·obtain⟨st',a1,a2,a3⟩:=I.opened hr ho
  by_cases hb:r.board=board
  ·have e:st'=st:=by rw[hb,h1]at a1;exact(Option.some.inj a1).symm
   have hs:r.site=st.site:=by rw[a3,e]
   rw[if_pos (show(RanQ.run r).site=st.site∧(RanQ.run r).til<0 from⟨hs,ho⟩),if_pos ⟨hb,ho⟩,hf r ho]
   rfl
  ·rw[if_neg (c:=r.board=board∧r.til<0) (fun z=>hb z.1),if_neg]
   rintro⟨z1,_⟩
   have z2:r.site=st.site:=z1
   have z3:r.site=st'.site:=by rw[a3]
   have u1:=(I.sts st.site board).2 ⟨st,h1,h2,rfl⟩
   have u2:=(I.sts st.site r.board).2 ⟨st',a1,a2,by rw[←z3,z2]⟩
   rw[u1]at u2;exact hb (Option.some.inj u2).symm
 ·rw[if_neg (fun z=>ho z.2),if_neg (fun z=>ho z.2)]
theorem z6X {l:List RanQ}{f:RanQ→RanQ}(hf:∀ r∈l,(f r).board=r.board)(b:Nm):(l.map f).filter (fun r=>decide (r.board=b))=(l.filter fun r=>decide (r.board=b)).map f:=by
 rw[List.filter_map];congr 1
 apply List.filter_congr
 intro r hr;simp only[Function.comp];rw[hf r hr]
theorem zlB (steps:List Nm)(tries:Int){p:FlP}{q:FlQ}(I:Inv p q)(x:Ent)(hb:x.kind≠7→x.board≠[])(hs:x.kind=2→x.site≠[])(ht:0≤x.time)(hk:1≤x.kind∧x.kind≤7)(h7:x.kind≠7) :
 (mD steps tries p x).2=(doQ steps tries q x).2∧Inv (mD steps tries p x).1 (doQ steps tries q x).1:=by
 have hb0:=hb h7
 unfold mD doQ;rw[if_neg h7,I.bs];by_cases k1:x.kind=1
 ·rw[if_pos k1,if_pos k1]
  cases hg:nA q.bs x.board with
  | some s=>exact⟨rfl,I⟩
  | none=>
   refine⟨rfl,?_⟩;have hgp:nA p.bs x.board=none:=by rw[I.bs];exact hg
   have upd:∀b,nA (JA q.bs x.board ⟨1,x.time,steps.headD [],[],0⟩) b=if b=x.board then some ⟨1,x.time,steps.headD [],[],0⟩ else nA p.bs b:=fun b=>by rw[nM,I.bs]
   refine⟨rfl,fun s b=>?_,fun b st h1 h2=>?_,fun st=>?_,I.runs,I.gone,fun b h=>?_⟩
   ·rw[I.sts s b]
    unfold HG;show _↔∃st,nA (JA q.bs _ _) b=some st∧_
    rw[upd b];by_cases e:b=x.board
    ·rw[if_pos e,e,hgp]
     constructor
     ·rintro⟨_,h,_⟩;cases h
     ·rintro⟨st,h,h2,_⟩;cases h;cases h2
    ·rw[if_neg e]
   ·change nA (JA q.bs _ _) b=some st at h1
    rw[upd b]at h1;split at h1
    ·cases h1;rfl
    ·exact I.idle b st h1 h2
   ·show nA (JA q.bs _ _) []≠some st
    rw[upd [],if_neg (fun e=>hb0 e.symm)]
    exact I.name st
   ·obtain⟨C,c1,c2,c3⟩:=I.brd b h
    refine⟨C,c1,c2,?_⟩;show((∀st,nA (JA q.bs _ _) b=some st→_)∧_)∨∃st,nA (JA q.bs _ _) b=some st∧_
    rw[upd b];by_cases e:b=x.board
    ·rw[if_pos e]
     left;refine⟨fun st h=>by cases h;show(1:Int)≠2;decide,?_⟩
     rcases c3 with⟨_,c3⟩|⟨st,c3,_⟩
     ·exact c3
     ·rw[e,hgp]at c3;cases c3
    ·rw[if_neg e];exact c3
 rw[if_neg k1,if_neg k1];cases hg:nA q.bs x.board with
 | none=>exact⟨rfl,I⟩
 | some b=>
  have hgp:nA p.bs x.board=some b:=by rw[I.bs];exact hg
  -- a board that does not run,and does not run behind it
  have quiet:∀s:Sta,b.state≠2→s.state≠2→s.site=[]→Inv { p with bs:=JA q.bs x.board s } { q with bs:=JA q.bs x.board s }:=fun s n1 n2 n3=>by
   have upd:∀c,nA (JA q.bs x.board s) c=if c=x.board then some s else nA p.bs c:=fun c=>by rw[nM,I.bs]
   refine⟨rfl,fun s' c=>?_,fun c st h1 h2=>?_,fun st=>?_,I.runs,I.gone,fun c h=>?_⟩
   ·rw[I.sts s' c]
    unfold HG;show _↔∃st,nA (JA q.bs _ _) c=some st∧_
    rw[upd c];by_cases e:c=x.board
    ·rw[if_pos e,e,hgp]
     constructor
     ·rintro⟨_,h,h2,_⟩;cases h;exact absurd h2 n1
     ·rintro⟨_,h,h2,_⟩;cases h;exact absurd h2 n2
    ·rw[if_neg e]
   ·change nA (JA q.bs _ _) c=some st at h1
    rw[upd c]at h1;split at h1
    ·cases h1;exact n3
    ·exact I.idle c st h1 h2
   ·show nA (JA q.bs _ _) []≠some st
    rw[upd [],if_neg (fun e=>hb0 e.symm)]
    exact I.name st
   ·obtain⟨C,c1,c2,c3⟩:=I.brd c h
    refine⟨C,c1,c2,?_⟩;show((∀st,nA (JA q.bs _ _) c=some st→_)∧_)∨∃st,nA (JA q.bs _ _) c=some st∧_
    rw[upd c];by_cases e:c=x.board
    ·rw[if_pos e]
     left;refine⟨fun st h=>by cases h;exact n2,?_⟩
     rcases c3 with⟨_,c3⟩|⟨st,c3,c4,_⟩
     ·exact c3
     ·rw[e,hgp]at c3;cases c3;exact absurd c4 n1
    ·rw[if_neg e];exact c3
  by_cases k2:x.kind=2
  ·dsimp only
   rw[if_pos k2,if_pos k2];by_cases e1:b.state≠1
   ·rw[if_pos e1,if_pos e1];exact⟨rfl,I⟩
   rw[if_neg e1,if_neg e1];have e1':b.state=1:=by simpa using e1
   by_cases e2:x.step≠b.step
   ·rw[if_pos e2,if_pos (fun q=>e2 q.symm)];exact⟨rfl,I⟩
   have e2':x.step=b.step:=by simpa using e2
   rw[if_neg (c:=x.step≠b.step) e2,if_neg (c:=b.step≠x.step) (fun z=>z e2'.symm)]
   by_cases e3:(nA p.sites x.site).isSome=true
   ·rw[if_pos e3,if_pos ((I.busy _).1 e3)];exact⟨rfl,I⟩
   rw[if_neg e3,if_neg (fun z=>e3 ((I.busy _).2 z))]
   refine⟨rfl,?_⟩;have e3':nA p.sites x.site=none:=by simpa using e3
   have upd:∀c,nA (JA q.bs x.board { b with state:=2,since:=x.time,site:=x.site }) c=if c=x.board then some { b with state:=2,since:=x.time,site:=x.site } else nA p.bs c:=fun c=>by rw[nM,I.bs]
   refine⟨rfl,fun s c=>?_,fun c st h1 h2=>?_,fun st=>?_,?_,fun r hr=>?_,fun c h=>?_⟩
   ·show nA (JA p.sites x.site x.board) s=some c↔∃st,nA (JA q.bs _ _) c=some st∧_
    rw[nM,upd c];by_cases es:s=x.site
    ·rw[if_pos es]
     by_cases ec:c=x.board
     ·rw[if_pos ec,ec]
      exact⟨fun _=>⟨_,rfl,rfl,es.symm⟩,fun _=>rfl⟩
     ·rw[if_neg ec]
      constructor
      ·intro h;exact absurd (Option.some.inj h).symm ec
      ·intro h
       have:=(I.sts s c).2 h;rw[es,e3']at this;cases this
    ·rw[if_neg es,I.sts s c]
     unfold HG;by_cases ec:c=x.board
     ·rw[if_pos ec,ec,hgp]
      constructor
      ·rintro⟨_,h,h2,_⟩;cases h;omega
      ·rintro⟨_,h,_,h3⟩;cases h;exact absurd h3.symm es
     ·rw[if_neg ec]
   ·change nA (JA q.bs _ _) c=some st at h1
    rw[upd c]at h1;split at h1
    ·cases h1;exact absurd rfl h2
    ·exact I.idle c st h1 h2
   ·show nA (JA q.bs _ _) []≠some st
    rw[upd [],if_neg (fun e=>hb0 e.symm)]
    exact I.name st
   ·show p.runs++[_]=(q.runs++[_]).map RanQ.run
    rw[List.map_append,I.runs];rfl
   ·intro he
    rcases List.mem_append.1 hr with hr|hr
    ·exact I.gone r hr he
    ·rw[List.mem_singleton.1 hr]at he;exact absurd he hb0
   ·obtain⟨C,c1,c2,c3⟩:=I.brd c h
    refine⟨C,c1,c2,?_⟩;dsimp only;rw[upd c,List.filter_append];by_cases ec:c=x.board
    ·rw[if_pos ec]
     right;refine⟨_,rfl,rfl,?_⟩
     rcases c3 with⟨_,c3⟩|⟨st,c3,c4,_⟩
     ·rw[c3,ec,e2'];simp
     ·rw[ec,hgp]at c3;cases c3;omega
    ·rw[if_neg ec]
     have e0:([(⟨x.board,x.site,x.step,x.time,-1,false⟩:RanQ)]:List RanQ).filter (fun r=>decide (r.board=c))=[]:=by have ec':¬x.board=c:=fun z=>ec z.symm;simp [ec']
     rw[e0,List.append_nil];exact c3
  dsimp only;rw[if_neg k2,if_neg k2];by_cases k3:x.kind=3∨x.kind=4
  ·rw[if_pos k3,if_pos k3]
   by_cases e1:b.state≠2
   ·rw[if_pos e1,if_pos e1];exact⟨rfl,I⟩
   rw[if_neg e1,if_neg e1];have e1':b.state=2:=by simpa using e1
   by_cases e2:b.site≠x.site
   ·rw[if_pos e2,if_pos e2];exact⟨rfl,I⟩
   rw[if_neg e2,if_neg e2];refine⟨rfl,?_⟩;generalize hps:decide (x.kind=3)=ps;have s2:(sC steps tries b x.time ps).state≠2∧(sC steps tries b x.time ps).site=[]:=by
    unfold sC;split
    ·split
     ·exact⟨by show(4:Int)≠2;decide,rfl⟩
     ·exact⟨by show(1:Int)≠2;decide,rfl⟩
    ·refine⟨?_,rfl⟩;dsimp only;split <;> decide
   generalize sC steps tries b x.time ps=s at s2;obtain⟨n2,n3⟩:=s2;have upd:∀c,nA (JA q.bs x.board s) c=if c=x.board then some s else nA p.bs c:=fun c=>by rw[nM,I.bs]
   have cb:∀r∈q.runs,(if r.board=x.board∧r.til<0 then { r with til:=x.time,pass:=ps } else r:RanQ).board=r.board:=fun r _=>by split <;> rfl
   refine⟨rfl,fun s' c=>?_,fun c st h1 h2=>?_,fun st=>?_,?_,fun r hr=>?_,fun c h=>?_⟩
   ·show nA (mH p.sites b.site) s'=some c↔∃st,nA (JA q.bs _ _) c=some st∧_
    rw[z78,upd c];by_cases es:s'=b.site
    ·rw[if_pos es]
     constructor
     ·intro h;cases h
     ·by_cases ec:c=x.board
      ·rw[if_pos ec];rintro⟨_,h,h2,_⟩;cases h;exact absurd h2 n2
      ·rw[if_neg ec]
       intro h;have u1:=(I.sts s' c).2 h
       have u2:=(I.sts b.site x.board).2 ⟨b,hgp,e1',rfl⟩
       rw[es,u2]at u1;exact absurd (Option.some.inj u1).symm ec
    ·rw[if_neg es,I.sts s' c]
     unfold HG;by_cases ec:c=x.board
     ·rw[if_pos ec,ec,hgp]
      constructor
      ·rintro⟨_,h,_,h3⟩;cases h;exact absurd h3.symm es
      ·rintro⟨_,h,h2,_⟩;cases h;exact absurd h2 n2
     ·rw[if_neg ec]
   ·change nA (JA q.bs _ _) c=some st at h1
    rw[upd c]at h1;split at h1
    ·cases h1;exact n3
    ·exact I.idle c st h1 h2
   ·show nA (JA q.bs _ _) []≠some st
    rw[upd [],if_neg (fun e=>hb0 e.symm)]
    exact I.name st
   ·exact I.close hgp e1' x.time (f:=fun r=>{ r with til:=x.time,pass:=ps }) (fun r _=>rfl)
   ·intro he
    obtain⟨r0,hr0,rfl⟩:=List.mem_map.1 hr;rw[cb r0 hr0]at he;have:=I.gone r0 hr0 he;rw[if_neg (fun z=>by omega)];exact this
   ·obtain⟨C,c1,c2,c3⟩:=I.brd c h
    by_cases ec:c=x.board
    ·subst ec
     rcases c3 with⟨c3,_⟩|⟨st,c3,c4,c5⟩
     ·exact absurd e1' (c3 b hgp)
     rw[hgp]at c3;cases c3
     refine⟨C++[⟨x.board,b.site,b.step,b.since,x.time,ps⟩],fun r hr=>?_,?_,.inl ⟨fun st hst=>?_,?_⟩⟩
     ·rcases List.mem_append.1 hr with hr|hr
      ·exact c1 r hr
      ·rw[List.mem_singleton.1 hr];exact ht
     ·show(p.ends++[_]).filter _=_
      rw[List.filter_append,c2,List.map_append];simp [RanQ.fin]
     ·change nA (JA q.bs _ _) x.board=some st at hst
      rw[upd,if_pos rfl]at hst;cases hst;exact n2
     ·show(QD q.runs x.board x.time ps).filter _=_
      unfold QD;rw[z6X cb,c5,List.map_append];congr 1
      ·conv=>rhs;rw[←List.map_id C]
       apply List.map_congr_left
       intro r hr;have:=c1 r hr;rw[if_neg (fun z=>by omega)];rfl
      ·simp
    ·refine⟨C,c1,?_,?_⟩
     ·show(p.ends++[_]).filter _=_
      rw[List.filter_append,c2];have ec':¬x.board=c:=fun z=>ec z.symm
      simp [ec']
     ·dsimp only
      rw[upd c,if_neg ec];have same:(QD q.runs x.board x.time ps).filter (fun r=>decide (r.board=c))=q.runs.filter (fun r=>decide (r.board=c)):=by
       unfold QD;rw[z6X cb];conv=>rhs;rw[←List.map_id (q.runs.filter _)]
       apply List.map_congr_left
       intro r hr;have hrb:r.board=c:=by simpa using (List.mem_filter.1 hr).2
       rw[if_neg (fun z=>ec (hrb.symm.trans z.1))];rfl
      rw[same];exact c3
  rw[if_neg k3,if_neg k3];by_cases k5:x.kind=5
  ·rw[if_pos k5,if_pos k5]
   by_cases e1:b.state≠3
   ·rw[if_pos e1,if_pos e1];exact⟨rfl,I⟩
   rw[if_neg e1,if_neg e1];have e1':b.state=3:=by simpa using e1
   exact⟨rfl,quiet _ (by omega) (by show(1:Int)≠2;decide) (I.idle x.board b hgp (by omega))⟩
  rw[if_neg k5,if_neg k5];by_cases e45:b.state=4∨b.state=5
  ·rw[if_pos e45,if_pos e45];exact⟨rfl,I⟩
  rw[if_neg e45,if_neg e45];by_cases e2:b.state=2
  ·rw[if_pos e2]
   refine⟨rfl,?_⟩;have upd:∀c,nA (JA q.bs x.board { b with state:=5,since:=x.time,site:=[] }) c=if c=x.board then some { b with state:=5,since:=x.time,site:=[] } else nA p.bs c:=fun c=>by rw[nM,I.bs]
   refine⟨rfl,fun s' c=>?_,fun c st h1 h2=>?_,fun st=>?_,?_,fun r hr=>?_,fun c h=>?_⟩
   ·show nA (mH p.sites b.site) s'=some c↔∃st,nA (JA q.bs _ _) c=some st∧_
    rw[z78,upd c];by_cases es:s'=b.site
    ·rw[if_pos es]
     constructor
     ·intro h;cases h
     ·by_cases ec:c=x.board
      ·rw[if_pos ec];rintro⟨_,h,h2,_⟩;cases h;cases h2
      ·rw[if_neg ec]
       intro h;have u1:=(I.sts s' c).2 h
       have u2:=(I.sts b.site x.board).2 ⟨b,hgp,e2,rfl⟩
       rw[es,u2]at u1;exact absurd (Option.some.inj u1).symm ec
    ·rw[if_neg es,I.sts s' c]
     unfold HG;by_cases ec:c=x.board
     ·rw[if_pos ec,ec,hgp]
      constructor
      ·rintro⟨_,h,_,h3⟩;cases h;exact absurd h3.symm es
      ·rintro⟨_,h,h2,_⟩;cases h;cases h2
     ·rw[if_neg ec]
   ·change nA (JA q.bs _ _) c=some st at h1
    rw[upd c]at h1;split at h1
    ·cases h1;rfl
    ·exact I.idle c st h1 h2
   ·show nA (JA q.bs _ _) []≠some st
    rw[upd [],if_neg (fun e=>hb0 e.symm)]
    exact I.name st
   ·exact I.close hgp e2 x.time (f:=fun r=>{ r with til:=x.time,board:=[] }) (fun r _=>rfl)
   ·intro he
    obtain⟨r0,hr0,rfl⟩:=List.mem_map.1 hr;by_cases z:r0.board=x.board∧r0.til<0
    ·rw[if_pos z];exact ht
    ·rw[if_neg z]at he ⊢;exact I.gone r0 hr0 he
   ·obtain⟨C,c1,c2,c3⟩:=I.brd c h
    have fl:(cE q.runs x.board x.time).filter (fun r=>decide (r.board=c))=(q.runs.filter (fun r=>decide (r.board=c))).filter (fun r=>!(decide (r.board=x.board)&&decide (r.til<0))):=by
     unfold cE;rw[List.filter_filter];induction q.runs with
     | nil=>rfl
     | cons r l ih=>
      rw[List.map_cons,List.filter_cons,List.filter_cons,ih];by_cases z:r.board=x.board∧r.til<0
      ·rw[if_pos z]
       have z2:(!(decide (r.board=x.board)&&decide (r.til<0))&&decide (r.board=c))=false:=by simp [z.1,z.2]
       have h':¬([]:List UInt8)=c:=fun z=>h z.symm
       simp [h',z.1,z.2]
      ·rw[if_neg z]
       have z3:(!(decide (r.board=x.board)&&decide (r.til<0)))=true:=by
        rw[←Bool.decide_and];simp [z]
       rw[z3,Bool.true_and]
    refine⟨C,c1,c2,?_⟩;dsimp only;rw[upd c,fl];have keepC:C.filter (fun r=>!(decide (r.board=x.board)&&decide (r.til<0)))=C:=by
     rw[List.filter_eq_self];intro r hr;have:=c1 r hr;have z:¬r.til<0:=by omega
     simp [z]
    by_cases ec:c=x.board
    ·subst ec
     rw[if_pos rfl];left;refine⟨fun st hst=>by cases hst;show(5:Int)≠2;decide,?_⟩
     rcases c3 with⟨c3,_⟩|⟨st,c3,c4,c5⟩
     ·exact absurd e2 (c3 b hgp)
     ·rw[c5,List.filter_append,keepC];simp
    ·rw[if_neg ec]
     rcases c3 with⟨c3,c5⟩|⟨st,c3,c4,c5⟩
     ·left;exact⟨c3,by rw[c5,keepC]⟩
     ·right
      refine⟨st,c3,c4,?_⟩;rw[c5,List.filter_append,keepC];simp [ec]
  ·rw[if_neg e2]
   refine⟨rfl,?_⟩;have e0:=I.idle x.board b hgp e2
   have eb:({ b with state:=5,since:=x.time,site:=[] }:Sta)={ b with state:=5,since:=x.time }:=by rw[←e0]
   have same:cE q.runs x.board x.time=q.runs:=by
    unfold cE;conv=>rhs;rw[←List.map_id q.runs]
    apply List.map_congr_left
    intro r hr;rw[if_neg]
    ·rfl
    ·rintro⟨z1,z2⟩
     obtain⟨st',a1,a2,_⟩:=I.opened hr z2;rw[z1,hgp]at a1;cases a1
     exact e2 a2
   rw[eb,same];exact quiet _ e2 (by show(5:Int)≠2;decide) e0
theorem inv0:Inv ⟨[],[],[],[]⟩ ⟨[],[]⟩ where
 bs:=rfl
 sts s b:=⟨fun h=>(by cases h),fun h=>(by obtain⟨_,h,_⟩:=h;cases h)⟩
 idle b st h:=by cases h
 name st h:=by cases h
 runs:=rfl
 gone r hr:=by cases hr
 brd b _:=⟨[],fun r hr=>(by cases hr),rfl,.inl ⟨fun st h=>(by cases h),rfl⟩⟩
end Go.Am
end
section
/- First passes of steps,plainly: counted by ends,counted by boards. -/
set_option linter.all false
namespace Go.Am
end Go.Am
end
section
/- Entries that count,and what is followed of them,plainly. -/
set_option linter.all false
namespace Go.Am
def TH (y x:Ent):Bool:=decide (y.kind=7)&&decide (y.of=x.site)&&decide (y.other=x.no)
def ZA:List Ent→List Bool
 | []=>[]
 | x::r=>(!((r.zip (ZA r)).any fun y=>y.2&&TH y.1 x))::ZA r
theorem aF:∀ l,(ZA l).length=l.length
 | []=>rfl
 | x::r=>by simp [ZA,aF r]
theorem uX:∀ (l:List Ent)(k:Nat),(ZA l).drop k=ZA (l.drop k)
 | [],k=>by simp [ZA]
 | x::r,0=>rfl
 | x::r,k+1=>by simpa [ZA] using uX r k
def DC:List Ent→List (Nm×Int)
 | []=>[]
 | x::r=>if decide ((x.site,x.no)∈DC r)=false∧x.kind=7 then(x.of,x.other)::DC r else DC r
theorem z9U:∀ (l:List Ent)(s:Nm)(n:Int),(s,n)∈DC l↔((l.zip (ZA l)).any fun y=>y.2&&(decide (y.1.kind=7)&&decide (y.1.of=s)&&decide (y.1.other=n)))=true
 | [],s,n=>by simp [DC,ZA]
 | x::r,s,n=>by
  have ih:=z9U r
  have hb:decide ((x.site,x.no)∈DC r)=((r.zip (ZA r)).any fun y=>y.2&&TH y.1 x):=by
   rw[Bool.eq_iff_iff,decide_eq_true_eq,ih x.site x.no];rfl
  unfold DC;rw[ZA,List.zip_cons_cons,List.any_cons,←hb];cases hd:decide ((x.site,x.no)∈DC r) with
  | true=>
   rw[if_neg (by simp),ih s n]
   simp
  | false=>
   by_cases h7:x.kind=7
   ·rw[if_pos ⟨rfl,h7⟩,List.mem_cons,ih s n,Bool.or_eq_true]
    have:((s,n)=(x.of,x.other))↔((!false&&(decide (x.kind=7)&&decide (x.of=s)&&decide (x.other=n)))=true):=by
     simp only[Prod.mk.injEq,Bool.not_false,Bool.true_and,h7,decide_true,Bool.and_eq_true,decide_eq_true_eq];exact⟨fun h=>⟨h.1.symm,h.2.symm⟩,fun h=>⟨h.1.symm,h.2.symm⟩⟩
    rw[this]
   ·rw[if_neg (fun z=>h7 z.2),ih s n]
    simp [h7]
theorem zfY (x:Ent)(r:List Ent):ZA (x::r)=(!decide ((x.site,x.no)∈DC r))::ZA r:=by
 have hb:decide ((x.site,x.no)∈DC r)=((r.zip (ZA r)).any fun y=>y.2&&TH y.1 x):=by
  rw[Bool.eq_iff_iff,decide_eq_true_eq,z9U r x.site x.no];rfl
 rw[hb];rfl
structure AllP where
 w:FlP
 ref:List Nat
 why:List Int
structure AllQ where
 w:FlQ
 ref:List Nat
 why:List Int
def goP (steps:List Nm)(tries:Int):AllP→Nat→List (Ent×Bool)→AllP
 | a,_,[]=>a
 | a,i,(x,c)::r=>if c=false∨x.kind=7 then goP steps tries a (i+1) r
  else goP steps tries (if(mD steps tries a.w x).2≠0 then⟨(mD steps tries a.w x).1,a.ref++[i],a.why++[(mD steps tries a.w x).2]⟩ else⟨(mD steps tries a.w x).1,a.ref,a.why⟩) (i+1) r
def goQ (steps:List Nm)(tries:Int):AllQ→Nat→List (Ent×Bool)→AllQ
 | a,_,[]=>a
 | a,i,(x,c)::r=>if c=false then goQ steps tries a (i+1) r
  else goQ steps tries (if(doQ steps tries a.w x).2≠0 then⟨(doQ steps tries a.w x).1,a.ref++[i],a.why++[(doQ steps tries a.w x).2]⟩ else⟨(doQ steps tries a.w x).1,a.ref,a.why⟩) (i+1) r
structure EntW (x:Ent):Prop where
 b:x.kind≠7→x.board≠[]
 s:x.kind=2→x.site≠[]
 t:0≤x.time
 k:1≤x.kind∧x.kind≤7
theorem tZ {s:List UInt8}(h:mB s=true):s≠[]:=by
 intro e;subst e;revert h
 decide
theorem z6i {x:Ent}(h:WB x=0):EntW x:=by
 unfold WB at h;split at h
 ·cases h
 rename_i h1;split at h
 ·cases h
 rename_i h2;split at h
 ·cases h
 rename_i h3;split at h
 ·cases h
 rename_i h4;have k1:1≤x.kind∧x.kind≤7:=by
  have:inB 1 x.kind 7=true:=by simpa using h3
  unfold inB at this;simpa using this
 have t1:0≤x.time:=by
  rw[not_or]at h2;have:OE x.time=true:=by simpa using h2.2
  unfold OE inB at this;simp at this;exact this.1
 have hs:x.site≠[]:=tZ (by simpa using h1)
 have hn:zM x=true:=by simpa using h4
 refine⟨fun h7=>?_,fun _=>hs,t1,k1⟩
 unfold zM at hn;rw[if_neg h7]at hn;split at hn
 ·rw[Bool.and_eq_true]at hn;exact tZ hn.1
 ·exact tZ hn
theorem MO (steps:List Nm)(tries:Int):∀(l:List (Ent×Bool)) (a:AllP) (b:AllQ) (i:Nat),(∀y∈l,EntW y.1)→Inv a.w b.w→a.ref=b.ref→a.why=b.why →
 Inv (goP steps tries a i l).w (goQ steps tries b i l).w∧(goP steps tries a i l).ref=(goQ steps tries b i l).ref∧(goP steps tries a i l).why=(goQ steps tries b i l).why
 | [],a,b,i,_,I,h1,h2=>⟨I,h1,h2⟩
 | (x,c)::r,a,b,i,hw,I,h1,h2=>by
  have hr:=fun y hy=>hw y (List.mem_cons_of_mem (x,c) hy)
  obtain⟨w1,w2,w3,w4⟩:=hw (x,c) (List.mem_cons_self ..);unfold goP goQ;cases c with
  | false=>rw[if_pos (.inl rfl),if_pos rfl];exact MO steps tries r a b (i+1) hr I h1 h2
  | true=>
   rw[if_neg (c:=true=false) (by simp)]
   by_cases h7:x.kind=7
   ·rw[if_pos (.inr h7)]
    have e:doQ steps tries b.w x=(b.w,0):=by unfold doQ;rw[if_pos h7]
    rw[e,if_neg (by simp)]
    exact MO steps tries r a b (i+1) hr I h1 h2
   ·rw[if_neg (c:=true=false∨x.kind=7) (by simp [h7])]
    obtain⟨e1,I2⟩:=zlB steps tries I x w1 w2 w3 w4 h7;rw[e1];by_cases h0:(doQ steps tries b.w x).2≠0
    ·rw[if_pos h0,if_pos h0]
     exact MO steps tries r _ _ (i+1) hr I2 (by dsimp only;rw[h1]) (by dsimp only;rw[h2])
    ·rw[if_neg h0,if_neg h0]
     exact MO steps tries r _ _ (i+1) hr I2 h1 h2
end Go.Am
end
section
/- The floor's memory: what lies where. -/
open Go
set_option linter.all false
set_option maxRecDepth 100000
namespace Go.Am
variable {h:aA} {K:lA}
def FH (h:aA)(o0 o1 o2 o3 o4 o5 o6 o7:Obj)(B l:aA):aA:=h++o0::o1::o2::o3::o4::o5::o6::o7::(B++l)
section
variable {o0 o1 o2 o3 o4 o5 o6 o7 o o':Obj} {B l l2:aA} {n:Nat}
theorem YC:(FH h o0 o1 o2 o3 o4 o5 o6 o7 B l).length=h.length+(8+B.length+l.length):=by unfold FH;simp;omega
theorem nE:FH h o0 o1 o2 o3 o4 o5 o6 o7 B l++l2=FH h o0 o1 o2 o3 o4 o5 o6 o7 B (l++l2):=by unfold FH;simp
theorem SG (n:Nat):(FH h o0 o1 o2 o3 o4 o5 o6 o7 B l)[h.length+n]?=(o0::o1::o2::o3::o4::o5::o6::o7::(B++l))[n]?:=by unfold FH;rw[List.getElem?_append_right (by omega)];simp
theorem UG (n:Nat):(FH h o0 o1 o2 o3 o4 o5 o6 o7 B l).set (h.length+n) o=h++(o0::o1::o2::o3::o4::o5::o6::o7::(B++l)).set n o:=by unfold FH;rw[List.set_append_right _ _ (by omega)];simp
theorem uD:(FH h o0 o1 o2 o3 o4 o5 o6 o7 B l)[h.length+1]?=some o1:=SG 1
theorem vD:(FH h o0 o1 o2 o3 o4 o5 o6 o7 B l)[h.length+2]?=some o2:=SG 2
theorem rF:(FH h o0 o1 o2 o3 o4 o5 o6 o7 B l)[h.length+3]?=some o3:=SG 3
theorem tF:(FH h o0 o1 o2 o3 o4 o5 o6 o7 B l)[h.length+4]?=some o4:=SG 4
theorem VE:(FH h o0 o1 o2 o3 o4 o5 o6 o7 B l)[h.length+5]?=some o5:=SG 5
theorem WE:(FH h o0 o1 o2 o3 o4 o5 o6 o7 B l)[h.length+6]?=some o6:=SG 6
theorem HE:(FH h o0 o1 o2 o3 o4 o5 o6 o7 B l)[h.length+7]?=some o7:=SG 7
theorem uF:(FH h o0 o1 o2 o3 o4 o5 o6 o7 B l).set (h.length+1) o=FH h o0 o o2 o3 o4 o5 o6 o7 B l:=UG 1
theorem vF:(FH h o0 o1 o2 o3 o4 o5 o6 o7 B l).set (h.length+2) o=FH h o0 o1 o o3 o4 o5 o6 o7 B l:=UG 2
theorem wF:(FH h o0 o1 o2 o3 o4 o5 o6 o7 B l).set (h.length+3) o=FH h o0 o1 o2 o o4 o5 o6 o7 B l:=UG 3
theorem xF:(FH h o0 o1 o2 o3 o4 o5 o6 o7 B l).set (h.length+4) o=FH h o0 o1 o2 o3 o o5 o6 o7 B l:=UG 4
theorem yF:(FH h o0 o1 o2 o3 o4 o5 o6 o7 B l).set (h.length+5) o=FH h o0 o1 o2 o3 o4 o o6 o7 B l:=UG 5
theorem zF:(FH h o0 o1 o2 o3 o4 o5 o6 o7 B l).set (h.length+6) o=FH h o0 o1 o2 o3 o4 o5 o o7 B l:=UG 6
theorem BF:(FH h o0 o1 o2 o3 o4 o5 o6 o7 B l).set (h.length+7) o=FH h o0 o1 o2 o3 o4 o5 o6 o B l:=UG 7
theorem TG (n:Nat):(FH h o0 o1 o2 o3 o4 o5 o6 o7 B l)[h.length+(8+B.length+n)]?=l[n]?:=by
 rw[SG,show 8+B.length+n=(B.length+n)+8 by omega]
 show(B++l)[B.length+n]?=_
 rw[List.getElem?_append_right (by omega)]
 simp
theorem fQ (n:Nat):(FH h o0 o1 o2 o3 o4 o5 o6 o7 B l).set (h.length+(8+B.length+n)) o=FH h o0 o1 o2 o3 o4 o5 o6 o7 B (l.set n o):=by
 rw[UG,show 8+B.length+n=(B.length+n)+8 by omega]
 unfold FH;congr 1
 simp only[List.set_cons_succ];rw[List.set_append_right _ _ (by omega)]
 simp
theorem VG (n:Nat):(FH h o0 o1 o2 o3 o4 o5 o6 o7 B l).take (h.length+(8+B.length+n))=FH h o0 o1 o2 o3 o4 o5 o6 o7 B (l.take n):=by
 unfold FH;rw[show h.length+(8+B.length+n)=h.length+((B.length+n)+8) by omega,List.take_append,List.take_of_length_le (by omega)]
 congr 1
 simp only[Nat.add_sub_cancel_left,List.take_succ_cons];rw[List.take_append,List.take_of_length_le (show B.length≤B.length+n by omega)]
 simp
end
def Ent.bx (x:Ent):Obj:=.box [AS x.site,AI x.no,AI x.time,AI x.kind,AS x.board,AS x.step,AS x.of,AI x.other]
def Sta.bx (s:Sta):Obj:=.box [AI s.state,AI s.since,AS s.step,AS s.site,AI s.failed]
def Sta.pv (s:Sta):PV:=.agg [eI s.state,eI s.since,.str s.step,.str s.site,eI s.failed]
abbrev bB:=List (Ent × Sta)
def BA:bB→aA
 | []=>[]
 | e::r=>e.1.bx::e.1.bx::e.2.bx::BA r
theorem nD:∀ bs:bB,(BA bs).length=3*bs.length
 | []=>rfl
 | e::r=>by simp [BA,nD r];omega
theorem z3F:∀ a b:bB,BA (a++b)=BA a++BA b
 | [],b=>rfl
 | e::r,b=>by simp [BA,z3F r b]
theorem z3G:∀ (bs:bB)(i:Nat)(e:Ent × Sta),bs[i]?=some e→(BA bs)[3*i+2]?=some e.2.bx
 | [],i,e,h=>by simp at h
 | y::r,0,e,h=>by simp at h;subst h;rfl
 | y::r,i+1,e,h=>by
  have:=z3G r i e (by simpa using h)
  rw[show 3*(i+1)+2=(3*i+2)+3 by omega]
  exact this
theorem z3H:∀ (bs:bB)(i:Nat)(e:Ent × Sta)(s:Sta),bs[i]?=some e→(BA bs).set (3*i+2) s.bx=BA (bs.set i (e.1,s))
 | [],i,e,s,h=>by simp at h
 | y::r,0,e,s,h=>by simp at h;subst h;rfl
 | y::r,i+1,e,s,h=>by
  have:=z3H r i e s (by simpa using h)
  rw[show 3*(i+1)+2=(3*i+2)+3 by omega]
  simp only[BA,List.set_cons_succ,this]
def qB (h:aA)(i:Nat):Nat:=h.length+(8+(3*i+2))
section
variable {o0 o1 o2 o3 o4 o5 o6 o7:Obj} {l:aA} {bs:bB} {i:Nat} {e:Ent × Sta}
theorem kJ (hi:bs[i]?=some e):(FH h o0 o1 o2 o3 o4 o5 o6 o7 (BA bs) l)[qB h i]?=some e.2.bx:=by
 unfold qB;rw[SG,show 8+(3*i+2)=(3*i+2)+8 by omega]
 show(BA bs++l)[3*i+2]?=_
 have hl:i<bs.length:=by
  rcases Nat.lt_or_ge i bs.length with h|h
  ·exact h
  ·rw[List.getElem?_eq_none h]at hi;cases hi
 rw[List.getElem?_append_left (by rw[nD];omega)]
 exact z3G bs i e hi
theorem z1k (hi:bs[i]?=some e)(s:Sta):(FH h o0 o1 o2 o3 o4 o5 o6 o7 (BA bs) l).set (qB h i) s.bx=FH h o0 o1 o2 o3 o4 o5 o6 o7 (BA (bs.set i (e.1,s))) l:=by
 unfold qB;rw[UG,show 8+(3*i+2)=(3*i+2)+8 by omega]
 unfold FH;congr 1
 simp only[List.set_cons_succ];have hl:i<bs.length:=by
  rcases Nat.lt_or_ge i bs.length with h|h
  ·exact h
  ·rw[List.getElem?_eq_none h]at hi;cases hi
 rw[List.set_append_left _ _ (by rw[nD];omega),z3H bs i e s hi]
end
def VB (q:Nat):AV:=.ref q 0
def tB:Nat→bB→List (Nm × Nat)
 | _,[]=>[]
 | q,e::r=>(e.1.board,q+2)::tB (q+3) r
theorem XO:∀ (q:Nat)(bs:bB),(tB q bs).length=bs.length
 | q,[]=>rfl
 | q,e::r=>by simp [tB,XO (q+3) r]
theorem z8m:∀ (q:Nat)(bs:bB)(e:Ent × Sta),tB q (bs++[e])=tB q bs++[(e.1.board,q+3*bs.length+2)]
 | q,[],e=>by simp [tB]
 | q,y::r,e=>by
  have:=z8m (q+3) r e;simp only[List.cons_append,tB,this,List.length_cons];rw[show q+3+3*r.length+2=q+3*(r.length+1)+2 by omega]
theorem YO:∀ (q:Nat)(bs:bB)(i:Nat)(e:Ent × Sta)(s:Sta),bs[i]?=some e→tB q (bs.set i (e.1,s))=tB q bs
 | q,[],i,e,s,h=>by simp at h
 | q,y::r,0,e,s,h=>by simp at h;subst h;rfl
 | q,y::r,i+1,e,s,h=>by
  have:=YO (q+3) r i e s (by simpa using h)
  simp only[List.set_cons_succ,tB,this]
def asA (bs:bB):List (Nm×Sta):=bs.map fun e=>(e.1.board,e.2)
def ixB (k:Nm):bB→Option Nat
 | []=>none
 | e::r=>if k=e.1.board then some 0 else(ixB k r).map (· + 1)
theorem aT (k:Nm):∀(q:Nat) (bs:bB),xB k (tB q bs)=(ixB k bs).map fun i=>q+(3*i+2)
 | q,[]=>rfl
 | q,e::r=>by
  unfold tB xB ixB;by_cases h:k=e.1.board
  ·simp [h]
  ·rw[if_neg h,if_neg h,aT k (q+3) r]
   cases ixB k r with
   | none=>rfl
   | some i=>simp;omega
theorem rM (k:Nm):∀(bs:bB),(ixB k bs=none→nA (asA bs) k=none)∧∀i,ixB k bs=some i→∃e,bs[i]?=some e∧e.1.board=k∧nA (asA bs) k=some e.2
 | []=>⟨fun _=>rfl,fun i h=>by cases h⟩
 | e::r=>by
  obtain⟨i1,i2⟩:=rM k r;unfold ixB;by_cases h:k=e.1.board
  ·refine⟨fun z=>by simp [h]at z,fun i hi=>?_⟩
   rw[if_pos h]at hi;cases hi;exact⟨e,rfl,h.symm,by unfold asA;rw[List.map_cons,iF,if_pos h.symm]⟩
  ·have hn:¬e.1.board=k:=fun z=>h z.symm
   rw[if_neg h];refine⟨fun z=>?_,fun i hi=>?_⟩
   ·unfold asA
    rw[List.map_cons,iF,if_neg hn];exact i1 (by simpa using z)
   ·obtain⟨j,hj,e2⟩:=Option.map_eq_some_iff.1 hi
    obtain⟨y,y1,y2,y3⟩:=i2 j hj;subst e2;refine⟨y,by simpa using y1,y2,?_⟩
    unfold asA;rw[List.map_cons,iF,if_neg hn];exact y3
theorem zd6 {bs:bB}{k:Nm}{i:Nat}{e:Ent × Sta}(hi:ixB k bs=some i)(he:bs[i]?=some e)(hu:(bs.map fun e=>e.1.board).Nodup)(s:Sta):asA (bs.set i (e.1,s))=JA (asA bs) k s:=by
 induction bs generalizing i with
 | nil=>cases hi
 | cons y r ih=>
  unfold ixB at hi;rw[List.map_cons,List.nodup_cons]at hu;by_cases h:k=y.1.board
  ·rw[if_pos h]at hi
   cases hi;simp at he
   subst he;unfold JA asA;rw[if_pos (by simp [h])]
   simp only[List.set_cons_zero,List.map_cons,h,if_true];congr 1
   rw[List.map_map];apply List.map_congr_left
   intro z hz;have:¬z.1.board=y.1.board:=fun q=>hu.1 (q ▸ List.mem_map_of_mem hz)
   simp [this]
  ·rw[if_neg h]at hi
   obtain⟨j,hj,e2⟩:=Option.map_eq_some_iff.1 hi;subst e2;have hn:¬y.1.board=k:=fun z=>h z.symm
   have he':r[j]?=some e:=by simpa using he
   have q:=ih hj he' hu.2
   simp only[List.set_cons_succ];unfold JA asA at q ⊢;simp only[List.map_cons,List.any_cons,decide_eq_false hn,Bool.false_or,if_neg hn];rw[q];split
   ·rfl
   ·rfl
theorem zd5 {bs:bB}{k:Nm}(hi:ixB k bs=none)(x:Ent)(hx:x.board=k)(s:Sta):asA (bs++[(x,s)])=JA (asA bs) k s:=by
 have:(asA bs).any (fun e=>decide (e.1=k))=false:=by
  induction bs with
  | nil=>rfl
  | cons y r ih=>
   unfold ixB at hi;by_cases h:k=y.1.board
   ·rw[if_pos h]at hi;cases hi
   ·rw[if_neg h]at hi
    have hn:¬y.1.board=k:=fun z=>h z.symm
    have q:=ih (by simpa using hi)
    unfold asA at q ⊢;rw[List.map_cons,List.any_cons,q];simp [hn]
 unfold JA;rw[if_neg (by simp [this])]
 unfold asA;simp [hx]
abbrev RC:=List ((Nm × Nm) × Nat)
def dC (m:RC)(c:Nat):Obj:=.amap (m.map fun e=>⟨.str e.1.1,AS e.1.2,e.2⟩) c
def asS (m:RC):List (Nm×Nm):=m.map (·.1)
def CD (k:Nm):RC→Option Nat
 | []=>none
 | e::r=>if k=e.1.1 then some 0 else(CD k r).map (· + 1)
theorem bP (k:Nm):∀m:RC,mC (.str k) (m.map fun e=>(⟨.str e.1.1,AS e.1.2,e.2⟩:ME))=some (CD k m)
 | []=>rfl
 | e::r=>by
  have hk:PV.eqv (.str k) (.str e.1.1)=some (decide (k=e.1.1)):=rfl
  simp only[List.map_cons,mC,hk,CD];by_cases h:k=e.1.1
  ·simp [h]
  ·simp [h,bP k r]
theorem yS (k:Nm):∀m:RC,(CD k m).bind (fun i=>m[i]?)=m.find? (fun e=>decide (e.1.1=k))
 | []=>rfl
 | e::r=>by
  unfold CD;rw[List.find?_cons];by_cases h:k=e.1.1
  ·simp [h]
  ·have hn:¬e.1.1=k:=fun z=>h z.symm
   rw[if_neg h,decide_eq_false hn];have:=yS k r;cases hf:CD k r with
   | none=>rw[hf]at this;simpa using this
   | some i=>rw[hf]at this;simpa using this
theorem zS (k:Nm):∀(m:RC) (i:Nat),CD k m=some i→(m[i]?).isSome=true
 | [],i,h=>by cases h
 | e::r,i,h=>by
  unfold CD at h;split at h
  ·cases h;rfl
  ·obtain⟨j,hj,e2⟩:=Option.map_eq_some_iff.1 h
   subst e2;have:=zS k r j hj;simpa using this
theorem zmX {id:Nat}{hp:aA}{m:RC}{c:Nat}{k:Nm}(hh:hp[id]?=some (dC m c)) :
 QA (none,[2]) true (AS []) (.mp id) (AS k) hp=some (.tup [AS ((nA (asS m) k).getD []),AB (nA (asS m) k).isSome]):=by
 have e1:pC (none,[2]) (AS k)=some (.str k):=NE
 have e2:IB hp (.mp id)=some (id,m.map fun e=>(⟨.str e.1.1,AS e.1.2,e.2⟩:ME),c):=by simp only[IB,hh,dC]
 have e3:nA (asS m) k=(m.find? fun e=>decide (e.1.1=k)).map (fun e=>e.1.2):=by
  unfold nA asS;rw[List.find?_map];cases h:m.find? (fun e=>decide (e.1.1=k)) with
  | none=>rw[show(List.find? ((fun e=>decide (e.1=k)) ∘ fun x=>x.1) m)=m.find? (fun e=>decide (e.1.1=k)) from rfl,h];rfl
  | some x=>rw[show(List.find? ((fun e=>decide (e.1=k)) ∘ fun x=>x.1) m)=m.find? (fun e=>decide (e.1.1=k)) from rfl,h];rfl
 simp only[QA,e1,e2,Option.map_some,bP];have e4:=yS k m
 rw[e3,←e4];cases hf:CD k m with
 | none=>rfl
 | some i=>
  simp only[Option.bind_some,List.getElem?_map];have hs:(m[i]?).isSome=true:=zS k m i hf
  obtain⟨y,hy⟩:=Option.isSome_iff_exists.1 hs;rw[hy];rfl
end Go.Am
end
section
/- A text split at a byte. -/
set_option linter.all false
namespace Go.Am
end Go.Am
end
section
/- A text read line by line. -/
set_option linter.all false
namespace Go.Am
end Go.Am
end
section
/- Numbers in texts. -/
set_option linter.all false
namespace Go.Am
end Go.Am
end
section
/- Faults of nets: what the words mean,in plain Lean. -/
set_option linter.all false
namespace Go.Am
structure Flt where
 kind:Int
 nets:List Int
 deriving DecidableEq
end Go.Am
end
section
/- Faults read: the program's line and the reference's line agree. -/
set_option linter.all false
namespace Go.Am
end Go.Am
end
section
/- What is written is read: numbers,words,lines. -/
set_option linter.all false
namespace Go.Am
end Go.Am
end
section
/- Entries asv texts,plainly: written,read qE ways. -/
set_option linter.all false
namespace Go.Am
def nH:Ent:=⟨[],0,0,0,[],[],[],0⟩
end Go.Am
end
section
/- Records: what is wrong with them,qE ways. -/
open Go
set_option linter.unusedSimpArgs false
namespace Go.Am
variable {h:aA} {K:lA}
def orL:List Int→Int
 | []=>0
 | x::r=>if x≠0 then x else orL r
theorem z90 (l:List Int)(hl:l.length≤1000):cA X sH [AL l] h K=K (AI (orL l)) h []:=by
 refine uA ?_;rw[zeg rfl];simp only[gR,go_sem];refine UA (fun k:Nat=>⟨[(3,AI 0),(6,AL l),(7,AI l.length),(8,AI k)],h,[]⟩) (fun k=>k≤l.length∧orL (l.drop k)=orL l) (fun k=>l.length-k) 0 rfl ⟨by omega,rfl⟩ ?_
 rintro k ⟨hk,hp⟩
 rcases Nat.lt_or_ge k l.length with hlt|hge
 ·have g2:=GB eI hlt
  have w2:IntKind.i64.wrap ((k:Int)+1)=((k+1:Nat):Int):=CA _ (by omega) (by omega)
  rw[List.drop_eq_getElem_cons hlt,orL]at hp;by_cases hz:l[k]=0
  ·rw[if_neg (by simp [hz])]at hp
   simp only[go_sem,hlt,g2,hz,w2];exact⟨k+1,rfl,⟨by omega,hp⟩,by omega⟩
  ·rw[if_pos hz]at hp
   simp only[go_sem,hlt,g2,hz];rw[hp]
 ·have ek:k=l.length:=by omega
  subst ek;rw[List.drop_length]at hp;simp only[go_sem,Nat.lt_irrefl];rw[←hp];rfl
end Go.Am
end
section
/- Entries of stations: compared. -/
open Go
set_option linter.all false
set_option maxRecDepth 100000
namespace Go.Am
variable {h:aA} {K:lA}
abbrev eB (l:List Ent):AV:=.p (.sl (some 8) (l.map Ent.pv))
theorem z6j {l:List Ent}:VC (some 8) (l.map Ent.pv):=fun x hx=>by obtain⟨n,_,rfl⟩:=List.mem_map.1 hx;rfl
theorem oH {x:Ent}:VA (some 8) 0 x.pv=some x.pv:=rfl
structure EntOk (x:Ent):Prop where
 s:x.site.length≤1000000
 b:x.board.length≤1000000
 p:x.step.length≤1000000
 o:x.of.length≤1000000
structure EntB (x:Ent):Prop where
 n:1≤x.no∧x.no≤1000000
 t:0≤x.time∧x.time≤345686399999
theorem aZ {x:Ent}(h:WB x=0):EntB x:=by
 unfold WB at h;split at h
 ·cases h
 split at h
 ·cases h
 rename_i h2;rw[not_or]at h2;have a:noB x.no=true:=by simpa using h2.1
 have b:OE x.time=true:=by simpa using h2.2
 unfold noB inB at a;unfold OE inB at b;simp at a b;exact⟨a,b⟩
theorem zoE (a b:Ent):cA X RJ [.p a.pv,.p b.pv] h K=K (AI (eC a b)) h []:=by
 refine uA ?_;rw[zf1 rfl];have o:=fun h K=>z90 (h:=h) (K:=K) [sB a.time b.time,EA a.site b.site,sB a.no b.no] (by simp)
 simp only[AL,List.map_cons,List.map_nil]at o;have e:orL [sB a.time b.time,EA a.site b.site,sB a.no b.no]=eC a b:=by
  unfold eC;simp only[orL];split
  ·rfl
  ·split
   ·rfl
   ·split
    ·rfl
    ·rename_i h;simp only[ne_eq,Decidable.not_not]at h;rw[h]
 rw[e]at o;simp only[IY,Ent.pv,go_sem,z9z,SP,o]
theorem zou (a b:Ent)(ha:EntB a)(hb:EntB b):cA X AG [.p a.pv,.p b.pv] h K=K (AI (eC a b)) h []:=by
 refine uA ?_;rw[z3L rfl];have a1:=ha.t
 have a2:=hb.t
 have a3:=ha.n
 have a4:=hb.n
 have w:IntKind.i64.wrap (a.time-b.time)=a.time-b.time:=CA _ (by omega) (by omega)
 have w2:IntKind.i64.wrap (a.no-b.no)=a.no-b.no:=CA _ (by omega) (by omega)
 unfold eC;by_cases he:a.time=b.time
 ·have:sB a.time b.time=0:=by rw[he];unfold sB;simp
  rw[if_neg (by simp [this])]
  by_cases hs:a.site=b.site
  ·have hc:EA a.site b.site=0:=by rw[hs];exact iO _
   rw[if_neg (by simp [hc]),ZQ]
   simp only[vI,Ent.pv,go_sem,he,hs,w2,RP]
  ·have hc:EA a.site b.site≠0:=fun e=>hs (xD e)
   rw[if_pos hc];simp only[vI,Ent.pv,go_sem,he,hs,SP]
 ·have hc:sB a.time b.time≠0:=by unfold sB;split <;> (try split) <;> omega
  rw[if_pos hc];rw[ZQ];simp only[vI,Ent.pv,go_sem,he,w,RP]
theorem zoU (a b:Ent):cA X KL [.p a.pv,.p b.pv] h K=K (AB (PC a b)) h []:=by
 refine uA ?_;rw[zeT rfl];unfold PC;by_cases h1:a.site=b.site
 ·simp only[DR,Ent.pv,go_sem,h1]
 ·simp only[DR,Ent.pv,go_sem,h1]
end Go.Am
end
section
/- What is wrong with an entry: the reference. -/
open Go
set_option linter.all false
set_option maxRecDepth 100000
namespace Go.Am
variable {h:aA} {K:lA}
attribute [-go_sem] nB
theorem eqa8 (ks:List Nat)(hk:ks=[2,0,0,0,2,2,2,0])(neg:Bool)(c d:Ent):nB ks neg (.p c.pv) (.p d.pv)=some (AB (bif neg then !decide (c=d) else decide (c=d))):=by
 subst hk;obtain⟨a1,a2,a3,a4,a5,a6,a7,a8⟩:=c;obtain⟨b1,b2,b3,b4,b5,b6,b7,b8⟩:=d;have e:decide ((⟨a1,a2,a3,a4,a5,a6,a7,a8⟩:Ent)=⟨b1,b2,b3,b4,b5,b6,b7,b8⟩)=(decide (a1=b1)&&(decide (a2=b2)&&(decide (a3=b3)&&(decide (a4=b4)&&(decide (a5=b5)&&(decide (a6=b6)&&(decide (a7=b7)&&(decide (a8=b8)&&true)))))))):=by
  rw[Bool.eq_iff_iff];simp [Ent.mk.injEq]
 rw[e];rfl
theorem eqa8n (c d:Ent):nB [2,0,0,0,2,2,2,0] true (.p c.pv) (.p d.pv)=some (AB (!decide (c=d))):=eqa8 _ rfl true c d
def Ent.box (x:Ent):Obj:=.box [AS x.site,AI x.no,AI x.time,AI x.kind,AS x.board,AS x.step,AS x.of,AI x.other]
def refE (x u:Ent)(nm:Bool):Int:=if mB x.site=false then 5 else if noB x.no=false∨OE x.time=false then 1 else if inB 1 x.kind 7=false then 4
 else if nm=false then 5 else if x.kind=7∧noB x.other=false then 1 else if x≠u then 3 else 0
theorem znJ (x:Ent):refE x (NU x) (zM x)=WB x:=rfl
theorem zk4 (x u:Ent)(nm:Bool)(hs:x.site.length≤1000000)(K':Ex→St→Prop) :
 sE (cA X) X.gl (.ref h.length 0) (.ref (h.length+1) 0) (AB nm) (h++[x.box,u.box]) [] K'=K' .ret ⟨[(2,AI (refE x u nm))],h++[x.box,u.box],[]⟩:=by
 have k1:=fun h K=>FN (h:=h) (K:=K) x.site (by omega)
 have hq:=eqa8n x u
 unfold refE noB;unfold Ent.box;simp only[Ent.pv]at hq;cases h1:mB x.site with
 | false=>simp only[sE,go_sem,or_false,false_or,true_or,or_true,true_and,and_true,false_and,and_false,not_true_eq_false,not_false_eq_true,↓k1,k1,h1]
 | true=>
  cases h2:inB 1 x.no 1000000 with
  | false=>simp only[sE,go_sem,or_false,false_or,true_or,or_true,true_and,and_true,false_and,and_false,not_true_eq_false,not_false_eq_true,↓k1,k1,nF,h1,h2]
  | true=>
   cases h3:OE x.time with
   | false=>simp only[sE,go_sem,or_false,false_or,true_or,or_true,true_and,and_true,false_and,and_false,not_true_eq_false,not_false_eq_true,↓k1,k1,nF,NG,h1,h2,h3]
   | true=>
    cases h4:inB 1 x.kind 7 with
    | false=>simp only[sE,go_sem,or_false,false_or,true_or,or_true,true_and,and_true,false_and,and_false,not_true_eq_false,not_false_eq_true,↓k1,k1,nF,NG,h1,h2,h3,h4]
    | true=>
     cases nm with
     | false=>simp only[sE,go_sem,or_false,false_or,true_or,or_true,true_and,and_true,false_and,and_false,not_true_eq_false,not_false_eq_true,↓k1,k1,nF,NG,h1,h2,h3,h4]
     | true=>
      by_cases h7:x.kind=7
      ·cases h6:inB 1 x.other 1000000 with
       | false=>simp only[sE,go_sem,or_false,false_or,true_or,or_true,true_and,and_true,false_and,and_false,not_true_eq_false,not_false_eq_true,↓k1,k1,nF,NG,h1,h2,h3,h4,eq_true h7,h6]
       | true=>
        by_cases e:x=u
        ·rw[decide_eq_true e]at hq
         simp only[sE,go_sem,or_false,false_or,true_or,or_true,true_and,and_true,false_and,and_false,not_true_eq_false,not_false_eq_true,↓k1,k1,nF,NG,h1,h2,h3,h4,eq_true h7,h6,hq,eq_true e]
        ·rw[decide_eq_false e]at hq
         simp only[sE,go_sem,or_false,false_or,true_or,or_true,true_and,and_true,false_and,and_false,not_true_eq_false,not_false_eq_true,↓k1,k1,nF,NG,h1,h2,h3,h4,eq_true h7,h6,hq,e]
      ·by_cases e:x=u
       ·rw[decide_eq_true e]at hq
        simp only[sE,go_sem,or_false,false_or,true_or,or_true,true_and,and_true,false_and,and_false,not_true_eq_false,not_false_eq_true,↓k1,k1,nF,NG,h1,h2,h3,h4,h7,hq,eq_true e]
       ·rw[decide_eq_false e]at hq
        simp only[sE,go_sem,or_false,false_or,true_or,or_true,true_and,and_true,false_and,and_false,not_true_eq_false,not_false_eq_true,↓k1,k1,nF,NG,h1,h2,h3,h4,h7,hq,e]
attribute [-go_sem] sE
theorem zot (x:Ent)(hx:EntOk x):cA X wL [.p x.pv] h K=K (AI (WB x)) h []:=by
 refine uA ?_;rw[ze7 rfl];have k2:=fun h K=>FN (h:=h) (K:=K) x.board (by have:=hx.b;omega)
 have k3:=fun h K=>FN (h:=h) (K:=K) x.step (by have:=hx.p;omega)
 have k4:=fun h K=>FN (h:=h) (K:=K) x.of (by have:=hx.o;omega)
 rw[←znJ];have hs:x.site.length≤1000000:=hx.s
 have Q:=fun u nm K'=>zk4 (h:=h) x u nm hs K'
 unfold Ent.box at Q;unfold NU zM;by_cases h7:x.kind=7
 ·have q:=Q ⟨x.site,x.no,x.time,x.kind,[],[],x.of,x.other⟩ (mB x.of)
  dsimp only at q;simp only[uI,Ent.pv,go_sem,↓k4,k4,h7]at q ⊢;simp only[uI,Ent.pv,go_sem,↓k4,k4,q,h7]
 ·by_cases h2:x.kind=2
  ·cases hb:mB x.board with
   | false=>
    have q:=Q ⟨x.site,x.no,x.time,x.kind,x.board,x.step,[],0⟩ false
    simp only[uI,Ent.pv,go_sem,↓k2,k2,↓k3,k3,h7,eq_true h2,hb,q]
   | true=>
    have q:=Q ⟨x.site,x.no,x.time,x.kind,x.board,x.step,[],0⟩ (mB x.step)
    simp only[uI,Ent.pv,go_sem,↓k2,k2,↓k3,k3,h7,eq_true h2,hb,q]
  ·have q:=Q ⟨x.site,x.no,x.time,x.kind,x.board,[],[],0⟩ (mB x.board)
   simp only[uI,Ent.pv,go_sem,↓k2,k2,↓k3,k3,h7,h2,q]
end Go.Am
end
section
/- What is wrong with an entry: the program. Printed by gen_ent.py. -/
open Go
set_option linter.all false
set_option maxRecDepth 100000
namespace Go.Am
variable {h:aA} {K:lA}
set_option maxHeartbeats 4000000 in
theorem zoI (x:Ent)(hx:EntOk x):cA X TJ [.p x.pv] h K=K (AI (WB x)) h []:=by
 refine uA ?_;rw[zf3 rfl];have k1:=fun h K=>CN (h:=h) (K:=K) x.site (by have:=hx.s;omega)
 have k2:=fun h K=>CN (h:=h) (K:=K) x.board (by have:=hx.b;omega)
 have k3:=fun h K=>CN (h:=h) (K:=K) x.step (by have:=hx.p;omega)
 have k4:=fun h K=>CN (h:=h) (K:=K) x.of (by have:=hx.o;omega)
 obtain⟨site,no,time,kind,board,step,of,other⟩:=x;dsimp only at k1 k2 k3 k4;unfold WB zM NU noB;dsimp only;cases h1:mB site with
 | false=>
  simp only[Ent.pv,go_sem,Ent.mk.injEq,or_false,false_or,true_or,or_true,true_and,and_true,and_self,false_and,and_false,not_true_eq_false,not_false_eq_true,Bool.not_true,Bool.not_false,kH,↓k1,k1,AE,MH,h1]
 | true=>
  cases h2:inB 1 no 1000000 with
  | false=>
   simp only[Ent.pv,go_sem,Ent.mk.injEq,or_false,false_or,true_or,or_true,true_and,and_true,and_self,false_and,and_false,not_true_eq_false,not_false_eq_true,Bool.not_true,Bool.not_false,kH,↓k1,k1,AE,MH,h1,h2]
  | true=>
   cases h3:OE time with
   | false=>
    simp only[Ent.pv,go_sem,Ent.mk.injEq,or_false,false_or,true_or,or_true,true_and,and_true,and_self,false_and,and_false,not_true_eq_false,not_false_eq_true,Bool.not_true,Bool.not_false,kH,↓k1,k1,AE,MH,h1,h2,h3]
   | true=>
    cases h4:inB 1 kind 7 with
    | false=>
     simp only[Ent.pv,go_sem,Ent.mk.injEq,or_false,false_or,true_or,or_true,true_and,and_true,and_self,false_and,and_false,not_true_eq_false,not_false_eq_true,Bool.not_true,Bool.not_false,kH,↓k1,k1,AE,MH,h1,h2,h3,h4]
    | true=>
     by_cases h7:kind=7
     ·have h72:¬kind=2:=by omega
      simp only[Ent.pv,go_sem,Ent.mk.injEq,or_false,false_or,true_or,or_true,true_and,and_true,and_self,false_and,and_false,not_true_eq_false,not_false_eq_true,Bool.not_true,Bool.not_false,kH,↓k1,k1,AE,MH,h1,h2,h3,h4,eq_true h7,h72];cases h5:mB of with
      | false=>
       simp only[Ent.pv,go_sem,Ent.mk.injEq,or_false,false_or,true_or,or_true,true_and,and_true,and_self,false_and,and_false,not_true_eq_false,not_false_eq_true,Bool.not_true,Bool.not_false,↓k4,k4,h5,eq_true h7,h72]
      | true=>
       cases h6:inB 1 other 1000000 with
       | false=>
        simp only[Ent.pv,go_sem,Ent.mk.injEq,or_false,false_or,true_or,or_true,true_and,and_true,and_self,false_and,and_false,not_true_eq_false,not_false_eq_true,Bool.not_true,Bool.not_false,↓k4,k4,AE,h5,h6,eq_true h7,h72]
       | true=>
        by_cases e1:board=[]
        ·by_cases e2:step=[]
         ·simp only[Ent.pv,go_sem,Ent.mk.injEq,or_false,false_or,true_or,or_true,true_and,and_true,and_self,false_and,and_false,not_true_eq_false,not_false_eq_true,Bool.not_true,Bool.not_false,↓k4,k4,AE,h5,h6,eq_true e1,eq_true e2,eq_true h7,h72]
         ·simp only[Ent.pv,go_sem,Ent.mk.injEq,or_false,false_or,true_or,or_true,true_and,and_true,and_self,false_and,and_false,not_true_eq_false,not_false_eq_true,Bool.not_true,Bool.not_false,↓k4,k4,AE,h5,h6,eq_true e1,e2,eq_true h7,h72]
        ·simp only[Ent.pv,go_sem,Ent.mk.injEq,or_false,false_or,true_or,or_true,true_and,and_true,and_self,false_and,and_false,not_true_eq_false,not_false_eq_true,Bool.not_true,Bool.not_false,↓k4,k4,AE,h5,h6,e1,eq_true h7,h72]
     ·by_cases h2k:kind=2
      ·simp only[Ent.pv,go_sem,Ent.mk.injEq,or_false,false_or,true_or,or_true,true_and,and_true,and_self,false_and,and_false,not_true_eq_false,not_false_eq_true,Bool.not_true,Bool.not_false,kH,↓k1,k1,AE,MH,h1,h2,h3,h4,h7,eq_true h2k]
       cases h5:mB board with
       | false=>
        simp only[Ent.pv,go_sem,Ent.mk.injEq,or_false,false_or,true_or,or_true,true_and,and_true,and_self,false_and,and_false,not_true_eq_false,not_false_eq_true,Bool.not_true,Bool.not_false,↓k2,k2,h5,h7,eq_true h2k]
       | true=>
        simp only[Ent.pv,go_sem,Ent.mk.injEq,or_false,false_or,true_or,or_true,true_and,and_true,and_self,false_and,and_false,not_true_eq_false,not_false_eq_true,Bool.not_true,Bool.not_false,↓k2,k2,h5,h7,eq_true h2k];cases h6:mB step with
        | false=>
         simp only[Ent.pv,go_sem,Ent.mk.injEq,or_false,false_or,true_or,or_true,true_and,and_true,and_self,false_and,and_false,not_true_eq_false,not_false_eq_true,Bool.not_true,Bool.not_false,↓k3,k3,h6,h7,eq_true h2k]
        | true=>
         by_cases e1:of=[]
         ·by_cases e2:other=0
          ·simp only[Ent.pv,go_sem,Ent.mk.injEq,or_false,false_or,true_or,or_true,true_and,and_true,and_self,false_and,and_false,not_true_eq_false,not_false_eq_true,Bool.not_true,Bool.not_false,↓k3,k3,h6,eq_true e1,eq_true e2,h7,eq_true h2k]
          ·simp only[Ent.pv,go_sem,Ent.mk.injEq,or_false,false_or,true_or,or_true,true_and,and_true,and_self,false_and,and_false,not_true_eq_false,not_false_eq_true,Bool.not_true,Bool.not_false,↓k3,k3,h6,eq_true e1,e2,h7,eq_true h2k]
         ·simp only[Ent.pv,go_sem,Ent.mk.injEq,or_false,false_or,true_or,or_true,true_and,and_true,and_self,false_and,and_false,not_true_eq_false,not_false_eq_true,Bool.not_true,Bool.not_false,↓k3,k3,h6,e1,h7,eq_true h2k]
      ·simp only[Ent.pv,go_sem,Ent.mk.injEq,or_false,false_or,true_or,or_true,true_and,and_true,and_self,false_and,and_false,not_true_eq_false,not_false_eq_true,Bool.not_true,Bool.not_false,kH,↓k1,k1,AE,MH,h1,h2,h3,h4,h7,h2k]
       cases h5:mB board with
       | false=>
        simp only[Ent.pv,go_sem,Ent.mk.injEq,or_false,false_or,true_or,or_true,true_and,and_true,and_self,false_and,and_false,not_true_eq_false,not_false_eq_true,Bool.not_true,Bool.not_false,↓k2,k2,h5,h7,h2k]
       | true=>
        by_cases e0:step=[]
        ·by_cases e1:of=[]
         ·by_cases e2:other=0
          ·simp only[Ent.pv,go_sem,Ent.mk.injEq,or_false,false_or,true_or,or_true,true_and,and_true,and_self,false_and,and_false,not_true_eq_false,not_false_eq_true,Bool.not_true,Bool.not_false,↓k2,k2,h5,eq_true e0,eq_true e1,eq_true e2,h7,h2k]
          ·simp only[Ent.pv,go_sem,Ent.mk.injEq,or_false,false_or,true_or,or_true,true_and,and_true,and_self,false_and,and_false,not_true_eq_false,not_false_eq_true,Bool.not_true,Bool.not_false,↓k2,k2,h5,eq_true e0,eq_true e1,e2,h7,h2k]
         ·simp only[Ent.pv,go_sem,Ent.mk.injEq,or_false,false_or,true_or,or_true,true_and,and_true,and_self,false_and,and_false,not_true_eq_false,not_false_eq_true,Bool.not_true,Bool.not_false,↓k2,k2,h5,eq_true e0,e1,h7,h2k]
        ·simp only[Ent.pv,go_sem,Ent.mk.injEq,or_false,false_or,true_or,or_true,true_and,and_true,and_self,false_and,and_false,not_true_eq_false,not_false_eq_true,Bool.not_true,Bool.not_false,↓k2,k2,h5,e0,h7,h2k]
end Go.Am
end
section
/- Lists of entries: what is wrong with them,the program. -/
open Go
set_option linter.all false
set_option maxRecDepth 100000
namespace Go.Am
variable {h:aA} {K:lA}
def FD (s:List UInt8 × Int):PV:=.agg [.str s.1,.int .i64 s.2]
def aD (b:Bool):AV:=.p (.bool b)
theorem RS:EK FD:=fun a b=>by
 obtain⟨a1,a2⟩:=a;obtain⟨b1,b2⟩:=b;have e:decide ((a1,a2)=(b1,b2))=(decide (a1=b1)&&(decide (a2=b2)&&true)):=by rw[Bool.eq_iff_iff];simp
 rw[e];rfl
theorem TS {s:List UInt8 × Int}:pC (some 2,[2,0]) (.p (FD s))=some (FD s):=by simp [FD,pC,PV.key,PV.shp,PV.sc,PV.cells,PV.kind]
def oF (l:List Ent):List ((List UInt8×Int)×Bool):=l.map fun x=>((x.site,x.no),true)
theorem qZ (x:Ent):∀l:List Ent,xB (x.site,x.no) (oF l)=if l.any (fun o=>PC o x) then some true else none
 | []=>rfl
 | y::l=>by
  have ih:=qZ x l
  unfold oF at ih ⊢;rw[List.map_cons];unfold xB;rw[ih,List.any_cons];have e:((x.site,x.no)=(y.site,y.no))↔PC y x=true:=by
   unfold PC;simp only[Prod.mk.injEq,Bool.and_eq_true,decide_eq_true_eq];exact⟨fun h=>⟨h.1.symm,h.2.symm⟩,fun h=>⟨h.1.symm,h.2.symm⟩⟩
  by_cases hc:PC y x=true
  ·rw[if_pos (e.2 hc),hc];rfl
  ·have hf:PC y x=false:=by simpa using hc
   rw[if_neg (fun z=>hc (e.1 z)),hf,Bool.false_or]
theorem zq4 (l:List Ent)(x:Ent)(h:l.any (fun o=>PC o x)=false):LC (x.site,x.no) true (oF l)=oF (l++[x]):=by
 have:yC (x.site,x.no) (oF l)=none:=by
  have e:=zaf (k:=(x.site,x.no)) (l:=oF l)
  rw[qZ,h]at e;simpa using e
 rw[MU this];unfold oF;simp
attribute [-go_sem] QA oB
theorem zph (l:List Ent)(hn:l.length≤1000000):cA X ZJ [eB l] h K=K (AB (iE [] l)) h []:=by
 refine uA ?_;rw[zfF rfl];simp only[iS,go_sem];refine UA (fun k:Nat=>⟨[(3,.mp h.length),(8,eB l),(9,AI l.length),(10,AI k)],h++[vA FD aD (oF (l.take k))],[]⟩) (fun k=>k≤l.length∧iE (l.take k) (l.drop k)=iE [] l) (fun k=>l.length-k) 0 rfl ⟨by omega,rfl⟩ ?_
 rintro k ⟨hkl,hp⟩
 rcases Nat.lt_or_ge k l.length with hlt|hge
 ·have hg:=GB Ent.pv hlt
  have w2:IntKind.i64.wrap ((k:Int)+1)=((k+1:Nat):Int):=CA _ (by omega) (by omega)
  have cx:=oH (x:=l[k])
  rw[List.drop_eq_getElem_cons hlt,iE,←List.take_succ_eq_append_getElem hlt]at hp;have ek:l.take (k+1)=l.take k++[l[k]]:=List.take_succ_eq_append_getElem hlt
  generalize hx:l[k]=x at *;generalize l.take k=S at *;have lk:=fun(hp:aA) (e:hp[h.length]?=some (vA FD aD (oF S)))=>BH (kk:=(some 2,[2,0])) (k:=(x.site,x.no)) RS e TS (ok:=false) (z:=aD false)
  have up:=fun(hp:aA) (e:hp[h.length]?=some (vA FD aD (oF S)))=>yM (kk:=(some 2,[2,0])) (k:=(x.site,x.no)) RS e TS (v:=true) rfl
  have l1:=fun t=>lk (h++vA FD aD (oF S)::t) (by simp)
  have u1:=fun t=>up (h++vA FD aD (oF S)::t) (by simp)
  rw[qZ]at l1;simp only[aD,FD,cond_false,YB,AV.top]at l1 u1;cases hc:S.any (fun o=>PC o x) with
  | true=>
   rw[hc,if_pos rfl]at hp;rw[hc]at l1;simp only[if_true,Option.map_some,Option.getD_some,aD]at l1;simp only[go_sem,hlt,hg,cx,Ent.pv,splice,l1];rw[←hp]
  | false=>
   rw[hc,if_neg (by simp)]at hp
   rw[hc]at l1;have us:=zq4 S x hc
   simp only[Bool.false_eq_true,if_false,Option.map_none,Option.getD_none]at l1;have nl0:¬h.length<0:=by omega
   simp only[nl0,if_false]at u1;rw[us]at u1;simp only[go_sem,hlt,hg,cx,Ent.pv,splice,l1,u1,w2];refine⟨k+1,?_,⟨by omega,?_⟩,by omega⟩
   ·rw[ek]
   ·rw[ek];rw[←ek];exact hp
 ·have ek:k=l.length:=by omega
  subst ek;rw[List.drop_length]at hp;simp only[go_sem,Nat.lt_irrefl];rw[←hp];rfl
theorem z6m {p:Option Ent}{x:Ent}{r:List Ent}:OC p (x::r)=if WB x≠0 then WB x else if(match p with|some q=>decide (eC x q≤0)|none=>false)=true then 7 else OC (some x) r:=rfl
theorem zom (r:List Ent)(hr:∀ x∈r,EntOk x)(hn:r.length≤1000000):cA X PJ [eB r] h K=K (AI (oD r)) h []:=by
 refine uA ?_;rw[zfu rfl];have tw:=fun h K=>zph (h:=h) (K:=K) r hn
 unfold oD;by_cases h1:(2000:Int)<r.length
 ·simp only[sO,go_sem,h1]
 simp only[sO,go_sem,h1];refine UA (fun k:Nat=>⟨[(0,eB r),(9,eB r),(10,AI r.length),(11,AI k)],h,[]⟩) (fun k=>k≤r.length∧OC (r.take k).getLast? (r.drop k)=OC none r) (fun k=>r.length-k) 0 rfl ⟨by omega,rfl⟩ ?_
 rintro k ⟨hkl,hp⟩
 rcases Nat.lt_or_ge k r.length with hlt|hge
 ·have hg:=GB Ent.pv hlt
  have w2:IntKind.i64.wrap ((k:Int)+1)=((k+1:Nat):Int):=CA _ (by omega) (by omega)
  have hx:=hr _ (List.getElem_mem hlt)
  have hlast:(r.take (k+1)).getLast?=some r[k]:=by rw[List.take_succ_eq_append_getElem hlt];exact List.getLast?_concat
  rw[List.drop_eq_getElem_cons hlt,z6m]at hp;have cx:=oH (x:=r[k])
  have rf:=fun h K=>zoI (h:=h) (K:=K) r[k] hx
  simp only[Ent.pv]at rf;by_cases h2:WB r[k]=0
  ·rw[if_neg (by simp [h2])]at hp
   cases k with
   | zero=>
    simp only[List.take_zero,List.getLast?_nil,reduceCtorEq,if_false]at hp;have hlt0:(0:Int)<r.length:=by omega
    simp only[go_sem,hlt0,hg,cx,Ent.pv,rf,h2,Int.lt_irrefl,splice,show IntKind.i64.wrap 1=1 from rfl]
    exact⟨0+1,rfl,⟨by omega,by rw[hlast];exact hp⟩,by omega⟩
   | succ j=>
    have hj:j<r.length:=by omega
    have hgj:=GB Ent.pv hj
    have cj:=oH (x:=r[j])
    have hlj:(r.take (j+1)).getLast?=some r[j]:=by rw[List.take_succ_eq_append_getElem hj];exact List.getLast?_concat
    have w3:IntKind.i64.wrap (((j+1:Nat):Int)-1)=(j:Int):=by rw[CA _ (by omega) (by omega)];omega
    have p1:(0:Int)<((j+1:Nat):Int):=by omega
    have bt:=fun h K=>zoE (h:=h) (K:=K) r[j+1] r[j]
    simp only[Ent.pv]at bt;rw[hlj]at hp;by_cases h3:eC r[j+1] r[j]≤0
    ·simp only[h3,decide_true,if_true]at hp
     simp only[go_sem,hlt,hj,hg,hgj,cx,cj,Ent.pv,rf,h2,p1,w3,bt,h3,splice];rw[←hp];rfl
    ·simp only[h3,decide_false,reduceCtorEq,if_false]at hp
     simp only[go_sem,hlt,hj,hg,hgj,cx,cj,Ent.pv,rf,h2,p1,w3,bt,h3,w2,splice];exact⟨j+1+1,rfl,⟨by omega,by rw[hlast];exact hp⟩,by omega⟩
  ·rw[if_pos h2]at hp
   simp only[go_sem,hlt,hg,cx,Ent.pv,rf,h2,splice];rw[←hp,if_pos h2]
 ·have ek:k=r.length:=by omega
  subst ek;rw[List.drop_length]at hp;have hz:OC none r=0:=by rw[←hp];cases (r.take r.length).getLast? <;> rfl
  rw[if_neg (by simp [hz])]
  cases ht:iE [] r with
  | true=>
   rw[ht]at tw;simp only[go_sem,Nat.lt_irrefl,tw];first|done|rfl
  | false=>
   rw[ht]at tw;simp only[go_sem,Nat.lt_irrefl,tw];first|done|rfl
end Go.Am
end
section
/- Lists of entries: sorted,looked through: printed by program. -/
open Go
set_option linter.unusedSimpArgs false
namespace Go.Am
attribute [-go_sem] PV.cells splice
variable {h:aA} {K:lA}
theorem zl7 (id n:Nat)(l tl:List PV)(hn:n=l.length+tl.length)(hs:VC (some 8) l)(hl:l.length≤1000)(hh:h[id]?=some (.row (some 8) (l++tl) 0)){g:Nat}{caps:List AV}{c:PV→PV→Int}(hc:iJ g caps c l id h) :
 cA X WF [.own id n 0 l.length,AI 0,AI l.length,.fn g caps] h K=K (.tup []) (h.set id (.row (some 8) (kB (ltC c) l++tl) 0)) []:=by
 refine uA ?_;rw[z3M];have hid:=ZF hh
 have hst:∀o,(h.set id o)[id]?=some o:=fun o=>PG hid
 simp only[rO,go_sem,show IntKind.i64.wrap 1=1 from rfl]
 refine UA (fun i:Nat=>⟨[(0,.own id n 0 l.length),(1,AI 0),(2,AI l.length),(3,.fn g caps),(8,AI i)],h.set id (.row (some 8) ((wC (ltC c) (l.take i)).reverse++(l.drop i++tl)) 0),[]⟩) (fun i=>1≤i∧(i≤l.length∨i=1)) (fun i=>l.length-i) 1 ?_ (by simp) ?_
 ·have:(wC (ltC c) (l.take 1)).reverse++(l.drop 1++tl)=l++tl:=by cases l <;> rfl
  rw[this,cJ hh];rfl
 rintro i ⟨hi1,hi2⟩
 rcases Nat.lt_or_ge i l.length with hlt|hge
 ·simp only[go_sem,hlt]
  have hxl:l[i]∈l:=List.getElem_mem hlt
  generalize hx:l[i]=x at *;generalize hR:wC (ltC c) (l.take i)=R;have hRl:R.length=i:=by rw[←hR,NS];simp;omega
  have hRm:∀z∈R,z∈l:=fun z hz=>List.mem_of_mem_take ((oM (ltC c) (l.take i)).mem_iff.1 (by rw[hR];exact hz))
  have hdrop:l.drop i=x::l.drop (i+1):=by rw[←hx];exact List.drop_eq_getElem_cons hlt
  have hnext:wC (ltC c) (l.take (i+1))=BB (ltC c) x R:=by rw[OS _ _ _ hlt,hR,hx]
  refine UA (fun t:List PV×List PV=>⟨[(0,.own id n 0 l.length),(1,AI 0),(2,AI l.length),(3,.fn g caps),(8,AI i),(9,AI t.1.length)],h.set id (.row (some 8) (t.1.reverse++x::t.2) 0),[]⟩)
   (fun t=>∃B,R=B++t.1∧t.2=B.reverse++(l.drop (i+1)++tl)∧∀b∈B,ltC c x b=true) (fun t=>t.1.length) (R,l.drop (i+1)++tl) (by rw[hdrop,hRl];rfl) ⟨[],rfl,rfl,by simp⟩ ?_
  rintro⟨A,C⟩ ⟨B,q1,q2,q3⟩
  dsimp only at q1 q2 q3;have hlen:(A.reverse++x::C).length=n:=by
   have:R.length=B.length+A.length:=by rw[q1];simp
   rw[q2];simp;omega
  have hBA:B.length+A.length<l.length:=by
   have:R.length=B.length+A.length:=by rw[q1];simp
   omega
  have hln:l.length≤n:=by omega
  have w1:IntKind.i64.wrap ((i:Int)+1)=((i+1:Nat):Int):=CA _ (by omega) (by omega)
  cases A with
  | nil=>
   have hd:BB (ltC c) x R=B++[x]:=by rw[q1];exact NI (ltC c) x [] B q3 (fun y r h=>by cases h)
   simp only[go_sem,Int.lt_irrefl,w1];refine⟨i+1,?_,by omega,by omega⟩
   simp only[hnext,hd,q2,List.reverse_append,List.reverse_nil,List.nil_append,List.reverse_cons,List.append_assoc,List.cons_append]
  | cons y A=>
   have hyl:y∈l:=hRm y (by rw[q1];simp)
   have g1:=KS (y::A) C x
   have g2:=LS A C x y
   have sw:=MS A C x y
   simp only[List.length_cons]at hBA;generalize hrow:(y::A).reverse++x::C=row at *;simp only[List.length_cons]at g1;have w2:IntKind.i64.wrap (((A.length+1:Nat):Int)-1)=(A.length:Int):=by rw[CA _ (by omega) (by omega)];omega
   have p1:(0:Int)<((A.length+1:Nat):Int):=by omega
   have b1:A.length+1<l.length:=by omega
   have b2:A.length<l.length:=by omega
   have cx:=gG (hs x hxl)
   have cy:=gG (hs y hyl)
   have hcc:=fun o K=>hc o x hxl y hyl K
   by_cases hxy:c x y<0
   ·have g3:(row.set (A.length+1) y)[A.length]?=some y:=by rw[List.getElem?_set_ne (by omega),g2]
    have lx:=PH (hs x hxl)
    have ly:=PH (hs y hyl)
    have sx:=OH (hs x hxl)
    have sy:=OH (hs y hyl)
    simp only[kA]at lx ly;have t1:=fun i xs h1=>RH (hs x hxl) (hs y hyl) id i 0 xs h1
    have t2:=fun i xs h1=>RH (hs y hyl) (hs x hxl) id i 0 xs h1
    simp only[go_sem,hst,p1,hlen,g1,g2,g3,w2,b1,b2,hln,cx,cy,hcc,hxy,lx,ly,sx,sy,t1,t2,sw];refine⟨(A,y::C),rfl,⟨B++[y],by simp [q1],by simp [q2],fun b hb=>?_⟩,by simp⟩
    rw[List.mem_append,List.mem_singleton]at hb;rcases hb with hb|rfl
    ·exact q3 b hb
    ·simpa [ltC] using hxy
   ·have hd:BB (ltC c) x R=B++x::y::A:=by rw[q1];exact NI (ltC c) x (y::A) B q3 (fun z r h=>by cases h;simpa [ltC] using hxy)
    simp only[go_sem,hst,p1,hlen,g1,g2,w2,b1,b2,hln,cx,cy,hcc,hxy,w1];refine⟨i+1,?_,by omega,by omega⟩
    simp only[hnext,hd,←hrow,q2,List.reverse_append,List.reverse_cons,List.append_assoc,List.cons_append,List.nil_append]
 ·have hge':¬i<l.length:=by omega
  have e1:l.take i=l:=List.take_of_length_le hge
  have e2:l.drop i=[]:=List.drop_of_length_le hge
  simp only[go_sem,hge',e1,e2];rfl
theorem zl9 (id n:Nat)(hn:n≤1000){g:Nat}{caps:List AV} :
 cA X WF [.own id n 0 n,AI n,AI n,.fn g caps] h K=K (.tup []) h []:=by
 refine uA ?_;rw[z3M];have w1:IntKind.i64.wrap ((n:Int)+1)=((n+1:Nat):Int):=CA _ (by omega) (by omega)
 have b1:¬((n+1:Nat):Int)<(n:Int):=by omega
 simp only[rO,go_sem,w1];refine UA (fun _:Unit=>⟨[(0,.own id n 0 n),(1,AI n),(2,AI n),(3,.fn g caps),(8,AI ((n+1:Nat):Int))],h,[]⟩) (fun _=>True) (fun _=>0) () rfl trivial ?_
 intro _ _;simp only[go_sem,b1]
theorem zpO (id:Nat)(l:List PV)(hs:VC (some 8) l)(hl:l.length≤20)(hh:h[id]?=some (.row (some 8) l 0)){g:Nat}{caps:List AV}{c:PV→PV→Int}(hc:iJ g caps c l id h) :
 cA X XL [.own id l.length 0 l.length,.fn g caps] h K=K (.tup []) (h.set id (.row (some 8) (kB (ltC c) l) 0)) []:=by
 refine uA ?_;rw[zfj];have key:∀K:lA,cA X bM [.own id l.length 0 l.length,AI l.length,.fn g caps] h K=K (.tup []) (h.set id (.row (some 8) (kB (ltC c) l) 0)) []:=by
  intro K;refine uA ?_;rw[zfs];have is:=fun K=>zl7 (h:=h) (K:=K) id l.length l [] rfl hs (by omega) (by rw[List.append_nil];exact hh) hc
  have i0:=fun K=>zl9 (h:=h.set id (.row (some 8) (kB (ltC c) l) 0)) (K:=K) (g:=g) (caps:=caps) id l.length (by omega)
  simp only[List.append_nil]at is;have b2:¬((20:Int)<(l.length:Int)):=by omega
  simp only[UR,go_sem];refine UA (fun t:Bool=>⟨[(0,.own id l.length 0 l.length),(1,AI l.length),(2,.fn g caps),(6,AI 20),(7,AI (if t=true then 20 else 0)),(8,AI (if t=true then 40 else 20))],if t=true then h.set id (.row (some 8) (kB (ltC c) l) 0) else h,[]⟩) (fun t=>t=true→l.length=20) (fun t=>if t=true then 0 else 1) false rfl (fun e=>by cases e) ?_
  intro t ht;cases t with
  | false=>
   by_cases he:l.length=20
   ·have e20:((l.length:Nat):Int)=20:=by omega
    have gen:∀z:Int,z=(l.length:Int)→∀K:lA,cA X WF [.own id l.length 0 l.length,AI 0,AI z,.fn g caps] h K=K (.tup []) (h.set id (.row (some 8) (kB (ltC c) l) 0)) []:=fun z hz K=>by subst hz;exact is K
    have is':=gen 20 (by omega)
    have b1:(20:Int)≤(l.length:Int):=by omega
    simp only[go_sem,if_true,if_false,Bool.false_eq_true,b1,is',show IntKind.i64.wrap ((20:Int)+20)=40 from rfl]
    exact⟨true,rfl,fun _=>he,by decide⟩
   ·have b1:¬((20:Int)≤(l.length:Int)):=by omega
    simp only[go_sem,if_true,if_false,Bool.false_eq_true,b1,is];refine UA (fun _:Unit=>⟨[(0,.own id l.length 0 l.length),(1,AI l.length),(2,.fn g caps),(6,AI 20)],h.set id (.row (some 8) (kB (ltC c) l) 0),[]⟩) (fun _=>True) (fun _=>0) () rfl trivial ?_
    intro _ _;simp only[go_sem,b2]
  | true=>
   have he:=ht rfl
   have e20:((l.length:Nat):Int)=20:=by omega
   have gen:∀z:Int,z=(l.length:Int)→∀K:lA,cA X WF [.own id l.length 0 l.length,AI z,AI l.length,.fn g caps] (h.set id (.row (some 8) (kB (ltC c) l) 0)) K=K (.tup []) (h.set id (.row (some 8) (kB (ltC c) l) 0)) []:=fun z hz K=>by subst hz;exact i0 K
   have i0':=gen 20 (by omega)
   have b1:¬((40:Int)≤(l.length:Int)):=by omega
   simp only[go_sem,if_true,if_false,Bool.false_eq_true,b1,i0'];refine UA (fun _:Unit=>⟨[(0,.own id l.length 0 l.length),(1,AI l.length),(2,.fn g caps),(6,AI 20)],h.set id (.row (some 8) (kB (ltC c) l) 0),[]⟩) (fun _=>True) (fun _=>0) () rfl trivial ?_
   intro _ _;simp only[go_sem,b2]
 simp only[lY,go_sem,key]
theorem zce {v:AV}{g:Nat}{caps:List AV}{p:PV→Bool}{xs:List PV}(hv:Shows (some 8) v xs h)(hp:qV g caps p xs h)(hl:xs.length≤1000000000) :
 cA X TL [v,.fn g caps] h K=K (AI (jF p xs)) h []:=by
 refine uA ?_;rw[zfe];have vl:=hv.len
 simp only[JR,go_sem,vl];refine UA (fun k:Nat=>⟨[(0,v),(1,.fn g caps),(7,AI xs.length),(8,AI k)],h,[]⟩) (fun k=>k≤xs.length∧∀x∈xs.take k,p x=false) (fun k=>xs.length-k) 0 rfl (by simp) ?_
 rintro k ⟨hk,hn⟩
 rcases Nat.lt_or_ge k xs.length with hlt|hge
 ·obtain⟨a,ha,hb⟩:=hv.get k hlt
  have w2:IntKind.i64.wrap ((k:Int)+1)=((k+1:Nat):Int):=CA _ (by omega) (by omega)
  have ht:=hp _ (List.getElem_mem hlt)
  cases hpk:p xs[k]with
  | true=>
   have hf:xs.findIdx p=k:=by
    rw[List.findIdx_eq hlt];refine⟨hpk,fun j hj=>?_⟩
    have:=hn xs[j] (by rw[List.mem_take_iff_getElem];exact⟨j,by omega,rfl⟩)
    simpa using this
   simp only[go_sem,hlt,ha,hb,ht,hpk,w2];simp only[jF,hf,hlt,if_true]
  | false=>
   simp only[go_sem,hlt,ha,hb,ht,hpk,w2];refine⟨k+1,rfl,⟨by omega,fun x hx=>?_⟩,by omega⟩
   rw[List.take_succ_eq_append_getElem hlt,List.mem_append,List.mem_singleton]at hx;rcases hx with hx|hx
   ·exact hn x hx
   ·rw[hx];exact hpk
 ·have e1:k=xs.length:=by omega
  subst e1;simp only[go_sem,Nat.lt_irrefl];rw[List.take_length]at hn;have:¬xs.findIdx p<xs.length:=by
   rw[Nat.not_lt,Nat.le_iff_lt_or_eq];right
   exact(List.findIdx_eq_length.2 (fun x hx=>by simp [hn x hx])).symm
  simp [jF,this]
theorem zav {g:Nat}{caps:List AV}{p:PV→Bool}{xs:List PV}(hp:qV g caps p xs h)(hs:VC (some 8) xs)(hl:xs.length≤1000000000) :
 cA X NL [.p (.sl (some 8) xs),.fn g caps] h K=K (AB (xs.any p)) h []:=by
 refine uA ?_;rw[zeX];have vi:=fun K=>zce (h:=h) (K:=K) (z9F hs) hp hl
 simp only[gY,go_sem,vi,zl2]
end Go.Am
end
section
/- Lists of entries: what is wrong with them,the reference. -/
open Go
set_option linter.all false
set_option maxRecDepth 100000
namespace Go.Am
variable {h:aA} {K:lA}
attribute [-go_sem] nB
def AK:PV→Ent
 | .agg [.str a,.int _ b,.int _ c,.int _ d,.str e,.str f,.str g,.int _ i]=>⟨a,b,c,d,e,f,g,i⟩
 | _=>nH
theorem z0R (x:Ent):AK x.pv=x:=rfl
theorem s_EF1 (o x:Ent)(id:Nat)(hx:h[id]?=some x.box):cA X KJ [.p o.pv,.ref id 0] h K=K (AB (PC o x)) h []:=by
 refine uA ?_;rw[ze6 rfl];have q:=fun h K=>zoU (h:=h) (K:=K) o x
 have hl:=ZF hx
 have hx2:∀t,(h++t)[id]?=some x.box:=fun t=>by rw[List.getElem?_append_left hl];exact hx
 simp only[Ent.pv]at q;unfold Ent.box at hx hx2;simp only[TX,Ent.pv,go_sem,hx,hx2,q]
attribute [-go_sem] WY
theorem zos (r:List Ent)(hr:∀ x∈r,EntOk x)(hn:r.length≤1000000):cA X vL [eB r] h K=K (AI (oD r)) h []:=by
 refine uA ?_;rw[ze5 rfl];unfold oD;by_cases h1:(2000:Int)<r.length
 ·simp only[mO,go_sem,h1]
 simp only[mO,go_sem,h1];refine UA (fun k:Nat=>⟨[(0,eB r),(11,eB r),(12,AI r.length),(13,AI k)],h,[]⟩) (fun k=>k≤r.length∧OC (r.take k).getLast? (r.drop k)=OC none r∧∀x∈r.take k,WB x=0) (fun k=>r.length-k) 0 rfl ⟨by omega,rfl,by simp⟩ ?_
 rintro k ⟨hkl,hp,hz⟩
 rcases Nat.lt_or_ge k r.length with hlt|hge
 ·have hg:=GB Ent.pv hlt
  have w2:IntKind.i64.wrap ((k:Int)+1)=((k+1:Nat):Int):=CA _ (by omega) (by omega)
  have hx:=hr _ (List.getElem_mem hlt)
  have hlast:(r.take (k+1)).getLast?=some r[k]:=by rw[List.take_succ_eq_append_getElem hlt];exact List.getLast?_concat
  rw[List.drop_eq_getElem_cons hlt,z6m]at hp;have cx:=oH (x:=r[k])
  have rf:=fun h K=>zot (h:=h) (K:=K) r[k] hx
  simp only[Ent.pv]at rf;by_cases h2:WB r[k]=0
  ·rw[if_neg (by simp [h2])]at hp
   have hz':∀x∈r.take (k+1),WB x=0:=fun x hx=>by
    rw[List.take_succ_eq_append_getElem hlt,List.mem_append,List.mem_singleton]at hx;rcases hx with hx|rfl
    ·exact hz x hx
    ·exact h2
   cases k with
   | zero=>
    simp only[List.take_zero,List.getLast?_nil,reduceCtorEq,if_false]at hp;have hlt0:(0:Int)<r.length:=by omega
    simp only[go_sem,hlt0,hg,cx,Ent.pv,rf,h2,Int.lt_irrefl,splice,show IntKind.i64.wrap 1=1 from rfl]
    exact⟨0+1,rfl,⟨by omega,by rw[hlast];exact hp,hz'⟩,by omega⟩
   | succ j=>
    have hj:j<r.length:=by omega
    have hgj:=GB Ent.pv hj
    have cj:=oH (x:=r[j])
    have hlj:(r.take (j+1)).getLast?=some r[j]:=by rw[List.take_succ_eq_append_getElem hj];exact List.getLast?_concat
    have w3:IntKind.i64.wrap (((j+1:Nat):Int)-1)=(j:Int):=by rw[CA _ (by omega) (by omega)];omega
    have p1:(0:Int)<((j+1:Nat):Int):=by omega
    have t1:=aZ h2
    have t2:=aZ (hz r[j] (by rw[List.mem_take_iff_getElem];exact⟨j,by omega,rfl⟩))
    have bt:=fun h K=>zou (h:=h) (K:=K) r[j] r[j+1] t2 t1
    simp only[Ent.pv]at bt;rw[hlj]at hp;have hneg:=zk3 r[j+1] r[j]
    by_cases h3:eC r[j+1] r[j]≤0
    ·have h3':0≤eC r[j] r[j+1]:=by omega
     simp only[h3,decide_true,if_true]at hp;simp only[go_sem,hlt,hj,hg,hgj,cx,cj,Ent.pv,rf,h2,p1,w3,bt,h3',splice];rw[←hp];rfl
    ·have h3':¬0≤eC r[j] r[j+1]:=by omega
     simp only[h3,decide_false,reduceCtorEq,if_false]at hp;simp only[go_sem,hlt,hj,hg,hgj,cx,cj,Ent.pv,rf,h2,p1,w3,bt,h3',w2,splice];exact⟨j+1+1,rfl,⟨by omega,by rw[hlast];exact hp,hz'⟩,by omega⟩
  ·rw[if_pos h2]at hp
   simp only[go_sem,hlt,hg,cx,Ent.pv,rf,h2,splice];rw[←hp,if_pos h2]
 ·have ek:k=r.length:=by omega
  subst ek;rw[List.drop_length]at hp;have hz0:OC none r=0:=by rw[←hp];cases (r.take r.length).getLast? <;> rfl
  rw[if_neg (by simp [hz0])]
  simp only[go_sem,Nat.lt_irrefl];rw[WY];simp only[sR,go_sem];refine UA (fun k:Nat=>⟨[(0,eB r),(36,eB r),(37,AI r.length),(38,AI k)],h,[]⟩) (fun k=>k≤r.length∧iE (r.take k) (r.drop k)=iE [] r) (fun k=>r.length-k) 0 rfl ⟨by omega,rfl⟩ ?_
  rintro k ⟨hkl2,hp2⟩
  rcases Nat.lt_or_ge k r.length with hlt|hge
  ·have hg:=GB Ent.pv hlt
   have w2:IntKind.i64.wrap ((k:Int)+1)=((k+1:Nat):Int):=CA _ (by omega) (by omega)
   have cx:=oH (x:=r[k])
   rw[List.drop_eq_getElem_cons hlt,iE,←List.take_succ_eq_append_getElem hlt]at hp2;have cf:=fun K=>zav (h:=h++[r[k].box]) (K:=K) (g:=KJ) (caps:=[.ref h.length 0]) (p:=fun v=>PC (AK v) r[k]) (xs:=(r.take k).map Ent.pv)
    (fun v hv K=>by
     obtain⟨o,_,rfl⟩:=List.mem_map.1 hv;dsimp only;rw[z0R];exact s_EF1 o r[k] h.length (by simp)) z6j (by simp;omega)
   have ea:((r.take k).map Ent.pv).any (fun v=>PC (AK v) r[k])=(r.take k).any (fun o=>PC o r[k]):=by
    rw[List.any_map];rfl
   rw[ea]at cf;have hw:win (r.map Ent.pv) 0 k=(r.take k).map Ent.pv:=by simp [win,List.map_take]
   have hkl3:k≤r.length:=by omega
   unfold Ent.box at cf;cases hc:(r.take k).any (fun o=>PC o r[k]) with
   | true=>
    rw[hc,if_pos rfl]at hp2;rw[hc]at cf;simp only[go_sem,hlt,hg,cx,Ent.pv,splice,hkl3,hw,↓cf,cf];rw[←hp2];first|done|rfl
   | false=>
    rw[hc,if_neg (by simp)]at hp2
    rw[hc]at cf;simp only[go_sem,hlt,hg,cx,Ent.pv,splice,hkl3,hw,↓cf,cf,w2];exact⟨k+1,rfl,⟨by omega,hp2⟩,by omega⟩
  ·have ek:k=r.length:=by omega
   subst ek;rw[List.drop_length]at hp2;have:iE [] r=false:=by rw[←hp2];rfl
   simp only[go_sem,Nat.lt_irrefl,this];first|done|rfl
end Go.Am
end
section
/- Where a byte stands in a text. -/
open Go
set_option linter.all false
namespace Go.Am
variable {h:aA} {K:lA}
end Go.Am
end
section
/- Lengths of numbers in bits,and comparisons of plain values. -/
open Go
namespace Go.Am
variable {h:aA} {K:lA}
set_option maxRecDepth 20000
theorem zqh (k:Nat)(hk:k<256):∃b,([0,1,2,2,3,3,3,3,4,4,4,4,4,4,4,4,5,5,5,5,5,5,5,5,5,5,5,5,5,5,5,5,6,6,6,6,6,6,6,6,6,6,6,6,6,6,6,6,6,6,6,6,6,6,6,6,6,6,6,6,6,6,6,6,7,7,7,7,7,7,7,7,7,7,7,7,7,7,7,7,7,7,7,7,7,7,7,7,7,7,7,7,7,7,7,7,7,7,7,7,7,7,7,7,7,7,7,7,7,7,7,7,7,7,7,7,7,7,7,7,7,7,7,7,7,7,7,7,8,8,8,8,8,8,8,8,8,8,8,8,8,8,8,8,8,8,8,8,8,8,8,8,8,8,8,8,8,8,8,8,8,8,8,8,8,8,8,8,8,8,8,8,8,8,8,8,8,8,8,8,8,8,8,8,8,8,8,8,8,8,8,8,8,8,8,8,8,8,8,8,8,8,8,8,8,8,8,8,8,8,8,8,8,8,8,8,8,8,8,8,8,8,8,8,8,8,8,8,8,8,8,8,8,8,8,8,8,8,8,8,8,8,8,8,8,8,8,8,8,8,8,8,8,8,8,8]:List UInt8)[k]?=some b:=⟨_,List.getElem?_eq_getElem (Nat.lt_of_lt_of_eq hk (by kernel_rfl))⟩
theorem wZ (x:Int)(h0:0≤x)(h1:x<256):∃m:Int,∀(h:aA) (K:lA),cA X yG [AU x] h K=K (AI m) h []:=by
 obtain⟨b,hb⟩:=zqh x.toNat (by omega)
 refine⟨IntKind.i64.wrap (0+IntKind.i64.wrap b.toNat),fun h K=>?_⟩
 have w:IntKind.u8.wrap x=x:=by simp [IntKind.wrap,IntKind.bits,IntKind.signed];omega
 have b1:¬(4294967296≤x):=by omega
 have b2:¬(65536≤x):=by omega
 have b3:¬(256≤x):=by omega
 have hn:=eT (k:=.u8) h0
 have key:∀(h:aA) (K:lA),cA X mL [AU x] h K=K (AI (IntKind.i64.wrap (0+IntKind.i64.wrap b.toNat))) h []:=by
  intro h K;refine uA ?_;rw[zen rfl];simp only[iR,go_sem,b1,b2,b3,w,hn,hb]
 refine uA ?_;rw[zem rfl];simp only[DX,go_sem,key]
end Go.Am
end
section
/- Lists of strings sorted,left out: printed by program. -/
open Go
set_option linter.unusedSimpArgs false
namespace Go.Am
attribute [-go_sem] PV.cells splice
variable {h:aA} {K:lA}
theorem zlA (id n:Nat)(l tl:List PV)(hn:n=l.length+tl.length)(hs:VC none l)(hl:l.length≤1000)(hh:h[id]?=some (.row none (l++tl) 0)){lt:PV→PV→Bool}(hc:∀ x∈l,∀ y∈l,∀ (h:aA) (K:lA),cA X UF [.p x,.p y] h K=K (AB (lt x y)) h []) :
 cA X aM [.own id n 0 l.length,AI 0,AI l.length] h K=K (.tup []) (h.set id (.row none (kB lt l++tl) 0)) []:=by
 refine uA ?_;rw[zfo];have hid:=ZF hh
 have hst:∀o,(h.set id o)[id]?=some o:=fun o=>PG hid
 simp only[OR,go_sem,show IntKind.i64.wrap 1=1 from rfl]
 refine UA (fun i:Nat=>⟨[(0,.own id n 0 l.length),(1,AI 0),(2,AI l.length),(6,AI i)],h.set id (.row none ((wC lt (l.take i)).reverse++(l.drop i++tl)) 0),[]⟩) (fun i=>1≤i∧(i≤l.length∨i=1)) (fun i=>l.length-i) 1 ?_ (by simp) ?_
 ·have:(wC lt (l.take 1)).reverse++(l.drop 1++tl)=l++tl:=by cases l <;> rfl
  rw[this,cJ hh];rfl
 rintro i ⟨hi1,hi2⟩
 rcases Nat.lt_or_ge i l.length with hlt|hge
 ·simp only[go_sem,hlt]
  have hxl:l[i]∈l:=List.getElem_mem hlt
  generalize hx:l[i]=x at *;generalize hR:wC lt (l.take i)=R;have hRl:R.length=i:=by rw[←hR,NS];simp;omega
  have hRm:∀z∈R,z∈l:=fun z hz=>List.mem_of_mem_take ((oM lt (l.take i)).mem_iff.1 (by rw[hR];exact hz))
  have hdrop:l.drop i=x::l.drop (i+1):=by rw[←hx];exact List.drop_eq_getElem_cons hlt
  have hnext:wC lt (l.take (i+1))=BB lt x R:=by rw[OS _ _ _ hlt,hR,hx]
  refine UA (fun t:List PV×List PV=>⟨[(0,.own id n 0 l.length),(1,AI 0),(2,AI l.length),(6,AI i),(7,AI t.1.length)],h.set id (.row none (t.1.reverse++x::t.2) 0),[]⟩)
   (fun t=>∃B,R=B++t.1∧t.2=B.reverse++(l.drop (i+1)++tl)∧∀b∈B,lt x b=true) (fun t=>t.1.length) (R,l.drop (i+1)++tl) (by rw[hdrop,hRl];rfl) ⟨[],rfl,rfl,by simp⟩ ?_
  rintro⟨A,C⟩ ⟨B,q1,q2,q3⟩
  dsimp only at q1 q2 q3;have hlen:(A.reverse++x::C).length=n:=by
   have:R.length=B.length+A.length:=by rw[q1];simp
   rw[q2];simp;omega
  have hBA:B.length+A.length<l.length:=by
   have:R.length=B.length+A.length:=by rw[q1];simp
   omega
  have hln:l.length≤n:=by omega
  have w1:IntKind.i64.wrap ((i:Int)+1)=((i+1:Nat):Int):=CA _ (by omega) (by omega)
  cases A with
  | nil=>
   have hd:BB lt x R=B++[x]:=by rw[q1];exact NI lt x [] B q3 (fun y r h=>by cases h)
   simp only[go_sem,Int.lt_irrefl,w1];refine⟨i+1,?_,by omega,by omega⟩
   simp only[hnext,hd,q2,List.reverse_append,List.reverse_nil,List.nil_append,List.reverse_cons,List.append_assoc,List.cons_append]
  | cons y A=>
   have hyl:y∈l:=hRm y (by rw[q1];simp)
   have g1:=KS (y::A) C x
   have g2:=LS A C x y
   have sw:=MS A C x y
   simp only[List.length_cons]at hBA;generalize hrow:(y::A).reverse++x::C=row at *;simp only[List.length_cons]at g1;have w2:IntKind.i64.wrap (((A.length+1:Nat):Int)-1)=(A.length:Int):=by rw[CA _ (by omega) (by omega)];omega
   have p1:(0:Int)<((A.length+1:Nat):Int):=by omega
   have b1:A.length+1<l.length:=by omega
   have b2:A.length<l.length:=by omega
   have cx:=gG (hs x hxl)
   have cy:=gG (hs y hyl)
   have hcc:=fun h K=>hc x hxl y hyl h K
   cases hxy:lt x y with
   | false=>
    have hd:BB lt x R=B++x::y::A:=by rw[q1];exact NI lt x (y::A) B q3 (fun z r h=>by cases h;exact hxy)
    simp only[go_sem,hst,p1,hlen,g1,g2,w2,b1,b2,hln,cx,cy,hcc,hxy,w1];refine⟨i+1,?_,by omega,by omega⟩
    simp only[hnext,hd,←hrow,q2,List.reverse_append,List.reverse_cons,List.append_assoc,List.cons_append,List.nil_append]
   | true=>
    have g3:(row.set (A.length+1) y)[A.length]?=some y:=by rw[List.getElem?_set_ne (by omega),g2]
    have lx:=PH (hs x hxl)
    have ly:=PH (hs y hyl)
    have sx:=OH (hs x hxl)
    have sy:=OH (hs y hyl)
    simp only[kA]at lx ly;have t1:=fun i xs h1=>RH (hs x hxl) (hs y hyl) id i 0 xs h1
    have t2:=fun i xs h1=>RH (hs y hyl) (hs x hxl) id i 0 xs h1
    simp only[go_sem,hst,p1,hlen,g1,g2,g3,w2,b1,b2,hln,cx,cy,hcc,hxy,lx,ly,sx,sy,t1,t2,sw];refine⟨(A,y::C),rfl,⟨B++[y],by simp [q1],by simp [q2],fun b hb=>?_⟩,by simp⟩
    rw[List.mem_append,List.mem_singleton]at hb;rcases hb with hb|rfl
    ·exact q3 b hb
    ·exact hxy
 ·have hge':¬i<l.length:=by omega
  have e1:l.take i=l:=List.take_of_length_le hge
  have e2:l.drop i=[]:=List.drop_of_length_le hge
  simp only[go_sem,hge',e1,e2];rfl
theorem zdh (id n:Nat)(l tl:List PV)(hn:n=l.length+tl.length)(hs:VC none l)(hl:l.length≤12)(hh:h[id]?=some (.row none (l++tl) 0)){lt:PV→PV→Bool}(hc:∀ x∈l,∀ y∈l,∀ (h:aA) (K:lA),cA X UF [.p x,.p y] h K=K (AB (lt x y)) h []) :
 cA X OJ [.own id n 0 l.length] h K=K (.tup []) (h.set id (.row none (kB lt l++tl) 0)) []:=by
 refine uA ?_;rw[zfl];have w0:IntKind.u64.wrap (l.length:Int)=l.length:=z0Q _ (by omega) (by omega)
 obtain⟨m,hm⟩:=wZ (l.length:Int) (by omega) (by omega)
 have is:=fun h' (hq:h'=h) K=>zlA (h:=h) (K:=K) id n l tl hn hs (by omega) hh hc
 have key:∀K:lA,cA X FG [.own id n 0 l.length,AI 0,AI l.length,AI m] h K=K (.tup []) (h.set id (.row none (kB lt l++tl) 0)) []:=by
  intro K;refine uA ?_;rw[zfr];simp only[TR,go_sem];refine UA (fun _:Unit=>⟨[(0,.own id n 0 l.length),(1,AI 0),(2,AI l.length),(3,AI m),(8,AB true),(9,AB true)],h,[]⟩) (fun _=>True) (fun _=>0) () rfl trivial ?_
  intro _ _;have w1:IntKind.i64.wrap ((l.length:Int)-0)=l.length:=by rw[CA _ (by omega) (by omega)];omega
  have b1:((l.length:Int)≤12):=by omega
  simp only[go_sem,w1,b1,is _ rfl]
 simp only[nY,go_sem,w0,hm,key]
end Go.Am
end
section
/- What is drawn: numbers,measured values. -/
open Go
namespace Go.Am
variable {L:List Int} {a:Int}
theorem JO (hp:XA 14 a)(u v:Int)(huv:u≤v)(hu : -1000000000000≤u)(hv:v≤1000000000000):∃k a2:Int,a≤a2∧a2≤a+2 ∧ -1099511627776≤k∧k≤1099511627776 ∧
 Gen VD [AI u,AI v] L a a2 (AI k):=by
 have w1:IntKind.i64.wrap (u-1)=u-1:=CA _ (by omega) (by omega)
 have w2:IntKind.i64.wrap (v+1)=v+1:=CA _ (by omega) (by omega)
 by_cases hf:QB L a 12=0
 ·have hm:=z0z (L:=L) (a:=a+1) (l:=[u-1,v+1,u,v,-1099511627776,1099511627776]) (by simp) (by simp)
  simp only[List.mem_cons,List.not_mem_nil,or_false]at hm;refine⟨rD [u-1,v+1,u,v,-1099511627776,1099511627776] L (a+1),a+1+1,by omega,by omega,by omega,by omega,Gen.of fun h id hid=>?_⟩
  rw[PQ rfl];simp only[UK,go_sem,hid,JH hp,hf,w1,w2]
 ·have hm:=JP L (a+1) huv (by omega)
  refine⟨KC u v L (a+1),a+1+1,by omega,by omega,by omega,by omega,Gen.of fun h id hid=>?_⟩
  rw[PQ rfl];simp only[UK,go_sem,hid,JH hp,hf,w1,w2,huv,show -1152921504606846976≤u by omega,show v≤1152921504606846976 by omega]
end Go.Am
end
section
/- Strings that are drawn. -/
open Go
set_option linter.unusedSimpArgs false
namespace Go.Am
variable {L:List Int} {a:Int} {h l:aA} {id:Nat} {K:lA}
def isS:PV→Bool
 | .str _=>true
 | _=>false
def unS:PV→List UInt8
 | .str s=>s
 | _=>[]
def NB (l:List (List UInt8))(L:List Int)(a:Int):List UInt8:=l.getD (QB L a l.length).toNat []
theorem sK {l:List (List UInt8)}{L:List Int}{a:Int}(hl:0<l.length)(hl2:l.length<4611686018427387904):NB l L a∈l:=by
 obtain⟨b1,b2⟩:=iP L a l.length (by omega) (by omega)
 unfold NB;have:(QB L a l.length).toNat<l.length:=by omega
 simp only[List.getD,List.getElem?_eq_getElem this,Option.getD_some];exact List.getElem_mem _
theorem zq0 {xs:List PV}(h:xs.all isS=true):xs=(xs.map unS).map PV.str:=by
 induction xs with
 | nil=>rfl
 | cons x r ih=>
  simp only[List.all_cons,Bool.and_eq_true]at h;simp only[List.map_cons];rw[←ih h.2];cases x <;> first|rfl|cases h.1
theorem z76 (hp:XA 0 a)(xs:List PV)(hx:xs.all isS=true)(hl:0<xs.length)(hl2:xs.length<4611686018427387904) :
 Gen aC [.p (.sl none xs)] L a (a+1) (AS (NB (xs.map unS) L a)):=by
 refine Gen.of fun h id hid=>?_
 rw[ze2 rfl];obtain⟨b1,b2⟩:=iP L a xs.length (by omega) (by omega)
 have e4:=eT (k:=.i64) b1
 have e5:xs[(QB L a xs.length).toNat]?=some (.str (NB (xs.map unS) L a)):=by
  have hm:=zq0 hx
  generalize hq:xs.map unS=q at *;subst hm;simp only[List.length_map]at *;rw[GB PV.str (show(QB L a q.length).toNat<q.length by omega)]
  simp [NB,List.getD,show(QB L a q.length).toNat<q.length by omega]
 simp only[QX,go_sem,DN hid hp,e4,e5]
theorem z9x (hid:id<h.length)(hp:XA 0 a){xs:List PV}(hx:xs.all isS=true)(hl:0<xs.length)(hl2:xs.length<4611686018427387904) :
 cA X aC [.ref id 0,.p (.sl none xs)] (h.set id (IA L a)++l) K=K (AS (NB (xs.map unS) L a)) (h.set id (IA L (a+1))++l) []:=(z76 hp xs hx hl hl2).app hid
theorem z9y (hp:XA 0 a){xs:List PV}(hx:xs.all isS=true)(hl:0<xs.length)(hl2:xs.length<4611686018427387904) :
 cA X aC [.ref 0 0,.p (.sl none xs)] (IA L a::l) K=K (AS (NB (xs.map unS) L a)) (IA L (a+1)::l) []:=(z76 hp xs hx hl hl2).hd
attribute [go_sem ↓] z9x z9y
attribute [go_sem] z9x z9y isS unS
end Go.Am
end
section
/- What is drawn: strings,limits. -/
open Go
set_option linter.unusedSimpArgs false
namespace Go.Am
variable {L:List Int} {a:Int} {h l:aA} {id:Nat} {K:lA}
end Go.Am
end
section
/- Sorting records: printed by program. -/
open Go
set_option linter.unusedSimpArgs false
namespace Go.Am
attribute [-go_sem] PV.cells splice
variable {h:aA} {K:lA}
end Go.Am
end
section
/- Leaving out what is alike: printed by program. -/
open Go
set_option linter.unusedSimpArgs false
namespace Go.Am
attribute [-go_sem] PV.cells splice
variable {h:aA} {K:lA}
end Go.Am
end
section
/- What is drawn: records. -/
open Go
set_option linter.unusedSimpArgs false
namespace Go.Am
variable {L:List Int} {a:Int} {h l:aA} {id:Nat} {K:lA}
theorem z4d {b:Nat}{x:Esc}(hx:∀ y∈x,b≤y.1):∀k,close k x b=b:=by
 have hb:HF x b=b:=by
  unfold HF;induction x with
  | nil=>rfl
  | cons y r ih=>
   simp only[List.foldl_cons];rw[if_neg (by have:=hx y (by simp);omega)]
   exact ih (fun z hz=>hx z (by simp [hz]))
 intro k;induction k with
 | zero=>rfl
 | succ k ih=>unfold close;rw[hb,ih]
theorem aQ {b:Nat}{x0 x:Esc}{e:List (Nat × AV)}{h:aA}(hx:∀ y∈x,b≤y.1):gE b x0 ⟨e,h,x⟩=⟨JF b e,h.take b,x0⟩:=by
 unfold gE;simp only[z4d hx];have hc:FB x b=true:=by
  unfold FB;rw[List.all_eq_true];intro y hy;simp [hx y hy]
 have hf:x.filter (fun y=>decide (y.1<b))=[]:=by
  rw[List.filter_eq_nil_iff];intro y hy;have:=hx y hy;simp;omega
 rw[if_pos hc,hf,List.nil_append]
theorem zqx {b i t:Nat}{x0:Esc}{e:List (Nat × AV)}{h:aA}(hi:i<b):gE b x0 ⟨e,h,[(i,t)]⟩=⟨JF (max b t) e,h.take (max b t),(i,t)::x0⟩:=by
 unfold gE;have hb:close [(i,t)].length [(i,t)] b=max b t:=by simp [close,HF,hi]
 simp only[hb];have hc:FB [(i,t)] (max b t)=true:=by simp [FB];omega
 have hf:[(i,t)].filter (fun y=>decide (y.1<max b t))=[(i,t)]:=by simp;omega
 rw[if_pos hc,hf];rfl
end Go.Am
end
section
/- Merging two ordered lists: by sorting and leaving out what is alike,and by looking each one up. Plain lists. -/
namespace Go.Am
variable {α:Type}
structure Ordr (c:α→α→Int):Prop where
 neg:∀a b,c b a = - c a b
 trans:∀a b d,c a b≤0→c b d≤0→c a d≤0
theorem Ordr.refl {c:α→α→Int}(o:Ordr c)(a:α):c a a=0:=by have:=o.neg a a;omega
def ltO (c:α→α→Int)(a b:α):Bool:=decide (c a b<0)
theorem Ordr.weak {c:α→α→Int}(o:Ordr c):Weak (ltO c):=by
 refine⟨fun a b h=>?_,fun a b d h1 h2=>?_⟩
 ·simp only[ltO,decide_eq_true_eq,decide_eq_false_iff_not]at h ⊢
  have:=o.neg a b;omega
 ·simp only[ltO,decide_eq_false_iff_not]at h1 h2 ⊢
  have q1:=o.neg a b
  have q2:=o.neg b d
  have q3:=o.trans a b d (by omega) (by omega)
  have q4:=o.neg a d
  omega
def lI (c:α→α→Int)(l:List α):Prop:=l.Pairwise fun x y=>c x y<0
theorem YP {c:α→α→Int}(o:Ordr c):∀{l m:List α},lI c l→lI c m→(∀x,x∈l↔x∈m)→l=m
 | [],[],_,_,_=>rfl
 | [],y::m,_,_,h=>absurd ((h y).2 (by simp)) (by simp)
 | x::l,[],_,_,h=>absurd ((h x).1 (by simp)) (by simp)
 | x::l,y::m,h1,h2,h=>by
  have a1:=List.pairwise_cons.1 h1
  have a2:=List.pairwise_cons.1 h2
  have e:x=y:=by
   rcases List.mem_cons.1 ((h x).1 (by simp)) with e|e
   ·exact e
   ·rcases List.mem_cons.1 ((h y).2 (by simp)) with e'|e'
    ·exact e'.symm
    ·have b1:=a2.1 x e
     have b2:=a1.1 y e'
     have:=o.neg x y;omega
  subst e;rw[YP o a1.2 a2.2 fun z=>?_]
  constructor
  ·intro hz
   rcases List.mem_cons.1 ((h z).1 (by simp [hz])) with e|e
   ·subst e;have:=a1.1 z hz;have:=o.refl z;omega
   ·exact e
  ·intro hz
   rcases List.mem_cons.1 ((h z).2 (by simp [hz])) with e|e
   ·subst e;have:=a2.1 z hz;have:=o.refl z;omega
   ·exact e
variable {c:α→α→Int} {q:α→α→Bool} {a b:List α}
theorem zK (o:Ordr c){l:List α}(hl:l.Pairwise fun x y=>c x y≠0):lI c (kB (ltO c) l):=by
 have h1:=zlG o.weak l
 have h2:(kB (ltO c) l).Pairwise fun x y=>c x y≠0:=((rZ (ltO c) l).pairwise_iff (fun {x y} h=>by have:=o.neg x y;omega)).2 hl
 refine(h1.and h2).imp fun {x y} h=>?_
 have:=h.1;simp only[ltO,decide_eq_false_iff_not]at this;have h3:=o.neg x y
 have:=h.2;omega
end Go.Am
end
section
/- Records alike;copies;bins. -/
open Go
set_option linter.unusedSimpArgs false
namespace Go.Am
variable {h:aA} {K:lA}
def z0E (a b:Rec):Bool:=decide (a.unit=b.unit)&&(decide (a.time=b.time)&&(decide (a.site=b.site)&&decide (a.res=b.res)))
theorem zpm (a b:Rec):z0E a b=true↔a=b:=by
 cases a;cases b
 simp [z0E]
theorem tK {b:Nat}{P:lA}{vs:List AV}{h:aA}{x:Esc}(hx:∀ y∈x,b≤y.1){v:AV}(h1:MA b h (dB vs)=some v)(h2:v.top≤b):CC false b P (some vs) h x=P v (h.take b) []:=by
 have e:max b v.top=b:=by omega
 have c:FB x b=true:=by
  unfold FB;rw[List.all_eq_true];intro y hy;simp [hx y hy]
 have f:x.filter (fun y=>decide (y.1<b))=[]:=by
  rw[List.filter_eq_nil_iff];intro y hy;have:=hx y hy;simp;omega
 simp only[CC,h1,e,z4d hx,c,if_true,f];exact propext ⟨fun h=>h.2,fun h=>⟨h2,h⟩⟩
theorem zoz (l:List Int)(hl:l.length≤1000):cA X HJ [AL l] h K=K (AI (orL l)) h []:=by
 refine uA ?_;rw[zdZ rfl];simp only[fR,go_sem];refine UA (fun k:Nat=>⟨[(5,AL l),(6,AI l.length),(7,AI k)],h,[]⟩) (fun k=>k≤l.length∧orL (l.drop k)=orL l) (fun k=>l.length-k) 0 rfl ⟨by omega,rfl⟩ ?_
 rintro k ⟨hk,hp⟩
 rcases Nat.lt_or_ge k l.length with hlt|hge
 ·have g2:=GB eI hlt
  have w2:IntKind.i64.wrap ((k:Int)+1)=((k+1:Nat):Int):=CA _ (by omega) (by omega)
  rw[List.drop_eq_getElem_cons hlt,orL]at hp;by_cases hz:l[k]=0
  ·rw[if_neg (by simp [hz])]at hp
   simp only[go_sem,hlt,g2,hz,w2];exact⟨k+1,rfl,⟨by omega,hp⟩,by omega⟩
  ·rw[if_pos hz]at hp
   simp only[go_sem,hlt,g2,hz];rw[hp]
 ·have ek:k=l.length:=by omega
  subst ek;rw[List.drop_length]at hp;simp only[go_sem,Nat.lt_irrefl];rw[←hp];rfl
end Go.Am
end
section
/- Sorting numbers: printed by program. -/
open Go
set_option linter.unusedSimpArgs false
namespace Go.Am
attribute [-go_sem] PV.cells splice
variable {h:aA} {K:lA}
end Go.Am
end
section
/- Bins,qE ways;lists joined;records sorted. -/
open Go
set_option linter.unusedSimpArgs false
namespace Go.Am
variable {h:aA} {K:lA}
end Go.Am
end
section
/- Lists of records joined,compared,merged. -/
open Go
set_option linter.unusedSimpArgs false
namespace Go.Am
variable {h:aA} {K:lA}
instance:DecidableEq Rec:=fun a b=>decidable_of_iff (z0E a b=true) (zpm a b)
theorem z7e {ls:List (List PV)}{k:Nat}(hk:k<ls.length):(ls.take (k+1)).flatten=(ls.take k).flatten++ls[k]:=by
 rw[List.take_succ_eq_append_getElem hk,List.flatten_append];simp
theorem kZ:∀ (ls:List (List PV))(k:Nat),(ls.take k).flatten.length≤ls.flatten.length
 | [],k=>by simp
 | x::r,0=>by simp
 | x::r,k+1=>by
  have:=kZ r k;simp only[List.take_succ_cons,List.flatten_cons,List.length_append];omega
end Go.Am
end
section
/- Records merged asv the reference does it. -/
open Go
set_option linter.unusedSimpArgs false
namespace Go.Am
variable {h:aA} {K:lA}
theorem zfV {a b c:List UInt8}(h1:EA a b≤0)(h2:EA b c≤0):EA a c≤0:=by
 by_cases e1:EA a b=0
 ·rw[xD e1];exact h2
 ·by_cases e2:EA b c=0
  ·rw[←xD e2];exact h1
  ·have:=aR (a:=a) (b:=b) (c:=c) (by omega) (by omega)
   omega
end Go.Am
end
section
/- Retests: which record of a unit counts. Plain lists;qE ways yield the same. -/
set_option linter.all false
namespace Go.Am
def ltS (a b:List UInt8):Bool:=decide (EA a b<0)
theorem BM:Ordr EA:=⟨fun a b=>gO a b,fun a b d h1 h2=>zfV h1 h2⟩
theorem z8l:ltS=ltO EA:=rfl
end Go.Am
end
section
/- Lists of strings. -/
open Go
set_option linter.all false
namespace Go.Am
variable {h:aA} {K:lA}
theorem X_ex2:X.ex2=X.ex2:=rfl
abbrev TA (us:List (List UInt8)):AV:=.p (.sl none (us.map PV.str))
theorem LN {us:List (List UInt8)}:VC none (us.map PV.str):=fun x hx=>by obtain⟨n,_,rfl⟩:=List.mem_map.1 hx;rfl
def TE:PV→List UInt8
 | .str s=>s
 | _=>[]
theorem iX:∀ a b:List UInt8,Op.bytesLess a b=ltS a b
 | [],[]=>rfl
 | [],_::_=>rfl
 | _::_,[]=>rfl
 | a::x,b::y=>by
  have ih:=iX x y
  unfold ltS at ih ⊢;unfold Op.bytesLess EA;rw[ih];by_cases h1:a<b
  ·simp [h1]
  ·by_cases h2:b<a
   ·have:¬a=b:=fun e=>by subst e;exact UInt8.lt_irrefl _ h2
    simp [h1,h2,this]
   ·have:a=b:=by
     rcases UInt8.lt_or_lt_of_ne (a:=a) (b:=b) |> fun f=>Classical.em (a=b) with e|e
     ·exact e
     ·rcases UInt8.lt_or_lt_of_ne e with h|h
      ·exact absurd h h1
      ·exact absurd h h2
    simp [h1,h2,this]
def ltPS (x y:PV):Bool:=ltS (TE x) (TE y)
theorem zlH (us:List (List UInt8)):kB ltPS (us.map PV.str)=(kB ltS us).map PV.str:=PS PV.str (fun a b=>rfl) us
end Go.Am
end
section
/- The abstract machine,part L4: strings.Repeat,strings.Trim,math/bits.TrailingZeros64 asv rows. -/
set_option linter.all false
namespace Go.Am
variable {P:Program} {gl:Nat→Option PV}
open Go.Shelf
end Go.Am
end
section
/- The abstract machine,part L5: strings.Count at one byte,strings.Join asv rows. -/
set_option linter.all false
namespace Go.Am
variable {P:Program} {gl:Nat→Option PV}
open Go.Shelf
end Go.Am
end
section
/- Texts split at a byte. -/
open Go
set_option linter.all false
namespace Go.Am
variable {h:aA} {K:lA}
end Go.Am
end
section
/- Lines of a text. -/
open Go
set_option linter.all false
namespace Go.Am
variable {h:aA} {K:lA}
end Go.Am
end
section
/- Numbers read. -/
open Go
set_option linter.all false
namespace Go.Am
variable {h:aA} {K:lA}
end Go.Am
end
section
/- Several numbers read. -/
open Go
set_option linter.all false
namespace Go.Am
variable {h:aA} {K:lA}
end Go.Am
end
section
/- Numbers read,the reference's way. -/
open Go
set_option linter.all false
namespace Go.Am
variable {h:aA} {K:lA}
theorem z9r (n:Int)(h1 : -1000000000000000000≤n)(h2:n≤1000000000000000000):cA X HI [AI n] h K=K (AS (itoa n)) h []:=by
 refine WS (X:=X) (by kernel_rfl) ?_
 rw[X_ex2];show IG GRL PRL HI [AI n] h=some (AS (itoa n),h,[])
 exact zmS (vs:=[.int .i64 n]) (by kernel_rfl) (s:=qM) (by kernel_rfl) rfl (by
  unfold qM;have a1:decide (-9223372036854775808≤n)=true:=by simp;omega
  have a2:decide (n≤9223372036854775807)=true:=by simp;omega
  show(bif decide (-9223372036854775808≤n)&&decide (n≤9223372036854775807) then some (AV.p (PV.str (itoa n))) else none)=_
  rw[a1,a2];rfl)
end Go.Am
end
section
/- Tests and faults: what is wrong with them,qE ways. -/
open Go
set_option linter.all false
namespace Go.Am
variable {h:aA} {K:lA}
end Go.Am
end
section
/- Faults: what is wrong with them,qE ways. -/
open Go
set_option linter.all false
namespace Go.Am
variable {h:aA} {K:lA}
def Flt.pv (f:Flt):PV:=.agg [eI f.kind,.sl none (f.nets.map eI)]
end Go.Am
end
section
/- Where a string stands among strings;words. -/
open Go
set_option linter.all false
namespace Go.Am
variable {h:aA} {K:lA}
theorem eV {v:AV}(l:List (List UInt8))(hv:Shows none v (l.map PV.str) h)(x:List UInt8)(hl:l.length≤1000000):cA X VF [v,AS x] h K=K (AI (if l.findIdx (fun y=>decide (y=x))<l.length then(l.findIdx (fun y=>decide (y=x)):Int) else -1)) h []:=by
 refine uA ?_;rw[zfg];have vl:=hv.len
 rw[List.length_map]at vl;simp only[LR,go_sem,vl];refine UA (fun k:Nat=>⟨[(0,v),(1,AS x),(7,AI l.length),(8,AI k)],h,[]⟩) (fun k=>k≤l.length∧∀y∈l.take k,decide (y=x)=false) (fun k=>l.length-k) 0 rfl (by simp) ?_
 rintro k ⟨hk,hn⟩
 rcases Nat.lt_or_ge k l.length with hlt|hge
 ·obtain⟨a,ha,hb⟩:=hv.get k (by simpa using hlt)
  rw[List.getElem_map]at hb;have w2:IntKind.i64.wrap ((k:Int)+1)=((k+1:Nat):Int):=CA _ (by omega) (by omega)
  by_cases hpk:x=l[k]
  ·have hf:l.findIdx (fun y=>decide (y=x))=k:=by
    rw[List.findIdx_eq hlt];refine⟨by simp [hpk],fun j hj=>?_⟩
    have:=hn l[j] (by rw[List.mem_take_iff_getElem];exact⟨j,by omega,rfl⟩)
    simpa using this
   simp only[go_sem,hlt,ha,hb,hpk.symm,w2];simp only[hf,hlt,if_true]
  ·simp only[go_sem,hlt,ha,hb,hpk,w2]
   refine⟨k+1,rfl,⟨by omega,fun y hy=>?_⟩,by omega⟩
   rw[List.take_succ_eq_append_getElem hlt,List.mem_append,List.mem_singleton]at hy;rcases hy with hy|hy
   ·exact hn y hy
   ·rw[hy];simp;exact fun e=>hpk e.symm
 ·have e1:k=l.length:=by omega
  subst e1;simp only[go_sem,Nat.lt_irrefl];rw[List.take_length]at hn;have:¬l.findIdx (fun y=>decide (y=x))<l.length:=by
   rw[Nat.not_lt,Nat.le_iff_lt_or_eq];right
   exact(List.findIdx_eq_length.2 (fun y hy=>by simp [hn y hy])).symm
  rw[if_neg this]
theorem eQ {v:AV}(l:List (List UInt8))(hv:∀ h':aA,h'=h→Shows none v (l.map PV.str) h')(x:List UInt8)(hl:l.length≤1000000):cA X KE [v,AS x] h K=K (AB (l.contains x)) h []:=by
 refine uA ?_;rw[zeY];have e:=fun K=>eV (h:=h) (K:=K) l (hv h rfl) x hl
 have hd:decide (0≤(if l.findIdx (fun y=>decide (y=x))<l.length then(l.findIdx (fun y=>decide (y=x)):Int) else -1))=l.contains x:=by
  rw[Bool.eq_iff_iff,decide_eq_true_eq,List.contains_iff_mem];constructor
  ·intro hq
   split at hq
   ·rename_i hlt
    have:=List.findIdx_getElem (w:=hlt);simp only[decide_eq_true_eq]at this;exact this ▸ List.getElem_mem hlt
   ·omega
  ·intro hm
   rw[if_pos (List.findIdx_lt_length_of_exists ⟨x,hm,by simp⟩)];omega
 simp only[hY,go_sem,e,hd]
theorem KN (ws:List (List UInt8)){h:aA}:Shows none (TA ws) (ws.map PV.str) h:=z9F LN
end Go.Am
end
section
/- Numbers written,joined. -/
open Go
set_option linter.all false
namespace Go.Am
variable {h:aA} {K:lA}
end Go.Am
end
section
/- A builder of strings. -/
open Go
set_option linter.all false
namespace Go.Am
variable {h:aA} {K:lA}
theorem zp0 {o:Obj}{id:Nat}(hh:h[id]?=some o):h.set id o=h:=by
 apply List.ext_getElem?
 intro j;by_cases e:id=j
 ·subst e;rw[List.getElem?_set_self (ZF hh),hh]
 ·rw[List.getElem?_set_ne e]
end Go.Am
end
section
/- Numbers asv sets of bits;rows of a test asv numbers. -/
set_option linter.all false
namespace Go.Am
end Go.Am
end
section
/- Lists of faults: what is wrong with them,qE ways. -/
open Go
set_option linter.all false
namespace Go.Am
variable {h:aA} {K:lA}
end Go.Am
end
section
/- Rows of a test asv numbers. -/
open Go
set_option linter.all false
namespace Go.Am
variable {h:aA} {K:lA}
end Go.Am
end
section
/- Faults on rows: what the program makes of them. -/
open Go
set_option linter.all false
namespace Go.Am
variable {h:aA} {K:lA}
end Go.Am
end
section
/- Rows that are handed tov a function: it sees their values. -/
open Go
namespace Go.Am
end Go.Am
end
section
/- Responses,asv the program computes them. -/
open Go
set_option linter.all false
namespace Go.Am
variable {h:aA} {K:lA}
end Go.Am
end
section
/- Faults written. -/
open Go
set_option linter.all false
namespace Go.Am
variable {h:aA} {K:lA}
end Go.Am
end
section
/- Sorting the middle of a row: printed by program. -/
open Go
set_option linter.unusedSimpArgs false
namespace Go.Am
attribute [-go_sem] PV.cells splice
variable {h:aA} {K:lA}
end Go.Am
end
section
/- What is drawn: orders,tests. -/
open Go
set_option linter.all false
namespace Go.Am
variable {L:List Int} {a:Int} {h l:aA} {id:Nat} {K:lA}
def GenK (f:Nat)(args:List AV)(L:List Int)(a:Int)(sh:Sh)(Q:List PV→Int→Prop):Prop:=∀(h:aA) (id:Nat),h[id]?=some (IA L a)→∃xs a2,Q xs a2∧∀K:lA,cA X f (.ref id 0::args) h K=K (.own h.length xs.length 0 xs.length) (h.set id (IA L a2)++[.row sh xs 0]) []
theorem GenK.of {f:Nat}{args:List AV}{L:List Int}{a:Int}{sh:Sh}{Q:List PV→Int→Prop}(H:∀ (h:aA) (id:Nat),id<h.length→cA X f (.ref id 0::args) (h.set id (IA L a)) fun v1 h1 x1=>∃ xs a2,Q xs a2∧v1 = .own h.length xs.length 0 xs.length∧h1=h.set id (IA L a2)++[.row sh xs 0]∧x1=[]):GenK f args L a sh Q:=by
 intro h id hh;have hid:=ZF hh
 have k:=H h id hid
 rw[cJ hh]at k;obtain⟨v,h',x,⟨xs,a2,q,e0,e1,e2⟩,r⟩:=cA.one z3m k;subst e0;subst e1;subst e2
 exact⟨xs,a2,q,r⟩
end Go.Am
end
section
/- A text changed at random. -/
open Go
set_option linter.all false
namespace Go.Am
variable {L:List Int} {a:Int} {h l:aA} {id:Nat} {K:lA}
end Go.Am
end
