/- Texts of the proof, laid together: SpStr, SpMap, SpStrs, SpLimD, SpLim, SpLotA, SpRecD, SpGenA, SpSome, SpGenL, SpRec, SpSortRec, SpCompact, SpGenR, PMerge, SpMrgA, SpSort, SpMrgB, SpMrgC, SpMrgD, PFin, SpTxt, SpFlt1, SpFlt2, SpFlt3, SpFlt4, SpFlt5, SpArg, SpFlt6, SpSortO, SpGenF, SpGenA2, SpDelF, SpGenF2, SpDet, SpPath, SpReady, SpKeep, SpLawSA, SpLawFO, SpSeen, SpSeen2, SpRed1, PRed3, SpRed2. -/
import Derived.KernelRfl
import Derived.Test.YtahgfbhabpiplaaGreatDoorlawRE6
set_option linter.all false
section
/- Strings: keys,the library's functions without text. -/
open Go
set_option linter.unusedSimpArgs false
namespace Go.Am
variable {h:aA} {K:jA}
abbrev AS (s:List UInt8):AV:=.p (.str s)
theorem X_ext:X.ext=HH CF xN:=rfl
theorem ziV (s:List UInt8)(c:UInt8):eA X CF [AS s,.p (.int .u8 c.toNat)] h K=K (AI (eE s c)) h []:=by
 have:=zco (X:=X) (f:=CF) (asv:=[AS s,.p (.int .u8 c.toNat)]) (vs:=[.str s,.int .u8 c.toNat]) (h:=h) (h1:=h) (r:=.int .i64 (eE s c)) (K:=K) (by kernel_rfl) rfl rfl rfl ?_
 ·exact this
 ·rw[X_ext]
  unfold HH;rw[show Nat.beq CF CF=true from by kernel_rfl]
  simp
theorem z3s (s:List UInt8)(c:UInt8):eA X JK [AS s,.p (.int .u8 c.toNat)] h K=K (AI (eE s c)) h []:=by
 have key:∀(h:aA) (K:jA),eA X jK [AS s,.p (.int .u8 c.toNat)] h K=K (AI (eE s c)) h []:=by
  intro h K;refine CA ?_;rw[z7I rfl];simp only[yM,go_sem,ziV]
 refine CA ?_;rw[z82 rfl];simp only[oN,go_sem,key]
theorem zdj (s:List UInt8)(c:UInt8):decide (eE s c<0) = !s.contains c:=by
 unfold eE;rw[Bool.eq_iff_iff];by_cases hf:s.findIdx (· == c)<s.length
 ·rw[if_pos hf]
  have:=List.findIdx_getElem (w:=hf);simp only[beq_iff_eq]at this;have hm:c∈s:=by rw[←this];exact List.getElem_mem hf
  simp [hm]
 ·rw[if_neg hf]
  have hm:¬c∈s:=fun hm=>hf (List.findIdx_lt_length_of_exists ⟨c,hm,by simp⟩)
  simp [hm]
theorem ziX (s t:List UInt8)(hl:s.length≤1000000000):eA X vK [AS s,AS t] h K=K (AB (s.all fun c=>t.contains c)) h []:=by
 refine CA ?_;rw[z8g rfl];simp only[RM,go_sem];refine LA (fun k:Nat=>⟨[(0,AS s),(1,AS t),(7,AI s.length),(8,AI k)],h,[]⟩) (fun k=>k≤s.length∧(s.take k).all (fun c=>t.contains c)=true) (fun k=>s.length-k) 0 rfl ⟨by omega,rfl⟩ ?_
 rintro k ⟨hk,hp⟩
 rcases Nat.lt_or_ge k s.length with hlt|hge
 ·have hg:s[k]?=some s[k]:=List.getElem?_eq_getElem hlt
  have w2:IntKind.i64.wrap ((k:Int)+1)=((k+1:Nat):Int):=yA _ (by omega) (by omega)
  have hi:=zdj t s[k]
  by_cases hc:eE t s[k]<0
  ·have:s.all (fun c=>t.contains c)=false:=by
    rw[List.all_eq_false];refine⟨_,List.getElem_mem hlt,?_⟩;rw[decide_eq_true hc]at hi;cases hq:t.contains s[k]with
    | true=>rw[hq]at hi;cases hi
    | false=>simp
   simp only[go_sem,hlt,hg,z3s,hc,this]
  ·rw[decide_eq_false hc]at hi
   have hq:t.contains s[k]=true:=by cases hq:t.contains s[k]with|true=>rfl|false=>rw[hq]at hi;cases hi
   simp only[go_sem,hlt,hg,z3s,hc,w2];exact⟨k+1,rfl,⟨by omega,by rw[List.take_succ_eq_append_getElem hlt,List.all_append,hp];simp only[List.all_cons,List.all_nil,hq];rfl⟩,by omega⟩
 ·have ek:k=s.length:=by omega
  subst ek;rw[List.take_length]at hp;simp only[go_sem,Nat.lt_irrefl,hp]
end Go.Am
end
section
/- Maps,asv lists of keys with values. -/
open Go
set_option linter.all false
namespace Go.Am
section
variable {α β:Type} [DecidableEq α]
def AD (key:α→PV)(val:β→AV):Nat→List (α×β)→List ME
 | _,[]=>[]
 | n,e::r=>⟨key e.1,val e.2,n⟩::AD key val (n+1) r
def XB (key:α→PV)(val:β→AV)(l:List (α × β)):Obj:=.amap (AD key val 0 l) l.length
def jC (k:α):List (α×β)→Option Nat
 | []=>none
 | e::r=>if k=e.1 then some 0 else(jC k r).map (· + 1)
def rB (k:α):List (α×β)→Option β
 | []=>none
 | e::r=>if k=e.1 then some e.2 else rB k r
def sD (k:α)(v:β):List (α×β)→List (α×β)
 | []=>[(k,v)]
 | e::r=>if k=e.1 then(k,v)::r else e::sD k v r
def KeyI (key:α→PV):Prop:=∀a b,PV.eqv (key a) (key b)=some (decide (a=b))
theorem QU:KeyI (fun n:Int=>PV.int .i64 n):=fun a b=>by simp [PV.eqv,PV.eq1]
theorem RU {n:Int}{k:IntKind}:EC (none,[0]) (.p (.int k n))=some (.int k n):=by simp [EC,PV.key,PV.shp,PV.sc,PV.cells,PV.kind]
variable {key:α→PV} {val:β→AV}
theorem SU (hk:KeyI key)(k:α):∀(l:List (α×β)) (n:Nat),NB (key k) (AD key val n l)=some (jC k l)
 | [],n=>rfl
 | e::r,n=>by
  simp only[AD,NB,hk k e.1,jC];by_cases h:k=e.1
  ·simp [h]
  ·simp [h,SU hk k r (n+1)]
theorem UN:∀ (l:List (α × β)) (n i:Nat),(AD key val n l)[i]?=(l[i]?).map fun e=>⟨key e.1,val e.2,n+i⟩
 | [],n,i=>rfl
 | e::r,n,0=>rfl
 | e::r,n,i+1=>by simp only[AD,List.getElem?_cons_succ,UN r (n+1) i];rw[show n+1+i=n+(i+1) by omega]
theorem z4s {k:α}:∀{l:List (α×β)} {i:Nat},jC k l=some i→i<l.length
 | [],i,h=>by cases h
 | e::r,i,h=>by
  unfold jC at h;split at h
  ·cases h;simp
  ·obtain⟨j,hj,e2⟩:=Option.map_eq_some_iff.1 h
   have:=z4s hj;simp;omega
theorem sX {k:α}:∀{l:List (α×β)} {i:Nat},jC k l=some i→l[i]?=(rB k l).map fun v=>(k,v)
 | [],i,h=>by cases h
 | e::r,i,h=>by
  unfold jC at h;unfold rB;split at h
  ·rename_i hk;cases h;simp [hk]
  ·rename_i hk
   obtain⟨j,hj,e2⟩:=Option.map_eq_some_iff.1 h;subst e2;rw[if_neg hk,List.getElem?_cons_succ];exact sX hj
theorem z4t {k:α}:∀{l:List (α×β)},jC k l=none→rB k l=none
 | [],h=>rfl
 | e::r,h=>by
  unfold jC at h;unfold rB;split at h
  ·cases h
  ·rename_i hk
   rw[if_neg hk];exact z4t (by simpa using h)
theorem z4u {k:α}:∀{l:List (α×β)} {i:Nat},jC k l=some i→(rB k l).isSome=true
 | [],i,h=>by cases h
 | e::r,i,h=>by
  unfold jC at h;unfold rB;split at h
  ·rename_i hk;simp [hk]
  ·rename_i hk
   obtain⟨j,hj,e2⟩:=Option.map_eq_some_iff.1 h;rw[if_neg hk];exact z4u hj
theorem ze4 {k:α}{l:List (α × β)}{n:Nat}:((jC k l).bind fun i=>(AD key val n l)[i]?).map ME.val=(rB k l).map val:=by
 cases h:jC k l with
 | none=>rw[z4t h];rfl
 | some i=>
  simp only[Option.bind_some,UN,sX h];cases rB k l <;> rfl
theorem z4k {k:α}{v:β}:∀{l:List (α×β)},jC k l=none→sD k v l=l++[(k,v)]
 | [],h=>rfl
 | e::r,h=>by
  unfold jC at h;unfold sD;split at h
  ·cases h
  ·rename_i hk
   rw[if_neg hk,z4k (by simpa using h)];rfl
theorem z4l {k:α}{v:β}:∀{l:List (α×β)} {i:Nat},jC k l=some i→sD k v l=l.set i (k,v)
 | [],i,h=>by cases h
 | e::r,i,h=>by
  unfold jC at h;unfold sD;split at h
  ·rename_i hk;cases h;simp [hk]
  ·rename_i hk
   obtain⟨j,hj,e2⟩:=Option.map_eq_some_iff.1 h;subst e2;rw[if_neg hk,z4l hj];rfl
theorem z2j (k:α)(v:β):∀(l:List (α×β)) (n:Nat),AD key val n (l++[(k,v)])=AD key val n l++[⟨key k,val v,n+l.length⟩]
 | [],n=>rfl
 | e::r,n=>by simp only[List.cons_append,AD,z2j k v r (n+1),List.length_cons];rw[show n+1+r.length=n+(r.length+1) by omega]
theorem ze8 {k:α}{v:β}{l:List (α × β)}{i n:Nat}(h:jC k l=some i):(AD key val n l).modify i (fun e=>{ e with val:=val v })=AD key val n (l.set i (k,v)):=by
 apply List.ext_getElem?
 intro j;rw[List.getElem?_modify,UN,UN,List.getElem?_set];have hi:=z4s h
 have hg:=sX h
 by_cases hij:i=j
 ·subst hij
  rw[hg];simp only[if_true,hi];obtain⟨w,hw⟩:=Option.isSome_iff_exists.1 (z4u h);rw[hw];rfl
 ·simp [hij]
variable {h:aA} {id:Nat} {l:List (α × β)} {kk:Sh × List Nat} {k:α}
theorem z2k (hh:h[id]?=some (XB key val l)):JB h (.mp id)=some (id,AD key val 0 l,l.length):=by
 simp only[JB,hh,XB]
theorem z2d (hk:KeyI key)(hh:h[id]?=some (XB key val l))(hq:EC kk (.p (key k))=some (key k)){ok:Bool}{z:AV} :
 BD kk ok z (.mp id) (.p (key k)) h=some (bif ok then .tup [((rB k l).map val).getD z,AV.p (.bool (rB k l).isSome)] else((rB k l).map val).getD z):=by
 simp only[BD,hq,z2k hh,Option.map_some,SU hk,ze4,Option.isSome_map];rfl
theorem zeF (hk:KeyI key)(hh:h[id]?=some (XB key val l))(hq:EC kk (.p (key k))=some (key k)){v:β}(hv:VF (val v)=true) :
 BE kk (.mp id) (.p (key k)) (val v) h=some (.und,h.set id (XB key val (sD k v l)),GB id (val v)):=by
 simp only[BE,hq,z2k hh,hv,SU hk];cases hw:jC k l with
 | none=>
  simp only[XB,z4k hw,z2j,List.length_append,List.length_cons,List.length_nil,Nat.zero_add]
 | some i=>
  simp only[XB,z4l hw,ze8 hw,List.length_set]
end
end Go.Am
end
section
/- Lists of strings sorted,left out: printed by program. -/
open Go
set_option linter.unusedSimpArgs false
namespace Go.Am
attribute [-go_sem] PV.cells splice
variable {h:aA} {K:jA}
end Go.Am
end
section
/- Limits: what they are,what is wrong with them. -/
open Go
namespace Go.Am
variable {h:aA} {K:jA}
structure Lim where
 key:List UInt8
 lo:Int
 hi:Int
 bin:Int
def Lim.pv (x:Lim):PV:=.agg [.str x.key,eI x.lo,eI x.hi,eI x.bin]
end Go.Am
end
section
/- What is wrong with limits,both ways: printed by program. -/
open Go
set_option linter.unusedSimpArgs false
namespace Go.Am
variable {h:aA} {K:jA}
end Go.Am
end
section
/- Package lot on measured values,and what the reference says of them. -/
open Go
namespace Go.Am
variable {h:aA} {K:jA}
structure Meas (l:List Int):Prop where
 len:l.length≤5000
 bd:∀n∈l,-100000≤n∧n≤100000
theorem Meas.sum {l:List Int}(hm:Meas l)(k:Nat) : -500000000≤(l.take k).sum∧(l.take k).sum≤500000000:=by
 have:=zjH hm.bd hm.len (by omega) k
 omega
end Go.Am
end
section
/- Records: what they are,what is wrong with them. -/
open Go
set_option linter.unusedSimpArgs false
namespace Go.Am
variable {h:aA} {K:jA}
theorem ziz {b:Nat}{P:jA}{vs:List AV}{h:aA}:cD true b P (some vs) h []=P (JA vs) (h.take (max b (JA vs).top)) []:=by
 simp [cD,QB,BB]
attribute [go_sem] ziz
structure Rec where
 unit:List UInt8
 time:Int
 site:List UInt8
 res:List Int
def Rec.pv (r:Rec):PV:=.agg [.str r.unit,eI r.time,.str r.site,.sl none (r.res.map eI)]
end Go.Am
end
section
/- What is drawn: numbers,measured values. -/
open Go
namespace Go.Am
variable {L:List Int} {a:Int}
theorem g_Odd (hp:OA 14 a)(u v:Int)(huv:u≤v)(hu : -1000000000000≤u)(hv:v≤1000000000000):∃k a2:Int,a≤a2∧a2≤a+2 ∧ -1099511627776≤k∧k≤1099511627776 ∧
 Gen NH [AI u,AI v] L a a2 (AI k):=by
 have w1:IntKind.i64.wrap (u-1)=u-1:=yA _ (by omega) (by omega)
 have w2:IntKind.i64.wrap (v+1)=v+1:=yA _ (by omega) (by omega)
 by_cases hf:bB L a 12=0
 ·have hm:=JP (L:=L) (a:=a+1) (l:=[u-1,v+1,u,v,-1099511627776,1099511627776]) (by simp) (by simp)
  simp only[List.mem_cons,List.not_mem_nil,or_false]at hm;refine⟨jE [u-1,v+1,u,v,-1099511627776,1099511627776] L (a+1),a+1+1,by omega,by omega,by omega,by omega,Gen.of fun h id hid=>?_⟩
  rw[DY rfl];simp only[VJ,go_sem,hid,dJ hp,hf,w1,w2]
 ·have hm:=bG L (a+1) huv (by omega)
  refine⟨pD u v L (a+1),a+1+1,by omega,by omega,by omega,by omega,Gen.of fun h id hid=>?_⟩
  rw[DY rfl];simp only[VJ,go_sem,hid,dJ hp,hf,w1,w2,huv,show -1152921504606846976≤u by omega,show v≤1152921504606846976 by omega]
end Go.Am
end
section
/- Strings that are drawn. -/
open Go
set_option linter.unusedSimpArgs false
namespace Go.Am
variable {L:List Int} {a:Int} {h l:aA} {id:Nat} {K:jA}
def isS:PV→Bool
 | .str _=>true
 | _=>false
def unS:PV→List UInt8
 | .str s=>s
 | _=>[]
def PD (l:List (List UInt8))(L:List Int)(a:Int):List UInt8:=l.getD (bB L a l.length).toNat []
theorem BW {l:List (List UInt8)}{L:List Int}{a:Int}(hl:0<l.length)(hl2:l.length<4611686018427387904):PD l L a∈l:=by
 obtain⟨b1,b2⟩:=YG L a l.length (by omega) (by omega)
 unfold PD;have:(bB L a l.length).toNat<l.length:=by omega
 simp only[List.getD,List.getElem?_eq_getElem this,Option.getD_some];exact List.getElem_mem _
theorem zkd {xs:List PV}(h:xs.all isS=true):xs=(xs.map unS).map PV.str:=by
 induction xs with
 | nil=>rfl
 | cons x r ih=>
  simp only[List.all_cons,Bool.and_eq_true]at h;simp only[List.map_cons];rw[←ih h.2];cases x <;> first|rfl|cases h.1
theorem zcS (hp:OA 0 a)(xs:List PV)(hx:xs.all isS=true)(hl:0<xs.length)(hl2:xs.length<4611686018427387904) :
 Gen JF [.p (.sl none xs)] L a (a+1) (AS (PD (xs.map unS) L a)):=by
 refine Gen.of fun h id hid=>?_
 rw[z8a rfl];obtain⟨b1,b2⟩:=YG L a xs.length (by omega) (by omega)
 have e4:=AE (k:=.i64) b1
 have e5:xs[(bB L a xs.length).toNat]?=some (.str (PD (xs.map unS) L a)):=by
  have hm:=zkd hx
  generalize hq:xs.map unS=q at *;subst hm;simp only[List.length_map]at *;rw[aB PV.str (show(bB L a q.length).toNat<q.length by omega)]
  simp [PD,List.getD,show(bB L a q.length).toNat<q.length by omega]
 simp only[NM,go_sem,kJ hid hp,e4,e5]
theorem z3z (hid:id<h.length)(hp:OA 0 a){xs:List PV}(hx:xs.all isS=true)(hl:0<xs.length)(hl2:xs.length<4611686018427387904) :
 eA X JF [.ref id 0,.p (.sl none xs)] (h.set id (rA L a)++l) K=K (AS (PD (xs.map unS) L a)) (h.set id (rA L (a+1))++l) []:=(zcS hp xs hx hl hl2).app hid
attribute [go_sem ↓] z3z
attribute [go_sem] z3z isS unS
end Go.Am
end
section
/- What is drawn: strings,limits. -/
open Go
set_option linter.unusedSimpArgs false
namespace Go.Am
variable {L:List Int} {a:Int} {h l:aA} {id:Nat} {K:jA}
end Go.Am
end
section
/- Records: what is wrong with them,both ways. -/
open Go
set_option linter.unusedSimpArgs false
namespace Go.Am
variable {h:aA} {K:jA}
end Go.Am
end
section
/- Sorting records: printed by program. -/
open Go
set_option linter.unusedSimpArgs false
namespace Go.Am
attribute [-go_sem] PV.cells splice
variable {h:aA} {K:jA}
end Go.Am
end
section
/- Leaving out what is alike: printed by program. -/
open Go
set_option linter.unusedSimpArgs false
namespace Go.Am
attribute [-go_sem] PV.cells splice
variable {h:aA} {K:jA}
end Go.Am
end
section
/- What is drawn: records. -/
open Go
set_option linter.unusedSimpArgs false
namespace Go.Am
variable {L:List Int} {a:Int} {h l:aA} {id:Nat} {K:jA}
theorem UY {b:Nat}{x:Esc}(hx:∀ y∈x,b≤y.1):∀k,QB k x b=b:=by
 have hb:GJ x b=b:=by
  unfold GJ;induction x with
  | nil=>rfl
  | cons y r ih=>
   simp only[List.foldl_cons];rw[if_neg (by have:=hx y (by simp);omega)]
   exact ih (fun z hz=>hx z (by simp [hz]))
 intro k;induction k with
 | zero=>rfl
 | succ k ih=>unfold QB;rw[hb,ih]
theorem zka {b:Nat}{x0 x:Esc}{e:List (Nat × AV)}{h:aA}(hx:∀ y∈x,b≤y.1):WD b x0 ⟨e,h,x⟩=⟨SE b e,h.take b,x0⟩:=by
 unfold WD;simp only[UY hx];have hc:BB x b=true:=by
  unfold BB;rw[List.all_eq_true];intro y hy;simp [hx y hy]
 have hf:x.filter (fun y=>decide (y.1<b))=[]:=by
  rw[List.filter_eq_nil_iff];intro y hy;have:=hx y hy;simp;omega
 rw[if_pos hc,hf,List.nil_append]
end Go.Am
end
section
/- Merging two ordered lists: by sorting and leaving out what is alike,and by looking each one up. Plain lists. -/
namespace Go.Am
variable {α:Type}
structure Ordr (c:α→α→Int):Prop where
 neg:∀a b,c b a = - c a b
 trans:∀a b d,c a b≤0→c b d≤0→c a d≤0
theorem Ordr.refl {c:α→α→Int}(o:Ordr c)(a:α):c a a=0:=by have:=o.neg a a;omega
theorem UR {q:α→α→Bool}(hq:∀ x y,q x y=true→x=y):∀(l:List α) (p x:α),x∈l→x=p∨x∈BC q p l
 | [],_,x,hx=>by simp at hx
 | y::r,p,x,hx=>by
  unfold BC;cases h:q y p with
  | true=>
   have e:=hq _ _ h
   subst e;rcases List.mem_cons.1 hx with e|e
   ·exact .inl e
   ·exact UR hq r y x e
  | false=>
   rcases List.mem_cons.1 hx with e|e
   ·subst e;exact .inr (by simp)
   ·rcases UR hq r y x e with e|e
    ·subst e;exact .inr (by simp)
    ·exact .inr (by simp [e])
theorem z8J {q:α→α→Bool}(hq:∀ x y,q x y=true→x=y):∀{l:List α} {x:α},x∈l→x∈FB q l
 | y::r,x,hx=>by
  rcases List.mem_cons.1 hx with e|e
  ·subst e;simp [FB]
  ·rcases UR hq r y x e with e|e
   ·subst e;simp [FB]
   ·simp [FB,e]
variable {c:α→α→Int} {q:α→α→Bool} {a b:List α}
end Go.Am
end
section
/- Records alike;copies;bins. -/
open Go
set_option linter.unusedSimpArgs false
namespace Go.Am
variable {h:aA} {K:jA}
def YW (a b:Rec):Bool:=decide (a.unit=b.unit)&&(decide (a.time=b.time)&&(decide (a.site=b.site)&&decide (a.res=b.res)))
theorem zjc (a b:Rec):YW a b=true↔a=b:=by
 cases a;cases b
 simp [YW]
theorem z2U {b:Nat}{P:jA}{vs:List AV}{h:aA}{x:Esc}(hx:∀ y∈x,b≤y.1){v:AV}(h1:FA b h (JA vs)=some v)(h2:v.top≤b):cD false b P (some vs) h x=P v (h.take b) []:=by
 have e:max b v.top=b:=by omega
 have c:BB x b=true:=by
  unfold BB;rw[List.all_eq_true];intro y hy;simp [hx y hy]
 have f:x.filter (fun y=>decide (y.1<b))=[]:=by
  rw[List.filter_eq_nil_iff];intro y hy;have:=hx y hy;simp;omega
 simp only[cD,h1,e,UY hx,c,if_true,f];exact propext ⟨fun h=>h.2,fun h=>⟨h2,h⟩⟩
end Go.Am
end
section
/- Sorting numbers: printed by program. -/
open Go
set_option linter.unusedSimpArgs false
namespace Go.Am
attribute [-go_sem] PV.cells splice
variable {h:aA} {K:jA}
end Go.Am
end
section
/- Bins,both ways;lists joined;records sorted. -/
open Go
set_option linter.unusedSimpArgs false
namespace Go.Am
variable {h:aA} {K:jA}
end Go.Am
end
section
/- Lists of records joined,compared,merged. -/
open Go
set_option linter.unusedSimpArgs false
namespace Go.Am
variable {h:aA} {K:jA}
instance:DecidableEq Rec:=fun a b=>decidable_of_iff (YW a b=true) (zjc a b)
end Go.Am
end
section
/- Records merged asv the reference does it. -/
open Go
set_option linter.unusedSimpArgs false
namespace Go.Am
variable {h:aA} {K:jA}
end Go.Am
end
section
/- Retests: which record of a unit counts. Plain lists;both ways yield the same. -/
set_option linter.all false
namespace Go.Am
end Go.Am
end
section
/- Lists of strings. -/
open Go
set_option linter.all false
namespace Go.Am
variable {h:aA} {K:jA}
abbrev nB (us:List (List UInt8)):AV:=.p (.sl none (us.map PV.str))
end Go.Am
end
section
/- Tests and faults: what is wrong with them,both ways. -/
open Go
set_option linter.all false
namespace Go.Am
variable {h:aA} {K:jA}
theorem ziN (s cs:List UInt8)(hs:s.length≤1000000)(hc:cs.length≤1000)(ha:cs.all (fun b=>decide (b.toNat<128))=true):eA X KK [AS s,AS cs] h K=K (AS (yL s cs)) h []:=by
 refine QN (X:=X) (by kernel_rfl) ?_
 first|rw[show X.ex2=zE GRL PRL from rfl]|skip
 show zE GRL PRL KK [AS s,AS cs] h=some (AS (yL s cs),h,[])
 exact z1Y (vs:=[.str s,.str cs]) (by kernel_rfl) (s:=trimS) (by kernel_rfl) rfl (by simp only[trimS];rw[if_pos ⟨hs,hc,ha⟩])
theorem zi8 (s:List UInt8)(hs:s.length≤1000000):eA X bE [AS s] h K=K (AB (oB s)) h []:=by
 refine CA ?_;rw[z7r rfl];have e:=fun h K=>ziN (h:=h) (K:=K) s [48,49] hs (by simp) (by decide)
 have b:decide (yL s [48,49]=[])=oB s:=zjX s
 simp only[lM,go_sem,e,b]
theorem zi9 (s:List UInt8)(hs:s.length≤1000000):eA X sK [AS s] h K=K (AB (oB s)) h []:=by
 refine CA ?_;rw[z8b rfl];have e:=fun h K=>ziX (h:=h) (K:=K) s [48,49] (by omega)
 have b:(s.all fun c=>[48,49].contains c)=oB s:=rfl
 simp only[OM,go_sem,e,b]
theorem z3p (t:List (List UInt8))(hb:∀ s∈t,s.length≤1000000)(hn:t.length≤1000000):eA X DG [nB t] h K=K (AI (vC t)) h []:=by
 refine CA ?_;rw[z7y rfl];unfold vC;by_cases h0:t.length=0
 ·simp only[AH,go_sem,h0]
 have h0':¬((t.length:Int)=0):=by omega
 by_cases h1:100<t.length
 ·have h1':(100:Int)<(t.length:Int):=by omega
  simp only[AH,go_sem,h0',h0,h1,h1']
 have h1':¬(100:Int)<(t.length:Int):=by omega
 simp only[AH,go_sem,h0',h0,h1,h1'];obtain⟨lg,hlg⟩:∃n,(t.headD []).length=n:=⟨_,rfl⟩;rw[hlg];refine LA (fun k:Nat=>⟨[(0,nB t),(13,nB t),(14,AI t.length),(15,AI k)],h,[]⟩) (fun k=>k≤t.length∧VD lg (t.drop k)=VD lg t) (fun k=>t.length-k) 0 rfl ⟨by omega,by simp⟩ ?_
 rintro k ⟨hk,hp⟩
 rcases Nat.lt_or_ge k t.length with hlt|hge
 ·have hg:=aB PV.str hlt
  have hg0:=aB PV.str (show 0<t.length by omega)
  have cz:qB none 0 (PV.str t[k])=some (PV.str t[k]):=rfl
  have hz:t[0].length=lg:=by
   rw[←hlg];cases t with
   | nil=>exact absurd rfl h0
   | cons a r=>rfl
  have w2:IntKind.i64.wrap ((k:Int)+1)=((k+1:Nat):Int):=yA _ (by omega) (by omega)
  have eb:=fun h K=>zi8 (h:=h) (K:=K) t[k] (hb _ (List.getElem_mem hlt))
  rw[List.drop_eq_getElem_cons hlt,VD]at hp;cases hbb:oB t[k]with
  | false=>
   rw[hbb]at hp;simp only[if_true]at hp;rw[←hp];simp only[go_sem,hlt,hg,eb,hbb]
  | true=>
   rw[hbb]at hp;simp only[Bool.true_eq_false,if_false]at hp;by_cases h2:64<t[k].length
   ·have h2':(64:Int)<(t[k].length:Int):=by omega
    rw[if_pos h2]at hp;rw[←hp];simp only[go_sem,hlt,hg,eb,hbb,h2']
   ·have h2':¬(64:Int)<(t[k].length:Int):=by omega
    rw[if_neg h2]at hp;by_cases h3:t[k].length=lg
    ·have h3':((t[k].length:Int)=(lg:Int)):=by omega
     rw[if_neg (by omega)]at hp
     have h2'':¬(64:Int)<(lg:Int):=by omega
     simp only[go_sem,hlt,hg,hg0,hz,eb,hbb,h2',h2'',h3',w2];exact⟨k+1,rfl,⟨by omega,hp⟩,by omega⟩
    ·have h3':¬((t[k].length:Int)=(lg:Int)):=by omega
     rw[if_pos h3]at hp;rw[←hp];simp only[go_sem,hlt,hg,hg0,hz,eb,hbb,h2',h3']
 ·have e1:k=t.length:=by omega
  subst e1;rw[List.drop_length]at hp;rw[←hp];simp only[go_sem,Nat.lt_irrefl];rfl
theorem ziM (t:List (List UInt8))(hb:∀ s∈t,s.length≤1000000)(hn:t.length≤1000000):eA X uK [nB t] h K=K (AI (vC t)) h []:=by
 refine CA ?_;rw[z8e rfl];unfold vC;by_cases h0:t.length=0
 ·simp only[EH,go_sem,h0]
 have h0':¬((t.length:Int)=0):=by omega
 by_cases h1:100<t.length
 ·have h1':(100:Int)<(t.length:Int):=by omega
  simp only[EH,go_sem,h0',h0,h1,h1']
 have h1':¬(100:Int)<(t.length:Int):=by omega
 simp only[EH,go_sem,h0',h0,h1,h1'];obtain⟨lg,hlg⟩:∃n,(t.headD []).length=n:=⟨_,rfl⟩;rw[hlg];refine LA (fun k:Nat=>⟨[(0,nB t),(13,nB t),(14,AI t.length),(15,AI k)],h,[]⟩) (fun k=>k≤t.length∧VD lg (t.drop k)=VD lg t) (fun k=>t.length-k) 0 rfl ⟨by omega,by simp⟩ ?_
 rintro k ⟨hk,hp⟩
 rcases Nat.lt_or_ge k t.length with hlt|hge
 ·have hg:=aB PV.str hlt
  have hg0:=aB PV.str (show 0<t.length by omega)
  have cz:qB none 0 (PV.str t[k])=some (PV.str t[k]):=rfl
  have hz:t[0].length=lg:=by
   rw[←hlg];cases t with
   | nil=>exact absurd rfl h0
   | cons a r=>rfl
  have w2:IntKind.i64.wrap ((k:Int)+1)=((k+1:Nat):Int):=yA _ (by omega) (by omega)
  have eb:=fun h K=>zi9 (h:=h) (K:=K) t[k] (hb _ (List.getElem_mem hlt))
  rw[List.drop_eq_getElem_cons hlt,VD]at hp;cases hbb:oB t[k]with
  | false=>
   rw[hbb]at hp;simp only[if_true]at hp;rw[←hp];simp only[go_sem,hlt,hg,eb,hbb]
  | true=>
   rw[hbb]at hp;simp only[Bool.true_eq_false,if_false]at hp;by_cases h2:64<t[k].length
   ·have h2':(64:Int)<(t[k].length:Int):=by omega
    rw[if_pos h2]at hp;rw[←hp];simp only[go_sem,hlt,hg,eb,hbb,h2']
   ·have h2':¬(64:Int)<(t[k].length:Int):=by omega
    rw[if_neg h2]at hp;by_cases h3:t[k].length=lg
    ·have h3':((t[k].length:Int)=(lg:Int)):=by omega
     rw[if_neg (by omega)]at hp
     have h2'':¬(64:Int)<(lg:Int):=by omega
     simp only[go_sem,hlt,hg,hg0,hz,eb,hbb,h2',h2'',h3',w2];exact⟨k+1,rfl,⟨by omega,hp⟩,by omega⟩
    ·have h3':¬((t[k].length:Int)=(lg:Int)):=by omega
     rw[if_pos h3]at hp;rw[←hp];simp only[go_sem,hlt,hg,hg0,hz,eb,hbb,h2',h3']
 ·have e1:k=t.length:=by omega
  subst e1;rw[List.drop_length]at hp;rw[←hp];simp only[go_sem,Nat.lt_irrefl];rfl
end Go.Am
end
section
/- Faults: what is wrong with them,both ways. -/
open Go
set_option linter.all false
namespace Go.Am
variable {h:aA} {K:jA}
def Flt.pv (f:Flt):PV:=.agg [eI f.kind,.sl none (f.nets.map eI)]
abbrev xC (l:List Flt):AV:=.p (.sl (some 2) (l.map Flt.pv))
theorem z5d {v:AV}(l:List Int)(hv:Shows none v (l.map eI) h)(x:Int)(hl:l.length≤1000000):eA X SH [v,AI x] h K=K (AI (if l.findIdx (fun y=>decide (y=x))<l.length then(l.findIdx (fun y=>decide (y=x)):Int) else -1)) h []:=by
 refine CA ?_;rw[z8t];have vl:=hv.len
 rw[List.length_map]at vl;simp only[dN,go_sem,vl];refine LA (fun k:Nat=>⟨[(0,v),(1,AI x),(7,AI l.length),(8,AI k)],h,[]⟩) (fun k=>k≤l.length∧∀y∈l.take k,decide (y=x)=false) (fun k=>l.length-k) 0 rfl (by simp) ?_
 rintro k ⟨hk,hn⟩
 rcases Nat.lt_or_ge k l.length with hlt|hge
 ·obtain⟨a,ha,hb⟩:=hv.get k (by simpa using hlt)
  rw[List.getElem_map]at hb;have w2:IntKind.i64.wrap ((k:Int)+1)=((k+1:Nat):Int):=yA _ (by omega) (by omega)
  by_cases hpk:x=l[k]
  ·have hf:l.findIdx (fun y=>decide (y=x))=k:=by
    rw[List.findIdx_eq hlt];refine⟨by simp [hpk],fun j hj=>?_⟩
    have:=hn l[j] (by rw[List.mem_take_iff_getElem];exact⟨j,by omega,rfl⟩)
    simpa using this
   simp only[go_sem,hlt,ha,hb,hpk.symm,w2];simp only[hf,hlt,if_true]
  ·simp only[go_sem,hlt,ha,hb,hpk,w2]
   refine⟨k+1,rfl,⟨by omega,fun y hy=>?_⟩,by omega⟩
   rw[List.take_succ_eq_append_getElem hlt,List.mem_append,List.mem_singleton]at hy;rcases hy with hy|hy
   ·exact hn y hy
   ·rw[hy];simp;exact fun e=>hpk e.symm
 ·have e1:k=l.length:=by omega
  subst e1;simp only[go_sem,Nat.lt_irrefl];rw[List.take_length]at hn;have:¬l.findIdx (fun y=>decide (y=x))<l.length:=by
   rw[Nat.not_lt,Nat.le_iff_lt_or_eq];right
   exact(List.findIdx_eq_length.2 (fun y hy=>by simp [hn y hy])).symm
  rw[if_neg this]
theorem z4K {v:AV}(l:List Int)(hv:∀ h':aA,h'=h→Shows none v (l.map eI) h')(x:Int)(hl:l.length≤1000000):eA X cE [v,AI x] h K=K (AB (l.contains x)) h []:=by
 refine CA ?_;rw[z8n];have e:=fun K=>z5d (h:=h) (K:=K) l (hv h rfl) x hl
 have hd:decide (0≤(if l.findIdx (fun y=>decide (y=x))<l.length then(l.findIdx (fun y=>decide (y=x)):Int) else -1))=l.contains x:=by
  rw[Bool.eq_iff_iff,decide_eq_true_eq,List.contains_iff_mem];constructor
  ·intro hq
   split at hq
   ·rename_i hlt
    have:=List.findIdx_getElem (w:=hlt);simp only[decide_eq_true_eq]at this;exact this ▸ List.getElem_mem hlt
   ·omega
  ·intro hm
   rw[if_pos (List.findIdx_lt_length_of_exists ⟨x,hm,by simp⟩)];omega
 simp only[XM,go_sem,e,hd]
theorem UW (l:List Int)(x:Int)(hl:l.length≤1000000):eA X cE [AL l,AI x] h K=K (AB (l.contains x)) h []:=z4K l (fun h' _=>fX gX) x hl
def qD (f:Flt)(r:List Int):Int:=if FE r=false then 7 else if f.kind=5∧r.contains (f.nets.headD 0)=true then 6 else 0
theorem HN {l:List Int}(hl:0<l.length):(l.map eI)[0]?=some (eI (l.headD 0)):=by
 cases l with
 | nil=>simp at hl
 | cons a r=>rfl
theorem zi3 (f:Flt)(r:List Int)(hr:r.length≤1000000)(h0:0<f.nets.length){id:Nat}(hh:h[id]?=some (.box [AI f.kind,AL f.nets])){K:Ex→St→Prop}(hK:K .ret ⟨[(4,AI (qD f r))],h,[]⟩) :
 zH (eA X) X.gl kI iO (.ref id 0) (AL r) h [] K:=by
 simp only[zH,go_sem];refine LA (fun k:Nat=>⟨[(3,.ref id 0),(7,AL r),(8,AI ((k+1:Nat):Int))],h,[]⟩) (fun k=>(k+1≤r.length∨k=0)∧FE (r.drop k)=FE r) (fun k=>r.length-k) 0 rfl ⟨.inr rfl,by simp⟩ ?_
 rintro k ⟨hk,hp⟩
 rcases Nat.lt_or_ge (k+1) r.length with hlt|hge
 ·have g1:=aB eI (show k<r.length by omega)
  have g2:=aB eI hlt
  have w1:IntKind.i64.wrap (((k+1:Nat):Int)-1)=(k:Int):=by rw[yA _ (by omega) (by omega)];omega
  have w2:IntKind.i64.wrap (((k+1:Nat):Int)+1)=((k+1+1:Nat):Int):=yA _ (by omega) (by omega)
  rw[z2W r k hlt]at hp;by_cases hq:r[k+1]≤r[k]
  ·have:¬r[k]<r[k+1]:=by omega
   simp only[this,decide_false,Bool.false_and]at hp;simp only[go_sem,hlt,g1,g2,w1,hq];have e:qD f r=7:=by unfold qD;rw[←hp];rfl
   rw[e]at hK;exact hK
  ·have:r[k]<r[k+1]:=by omega
   simp only[this,decide_true,Bool.true_and]at hp;simp only[go_sem,hlt,g1,g2,w1,w2,hq];exact⟨k+1,rfl,⟨.inl (by omega),hp⟩,by omega⟩
 ·have hge':¬(((k+1:Nat):Int)<(r.length:Int)):=by omega
  rw[z2V r k hge]at hp;have c:=fun h K=>UW (h:=h) (K:=K) r (f.nets.headD 0) hr
  have g0:=HN h0
  unfold qD at hK;rw[←hp]at hK;simp only[Bool.true_eq_false,if_false]at hK;by_cases h5:f.kind=5
  ·cases hc:r.contains (f.nets.headD 0) with
   | true=>
    rw[hc]at hK;simp only[h5,and_self,if_true]at hK;rw[h5]at hh;simp only[go_sem,hge',hh,c,g0,hc];exact hK
   | false=>
    rw[hc]at hK;simp only[Bool.false_eq_true,and_false,if_false]at hK;rw[h5]at hh;simp only[go_sem,hge',hh,c,g0,hc];exact hK
  ·simp only[h5,false_and,if_false]at hK
   simp only[go_sem,hge',hh,h5];exact hK
theorem zi4 (f:Flt)(r:List Int)(hr:r.length≤1000000)(h0:0<f.nets.length){id:Nat}(hh:h[id]?=some (.box [AI f.kind,AL f.nets])){K:Ex→St→Prop}(hK:K .ret ⟨[(4,AI (qD f r))],h,[]⟩) :
 DH (eA X) X.gl MI iP (.ref id 0) (AL r) h [] K:=by
 simp only[DH,go_sem];refine LA (fun k:Nat=>⟨[(3,.ref id 0),(5,AL r),(6,AI ((k+1:Nat):Int))],h,[]⟩) (fun k=>(k+1≤r.length∨k=0)∧FE (r.drop k)=FE r) (fun k=>r.length-k) 0 rfl ⟨.inr rfl,by simp⟩ ?_
 rintro k ⟨hk,hp⟩
 rcases Nat.lt_or_ge (k+1) r.length with hlt|hge
 ·have g1:=aB eI (show k<r.length by omega)
  have g2:=aB eI hlt
  have w1:IntKind.i64.wrap (((k+1:Nat):Int)-1)=(k:Int):=by rw[yA _ (by omega) (by omega)];omega
  have w2:IntKind.i64.wrap (((k+1:Nat):Int)+1)=((k+1+1:Nat):Int):=yA _ (by omega) (by omega)
  rw[z2W r k hlt]at hp;by_cases hq:r[k+1]≤r[k]
  ·have:¬r[k]<r[k+1]:=by omega
   simp only[this,decide_false,Bool.false_and]at hp;simp only[go_sem,hlt,g1,g2,w1,hq];have e:qD f r=7:=by unfold qD;rw[←hp];rfl
   rw[e]at hK;exact hK
  ·have:r[k]<r[k+1]:=by omega
   simp only[this,decide_true,Bool.true_and]at hp;simp only[go_sem,hlt,g1,g2,w1,w2,hq];exact⟨k+1,rfl,⟨.inl (by omega),hp⟩,by omega⟩
 ·have hge':¬(((k+1:Nat):Int)<(r.length:Int)):=by omega
  rw[z2V r k hge]at hp;have c:=fun h K=>UW (h:=h) (K:=K) r (f.nets.headD 0) hr
  have g0:=HN h0
  unfold qD at hK;rw[←hp]at hK;simp only[Bool.true_eq_false,if_false]at hK;by_cases h5:f.kind=5
  ·cases hc:r.contains (f.nets.headD 0) with
   | true=>
    rw[hc]at hK;simp only[h5,and_self,if_true]at hK;rw[h5]at hh;simp only[go_sem,hge',hh,c,g0,hc];exact hK
   | false=>
    rw[hc]at hK;simp only[Bool.false_eq_true,and_false,if_false]at hK;rw[h5]at hh;simp only[go_sem,hge',hh,c,g0,hc];exact hK
  ·simp only[h5,false_and,if_false]at hK
   simp only[go_sem,hge',hh,h5];exact hK
theorem lJ (k:Int):eA X GG [AI k] h K=K (AB (IE k)) h []:=by
 refine CA ?_;rw[z7B rfl];have e:(!(decide (k<3)||decide (5<k)))=IE k:=by unfold IE;rw[Bool.eq_iff_iff];simp
 simp only[tM,go_sem,fG,e]
theorem mJ (k:Int):eA X PH [AI k] h K=K (AB (IE k)) h []:=by
 refine CA ?_;rw[z8h rfl];simp only[SM,go_sem,gG];rfl
theorem z6B {p:Int→Bool}{l:List Int}{k:Nat}(hk:k<l.length)(hp:(l.drop k).any p=l.any p):(p l[k]||(l.drop (k+1)).any p)=l.any p:=by
 rw[List.drop_eq_getElem_cons hk,List.any_cons]at hp;exact hp
attribute [-go_sem] zH DH
theorem ziA (n:Int)(f:Flt)(hn : -1000000000000000≤n)(hl:f.nets.length≤1000000):eA X KH [AI n,.p f.pv] h K=K (AI (uB n f)) h []:=by
 refine CA ?_;rw[z7x rfl];unfold uB;by_cases h1:n<1∨100<n
 ·have e:(decide (n<1)||decide (100<n))=true:=by rw[Bool.or_eq_true,decide_eq_true_eq,decide_eq_true_eq];exact h1
  simp only[yF,Flt.pv,go_sem,fG,e,h1]
 have e1:(decide (n<1)||decide (100<n))=false:=by rw[Bool.or_eq_false_iff,decide_eq_false_iff_not,decide_eq_false_iff_not];omega
 by_cases h2:f.kind<1∨6<f.kind
 ·have e:(decide (f.kind<1)||decide (6<f.kind))=true:=by rw[Bool.or_eq_true,decide_eq_true_eq,decide_eq_true_eq];exact h2
  simp only[yF,Flt.pv,go_sem,fG,e1,e,h1,h2]
 have e2:(decide (f.kind<1)||decide (6<f.kind))=false:=by rw[Bool.or_eq_false_iff,decide_eq_false_iff_not,decide_eq_false_iff_not];omega
 by_cases h3:f.nets.length=0
 ·simp only[yF,Flt.pv,go_sem,fG,e1,e2,h1,h2,h3]
 have h3':¬((f.nets.length:Int)=0):=by omega
 by_cases h4:6<f.nets.length
 ·have h4':(6:Int)<f.nets.length:=by omega
  simp only[yF,Flt.pv,go_sem,fG,e1,e2,h1,h2,h3,h3',h4,h4']
 have h4':¬(6:Int)<f.nets.length:=by omega
 simp only[yF,Flt.pv,go_sem,fG,e1,e2,h1,h2,h3,h3',h4,h4'];refine LA (fun k:Nat=>⟨[(0,AI n),(3,.ref h.length 0),(27,AL f.nets),(28,AI f.nets.length),(29,AI k)],h++[.box [AI f.kind,AL f.nets]],[]⟩) (fun k=>k≤f.nets.length∧(f.nets.drop k).any (GC n)=f.nets.any (GC n)) (fun k=>f.nets.length-k) 0 rfl ⟨by omega,by simp⟩ ?_
 rintro k ⟨hk,hp⟩
 have w1:IntKind.i64.wrap (n-1)=n-1:=yA _ (by omega) (by omega)
 rcases Nat.lt_or_ge k f.nets.length with hlt|hge
 ·have hg:=aB eI hlt
  have w2:IntKind.i64.wrap ((k:Int)+1)=((k+1:Nat):Int):=yA _ (by omega) (by omega)
  have hp2:=z6B hlt hp
  cases ho:GC n f.nets[k]with
  | true=>
   rw[ho,Bool.true_or]at hp2;unfold GC at ho;simp only[go_sem,hlt,hg,w1,fG,ho,←hp2]
  | false=>
   rw[ho,Bool.false_or]at hp2;unfold GC at ho;simp only[go_sem,hlt,hg,w1,fG,ho,w2];exact⟨k+1,rfl,⟨by omega,hp2⟩,by omega⟩
 ·have e1:k=f.nets.length:=by omega
  subst e1;rw[List.drop_length]at hp;rw[←hp];simp only[List.any_nil,Bool.false_eq_true,if_false];have hi:(1<(f.nets.length:Int))=(1<f.nets.length):=by simp only[eq_iff_iff];omega
  have h0:0<f.nets.length:=by omega
  have hh:(h++[Obj.box [AI f.kind,AL f.nets]])[h.length]?=some (.box [AI f.kind,AL f.nets]):=DJ _ _
  have R:=fun r hr (K:Ex→St→Prop)=>zi3 (h:=h++[Obj.box [AI f.kind,AL f.nets]]) f r hr h0 hh (K:=K)
  obtain⟨kd,ns⟩:=f;dsimp only at *;have hw:win (ns.map eI) 1 (ns.length-1)=(ns.drop 1).map eI:=by rw[z4x];congr 1;unfold win;exact List.take_of_length_le (by simp)
  have hle:1≤ns.length:=h0
  by_cases h6:kd=5
  ·subst h6
   have s5:IE 5=true:=rfl
   by_cases hm:1<ns.length
   ·have q:=R (ns.drop 1) (by simp;omega)
    simp only[go_sem,Nat.lt_irrefl,lJ,s5,hi,hm,hw,hle];refine q _ ?_;simp only[go_sem,qD]
   ·simp only[go_sem,Nat.lt_irrefl,lJ,s5,hi,hm]
  ·have q:=R ns hl
   cases hs:IE kd with
   | true=>
    by_cases hm:1<ns.length
    ·simp only[go_sem,Nat.lt_irrefl,lJ,hs,hi,hm,h6]
     refine q _ ?_;simp only[go_sem,qD,h6]
    ·simp only[go_sem,Nat.lt_irrefl,lJ,hs,hi,hm]
   | false=>
    by_cases hm:1<ns.length
    ·simp only[go_sem,Nat.lt_irrefl,lJ,hs,hi,hm]
    ·simp only[go_sem,Nat.lt_irrefl,lJ,hs,hi,hm,h6]
     refine q _ ?_;simp only[go_sem,qD,h6]
theorem s_FF1 (n x:Int)(hn : -1000000000000000≤n)(hn2:n≤100)(id:Nat)(hh:h[id]?=some (.box [AI n])):eA X MG [AI x,.ref id 0] h K=K (AB (GC n x)) h []:=by
 refine CA ?_;rw[z8d rfl];have w1:IntKind.i64.wrap (n-1)=n-1:=yA _ (by omega) (by omega)
 have e:(!(decide (0≤x)&&decide (x≤n-1)))=GC n x:=by
  unfold GC;rw[Bool.eq_iff_iff];simp
 simp only[PM,go_sem,hh,w1,gG,e]
theorem ziF (n:Int)(f:Flt)(hn : -1000000000000000≤n)(hl:f.nets.length≤1000000):eA X tK [AI n,.p f.pv] h K=K (AI (uB n f)) h []:=by
 refine CA ?_;rw[z8c rfl];unfold uB;by_cases h1:n<1∨100<n
 ·have e:(decide (1≤n)&&decide (n≤100))=false:=by rw[Bool.and_eq_false_iff,decide_eq_false_iff_not,decide_eq_false_iff_not];omega
  simp only[VE,Flt.pv,go_sem,gG,e,h1]
 have e1:(decide (1≤n)&&decide (n≤100))=true:=by rw[Bool.and_eq_true,decide_eq_true_eq,decide_eq_true_eq];omega
 by_cases h2:f.kind<1∨6<f.kind
 ·have e:(decide (1≤f.kind)&&decide (f.kind≤6))=false:=by rw[Bool.and_eq_false_iff,decide_eq_false_iff_not,decide_eq_false_iff_not];omega
  simp only[VE,Flt.pv,go_sem,gG,e1,e,h1,h2]
 have e2:(decide (1≤f.kind)&&decide (f.kind≤6))=true:=by rw[Bool.and_eq_true,decide_eq_true_eq,decide_eq_true_eq];omega
 by_cases h3:f.nets.length=0
 ·simp only[VE,Flt.pv,go_sem,gG,e1,e2,h1,h2,h3]
 have h3':¬((f.nets.length:Int)=0):=by omega
 by_cases h4:6<f.nets.length
 ·have h4':(6:Int)<f.nets.length:=by omega
  simp only[VE,Flt.pv,go_sem,gG,e1,e2,h1,h2,h3,h3',h4,h4']
 have h4':¬(6:Int)<f.nets.length:=by omega
 have T:oH MG [.ref h.length 0] (fun x=>GC n (unI x)) (f.nets.map eI) (h++[.box [AI n],.box [AI f.kind,AL f.nets]]):=by
  intro x hx K;obtain⟨m,_,rfl⟩:=List.mem_map.1 hx;exact s_FF1 n m hn (by omega) h.length (by rw[DJ];rfl)
 have C:=fun K=>z4I (K:=K) T gX (by simp;omega)
 have ea:(f.nets.map eI).any (fun x=>GC n (unI x))=f.nets.any (GC n):=by rw[List.any_map];rfl
 rw[ea]at C;cases ha:f.nets.any (GC n) with
 | true=>
  rw[ha]at C;simp only[VE,Flt.pv,go_sem,gG,e1,e2,h1,h2,h3,h3',h4,h4',C]
 | false=>
 rw[ha]at C;simp only[VE,Flt.pv,go_sem,gG,e1,e2,h1,h2,h3,h3',h4,h4',C];have hi:(1<(f.nets.length:Int))=(1<f.nets.length):=by simp only[eq_iff_iff];omega
 have h0:0<f.nets.length:=by omega
 have hh:(h++[.box [AI n],Obj.box [AI f.kind,AL f.nets]])[h.length+1]?=some (.box [AI f.kind,AL f.nets]):=by rw[sF];rfl
 have R:=fun r hr (K:Ex→St→Prop)=>zi4 (h:=h++[.box [AI n],Obj.box [AI f.kind,AL f.nets]]) f r hr h0 hh (K:=K)
 obtain⟨kd,ns⟩:=f;dsimp only at *;have hw:win (ns.map eI) 1 (ns.length-1)=(ns.drop 1).map eI:=by rw[z4x];congr 1;unfold win;exact List.take_of_length_le (by simp)
 have hle:1≤ns.length:=h0
 by_cases h6:kd=5
 ·subst h6
  have s5:IE 5=true:=rfl
  by_cases hm:1<ns.length
  ·have q:=R (ns.drop 1) (by simp;omega)
   simp only[go_sem,mJ,s5,hi,hm,hw,hle];refine q _ ?_;simp only[go_sem,qD]
  ·simp only[go_sem,mJ,s5,hi,hm]
 ·have q:=R ns hl
  cases hs:IE kd with
  | true=>
   by_cases hm:1<ns.length
   ·simp only[go_sem,mJ,hs,hi,hm,h6]
    refine q _ ?_;simp only[go_sem,qD,h6]
   ·simp only[go_sem,mJ,hs,hi,hm]
  | false=>
   by_cases hm:1<ns.length
   ·simp only[go_sem,mJ,hs,hi,hm]
   ·simp only[go_sem,mJ,hs,hi,hm,h6]
    refine q _ ?_;simp only[go_sem,qD,h6]
end Go.Am
end
section
/- Lists of faults: what is wrong with them,both ways. -/
open Go
set_option linter.all false
namespace Go.Am
variable {h:aA} {K:jA}
theorem z1i {f:Flt}:qB (some 2) 0 f.pv=some f.pv:=rfl
def PB (t:List (List UInt8))(l:List Flt):Int:=if vC t≠0 then vC t else eF t.length l
theorem ziU (t:List (List UInt8))(l:List Flt)(hb:∀ s∈t,s.length≤1000000)(ht:t.length≤1000000)(hf:∀ f∈l,f.nets.length≤1000000)(hn:l.length≤1000000):eA X FG [nB t,xC l] h K=K (AI (PB t l)) h []:=by
 refine CA ?_;rw[z7A rfl];have c:=fun h K=>z3p (h:=h) (K:=K) t hb ht
 unfold PB;by_cases h1:vC t=0
 case neg=>simp only[QJ,go_sem,c,h1]
 simp only[QJ,go_sem,c,h1];refine LA (fun k:Nat=>⟨[(0,nB t),(14,xC l),(15,AI l.length),(16,AI k)],h,[]⟩) (fun k=>k≤l.length∧eF (t.length:Int) (l.drop k)=eF (t.length:Int) l) (fun k=>l.length-k) 0 rfl ⟨by omega,by simp⟩ ?_
 rintro k ⟨hk,hp⟩
 rcases Nat.lt_or_ge k l.length with hlt|hge
 ·have hg:=aB Flt.pv hlt
  have w2:IntKind.i64.wrap ((k:Int)+1)=((k+1:Nat):Int):=yA _ (by omega) (by omega)
  have e:=fun h K=>ziA (h:=h) (K:=K) (t.length:Int) l[k] (by omega) (hf _ (List.getElem_mem hlt))
  have cx:=z1i (f:=l[k])
  rw[List.drop_eq_getElem_cons hlt,eF]at hp;simp only[Flt.pv]at hg cx e;by_cases h2:uB (t.length:Int) l[k]=0
  ·rw[if_neg (by simp [h2])]at hp
   simp only[go_sem,hlt,hg,cx,e,h2,w2];exact⟨k+1,rfl,⟨by omega,hp⟩,by omega⟩
  ·rw[if_pos h2]at hp
   simp only[go_sem,hlt,hg,cx,e,h2];rw[←hp]
 ·have ek:k=l.length:=by omega
  subst ek;rw[List.drop_length]at hp;simp only[go_sem,Nat.lt_irrefl];rw[←hp];rfl
end Go.Am
end
section
/- Rows of a test asv numbers. -/
open Go
set_option linter.all false
namespace Go.Am
variable {h:aA} {K:jA}
abbrev eU (n:Nat):PV:=.int .u64 (n:Int)
theorem z3S {lg:Nat}:∀{t:List (List UInt8)},VD lg t=0→∀s∈t,oB s=true∧s.length=lg∧s.length≤64
 | [],_,s,hs=>by cases hs
 | a::r,h,s,hs=>by
  unfold VD at h;split at h
  ·cases h
  split at h
  ·cases h
  split at h
  ·cases h
  rename_i h1 h2 h3;rcases List.mem_cons.1 hs with rfl|hs
  ·exact⟨by simpa using h1,by simpa using h3,by omega⟩
  ·exact z3S h s hs
structure TestOk (t:List (List UInt8)) (lg:Nat):Prop where
 n0:0<t.length
 n1:t.length≤100
 l:lg≤64
 b:∀s∈t,oB s=true
 e:∀s∈t,s.length=lg
theorem uJ {t:List (List UInt8)}(h:vC t=0):TestOk t (t.headD []).length:=by
 unfold vC at h;split at h
 ·cases h
 split at h
 ·cases h
 have k:=z3S h
 have hm:t.headD []∈t:=by
  cases t with
  | nil=>rename_i h0 _;exact absurd rfl h0
  | cons a r=>exact List.mem_cons_self ..
 exact⟨by omega,by omega,(k _ hm).2.2,fun s hs=>(k s hs).1,fun s hs=>(k s hs).2.1⟩
theorem ziZ (t:List (List UInt8))(hb:∀ s∈t,oB s=true)(hl:∀ s∈t,s.length≤64)(hn:t.length≤1000000):eA X HG [nB t] h K=K (.own h.length t.length 0 t.length) (h++[.row none ((t.map MA).map eU) 0]) []:=by
 refine CA ?_;rw[z7F rfl];simp only[wM,go_sem];refine LA (fun k:Nat=>⟨[(3,.own h.length k 0 k),(8,nB t),(9,AI t.length),(10,AI k)],h++[.row none (((t.take k).map MA).map eU) 0],[]⟩) (fun k=>k≤t.length) (fun k=>t.length-k) 0 rfl (by omega) ?_
 intro k hk;rcases Nat.lt_or_ge k t.length with hlt|hge
 ·have hg:=aB PV.str hlt
  have w2:IntKind.i64.wrap ((k:Int)+1)=((k+1:Nat):Int):=yA _ (by omega) (by omega)
  have b1:=hb _ (List.getElem_mem hlt)
  have l1:=hl _ (List.getElem_mem hlt)
  have cx:qB none 0 (PV.str t[k])=some (PV.str t[k]):=rfl
  simp only[go_sem,hlt,hg,cx];generalize hs:t[k]=s at *;refine LA (fun i:Nat=>⟨[(3,.own h.length k 0 k),(5,AS s),(6,.p (eU (MA (s.take i)))),(8,nB t),(9,AI t.length),(10,AI k),(15,AI s.length),(16,AI i)],h++[.row none (((t.take k).map MA).map eU) 0],[]⟩) (fun i=>i≤s.length) (fun i=>s.length-i) 0 rfl (by omega) ?_
  intro i hi;rcases Nat.lt_or_ge i s.length with hlt2|hge2
  ·have g2:s[i]?=some s[i]:=List.getElem?_eq_getElem hlt2
   have w3:IntKind.i64.wrap ((i:Int)+1)=((i+1:Nat):Int):=yA _ (by omega) (by omega)
   have bt:=z7k hlt2 b1
   have e1:IntKind.u8.wrap ((s[i].toNat:Int)-48)=((s[i].toNat-48:Nat):Int):=by
    rcases bt with e|e <;> rw[e] <;> rfl
   have hsm:s[i].toNat-48≤1:=by rcases bt with e|e <;> rw[e] <;> decide
   have e2:IntKind.u64.wrap ((s[i].toNat-48:Nat):Int)=((s[i].toNat-48:Nat):Int):=kG _ (by omega)
   have hp:(2:Nat)^i≤2^63:=Nat.pow_le_pow_right (by omega) (by omega)
   have hp2:(2:Nat)^63=9223372036854775808:=rfl
   have hm:(s[i].toNat-48)*2^i≤1*2^i:=Nat.mul_le_mul_right _ hsm
   have e3:=MU (a:=s[i].toNat-48) (i:=i) (by omega) (by omega)
   have hr:=SP (s.take i) (vY i b1)
   rw[List.length_take,Nat.min_eq_left (by omega)]at hr
   have e4:=JN (a:=MA (s.take i)) (b:=(s[i].toNat-48)*2^i) (by omega) (by omega)
   rw[zi5 hlt2 b1]at e4;have hneg:¬((i:Int)<0):=by omega
   simp only[go_sem,hlt2,g2,e1,e2,e3,e4,w3,hneg];exact⟨i+1,rfl,by omega,by omega⟩
  ·have ei:i=s.length:=by omega
   subst ei;have hmx:k+1≤IA:=by unfold IA;omega
   have hlen:(((t.take k).map MA).map eU).length=k:=by simp;omega
   simp only[go_sem,Nat.lt_irrefl,List.take_length,w2,hmx,hlen];refine⟨k+1,?_,by omega,by omega⟩
   rw[List.take_succ_eq_append_getElem hlt,hs];simp
 ·have ek:k=t.length:=by omega
  subst ek;simp only[go_sem,Nat.lt_irrefl,List.take_length];exact List.take_of_length_le (by simp)
theorem XW (n:Nat)(hn:n≤64):eA X uE [AI n] h K=K (.p (eU (2^n-1))) h []:=by
 refine CA ?_;rw[z7G rfl];have hneg:¬((n:Int)<0):=by omega
 have hpos:=Nat.two_pow_pos n
 have e:IntKind.u64.wrap (NF .u64 1 (n:Int)-1)=((2^n-1:Nat):Int):=by
  by_cases h64:n=64
  ·subst h64;rfl
  ·have hp:(2:Nat)^n≤2^63:=Nat.pow_le_pow_right (by omega) (by omega)
   have hp2:(2:Nat)^63=9223372036854775808:=rfl
   have:=MU (a:=1) (i:=n) hn (by omega)
   rw[Nat.one_mul]at this;rw[show((1:Nat):Int)=1 from rfl]at this
   rw[this,show((2^n:Nat):Int)-1=((2^n-1:Nat):Int) by omega]
   exact kG _ (by omega)
 simp only[xM,go_sem,hneg,e]
end Go.Am
end
section
/- Faults on rows: what the program makes of them. -/
open Go
set_option linter.all false
namespace Go.Am
variable {h:aA} {K:jA}
theorem bX {h t:aA}{id:Nat}(hid:id<h.length)(o:Obj):(h.set id o++t)[id]?=some o:=by
 rw[List.getElem?_append_left (by simpa using hid)];exact mE hid
theorem z3J {h t:aA}{id:Nat}(hid:id<h.length)(o o':Obj):(h.set id o++t).set id o'=h.set id o'++t:=by
 rw[List.set_append_left _ _ (by simpa using hid),List.set_set]
theorem cX {h t:aA}{id:Nat}(o:Obj):(h.set id o++t).take h.length=h.set id o:=by
 have:h.length=(h.set id o).length:=by simp
 rw[this,List.take_left]
theorem z3I {h:aA}{id:Nat}(o b:Obj):(h.set id o++[b])[h.length]?=some b:=by
 have:h.length=(h.set id o).length:=by simp
 rw[this,DJ];rfl
theorem z1m {f:Nat→Int→Nat}{v:Nat}{l:List Int}{k:Nat}(hk:k<l.length):(l.take (k+1)).foldl f v=f ((l.take k).foldl f v) l[k]:=by
 rw[List.take_succ_eq_append_getElem hk,List.foldl_append];rfl
theorem MW {r:List Nat}{n:Int}(h0:0≤n)(h1:n<r.length):(r.map eU)[n.toNat]?=some (eU (VA r n)):=by
 rw[aB eU (show n.toNat<r.length by omega)]
 unfold VA;simp [List.getD_eq_getElem?_getD,List.getElem?_eq_getElem (show n.toNat<r.length by omega)]
def rF (ns:List Int)(n:Nat):Prop:=ns≠[]∧ns.length≤1000∧∀x∈ns,0≤x∧x<n
theorem zkn (f:Flt)(r:List Nat)(v:Nat)(hf:rF f.nets r.length){id:Nat}(hid:id<h.length)(hr:r.length≤1000000){K:Ex→St→Prop}
 (hK:∀e,K .normal ⟨e,h.set id (.row none ((ZB v f.nets r).map eU) 0)++[.box [AI f.kind,AL f.nets]],[]⟩) :
 zF (eA X) X.gl YF (.own id r.length 0 r.length) (.ref h.length 0) (.p (eU v)) (h.set id (.row none (r.map eU) 0)++[.box [AI f.kind,AL f.nets]]) [] K:=by
 have sg:=fun o=>bX (t:=[.box [AI f.kind,AL f.nets]]) hid o
 have ss:=fun o o'=>z3J (t:=[.box [AI f.kind,AL f.nets]]) hid o o'
 have sb:=fun o=>z3I (h:=h) (id:=id) o (.box [AI f.kind,AL f.nets])
 simp only[zF,go_sem,sb];refine LA (fun k:Nat=>⟨[(0,.own id r.length 0 r.length),(6,.p (eU v)),(61,AL f.nets),(62,AI f.nets.length),(63,AI k)],h.set id (.row none ((ZB v (f.nets.take k) r).map eU) 0)++[.box [AI f.kind,AL f.nets]],[]⟩) (fun k=>k≤f.nets.length) (fun k=>f.nets.length-k) 0 rfl (by omega) ?_
 intro k hk;rcases Nat.lt_or_ge k f.nets.length with hlt|hge
 ·have hg:=aB eI hlt
  have hn:=hf.2.2 _ (List.getElem_mem hlt)
  have w2:IntKind.i64.wrap ((k:Int)+1)=((k+1:Nat):Int):=yA _ (by have:=hf.2.1;omega) (by have:=hf.2.1;omega)
  have e4:=AE (k:=.i64) hn.1
  have hl:=aX v (f.nets.take k) r
  have hs:ZB v (f.nets.take (k+1)) r=(ZB v (f.nets.take k) r).set f.nets[k].toNat v:=by rw[List.take_succ_eq_append_getElem hlt,z3G]
  have hlt3:f.nets[k].toNat<r.length:=by omega
  have gq:((ZB v (f.nets.take k) r).map eU)[f.nets[k].toNat]?=some (eU ((ZB v (f.nets.take k) r).getD f.nets[k].toNat 0)):=by
   rw[aB eU (by rw[hl];exact hlt3)]
   simp [List.getD_eq_getElem?_getD,List.getElem?_eq_getElem (show f.nets[k].toNat<(ZB v (f.nets.take k) r).length by rw[hl];exact hlt3)]
  generalize ZB v (f.nets.take k) r=R at *;generalize f.nets[k]=m at *;simp only[go_sem,hlt,hg,e4,sg,ss,hl,hlt3,w2,gq];refine⟨k+1,?_,by omega,by omega⟩
  rw[hs,List.map_set]
 ·have ek:k=f.nets.length:=by omega
  subst ek;simp only[go_sem,Nat.lt_irrefl,List.take_length];exact hK _
attribute [-go_sem] zF
theorem zko (f:Flt)(r:List Nat)(hf:rF f.nets r.length){id:Nat}(hid:id<h.length)(hr:r.length≤1000000)(hb:∀ x∈r,x<18446744073709551616)(ones:Nat) :
 eA X IF [.own id r.length 0 r.length,.p f.pv,.p (eU ones)] (h.set id (.row none (r.map eU) 0)) K=K (.tup []) (h.set id (.row none ((DC r f ones).map eU) 0)) []:=by
 refine CA ?_;rw[z7H];have sg:=fun(t:aA) o=>bX (t:=t) hid o
 have sb:=fun o c=>z3I (h:=h) (id:=id) o c
 have st:=fun(t:aA) o=>cX (h:=h) (id:=id) (t:=t) o
 have h0:0<f.nets.length:=by have:=hf.1;exact List.length_pos_iff.2 this
 have hhd:f.nets.headD 0∈f.nets:=by
  cases hq:f.nets with
  | nil=>rw[hq]at h0;cases h0
  | cons a l=>simp
 have hn:=hf.2.2 _ hhd
 have g0:=HN h0
 have e4:=AE (k:=.i64) hn.1
 have hlt3:(f.nets.headD 0).toNat<r.length:=by omega
 have gq:=MW (r:=r) hn.1 hn.2
 have W:=fun v K hK=>zkn (h:=h) f r v hf hid hr (K:=K) hK
 have fin:∀v,(zF (eA X) X.gl YF (.own id r.length 0 r.length) (.ref h.length 0) (.p (eU v)) (h.set id (.row none (r.map eU) 0)++[.box [AI f.kind,AL f.nets]]) [] (oA [] false h.length fun v1 h1 x1=>v1=AV.tup []∧h1=h.set id (.row none ((DC r f ones).map eU) 0)∧x1=[]))∨v≠WC r f ones:=by
  intro v;by_cases hv:v=WC r f ones
  ·left
   refine W v _ (fun e=>?_)
   subst hv;simp only[go_sem,st];rfl
  ·right;exact hv
 have fin2:∀v,v=WC r f ones→zF (eA X) X.gl YF (.own id r.length 0 r.length) (.ref h.length 0) (.p (eU v)) (h.set id (.row none (r.map eU) 0)++[.box [AI f.kind,AL f.nets]]) [] (oA [] false h.length fun v1 h1 x1=>v1=AV.tup []∧h1=h.set id (.row none ((DC r f ones).map eU) 0)∧x1=[]):=fun v hv=>(fin v).resolve_right (fun h=>h hv)
 clear fin W;have hbq:∀n,VA r n<18446744073709551616:=z2X hb (by omega)
 by_cases k1:f.kind=1
 ·simp only[UE,Flt.pv,go_sem,sg,sb,g0,e4,hlt3,gq,k1,List.length_set]
  simp only[k1]at fin2;exact fin2 0 (by simp [WC,k1])
 by_cases k2:f.kind=2
 ·simp only[UE,Flt.pv,go_sem,sg,sb,g0,e4,hlt3,gq,k2,List.length_set]
  simp only[k2]at fin2;exact fin2 ones (by simp [WC,k2])
 by_cases k6:f.kind=6
 ·simp only[UE,Flt.pv,go_sem,sg,sb,g0,e4,hlt3,gq,k6,List.length_set]
  simp only[k6]at fin2;exact fin2 ones (by simp [WC,k6])
 by_cases k3:f.kind=3
 ·simp only[UE,Flt.pv,go_sem,sg,sb,g0,e4,hlt3,gq,k3,List.length_set]
  refine LA (fun k:Nat=>⟨[(0,.own id r.length 0 r.length),(4,.ref h.length 0),(6,.p (eU ((f.nets.take k).foldl (fun v n=>v &&& VA r n) (VA r (f.nets.headD 0))))),(31,AL f.nets),(32,AI f.nets.length),(33,AI k)],h.set id (.row none (r.map eU) 0)++[.box [AI 3,AL f.nets]],[]⟩) (fun k=>k≤f.nets.length) (fun k=>f.nets.length-k) 0 rfl (by omega) ?_
  intro k hk;rcases Nat.lt_or_ge k f.nets.length with hlt|hge
  ·have hg:=aB eI hlt
   have hnk:=hf.2.2 _ (List.getElem_mem hlt)
   have w2:IntKind.i64.wrap ((k:Int)+1)=((k+1:Nat):Int):=yA _ (by have:=hf.2.1;omega) (by have:=hf.2.1;omega)
   have e5:=AE (k:=.i64) hnk.1
   have gk:=MW (r:=r) hnk.1 hnk.2
   have hlt4:(f.nets[k]).toNat<r.length:=by omega
   have hfo:=z1m (f:=fun v n=>v &&& VA r n) (v:=VA r (f.nets.headD 0)) hlt
   have hbd:(f.nets.take k).foldl (fun v n=>v &&& VA r n) (VA r (f.nets.headD 0))<18446744073709551616:=QK (f:=(· &&& ·)) (fun a b ha hb=>by rw[←iC]at *;exact Nat.lt_of_le_of_lt Nat.and_le_left ha) (VA r) hbq _ _ (hbq _)
   generalize (f.nets.take k).foldl (fun v n=>v &&& VA r n) (VA r (f.nets.headD 0))=v at *
   have e6:=yE hbd (hbq f.nets[k])
   generalize f.nets[k]=m at *;simp only[go_sem,hlt,hg,sg,e5,gk,hlt4,e6,w2];exact⟨k+1,by rw[hfo],by omega,by omega⟩
  ·have ek:k=f.nets.length:=by omega
   subst ek;simp only[go_sem,Nat.lt_irrefl,List.take_length];simp only[k3]at fin2;exact fin2 _ (by simp [WC,k3])
 by_cases k4:f.kind=4
 ·simp only[UE,Flt.pv,go_sem,sg,sb,g0,e4,hlt3,gq,k4,List.length_set]
  refine LA (fun k:Nat=>⟨[(0,.own id r.length 0 r.length),(4,.ref h.length 0),(6,.p (eU ((f.nets.take k).foldl (fun v n=>v ||| VA r n) (VA r (f.nets.headD 0))))),(47,AL f.nets),(48,AI f.nets.length),(49,AI k)],h.set id (.row none (r.map eU) 0)++[.box [AI 4,AL f.nets]],[]⟩) (fun k=>k≤f.nets.length) (fun k=>f.nets.length-k) 0 rfl (by omega) ?_
  intro k hk;rcases Nat.lt_or_ge k f.nets.length with hlt|hge
  ·have hg:=aB eI hlt
   have hnk:=hf.2.2 _ (List.getElem_mem hlt)
   have w2:IntKind.i64.wrap ((k:Int)+1)=((k+1:Nat):Int):=yA _ (by have:=hf.2.1;omega) (by have:=hf.2.1;omega)
   have e5:=AE (k:=.i64) hnk.1
   have gk:=MW (r:=r) hnk.1 hnk.2
   have hlt4:(f.nets[k]).toNat<r.length:=by omega
   have hfo:=z1m (f:=fun v n=>v ||| VA r n) (v:=VA r (f.nets.headD 0)) hlt
   have hbd:(f.nets.take k).foldl (fun v n=>v ||| VA r n) (VA r (f.nets.headD 0))<18446744073709551616:=QK (f:=(· ||| ·)) (fun a b ha hb=>by rw[←iC]at *;exact Nat.or_lt_two_pow ha hb) (VA r) hbq _ _ (hbq _)
   generalize (f.nets.take k).foldl (fun v n=>v ||| VA r n) (VA r (f.nets.headD 0))=v at *
   have e6:=JN hbd (hbq f.nets[k])
   generalize f.nets[k]=m at *;simp only[go_sem,hlt,hg,sg,e5,gk,hlt4,e6,w2];exact⟨k+1,by rw[hfo],by omega,by omega⟩
  ·have ek:k=f.nets.length:=by omega
   subst ek;simp only[go_sem,Nat.lt_irrefl,List.take_length];simp only[k4]at fin2;exact fin2 _ (by simp [WC,k4])
 ·simp only[UE,Flt.pv,go_sem,sg,sb,g0,e4,hlt3,gq,k1,k2,k3,k4,k6,List.length_set]
  exact fin2 _ (by simp [WC,k1,k2,k3,k4,k6])
end Go.Am
end
section
/- Rows that are handed tov a function: it sees their values. -/
open Go
namespace Go.Am
theorem CR {X:Ctx}{f:Nat}{F:AFun}{a:List AV}{vs:List PV}{h h1:aA}{P:jA}(hf:X.fn f=some F)(hr:F.byref=false)(hp:nA h a=some (vs.map .p,h1))(hq:nA h1 (vs.map .p)=some (vs.map .p,h1))(hl:vs.length=F.nparams)(hlen:h1.length=h.length):eA X f a h P=eA X f (vs.map .p) h1 P:=by
 cases hO:mC F.results with
 | false=>
  cases hd:F.isDet with
  | false=>rw[DA hf hr hp (by simpa using hl) hd hO,DA hf hr hq (by simpa using hl) hd hO,hlen]
  | true=>rw[HJ hf hr hp (by simpa using hl) hd hO,HJ hf hr hq (by simpa using hl) hd hO,hlen]
 | true=>
  cases hd:F.isDet with
  | false=>rw[FY hf hr hp (by simpa using hl) hd hO,FY hf hr hq (by simpa using hl) hd hO,hlen]
  | true=>rw[GY hf hr hp (by simpa using hl) hd hO,GY hf hr hq (by simpa using hl) hd hO,hlen]
theorem z1p {h:aA}{id k:Nat}:(frz h id k).length=h.length:=by
 unfold frz;split <;> simp
end Go.Am
end
section
/- Responses,asv the program computes them. -/
open Go
set_option linter.all false
namespace Go.Am
variable {h:aA} {K:jA}
theorem zja (f:Flt)(r:List Nat)(hf:rF f.nets r.length){id:Nat}(hh:h[id]?=some (.row none (r.map eU) 0))(hr:r.length≤1000000)(hb:∀ x∈r,x<18446744073709551616)(ones:Nat) :
 eA X IF [.own id r.length 0 r.length,.p f.pv,.p (eU ones)] h K=K (.tup []) (h.set id (.row none ((DC r f ones).map eU) 0)) []:=by
 have:=zko (h:=h) (K:=K) f r hf (gF hh) hr hb ones;rw[HE hh]at this;exact this
theorem z3V:∀ s:List UInt8,mF (ZA s)=some s
 | []=>rfl
 | c::r=>by
  show mF (.int .u8 c.toNat::ZA r)=_
  unfold mF;have:((c.toNat:Int))<256:=by have:=c.toNat_lt;omega
  rw[if_pos ⟨by omega,this⟩,z3V r]
  simp
theorem z1h {n:Int}{f:Flt}(h:uB n f=0):f.nets≠[]∧f.nets.length≤6∧(∀x∈f.nets,0≤x∧x<n)∧1≤f.kind∧f.kind≤6∧IE f.kind=decide (1<f.nets.length):=by
 unfold uB at h;split at h
 ·cases h
 split at h
 ·cases h
 split at h
 ·cases h
 split at h
 ·cases h
 split at h
 ·cases h
 split at h
 ·cases h
 rename_i h1 h2 h3 h4 h5 h6;refine⟨fun e=>h3 (by rw[e];rfl),by omega,fun x hx=>?_,by omega,by omega,Decidable.not_not.1 h6⟩
 have:GC n x=false:=by
  cases hq:GC n x with
  | false=>rfl
  | true=>exact absurd (List.any_eq_true.2 ⟨x,hx,hq⟩) h5
 unfold GC at this;rw[Bool.or_eq_false_iff,decide_eq_false_iff_not,decide_eq_false_iff_not]at this;omega
theorem z1g {n:Nat}{f:Flt}(h:uB n f=0):rF f.nets n:=by
 obtain⟨h1,h2,h3,_⟩:=z1h h;exact⟨h1,by omega,h3⟩
theorem z1j {n:Int}:∀{l:List Flt},eF n l=0→∀f∈l,uB n f=0
 | [],_,f,hf=>by cases hf
 | g::r,h,f,hf=>by
  unfold eF at h;split at h
  ·rename_i h1;exact absurd h h1
  ·rename_i h1
   rcases List.mem_cons.1 hf with rfl|hf
   ·exact Decidable.not_not.1 h1
   ·exact z1j h f hf
theorem zeY (lg:Nat):2^lg-1<2^lg:=by have:=Nat.two_pow_pos lg;omega
theorem le64 {lg:Nat}(h:lg≤64):2^lg≤18446744073709551616:=by rw[←iC];exact Nat.pow_le_pow_right (by omega) h
theorem PW {t:List (List UInt8)}{lg:Nat}(T:TestOk t lg):∀x∈t.map MA,x<2^lg:=by
 intro x hx;obtain⟨s,hs,rfl⟩:=List.mem_map.1 hx;have:=SP s (T.b s hs);rwa [T.e s hs]at this
end Go.Am
end
section
/- Sorting the middle of a row: printed by program. -/
open Go
set_option linter.unusedSimpArgs false
namespace Go.Am
attribute [-go_sem] PV.cells splice
variable {h:aA} {K:jA}
theorem zdq (id n o:Nat)(pre l tl:List PV)(ho:pre.length=o)(hn:n=o+(l.length+tl.length))(hs:KC none l)(hl:l.length≤1000)(hh:h[id]?=some (.row none (pre++(l++tl)) 0)){lt:PV→PV→Bool}(hc:∀ x∈l,∀ y∈l,∀ (h:aA) (K:jA),eA X XE [.p x,.p y] h K=K (AB (lt x y)) h []) :
 eA X HK [.own id n o l.length,AI 0,AI l.length] h K=K (.tup []) (h.set id (.row none (pre++(UB lt l++tl)) 0)) []:=by
 refine CA ?_;rw[z8y];have hid:=gF hh
 have hst:∀o,(h.set id o)[id]?=some o:=fun o=>mE hid
 have pg:∀(r:List PV) k,(pre++r)[o+k]?=r[k]?:=fun r k=>by rw[←ho,sF]
 have ps:∀(r:List PV) k v,(pre++r).set (o+k) v=pre++r.set k v:=fun r k v=>by rw[←ho,EJ]
 simp only[jN,go_sem,show IntKind.i64.wrap 1=1 from rfl]
 refine LA (fun i:Nat=>⟨[(0,.own id n o l.length),(1,AI 0),(2,AI l.length),(6,AI i)],h.set id (.row none (pre++((ZC lt (l.take i)).reverse++(l.drop i++tl))) 0),[]⟩) (fun i=>1≤i∧(i≤l.length∨i=1)) (fun i=>l.length-i) 1 ?_ (by simp) ?_
 ·have:(ZC lt (l.take 1)).reverse++(l.drop 1++tl)=l++tl:=by cases l <;> rfl
  rw[this,HE hh];rfl
 rintro i ⟨hi1,hi2⟩
 rcases Nat.lt_or_ge i l.length with hlt|hge
 ·simp only[go_sem,hlt]
  have hxl:l[i]∈l:=List.getElem_mem hlt
  generalize hx:l[i]=x at *;generalize hR:ZC lt (l.take i)=R;have hRl:R.length=i:=by rw[←hR,z1N];simp;omega
  have hRm:∀z∈R,z∈l:=fun z hz=>List.mem_of_mem_take ((KN lt (l.take i)).mem_iff.1 (by rw[hR];exact hz))
  have hdrop:l.drop i=x::l.drop (i+1):=by rw[←hx];exact List.drop_eq_getElem_cons hlt
  have hnext:ZC lt (l.take (i+1))=SB lt x R:=by rw[z1P _ _ _ hlt,hR,hx]
  refine LA (fun t:List PV×List PV=>⟨[(0,.own id n o l.length),(1,AI 0),(2,AI l.length),(6,AI i),(7,AI t.1.length)],h.set id (.row none (pre++(t.1.reverse++x::t.2)) 0),[]⟩)
   (fun t=>∃B,R=B++t.1∧t.2=B.reverse++(l.drop (i+1)++tl)∧∀b∈B,lt x b=true) (fun t=>t.1.length) (R,l.drop (i+1)++tl) (by rw[hdrop,hRl];rfl) ⟨[],rfl,rfl,by simp⟩ ?_
  rintro⟨A,C⟩ ⟨B,q1,q2,q3⟩
  dsimp only at q1 q2 q3;have hlen:(pre++(A.reverse++x::C)).length=n:=by
   have:R.length=B.length+A.length:=by rw[q1];simp
   rw[q2];simp;omega
  have hBA:B.length+A.length<l.length:=by
   have:R.length=B.length+A.length:=by rw[q1];simp
   omega
  have hln:o+l.length≤n:=by omega
  have w1:IntKind.i64.wrap ((i:Int)+1)=((i+1:Nat):Int):=yA _ (by omega) (by omega)
  cases A with
  | nil=>
   have hd:SB lt x R=B++[x]:=by rw[q1];exact IN lt x [] B q3 (fun y r h=>by cases h)
   simp only[go_sem,Int.lt_irrefl,w1];refine⟨i+1,?_,by omega,by omega⟩
   simp only[hnext,hd,q2,List.reverse_append,List.reverse_nil,List.nil_append,List.reverse_cons,List.append_assoc,List.cons_append]
  | cons y A=>
   have hyl:y∈l:=hRm y (by rw[q1];simp)
   have g1:=z1K (y::A) C x
   have g2:=z1L A C x y
   have sw:=z1M A C x y
   simp only[List.length_cons]at hBA;generalize hrow:(y::A).reverse++x::C=row at *;have hsl:∀k v,(pre++row.set k v).length=n:=fun k v=>by rw[←hlen];simp
   simp only[List.length_cons]at g1;have w2:IntKind.i64.wrap (((A.length+1:Nat):Int)-1)=(A.length:Int):=by rw[yA _ (by omega) (by omega)];omega
   have p1:(0:Int)<((A.length+1:Nat):Int):=by omega
   have b1:A.length+1<l.length:=by omega
   have b2:A.length<l.length:=by omega
   have cx:=nE (hs x hxl)
   have cy:=nE (hs y hyl)
   have hcc:=fun h K=>hc x hxl y hyl h K
   cases hxy:lt x y with
   | false=>
    have hd:SB lt x R=B++x::y::A:=by rw[q1];exact IN lt x (y::A) B q3 (fun z r h=>by cases h;exact hxy)
    simp only[go_sem,hst,p1,hlen,pg,ps,g1,g2,w2,b1,b2,hln,cx,cy,hcc,hxy,w1];refine⟨i+1,?_,by omega,by omega⟩
    simp only[hnext,hd,←hrow,q2,List.reverse_append,List.reverse_cons,List.append_assoc,List.cons_append,List.nil_append]
   | true=>
    have g3:(row.set (A.length+1) y)[A.length]?=some y:=by rw[List.getElem?_set_ne (by omega),g2]
    have lx:=qJ (hs x hxl)
    have ly:=qJ (hs y hyl)
    have sx:=pJ (hs x hxl)
    have sy:=pJ (hs y hyl)
    simp only[gA]at lx ly;have t1:=fun i xs h1=>rJ (hs x hxl) (hs y hyl) id i 0 xs h1
    have t2:=fun i xs h1=>rJ (hs y hyl) (hs x hxl) id i 0 xs h1
    simp only[go_sem,hst,p1,hlen,hsl,pg,ps,g1,g2,g3,w2,b1,b2,hln,cx,cy,hcc,hxy,lx,ly,sx,sy,t1,t2,sw];refine⟨(A,y::C),rfl,⟨B++[y],by simp [q1],by simp [q2],fun b hb=>?_⟩,by simp⟩
    rw[List.mem_append,List.mem_singleton]at hb;rcases hb with hb|rfl
    ·exact q3 b hb
    ·exact hxy
 ·have hge':¬i<l.length:=by omega
  have e1:l.take i=l:=List.take_of_length_le hge
  have e2:l.drop i=[]:=List.drop_of_length_le hge
  simp only[go_sem,hge',e1,e2];rfl
theorem z5j (id n o:Nat)(pre l tl:List PV)(ho:pre.length=o)(hn:n=o+(l.length+tl.length))(hs:KC none l)(hl:l.length≤12)(hh:h[id]?=some (.row none (pre++(l++tl)) 0)){lt:PV→PV→Bool}(hc:∀ x∈l,∀ y∈l,∀ (h:aA) (K:jA),eA X XE [.p x,.p y] h K=K (AB (lt x y)) h []) :
 eA X wE [.own id n o l.length] h K=K (.tup []) (h.set id (.row none (pre++(UB lt l++tl)) 0)) []:=by
 refine CA ?_;rw[z8u];have w0:IntKind.u64.wrap (l.length:Int)=l.length:=z4c _ (by omega) (by omega)
 obtain⟨m,hm⟩:=z1X (l.length:Int) (by omega) (by omega)
 have is:=fun h' (hq:h'=h) K=>zdq (h:=h) (K:=K) id n o pre l tl ho hn hs (by omega) hh hc
 have key:∀K:jA,eA X NG [.own id n o l.length,AI 0,AI l.length,AI m] h K=K (.tup []) (h.set id (.row none (pre++(UB lt l++tl)) 0)) []:=by
  intro K;refine CA ?_;rw[z80];simp only[mN,go_sem];refine LA (fun _:Unit=>⟨[(0,.own id n o l.length),(1,AI 0),(2,AI l.length),(3,AI m),(8,AB true),(9,AB true)],h,[]⟩) (fun _=>True) (fun _=>0) () rfl trivial ?_
  intro _ _;have w1:IntKind.i64.wrap ((l.length:Int)-0)=l.length:=by rw[yA _ (by omega) (by omega)];omega
  have b1:((l.length:Int)≤12):=by omega
  simp only[go_sem,w1,b1,is _ rfl]
 simp only[eN,go_sem,w0,hm,key]
end Go.Am
end
section
/- What is drawn: orders,tests. -/
open Go
set_option linter.all false
namespace Go.Am
variable {L:List Int} {a:Int} {h l:aA} {id:Nat} {K:jA}
def mH (f:Nat)(args:List AV)(L:List Int)(a:Int)(sh:Sh)(Q:List PV→Int→Prop):Prop:=∀(h:aA) (id:Nat),h[id]?=some (rA L a)→∃xs a2,Q xs a2∧∀K:jA,eA X f (.ref id 0::args) h K=K (.own h.length xs.length 0 xs.length) (h.set id (rA L a2)++[.row sh xs 0]) []
theorem mH.of {f:Nat}{args:List AV}{L:List Int}{a:Int}{sh:Sh}{Q:List PV→Int→Prop}(H:∀ (h:aA) (id:Nat),id<h.length→eA X f (.ref id 0::args) (h.set id (rA L a)) fun v1 h1 x1=>∃ xs a2,Q xs a2∧v1 = .own h.length xs.length 0 xs.length∧h1=h.set id (rA L a2)++[.row sh xs 0]∧x1=[]):mH f args L a sh Q:=by
 intro h id hh;have hid:=gF hh
 have k:=H h id hid
 rw[HE hh]at k;obtain⟨v,h',x,⟨xs,a2,q,e0,e1,e2⟩,r⟩:=eA.one cY k;subst e0;subst e1;subst e2
 exact⟨xs,a2,q,r⟩
theorem swap_perm (l:List Int)(i k:Nat)(hi:i<l.length)(hk:k<l.length):((l.set i l[k]).set k l[i]).Perm l:=by
 have h:=Array.swap_perm (xs:=l.toArray) (i:=i) (j:=k) (by simpa using hi) (by simpa using hk)
 rw[Array.perm_iff_toList_perm]at h;simpa [Array.swap_def] using h
def upI (n:Nat):List Int:=(List.range n).map fun(k:Nat)=>(k:Int)
theorem zki (n:Nat):upI (n+1)=upI n++[(n:Int)]:=by unfold upI;rw[List.range_succ,List.map_append];rfl
theorem rX (n:Nat):(upI n).length=n:=by simp [upI]
theorem zkh {n:Nat}{x:Int}:x∈upI n↔0≤x∧x<n:=by
 unfold upI;simp only[List.mem_map,List.mem_range];constructor
 ·rintro⟨k,hk,rfl⟩;omega
 ·intro ⟨h1,h2⟩;exact⟨x.toNat,by omega,by omega⟩
theorem zcP (n:Nat)(hn:n≤1000)(hp:OA 2000 a):mH OH [AI n] L a none (fun xs a2=>a≤a2∧a2≤a+n∧∃l:List Int,l.Perm (upI n)∧xs=l.map eI):=by
 refine mH.of fun h id hid=>?_
 rw[z7U rfl];have hid':id≤h.length:=by omega
 simp only[HM,go_sem,hid];refine LA (fun k:Nat=>⟨[(0,.ref id 0),(1,AI n),(5,.own h.length k 0 k),(9,AI n),(10,AI k)],h.set id (rA L a)++[.row none ((upI k).map eI) 0],[]⟩) (fun k=>k≤n) (fun k=>n-k) 0 rfl (by omega) ?_
 intro k hk;have hkl:((upI k).map eI).length=k:=by rw[List.length_map,rX]
 rcases Nat.lt_or_ge k n with hlt|hge
 ·have w2:IntKind.i64.wrap ((k:Int)+1)=((k+1:Nat):Int):=yA _ (by omega) (by omega)
  have hmx:k+1≤IA:=by unfold IA;omega
  simp only[go_sem,hid,hid',hlt,hkl,hmx,w2];refine⟨k+1,?_,by omega,by omega⟩
  rw[zki,List.map_append];rfl
 ·have ek:k=n:=by omega
  subst ek;have w3:IntKind.i64.wrap ((k:Int)-1)=(k:Int)-1:=yA _ (by omega) (by omega)
  simp only[go_sem,hid,hid',Nat.lt_irrefl,w3];refine LA (fun t:List Int×Int×Int=>⟨[(0,.ref id 0),(5,.own h.length k 0 k),(7,AI t.2.1)],h.set id (rA L t.2.2)++[.row none (t.1.map eI) 0],[]⟩)
   (fun t=>t.1.Perm (upI k) ∧ -1≤t.2.1∧t.2.1<k∧a≤t.2.2∧t.2.2+t.2.1+1≤a+k) (fun t=>t.2.1.toNat) (upI k,(k:Int)-1,a) rfl ⟨List.Perm.refl _,by simp;omega,by simp;omega,by simp,by simp;omega⟩ ?_
  rintro⟨l,i,b⟩ ⟨q1,q2,q3,q4,q5⟩
  dsimp only at q1 q2 q3 q4 q5 ⊢;have hll:l.length=k:=by rw[q1.length_eq,rX]
  have hlm:(l.map eI).length=k:=by rw[List.length_map,hll]
  by_cases hi:0<i
  ·have pb:=IC (n:=0) hp q4 (by omega)
   obtain⟨n1,n2⟩:=YG L b (i+1) (by omega) (by omega)
   have w4:IntKind.i64.wrap (i+1)=i+1:=yA _ (by omega) (by omega)
   have w5:IntKind.i64.wrap (i-1)=i-1:=yA _ (by omega) (by omega)
   have e1:=AE (k:=.i64) n1
   have e2:=AE (k:=.i64) (show 0≤i by omega)
   obtain⟨c,hc⟩:∃c,bB L b (i+1)=c:=⟨_,rfl⟩;rw[hc]at n1 n2 e1;have b1:c.toNat<k:=by omega
   have b2:i.toNat<k:=by omega
   have g1:=aB eI (l:=l) (k:=c.toNat) (by omega)
   have g2:=aB eI (l:=l) (k:=i.toNat) (by omega)
   have hsw:=swap_perm l i.toNat c.toNat (by omega) (by omega)
   have g3:((l.set i.toNat l[c.toNat]).map eI)[c.toNat]?=some (eI ((l.set i.toNat l[c.toNat])[c.toNat]'(by simp;omega))):=aB eI (by simp;omega)
   have m1:(l.map eI).set i.toNat (eI l[c.toNat])=(l.set i.toNat l[c.toNat]).map eI:=by rw[List.map_set]
   have m2:((l.set i.toNat l[c.toNat]).map eI).set c.toNat (eI l[i.toNat])=((l.set i.toNat l[c.toNat]).set c.toNat l[i.toNat]).map eI:=List.map_set.symm
   have hl2:((l.set i.toNat l[c.toNat]).map eI).length=k:=by simp [hll]
   simp only[go_sem,hid,hid',hi,w4,pb,hc,e1,e2,hlm,b1,b2,g1,g2,m1,g3,m2,hl2,w5];exact⟨((l.set i.toNat l[c.toNat]).set c.toNat l[i.toNat],i-1,b+1),rfl,⟨hsw.trans q1,by dsimp only;omega,by dsimp only;omega,by dsimp only;omega,by dsimp only;omega⟩,by dsimp only;omega⟩
  ·simp only[go_sem,hi]
   refine⟨l.map eI,b,⟨q4,by omega,l,q1,rfl⟩,by rw[hlm],?_⟩
   exact List.take_of_length_le (by simp)
def XX (t:List (List UInt8)):Prop:=t.length≤5∧∀s∈t,s.length≤1000
theorem z3y (s:List UInt8)(c:Int)(h0:0≤c)(hc:s.length*c.toNat≤1000000)(h1:c≤1000000):eA X VH [AS s,AI c] h K=K (AS (CD s c.toNat)) h []:=by
 refine QN (X:=X) (by kernel_rfl) ?_
 first|rw[show X.ex2=zE GRL PRL from rfl]|skip
 show zE GRL PRL VH [AS s,AI c] h=some (AS (CD s c.toNat),h,[])
 exact z1Y (vs:=[.str s,.int .i64 c]) (by kernel_rfl) (s:=fJ) (by kernel_rfl) rfl (by simp only[fJ];rw[if_pos ⟨h0,hc,h1⟩])
theorem KW (s:List UInt8):∀c,(CD s c).length=c*s.length
 | 0=>by simp [CD]
 | c+1=>by rw[CD,List.length_append,KW s c,Nat.add_mul,Nat.one_mul,Nat.add_comm]
theorem zcN (hp:OA 200 a):yC mK [] L a (fun v a2=>a≤a2∧a2≤a+60∧∃t:List (List UInt8),XX t∧v=nB t):=by
 refine yC.of fun h id hid=>?_
 rw[z7Q rfl];have hid':id≤h.length:=by omega
 have p0:=IC (n:=0) hp (Int.le_refl a) (by omega)
 have p1:=IC (n:=0) hp (show a≤a+1 by omega) (by omega)
 have pl:=JP (l:=[0,1,2,3,4,5]) (L:=L) (a:=a) (by simp) (by simp)
 obtain⟨lg,hlg⟩:∃n,jE [0,1,2,3,4,5] L a=n:=⟨_,rfl⟩;rw[hlg]at pl;have hlg0:0≤lg∧lg≤5:=by simp only[List.mem_cons,List.not_mem_nil,or_false]at pl;omega
 obtain⟨long,rfl⟩:=Int.eq_ofNat_of_zero_le hlg0.1;obtain⟨n1,n2⟩:=bG (u:=1) (v:=5) L (a+1) (by omega) (by omega)
 obtain⟨n,hn⟩:=Int.eq_ofNat_of_zero_le (show 0≤pD 1 5 L (a+1) by omega)
 rw[hn]at n1 n2;simp only[EM,go_sem,hid,p0,p1,hlg,hn];refine LA (fun t:List (List UInt8)×Int=>⟨[(0,.ref id 0),(3,.own h.length t.1.length 0 t.1.length),(4,AI long),(11,AI n),(12,AI t.1.length)],h.set id (rA L t.2)++[.row none (t.1.map PV.str) 0],[]⟩)
  (fun t=>t.1.length≤n∧(∀s∈t.1,s.length≤5)∧a≤t.2∧t.2≤a+2+5*t.1.length) (fun t=>n-t.1.length) ([],a+1+1) rfl ⟨by simp,by simp,by simp;omega,by simp;omega⟩ ?_
 rintro⟨t,b⟩ ⟨q1,q2,q3,q4⟩
 dsimp only at q1 q2 q3 q4 ⊢;rcases Nat.lt_or_ge t.length n with hlt|hge
 ·have w2:IntKind.i64.wrap ((t.length:Int)+1)=((t.length+1:Nat):Int):=yA _ (by omega) (by omega)
  simp only[go_sem,hid,hlt];refine LA (fun u:List UInt8×Int=>⟨[(0,.ref id 0),(3,.own h.length t.length 0 t.length),(4,AI long),(5,AS u.1),(11,AI n),(12,AI t.length),(14,AI long),(15,AI u.1.length)],h.set id (rA L u.2)++[.row none (t.map PV.str) 0],[]⟩)
   (fun u=>u.1.length≤long∧b≤u.2∧u.2≤b+u.1.length) (fun u=>long-u.1.length) ([],b) rfl ⟨by simp,by simp,by simp⟩ ?_
  rintro⟨s,c⟩ ⟨r1,r2,r3⟩
  dsimp only at r1 r2 r3 ⊢;rcases Nat.lt_or_ge s.length long with hlt2|hge2
  ·have pc:=IC (n:=0) hp (show a≤c by omega) (by omega)
   have w3:IntKind.i64.wrap ((s.length:Int)+1)=((s.length+1:Nat):Int):=yA _ (by omega) (by omega)
   have ps:=BW (l:=[[48],[49]]) (L:=L) (a:=c) (by simp) (by simp)
   have hs1:(PD [[48],[49]] L c).length=1:=by
    simp only[List.mem_cons,List.not_mem_nil,or_false]at ps;rcases ps with e|e <;> rw[e] <;> rfl
   obtain⟨z,hz⟩:∃z,PD [[48],[49]] L c=z:=⟨_,rfl⟩;rw[hz]at hs1;have hmx:s.length+1≤zD:=by unfold zD;omega
   simp only[go_sem,hid,hlt2,pc,hz,hs1,hmx,w3];exact⟨(s++z,c+1),by simp [hs1],⟨by simp [hs1];omega,by dsimp only;omega,by simp [hs1];omega⟩,by simp [hs1];omega⟩
  ·have hge2':¬s.length<long:=by omega
   have hmx:t.length+1≤IA:=by unfold IA;omega
   simp only[go_sem,hid,hid',hge2',hmx,w2];refine⟨(t++[s],c),by simp,⟨by simp;omega,fun z hz=>?_,by dsimp only;omega,by simp;omega⟩,by simp;omega⟩
   rcases List.mem_append.1 hz with hz|hz
   ·exact q2 z hz
   ·rw[List.mem_singleton.1 hz];omega
 ·have hge':¬t.length<n:=by omega
  have pb:=dJ (IC hp q3 (show b+14≤a+200 by omega))
  have hq2:∀s∈t,s.length≤1000:=fun s hs=>by have:=q2 s hs;omega
  by_cases f1:bB L b 20=0
  ·obtain⟨m1,m2⟩:=YG L (b+1) t.length (by omega) (by omega)
   obtain⟨m,hm⟩:=Int.eq_ofNat_of_zero_le m1;rw[hm]at m2;have hml:m<t.length:=by omega
   have gm:=aB PV.str hml
   have ps:=BW (l:=[[48],[120]]) (L:=L) (a:=b+1+1) (by simp) (by simp)
   have hs1:(PD [[48],[120]] L (b+1+1)).length=1:=by
    simp only[List.mem_cons,List.not_mem_nil,or_false]at ps;rcases ps with e|e <;> rw[e] <;> rfl
   obtain⟨z,hz⟩:∃z,PD [[48],[120]] L (b+1+1)=z:=⟨_,rfl⟩;rw[hz]at hs1;have htm:=q2 _ (List.getElem_mem hml)
   have hmx:t[m].length+1≤zD:=by unfold zD;omega
   simp only[go_sem,hid,hid',hge',pb,f1,hm,hml,gm,hz,hs1,hmx];refine⟨b+1+1+1,⟨by omega,by omega,t.set m (t[m]++z),⟨by simp;omega,fun x hx=>?_⟩,?_⟩,rfl⟩
   ·rcases List.mem_or_eq_of_mem_set hx with hx|rfl
    ·exact hq2 x hx
    ·simp [hs1];omega
   ·have em:(t.map PV.str).set m (PV.str (t[m]++z))=(t.set m (t[m]++z)).map PV.str:=List.map_set.symm
    rw[em,ED (by simp)]
  ·by_cases f2:bB L (b+1) 40=0
   ·simp only[go_sem,hid,hid',hge',pb,f1,f2]
    exact⟨b+1+1,⟨by omega,by omega,[],⟨by simp,by simp⟩,rfl⟩,rfl⟩
   ·by_cases f3:bB L (b+1+1) 40=0
    ·simp only[go_sem,hid,hid',hge',pb,f1,f2,f3]
     refine LA (fun u:List (List UInt8)×Nat×Int=>⟨[(0,.ref id 0),(3,.own h.length t.length 0 t.length),(50,AI t.length),(51,AI u.2.1)],h.set id (rA L u.2.2)++[.row none (u.1.map PV.str) 0],[]⟩)
      (fun u=>u.1.length=t.length∧(∀s∈u.1,s.length≤1000)∧u.2.1≤t.length∧b+3≤u.2.2∧u.2.2≤b+3+3*u.2.1) (fun u=>t.length-u.2.1) (t,0,b+1+1+1) rfl ⟨rfl,hq2,by simp,by simp;omega,by simp;omega⟩ ?_
     rintro⟨u,j,c⟩ ⟨u1,u2,u3,u4,u5⟩
     dsimp only at u1 u2 u3 u4 u5 ⊢;rcases Nat.lt_or_ge j t.length with hlt|hge
     ·have pc:=dJ (IC hp (show a≤c by omega) (show c+14≤a+200 by omega))
      have w2:IntKind.i64.wrap ((j:Int)+1)=((j+1:Nat):Int):=yA _ (by omega) (by omega)
      have ps:=BW (l:=[[48],[49],[48,49]]) (L:=L) (a:=c) (by simp) (by simp)
      have hs1:(PD [[48],[49],[48,49]] L c).length≤2:=by
       simp only[List.mem_cons,List.not_mem_nil,or_false]at ps;rcases ps with e|e|e <;> rw[e] <;> decide
      obtain⟨z,hz⟩:∃z,PD [[48],[49],[48,49]] L c=z:=⟨_,rfl⟩;rw[hz]at hs1;obtain⟨v1,v2⟩:=bG (u:=0) (v:=1) L (c+1) (by omega) (by omega)
      obtain⟨x1,x2⟩:=bG (u:=0) (v:=32) L (c+1+1) (by omega) (by omega)
      obtain⟨d,hd⟩:∃z,pD 0 1 L (c+1)=z:=⟨_,rfl⟩;obtain⟨e,he⟩:∃z,pD 0 32 L (c+1+1)=z:=⟨_,rfl⟩;rw[hd]at v1 v2;rw[he]at x1 x2;have w5:IntKind.i64.wrap (32+d)=32+d:=yA _ (by omega) (by omega)
      have hm1:z.length*(32+d).toNat≤2*33:=Nat.mul_le_mul hs1 (by omega)
      have R1:=fun h K=>z3y (h:=h) (K:=K) z (32+d) (by omega) (by omega) (by omega)
      have R2:=fun h K=>z3y (h:=h) (K:=K) [49] e (by omega) (by simp;omega) (by omega)
      have l1:(CD z (32+d).toNat).length≤66:=by rw[KW,Nat.mul_comm];exact hm1
      have l2:(CD [49] e.toNat).length≤32:=by rw[KW];simp;omega
      generalize CD z (32+d).toNat=A at *;generalize CD [49] e.toNat=B at *;have hmx:A.length+B.length≤zD:=by unfold zD;omega
      have gu:=aB PV.str (l:=u) (k:=j) (by omega)
      have hul:(u.map PV.str).length=t.length:=by rw[List.length_map,u1]
      simp only[go_sem,hid,hid',hlt,pc,hz,hd,he,w5,R1,R2,hmx,hul,gu,w2];refine⟨(u.set j (A++B),j+1,c+1+1+1),?_,⟨by simp [u1],fun x hx=>?_,by dsimp only;omega,by dsimp only;omega,by dsimp only;omega⟩,by dsimp only;omega⟩
      ·rw[List.map_set]
      ·rcases List.mem_or_eq_of_mem_set hx with hx|rfl
       ·exact u2 x hx
       ·simp;omega
     ·have hge2:¬j<t.length:=by omega
      simp only[go_sem,hid,hid',hge2,u1];refine⟨c,⟨by omega,by omega,u,⟨by omega,u2⟩,?_⟩,rfl⟩
      rw[ED (by simp [u1])]
    ·simp only[go_sem,hid,hid',hge',pb,f1,f2,f3]
     refine⟨b+1+1+1,⟨by omega,by omega,t,⟨by omega,hq2⟩,?_⟩,rfl⟩
     rw[ED (by simp)]
theorem SG {t:List (List UInt8)}(h:0<t.length):(t.map PV.str)[0]?=some (.str (t.headD [])):=by
 cases t with
 | nil=>cases h
 | cons a r=>rfl
theorem zcR (hp:OA 2000 a):yC rK [] L a (fun v a2=>a≤a2∧a2≤a+360∧∃t:List (List UInt8),XX t∧vC t=0∧(t.headD []).length<20∧v=nB t):=by
 refine yC.of fun h id hid=>?_
 rw[z7Z rfl];have hid':id≤h.length:=by omega
 simp only[MM,go_sem,hid];refine LA (fun t:Nat×Int=>⟨[(0,.ref id 0),(4,AI t.1)],h.set id (rA L t.2),[]⟩) (fun t=>t.1≤6∧a≤t.2∧t.2≤a+60*t.1) (fun t=>6-t.1) (0,a) rfl ⟨by simp,by simp,by simp⟩ ?_
 rintro⟨k,b⟩ ⟨h1,h2,h3⟩
 dsimp only at h1 h2 h3 ⊢;rcases Nat.lt_or_ge k 6 with hlt|hge
 ·have hk:(k:Int)<6:=by omega
  have w1:IntKind.i64.wrap ((k:Int)+1)=((k+1:Nat):Int):=yA _ (by omega) (by omega)
  obtain⟨_,a2,⟨c1,c2,t,ts,rfl⟩,V⟩:=(zcN (L:=L) (a:=b) (IC hp h2 (by omega))).set (h:=h) hid
  have F:=fun h K=>ziM (h:=h) (K:=K) t (fun s hs=>by have:=ts.2 s hs;omega) (by have:=ts.1;omega)
  by_cases hf:vC t=0
  ·have T:=uJ hf
   have g0:=SG T.n0
   by_cases hl:(t.headD []).length<20
   ·have hl':((t.headD []).length:Int)<20:=by omega
    simp only[go_sem,hid,hk,↓V,V,↓F,F,hf,g0,hl'];exact⟨a2,⟨by omega,by omega,t,ts,hf,hl,rfl⟩,rfl⟩
   ·have hl':¬((t.headD []).length:Int)<20:=by omega
    simp only[go_sem,hid,hk,↓V,V,↓F,F,hf,g0,hl',w1];exact⟨(k+1,a2),rfl,⟨by dsimp only;omega,by dsimp only;omega,by dsimp only;omega⟩,by dsimp only;omega⟩
  ·simp only[go_sem,hid,hk,↓V,V,↓F,F,hf,w1]
   exact⟨(k+1,a2),rfl,⟨by dsimp only;omega,by dsimp only;omega,by dsimp only;omega⟩,by dsimp only;omega⟩
 ·have hk:¬(k:Int)<6:=by omega
  simp only[go_sem,hid,hk];exact⟨b,⟨by omega,by omega,[[48,49],[49,48]],⟨by decide,by decide⟩,by decide,by decide,rfl⟩,rfl⟩
end Go.Am
end
section
/- What is drawn: faults. -/
open Go
set_option linter.all false
namespace Go.Am
variable {L:List Int} {a:Int} {h l:aA} {id:Nat} {K:jA}
def rG (f:Flt):Prop:=f.nets.length≤8∧(∀x∈f.nets,-1152921504606846976≤x∧x≤1152921504606846976) ∧ -1152921504606846976≤f.kind∧f.kind≤1152921504606846976
theorem z4y {α:Type}(xs:List α)(n:Nat):win xs 0 n=xs.take n:=by simp [win]
theorem yR {kd:Int}{w:AV}{ns:List Int}{b2:Int}{t:aA}{x:Esc}{K0:jA}(hw:FA h.length (h.set id (rA L b2)++t) w=some (.p (.sl none (ns.map eI))))(hx:∀ y∈x,h.length≤y.1)
 (hK:K0 (.p (Flt.pv ⟨kd,ns⟩)) (h.set id (rA L b2)) []):cD false h.length K0 (some [.agg [AI kd,w]]) (h.set id (rA L b2)++t) x:=by
 have hr:FA h.length (h.set id (rA L b2)++t) (JA [.agg [AI kd,w]])=some (.p (Flt.pv ⟨kd,ns⟩)):=by
  simp only[JA,z2L,z2P,z2O,hw,z2Q];rfl
 rw[z2U hx hr (Nat.zero_le _),cX];exact hK
theorem zR {v:PV}{b2:Int}{t:aA}{x:Esc}{K0:jA}(hx:∀ y∈x,h.length≤y.1)
 (hK:K0 (.p v) (h.set id (rA L b2)) []):cD false h.length K0 (some [.p v]) (h.set id (rA L b2)++t) x:=by
 rw[z2U hx (v:=.p v) (by rfl) (Nat.zero_le _),cX]
 exact hK
theorem IW {b2:Int}{t:aA}{j n m:Nat}{R:List PV}{fz:Nat}(ht:t[j]?=some (.row none R fz))(hR:R.length=n)(hm:m≤n):FA h.length (h.set id (rA L b2)++t) (.own (h.length+j) n 0 m)=some (.p (.sl none (R.take m))):=by
 have:(h.set id (rA L b2)++t)[h.length+j]?=some (.row none R fz):=by
  have e:h.length=(h.set id (rA L b2)).length:=by simp
  rw[e,sF];exact ht
 simp [z2N,rd,this,hR,hm,z4y]
theorem TC {n m:Nat}{x:Esc}{p:Prop}[Decidable p](hn:n≤m)(hx:∀ y∈x,n≤y.1){t:Nat}:∀y∈(if p then [(m,t)] else [])++x,n≤y.1:=by
 intro y hy;rcases List.mem_append.1 hy with hy|hy
 ·split at hy
  ·rw[List.mem_singleton.1 hy];exact hn
  ·cases hy
 ·exact hx y hy
theorem xR (kd:Int)(hkd:1≤kd∧kd≤6)(R:List Int)(n m:Nat)(hR:R.length=n)(hm1:1≤m)(hmn:m≤n)(hm3:m≤3)(hx:∀ x∈R,0≤x∧x≤1000)(v1:Int)(hv1 : -1000≤v1∧v1≤1000)(b:Int)(hp:OA 20 b)(hid:id<h.length)(x:Esc)(hxe:∀ y∈x,h.length≤y.1)(K0:jA)
 (hK:∀(f:Flt) (b2:Int),rG f→b≤b2→b2≤b+6→K0 (.p f.pv) (h.set id (rA L b2)) []) :
 LD (eA X) X.gl lL (.ref id 0) (AI v1) (.ref h.length 0) (.ref (h.length+1) 0)
  (h.set id (rA L b)++[.box [AI 0,.sl0 none],.box [AI kd,.own (h.length+2) n 0 m],.row none (R.map eI) 0]) x (oA [.cell 4 (some 2)] false h.length K0):=by
 have hid':id≤h.length:=by omega
 have P:=dJ (IC hp (Int.le_refl b) (by omega))
 have hRl:(R.map eI).length=n:=by rw[List.length_map,hR]
 by_cases f1:bB L b 30=0
 ·by_cases f2:bB L (b+1) 4=0
  ·obtain⟨kv,a3,o1,o2,o3,o4,O⟩:=g_Odd (L:=L) (a:=b+1+1) (IC hp (by omega) (by omega)) 1 6 (by omega) (by omega) (by omega)
   have O':=fun l K=>O.app (h:=h) (id:=id) (l:=l) (K:=K) hid
   simp only[LD,go_sem,hid,hid',P,f1,f2,↓O',O',hRl,hmn,GB];refine yR (ns:=R.take m) (by rw[IW (j:=2) (fz:=0) rfl hRl hmn,List.map_take]) (TC (Nat.le_refl _) (TC (by omega) hxe)) ?_
   exact hK ⟨kv,R.take m⟩ a3 ⟨by simp;omega,fun z hz=>by have:=hx z (List.mem_of_mem_take hz);omega,by dsimp only;omega,by dsimp only;omega⟩ (by omega) (by omega)
  ·by_cases f3:bB L (b+1) 4=1
   ·have hR0:0<R.length:=by omega
    have g0:=HN hR0
    have hhd:R.headD 0∈R:=by
     cases R with
     | nil=>cases hR0
     | cons z r=>simp
    have hb0:=hx _ hhd
    have pm:=JP (l:=[0,1,-1,v1,R.headD 0]) (L:=L) (a:=b+1+1) (by simp) (by simp)
    obtain⟨c,hc⟩:∃c,jE [0,1,-1,v1,R.headD 0] L (b+1+1)=c:=⟨_,rfl⟩;rw[hc]at pm;have hcb : -1000≤c∧c≤1000:=by simp only[List.mem_cons,List.not_mem_nil,or_false]at pm;omega
    have hms:m+1≤IA:=by unfold IA;omega
    have hall:(R.map eI).all PV.intP=true:=by rw[List.all_eq_true];intro z hz;obtain⟨q,_,rfl⟩:=List.mem_map.1 hz;rfl
    by_cases hmn2:m=n
    ·simp only[LD,go_sem,hid,hid',P,f1,f2,f3,hc,hRl,hmn,hmn2,g0,hm1,GB,hms]
     have hns:n+1≤IA:=by unfold IA;omega
     rw[if_pos (by omega),if_pos hns]
     refine yR (ns:=R++[c]) ?_ (TC (Nat.le_refl _) (TC (by omega) hxe)) ?_
     ·rw[IW (j:=2) (fz:=0) rfl (by simp [hR]) (Nat.le_refl _),List.take_of_length_le (by simp [hR]),List.map_append];rfl
     ·refine hK ⟨kd,R++[c]⟩ (b+1+1+1) ⟨by simp;omega,fun z hz=>?_,by dsimp only;omega,by dsimp only;omega⟩ (by omega) (by omega)
      rcases List.mem_append.1 hz with hz|hz
      ·have:=hx z hz;omega
      ·rw[List.mem_singleton.1 hz];omega
    ·simp only[LD,go_sem,hid,hid',P,f1,f2,f3,hc,hRl,hmn,hmn2,g0,hm1,GB,hms,hall]
     rw[if_pos (by omega),if_pos ⟨by omega,rfl⟩]
     refine zR (TC (Nat.le_refl _) (TC (by omega) hxe)) ?_
     have hw:win (R.map eI) 0 m++[PV.int IntKind.i64 c]=(R.take m++[c]).map eI:=by rw[z4y,List.map_append,List.map_take];rfl
     rw[hw];refine hK ⟨kd,R.take m++[c]⟩ (b+1+1+1) ⟨by simp;omega,fun z hz=>?_,by dsimp only;omega,by dsimp only;omega⟩ (by omega) (by omega)
     rcases List.mem_append.1 hz with hz|hz
     ·have:=hx z (List.mem_of_mem_take hz);omega
     ·rw[List.mem_singleton.1 hz];omega
   ·by_cases f4:bB L (b+1) 4=2
    ·simp only[LD,go_sem,hid,hid',P,f1,f2,f3,f4,hRl,hmn,GB]
     refine zR (TC (Nat.le_refl _) (TC (by omega) hxe)) ?_
     exact hK ⟨kd,[]⟩ (b+1+1) ⟨by simp,fun z hz=>by simp at hz,by dsimp only;omega,by dsimp only;omega⟩ (by omega) (by omega)
    ·obtain⟨r1,r2⟩:=bG (u:=5) (v:=7) L (b+1+1) (by omega) (by omega)
     obtain⟨c,hc⟩:=Int.eq_ofNat_of_zero_le (show 0≤pD 5 7 L (b+1+1) by omega)
     rw[hc]at r1 r2;have hc7:c≤7:=by omega
     simp only[LD,go_sem,hid,hid',P,f1,f2,f3,f4,hc,hc7,hRl,hmn,GB];refine zR (TC (Nat.le_refl _) (TC (by omega) hxe)) ?_
     have hw:win [PV.int IntKind.i64 0,PV.int IntKind.i64 1,PV.int IntKind.i64 2,PV.int IntKind.i64 3,PV.int IntKind.i64 4,PV.int IntKind.i64 5,PV.int IntKind.i64 6] 0 c=(([0,1,2,3,4,5,6]:List Int).take c).map eI:=by rw[List.map_take];rfl
     rw[hw];refine hK ⟨kd,([0,1,2,3,4,5,6]:List Int).take c⟩ (b+1+1+1) ⟨by simp;omega,fun z hz=>?_,by dsimp only;omega,by dsimp only;omega⟩ (by omega) (by omega)
     have:=List.mem_of_mem_take hz;simp only[List.mem_cons,List.not_mem_nil,or_false]at this;omega
 ·simp only[LD,go_sem,hid,hid',P,f1,hRl,hmn,GB]
  refine yR (ns:=R.take m) (by rw[IW (j:=2) (fz:=0) rfl hRl hmn,List.map_take]) (TC (Nat.le_refl _) hxe) ?_
  exact hK ⟨kd,R.take m⟩ (b+1) ⟨by simp;omega,fun z hz=>by have:=hx z (List.mem_of_mem_take hz);omega,by dsimp only;omega,by dsimp only;omega⟩ (by omega) (by omega)
attribute [-go_sem] LD
theorem zdx (l:List Int):UB ltP (l.map eI)=(UB ltI l).map eI:=zdy eI (fun a b=>rfl) l
theorem sN {n m:Nat}{p:Prop}[Decidable p](hn:n≤m){t:Nat}:∀y∈(if p then [(m,t)] else([]:Esc)),n≤y.1:=by
 intro y hy;split at hy
 ·rw[List.mem_singleton.1 hy];exact hn
 ·cases hy
theorem lX {l0:List Int}(o m N:Nat)(hl:l0.length=N)(hom:o+m≤N)(hm:m≤12)(x y:Obj)(b:Int):∃R:List Int,R.length=N∧(∀z∈R,z∈l0)∧∀K:jA,eA X wE [.own (h.length+2) N o m] (h.set id (rA L b)++[x,y,.row none (l0.map eI) 0]) K=K (.tup []) (h.set id (rA L b)++[x,y,.row none (R.map eI) 0]) []:=by
 have hsp:l0=l0.take o++((l0.drop o).take m++l0.drop (o+m)):=by
  rw[←List.drop_drop,List.take_append_drop,List.take_append_drop]
 have hl1:((l0.drop o).take m).length=m:=by simp;omega
 have hg:(h.set id (rA L b)++[x,y,.row none (l0.map eI) 0])[h.length+2]?=some (.row none (((l0.take o).map eI)++(((l0.drop o).take m).map eI++(l0.drop (o+m)).map eI)) 0):=by
  have e:h.length=(h.set id (rA L b)).length:=by simp
  rw[e,sF];show some (Obj.row none (l0.map eI) 0)=_
  rw[←List.map_append,←List.map_append,←hsp]
 refine⟨l0.take o++(UB ltI ((l0.drop o).take m)++l0.drop (o+m)),?_,fun z hz=>?_,fun K=>?_⟩
 ·rw[List.length_append,List.length_append,NU,hl1];simp;omega
 ·rw[hsp]
  rcases List.mem_append.1 hz with hz|hz
  ·exact List.mem_append_left _ hz
  ·rcases List.mem_append.1 hz with hz|hz
   ·exact List.mem_append_right _ (List.mem_append_left _ (OF.1 hz))
   ·exact List.mem_append_right _ (List.mem_append_right _ hz)
 ·have:=z5j (K:=K) (h.length+2) N o ((l0.take o).map eI) (((l0.drop o).take m).map eI) ((l0.drop (o+m)).map eI) (by simp;omega) (by rw[List.length_map,hl1];simp;omega) gX (by rw[List.length_map,hl1];exact hm) hg (lt:=ltP) zew
  rw[List.length_map,hl1]at this;rw[this,zdx,←List.map_append,←List.map_append];congr 1
  have e:h.length+2=(h.set id (rA L b)).length+2:=by simp
  rw[e,EJ];rfl
theorem zcM (n:Nat)(hn:n≤100)(hp:OA 3000 a):yC lK [AI n] L a (fun v a2=>a≤a2∧a2≤a+120∧∃f:Flt,rG f∧v = .p f.pv):=by
 refine yC.of fun h id hid=>?_
 rw[z7P rfl];have hid':id≤h.length:=by omega
 have p0:=IC (n:=0) hp (Int.le_refl a) (by omega)
 obtain⟨k1,k2⟩:=bG (u:=1) (v:=6) L a (by omega) (by omega)
 obtain⟨kd,hkd⟩:∃k,pD 1 6 L a=k:=⟨_,rfl⟩;rw[hkd]at k1 k2;obtain⟨N,hN⟩:∃N:Nat,max (n:Int) 1=(N:Int):=⟨max n 1,by omega⟩
 have hN1:1≤N∧N≤100:=by omega
 have hg:∀t:aA,(h.set id (rA L (a+1))++t)[id]?=some (rA L (a+1)):=fun t=>bX hid _
 obtain⟨xs,a3,⟨d1,d2,l,hl,rfl⟩,V⟩:=zcP (L:=L) (a:=a+1) N (by omega) (IC hp (by omega) (by omega)) (h.set id (rA L (a+1))++[.box [AI 0,.sl0 none],.box [AI kd,.sl0 none]]) id (hg _)
 have hll:l.length=N:=by rw[hl.length_eq,rX]
 have hb2:(h.set id (rA L (a+1))++[Obj.box [AI 0,.sl0 none],.box [AI kd,.sl0 none]]).length=h.length+2:=by simp
 rw[List.length_map,hll,hb2]at V;simp only[z3J hid,List.append_assoc,List.cons_append,List.nil_append]at V;have hlm:∀x∈l,0≤x∧x≤1000:=fun x hx=>by have:=zkh.1 (hl.mem_iff.1 hx);omega
 have P3:=dJ (IC hp (show a≤a3 by omega) (show a3+14≤a+3000 by omega))
 by_cases hk:3≤kd∧kd≤5
 ·have pm:=JP (l:=[2,2,3]) (L:=L) (a:=a3) (by simp) (by simp)
  obtain⟨c,hc⟩:∃c,jE [2,2,3] L a3=c:=⟨_,rfl⟩;rw[hc]at pm;have hc3:2≤c∧c≤3:=by simp only[List.mem_cons,List.not_mem_nil,or_false]at pm;omega
  obtain⟨m,hm⟩:∃m:Nat,min c (N:Int)=(m:Int):=⟨(min c (N:Int)).toNat,by omega⟩
  have hm2:1≤m∧m≤N∧m≤3:=by omega
  have hm0:¬m=0:=by omega
  have hpos:OA 20 (a3+1):=IC hp (by omega) (by omega)
  by_cases h5:kd=5
  ·subst h5
   simp only[BG,go_sem,hid,hid',p0,hkd,hN,V,P3,hk.1,hk.2,hc,hm,hll,hm2,hm0,GB];obtain⟨R,r1,r2,r3⟩:=lX (h:=h) (id:=id) (L:=L) (l0:=l) 1 (m-1) N hll (by omega) (by omega) (.box [AI 0,AV.sl0 none]) (.box [AI 5,AV.own (h.length+2) N 0 m]) (a3+1)
   rw[r3];refine xR 5 (by omega) R N m r1 (by omega) (by omega) (by omega) (fun z hz=>hlm z (r2 z hz)) n (by omega) (a3+1) hpos hid _ ?_ _ ?_
   ·rw[List.nil_append]
    exact TC (by omega) (sN (by omega))
   ·intro f b2 q1 q2 q3
    exact⟨b2,⟨by omega,by omega,f,q1,rfl⟩,rfl,rfl⟩
  ·have h5':¬(kd=5):=h5
   simp only[BG,go_sem,hid,hid',p0,hkd,hN,V,P3,hk.1,hk.2,hc,hm,h5',hll,hm2,hm0,GB];obtain⟨R,r1,r2,r3⟩:=lX (h:=h) (id:=id) (L:=L) (l0:=l) 0 m N hll (by omega) (by omega) (.box [AI 0,AV.sl0 none]) (.box [AI kd,AV.own (h.length+2) N 0 m]) (a3+1)
   rw[r3];refine xR kd (by omega) R N m r1 (by omega) (by omega) (by omega) (fun z hz=>hlm z (r2 z hz)) n (by omega) (a3+1) hpos hid _ ?_ _ ?_
   ·rw[List.nil_append]
    exact TC (by omega) (sN (by omega))
   ·intro f b2 q1 q2 q3
    exact⟨b2,⟨by omega,by omega,f,q1,rfl⟩,rfl,rfl⟩
 ·have h5:¬kd=5:=by omega
  have hpos:OA 20 a3:=IC hp (by omega) (by omega)
  have fin:∀(y:Esc),(∀z∈y,h.length≤z.1)→(eA X wE [.own (h.length+2) N 0 1] (h.set id (rA L a3)++[.box [AI 0,AV.sl0 none],.box [AI kd,AV.own (h.length+2) N 0 1],.row none (l.map eI) 0])
   fun t12 h13 y14=>LD (eA X) X.gl lL (.ref id 0) (AI n) (.ref h.length 0) (.ref (h.length+1) 0) h13 (y14++y)
    (oA [.cell 4 (some 2)] false h.length fun v1 h1 x1=>∃a2,(a≤a2∧a2≤a+120∧∃f:Flt,rG f∧v1 = .p f.pv)∧h1=h.set id (rA L a2)∧x1=[])):=by
   intro y hy;obtain⟨R,r1,r2,r3⟩:=lX (h:=h) (id:=id) (L:=L) (l0:=l) 0 1 N hll (by omega) (by omega) (.box [AI 0,AV.sl0 none]) (.box [AI kd,AV.own (h.length+2) N 0 1]) a3
   rw[r3];refine xR kd (by omega) R N 1 r1 (by omega) (by omega) (by omega) (fun z hz=>hlm z (r2 z hz)) n (by omega) a3 hpos hid _ ?_ _ ?_
   ·rw[List.nil_append];exact hy
   ·intro f b2 q1 q2 q3
    exact⟨b2,⟨by omega,by omega,f,q1,rfl⟩,rfl,rfl⟩
  by_cases h3:3≤kd
  ·have h6:¬kd≤5:=by omega
   simp only[BG,go_sem,hid,hid',p0,hkd,hN,V,h3,h6,h5,hll,hN1.1,GB];refine fin _ ?_;exact TC (by omega) (sN (by omega))
  ·simp only[BG,go_sem,hid,hid',p0,hkd,hN,V,h3,h5,hll,hN1.1,GB]
   refine fin _ ?_;exact TC (by omega) (sN (by omega))
end Go.Am
end
section
/- Deleting faults: printed by program. -/
open Go
set_option linter.unusedSimpArgs false
namespace Go.Am
attribute [-go_sem] PV.cells splice
variable {h:aA} {K:jA}
theorem z5a {v:AV}{g:Nat}{caps:List AV}{p:PV→Bool}{xs:List PV}(hv:Shows (some 2) v xs h)(hp:oH g caps p xs h)(hl:xs.length≤1000000000) :
 eA X CK [v,.fn g caps] h K=K (AI (YC p xs)) h []:=by
 refine CA ?_;rw[z8q];have vl:=hv.len
 simp only[ZM,go_sem,vl];refine LA (fun k:Nat=>⟨[(0,v),(1,.fn g caps),(7,AI xs.length),(8,AI k)],h,[]⟩) (fun k=>k≤xs.length∧∀x∈xs.take k,p x=false) (fun k=>xs.length-k) 0 rfl (by simp) ?_
 rintro k ⟨hk,hn⟩
 rcases Nat.lt_or_ge k xs.length with hlt|hge
 ·obtain⟨a,ha,hb⟩:=hv.get k hlt
  have w2:IntKind.i64.wrap ((k:Int)+1)=((k+1:Nat):Int):=yA _ (by omega) (by omega)
  have ht:=hp _ (List.getElem_mem hlt)
  cases hpk:p xs[k]with
  | true=>
   have hf:xs.findIdx p=k:=by
    rw[List.findIdx_eq hlt];refine⟨hpk,fun j hj=>?_⟩
    have:=hn xs[j] (by rw[List.mem_take_iff_getElem];exact⟨j,by omega,rfl⟩)
    simpa using this
   simp only[go_sem,hlt,ha,hb,ht,hpk,w2];simp only[YC,hf,hlt,if_true]
  | false=>
   simp only[go_sem,hlt,ha,hb,ht,hpk,w2];refine⟨k+1,rfl,⟨by omega,fun x hx=>?_⟩,by omega⟩
   rw[List.take_succ_eq_append_getElem hlt,List.mem_append,List.mem_singleton]at hx;rcases hx with hx|hx
   ·exact hn x hx
   ·rw[hx];exact hpk
 ·have e1:k=xs.length:=by omega
  subst e1;simp only[go_sem,Nat.lt_irrefl];rw[List.take_length]at hn;have:¬xs.findIdx p<xs.length:=by
   rw[Nat.not_lt,Nat.le_iff_lt_or_eq];right
   exact(List.findIdx_eq_length.2 (fun x hx=>by simp [hn x hx])).symm
  simp [YC,this]
attribute [-go_sem] AV.cells cut
theorem z4L (id:Nat)(l:List PV)(hs:KC (some 2) l)(hl:l.length≤100000)(hh:h[id]?=some (.row (some 2) l 0)){g:Nat}{caps:List AV}{p:PV→Bool}(hp:ZX g caps p l id h)(hcaps:AV.tops caps≤h.length) :
 eA X BK [.own id l.length 0 l.length,.fn g caps] h K=K (.own id l.length 0 (l.filter fun x=>!p x).length) (h.set id (.row (some 2) ((l.filter fun x=>!p x)++List.replicate (l.length-(l.filter fun x=>!p x).length) (PV.agg [.int .i64 0,.sl none []])) 0)) []:=by
 refine CA ?_;rw[z8o];have hid:=gF hh
 have hst:∀o,(h.set id o)[id]?=some o:=fun o=>mE hid
 have hid2:id+1≤h.length:=hid
 have hi:=fun K=>z5a (h:=h) (K:=K) (zjl hs hh) (fun x hx K=>by have:=hp (.row (some 2) l 0) [] x hx K;rwa [List.append_nil,HE hh]at this) (by omega)
 simp only[YM,go_sem,hi];by_cases hf:l.findIdx p<l.length
 ·have e1:YC p l=(l.findIdx p:Int):=by simp [YC,hf]
  have e2:¬((l.findIdx p:Int) = -1):=by omega
  have w0:IntKind.i64.wrap ((l.findIdx p:Int)+1)=((l.findIdx p+1:Nat):Int):=yA _ (by omega) (by omega)
  simp only[go_sem,e1,e2,w0];have hF0:((l.take (l.findIdx p+1)).filter fun x=>!p x)=l.take (l.findIdx p):=by
   rw[List.take_succ_eq_append_getElem hf,List.filter_append];have q1:(l.take (l.findIdx p)).filter (fun x=>!p x)=l.take (l.findIdx p):=by
    rw[List.filter_eq_self];intro x hx;obtain⟨j,hj,rfl⟩:=List.mem_take_iff_getElem.1 hx;have:=List.not_of_lt_findIdx (show j<l.findIdx p by omega)
    simpa using this
   rw[q1];have:p l[l.findIdx p]=true:=List.findIdx_getElem (w:=hf)
   simp [this]
  refine LA (fun t:List PV×Nat×Nat=>⟨[(0,.own id l.length 0 l.length),(1,.fn g caps),(5,AI t.2.1),(6,AI t.2.2)],h.set id (.row (some 2) t.1 0),[]⟩)
   (fun t=>t.1.length=l.length∧KC (some 2) t.1∧t.2.1<t.2.2∧t.2.2≤l.length∧t.1.take t.2.1=((l.take t.2.2).filter fun x=>!p x)∧t.1.drop t.2.2=l.drop t.2.2) (fun t=>l.length-t.2.2)
   (l,l.findIdx p,l.findIdx p+1) (by rw[HE hh]) ⟨rfl,hs,by simp,hf,by rw[hF0],rfl⟩ ?_
  rintro⟨row,i,j⟩ ⟨r1,r2,r3,r4,r5,r6⟩
  dsimp only at r1 r2 r3 r4 r5 r6;have w1:IntKind.i64.wrap ((j:Int)+1)=((j+1:Nat):Int):=yA _ (by omega) (by omega)
  have w2:IntKind.i64.wrap ((i:Int)+1)=((i+1:Nat):Int):=yA _ (by omega) (by omega)
  rcases Nat.lt_or_ge j l.length with hlt|hge
  ·have g1:row[j]?=some l[j]:=by
    have:=congrArg (·[0]?) r6
    simp only[List.getElem?_drop,Nat.add_zero]at this;rw[this,List.getElem?_eq_getElem hlt]
   have hsj:=lF hs hlt
   have cx:=nE hsj
   have hil:i<l.length:=by omega
   have g2:row[i]?=some row[i]:=List.getElem?_eq_getElem (by omega)
   have hsi:=lF r2 (show i<row.length by omega)
   have t1:=fun xs h1=>rJ hsj hsi id i 0 xs h1
   have lx:=qJ hsj
   have sx:=pJ hsj
   simp only[gA]at lx;have hpj:=fun o t K=>hp o t _ (List.getElem_mem hlt) K
   obtain⟨cs,hcs,hcl,hca⟩:=zjn hsj;have hcells:AV.cells (.p l[j])=some (cs.map AV.p):=by rw[hcs];simp [AV.cells,hca]
   have hsp:splice [.p (.int .i64 0),.sl0 none] 0 (cs.map AV.p)=cs.map AV.p:=by unfold splice;simp [hcl]
   have hcut:cut (some 2) 0 (cs.map AV.p)=some (.p l[j]):=by rw[hcs];exact z8V hcl
   have hn4:(gA (some 2))=2:=rfl
   have q5:∀o:Obj,(h.set id o++[Obj.box (cs.map AV.p)])[id]?=some o:=fun o=>by rw[List.getElem?_append_left (by simpa using hid)];exact hst o
   have q6:∀o o':Obj,(h.set id o++[Obj.box (cs.map AV.p)]).set id o'=h.set id o'++[Obj.box (cs.map AV.p)]:=fun o o'=>by rw[List.set_append_left _ _ (by simpa using hid),List.set_set]
   cases hpx:p l[j]with
   | true=>
    simp only[go_sem,hst,r1,hlt,g1,cx,hpj,hpx,w1,hcells,hsp,hcut,hcl,hid2,hcaps];refine⟨(row,i,j+1),rfl,⟨r1,r2,by dsimp only;omega,by dsimp only;omega,?_,?_⟩,by dsimp only;omega⟩
    ·rw[List.take_succ_eq_append_getElem hlt,List.filter_append]
     simp [hpx,r5]
    ·rw[←List.drop_drop,r6,List.drop_drop]
   | false=>
    simp only[go_sem,hst,r1,hlt,hil,g1,g2,cx,hpj,hpx,w1,w2,lx,sx,t1,hcells,hsp,hcut,hcl,q5,q6,hid2,hcaps];refine⟨(row.set i l[j],i+1,j+1),rfl,⟨by simpa using r1,fun x hx=>?_,by dsimp only;omega,by dsimp only;omega,?_,?_⟩,by dsimp only;omega⟩
    ·rcases List.mem_or_eq_of_mem_set hx with hx|rfl
     ·exact r2 x hx
     ·exact hsj
    ·dsimp only
     rw[List.take_succ_eq_append_getElem hlt,List.filter_append,←r5,List.take_succ_eq_append_getElem (by simp;omega)]
     simp [hpx,List.take_set_of_le]
    ·dsimp only
     rw[List.drop_set_of_lt (by omega),←List.drop_drop,r6,List.drop_drop]
  ·have ej:j=l.length:=by omega
   subst ej;rw[List.take_length]at r5;have hm:(l.filter fun x=>!p x).length=i:=by rw[←r5];simp;omega
   have hil:i≤l.length:=by omega
   have e3:l.length-i+i=l.length:=by omega
   have sp:splice row i (List.replicate (l.length-i) (PV.agg [.int .i64 0,.sl none []]))=(l.filter fun x=>!p x)++List.replicate (l.length-i) (PV.agg [.int .i64 0,.sl none []]):=by
    unfold splice;rw[r5,List.length_replicate,List.drop_of_length_le (by omega),List.append_nil]
   have rl:((l.filter fun x=>!p x)++List.replicate (l.length-i) (PV.agg [.int .i64 0,.sl none []])).length=l.length:=by simp only[List.length_append,hm,List.length_replicate];omega
   rw[hm];generalize (l.filter fun x=>!p x)++List.replicate (l.length-i) (PV.agg [.int .i64 0,.sl none []])=row' at *
   have hb:¬h.length≤id:=by omega
   have hb2:max h.length (id+1)=h.length:=by omega
   have hb3:id+1≤h.length:=hid
   simp only[go_sem,Nat.lt_irrefl,hst,r1,rl,hil,sp,show i+(l.length-i)=l.length by omega,hb,hb2,hb3]
 ·have e1:YC p l = -1:=by simp [YC,hf]
  have hF:(l.filter fun x=>!p x)=l:=by
   rw[List.filter_eq_self];intro x hx;cases hpx:p x with
   | false=>rfl
   | true=>exact absurd (List.findIdx_lt_length_of_exists ⟨x,hx,hpx⟩) hf
  have hb:¬h.length≤id:=by omega
  have hb2:max h.length (id+1)=h.length:=by omega
  have hb3:id+1≤h.length:=hid
  simp only[go_sem,e1,hF,Nat.sub_self,List.replicate_zero,List.append_nil,hb,hb2,hb3];rw[HE hh]
attribute [go_sem] AV.cells cut
end Go.Am
end
section
/- What is drawn: lists of faults. -/
open Go
set_option linter.all false
namespace Go.Am
variable {L:List Int} {a:Int} {h l:aA} {id:Nat} {K:jA}
theorem ziB (l:List PV)(hl:l.length≤1000000):eA X xK [.p (.sl none l)] h K=K (.own h.length l.length 0 l.length) (h++[.row none l 0]) []:=by
 refine CA ?_;rw[z8i rfl];simp only[TM];refine⟨_,_,_,⟨rfl,rfl,rfl⟩,?_⟩;cases l with
 | nil=>
  simp only[List.length_nil,go_sem];exact List.take_of_length_le (by simp)
 | cons x r=>
  have hm:r.length+1≤IA:=by simp only[List.length_cons]at hl;unfold IA;omega
  simp only[List.length_cons,go_sem,hm];exact List.take_of_length_le (by simp)
theorem ziC (l:List PV)(hl:l.length≤1000000):eA X yK [.p (.sl none l)] h K=K (.own h.length l.length 0 l.length) (h++[.row none l 0]) []:=by
 refine CA ?_;rw[z8j rfl];simp only[UM];refine⟨_,_,_,⟨rfl,rfl,rfl⟩,?_⟩;cases l with
 | nil=>
  simp only[List.length_nil,go_sem];exact List.take_of_length_le (by simp)
 | cons x r=>
  have hm:r.length+1≤IA:=by simp only[List.length_cons]at hl;unfold IA;omega
  simp only[List.length_cons,go_sem,hm];exact List.take_of_length_le (by simp)
theorem frzB {o0 o1:Obj}{sh:Sh}{xs:List PV}{fz k:Nat}:frz [o0,o1,.row sh xs fz] 2 k=[o0,o1,.row sh xs (max fz k)]:=rfl
theorem zcO (n:Nat)(hn:n≤100)(hp:OA 4000 a):mH nK [AI n] L a (some 2) (fun xs a2=>a≤a2∧a2≤a+721∧∃fs:List Flt,fs.length≤6∧(∀f∈fs,rG f)∧xs=fs.map Flt.pv):=by
 refine mH.of fun h id hid=>?_
 rw[z7R rfl];have hid':id≤h.length:=by omega
 have p0:=IC (n:=0) hp (Int.le_refl a) (by omega)
 obtain⟨n1,n2⟩:=bG (u:=0) (v:=6) L a (by omega) (by omega)
 obtain⟨m,hm⟩:=Int.eq_ofNat_of_zero_le n1;rw[hm]at n2;simp only[FM,go_sem,hid,p0,hm];refine LA (fun t:List Flt×Int=>⟨[(0,.ref id 0),(1,AI n),(5,.own h.length t.1.length 0 t.1.length),(8,AI m),(9,AI t.1.length)],h.set id (rA L t.2)++[.row (some 2) (t.1.map Flt.pv) 0],[]⟩)
  (fun t=>t.1.length≤m∧(∀f∈t.1,rG f)∧a+1≤t.2∧t.2≤a+1+120*t.1.length) (fun t=>m-t.1.length) ([],a+1) rfl ⟨by simp,by simp,by simp,by simp⟩ ?_
 rintro⟨fs,b⟩ ⟨q1,q2,q3,q4⟩
 dsimp only at q1 q2 q3 q4 ⊢;rcases Nat.lt_or_ge fs.length m with hlt|hge
 ·have w2:IntKind.i64.wrap ((fs.length:Int)+1)=((fs.length+1:Nat):Int):=yA _ (by omega) (by omega)
  obtain⟨_,a3,⟨d1,d2,f,hf,rfl⟩,V⟩:=(zcM (L:=L) (a:=b) n hn (IC hp (by omega) (by omega))).app (h:=h) (l:=[.row (some 2) (fs.map Flt.pv) 0]) hid
  have C:=fun h K=>ziB (h:=h) (K:=K) (f.nets.map eI) (by have:=hf.1;simp;omega)
  rw[List.length_map]at C;have hmx:fs.length+1≤IA:=by unfold IA;omega
  have hwf:win (f.nets.map eI) 0 f.nets.length=f.nets.map eI:=ED (by simp)
  have hz:PV.shp (some 2) (.agg [.int .i64 0,.sl none []])=true:=rfl
  have hz2:PV.shp (some 2) (.agg [eI f.kind,.sl none (f.nets.map eI)])=true:=rfl
  simp only[Flt.pv]at V;simp only[go_sem,hid,hid',hlt,V,C,GB,hmx,hwf,hz,hz2,w2,frzB];rw[zka (by simp)]
  simp only[go_sem,hid'];refine⟨(fs++[f],a3),by simp [Flt.pv],⟨by simp;omega,fun g hg=>?_,by dsimp only;omega,by simp;omega⟩,by simp;omega⟩
  rcases List.mem_append.1 hg with hg|hg
  ·exact q2 g hg
  ·rw[List.mem_singleton.1 hg];exact hf
 ·have hge':¬fs.length<m:=by omega
  simp only[go_sem,hid,hid',hge'];refine⟨fs.map Flt.pv,b,⟨by omega,by omega,fs,by omega,q2,rfl⟩,by rw[List.length_map],?_⟩
  exact List.take_of_length_le (by simp)
def iQ:PV→Flt
 | .agg [.int _ k,.sl _ xs]=>⟨k,xs.map unI⟩
 | _=>⟨0,[]⟩
theorem z4f (f:Flt):iQ f.pv=f:=by
 have:(f.nets.map eI).map unI=f.nets:=by
  rw[List.map_map];exact(List.map_congr_left fun x _=>rfl).trans (List.map_id _)
 obtain⟨k,ns⟩:=f;show(⟨k,(ns.map eI).map unI⟩:Flt)=⟨k,ns⟩
 rw[this]
theorem fltPs {fs:List Flt}:KC (some 2) (fs.map Flt.pv):=fun x hx=>by obtain⟨f,_,rfl⟩:=List.mem_map.1 hx;rfl
theorem zcQ (n:Nat)(hn:n≤100)(hp:OA 4000 a):yC oK [AI n] L a (fun v a2=>a≤a2∧a2≤a+721∧∃fs:List Flt,fs.length≤6∧(∀f∈fs,rG f∧uB n f=0)∧v=xC fs):=by
 refine yC.of fun h id hid=>?_
 rw[z7X rfl];have hid':id≤h.length:=by omega
 obtain⟨xs,a2,⟨d1,d2,fs,f1,f2,rfl⟩,V⟩:=zcO (L:=L) (a:=a) n hn hp (h.set id (rA L a)++[.box [AI n]]) id (by rw[List.getElem?_append_left (by simpa using hid)];exact mE hid)
 have e0:(h.set id (rA L a)++[Obj.box [AI n]]).set id (rA L a2)=h.set id (rA L a2)++[.box [AI n]]:=by rw[List.set_append_left _ _ (by simpa using hid),List.set_set]
 rw[e0]at V;simp only[List.length_append,List.length_set,List.length_cons,List.length_nil,List.length_map,Nat.zero_add,List.append_assoc,List.cons_append,List.nil_append]at V;have hT:ZX qK [.ref h.length 0] (fun x=>decide (uB n (iQ x)≠0)) (fs.map Flt.pv) (h.length+1) (h.set id (rA L a2)++[.box [AI n],.row (some 2) (fs.map Flt.pv) 0]):=by
  intro o t x hx K;obtain⟨f,hf,rfl⟩:=List.mem_map.1 hx;have hl:=(f2 f hf).1
  show eA X _ _ _ K=K (AB (decide (uB n (iQ f.pv)≠0))) _ []
  rw[z4f];refine CA ?_;rw[z7Y rfl];have es:(h.set id (rA L a2)++[Obj.box [AI n],.row (some 2) (fs.map Flt.pv) 0]).set (h.length+1) o=h.set id (rA L a2)++[.box [AI n],o]:=by
   rw[List.set_append_right _ _ (by simp)]
   simp
  rw[es];have q:=fun h K=>ziF (h:=h) (K:=K) n f (by omega) (by omega)
  have fp:Flt.pv f = .agg [eI f.kind,.sl none (f.nets.map eI)]:=rfl
  rw[fp]at q ⊢;have g1:(h.set id (rA L a2)++Obj.box [AI n]::o::(t++[Obj.box [.p (eI f.kind),.p (.sl none (f.nets.map eI))]]))[h.length]?=some (.box [AI n]):=by
   rw[List.getElem?_append_right (by simp)]
   simp
  simp only[LM,go_sem,hid,g1,↓q,q];simp
 have D:=fun K=>z4L (K:=K) (h:=h.set id (rA L a2)++[.box [AI n],.row (some 2) (fs.map Flt.pv) 0]) (h.length+1) (fs.map Flt.pv) fltPs (by simp;omega) (by rw[List.getElem?_append_right (by simp)];simp) hT (by simp [AV.tops,AV.top])
 have e1:fs.map Flt.pv=fs.map Flt.pv:=rfl
 have ef:((fs.map Flt.pv).filter fun x=>!decide (uB n (iQ x)≠0))=(fs.filter fun f=>decide (uB n f=0)).map Flt.pv:=by
  rw[List.filter_map];congr 1
  apply List.filter_congr
  intro f _;simp [z4f]
 rw[List.length_map,ef,List.length_map]at D;have fl:(fs.filter fun f=>decide (uB n f=0)).length≤fs.length:=List.length_filter_le ..
 have fm:∀f∈fs.filter (fun f=>decide (uB n f=0)),rG f∧uB n f=0:=fun f hf=>by
  rw[List.mem_filter]at hf;exact⟨f2 f hf.1,by simpa using hf.2⟩
 generalize fs.filter (fun f=>decide (uB n f=0))=gs at *
 have hle:fs.length=gs.length+(fs.length-gs.length):=by omega
 have rl:(gs.map Flt.pv++List.replicate (fs.length-gs.length) (PV.agg [.int .i64 0,.sl none []])).length=fs.length:=by simp;omega
 have hw:win (gs.map Flt.pv++List.replicate (fs.length-gs.length) (PV.agg [.int .i64 0,.sl none []])) 0 gs.length=gs.map Flt.pv:=by unfold win;simp
 generalize gs.map Flt.pv++List.replicate (fs.length-gs.length) (PV.agg [.int .i64 0,.sl none []])=row at *;simp only[KM,go_sem,hid,hid',↓V,V,↓D,D,rl,fl,hw,AV.top,Nat.zero_le];exact⟨a2,⟨d1,d2,gs,by omega,fm,rfl⟩,rfl⟩
end Go.Am
end
section
/- Faults detected,asv the program computes it. -/
open Go
set_option linter.all false
namespace Go.Am
variable {h:aA} {K:jA}
theorem ziY (r:List Nat)(f:Flt)(lg:Nat)(hl:lg≤64)(hf:rF f.nets r.length)(hr:r.length≤1000000)(hb:∀ x∈r,x<18446744073709551616) :
 eA X iK [.p (.sl none (r.map eU)),.p f.pv,AI lg] h K=K (.p (.sl none ((DC r f (2^lg-1)).map eU))) h []:=by
 refine CA ?_;rw[z7E rfl];have C:=fun h K=>ziC (h:=h) (K:=K) (r.map eU) (by simpa using hr)
 rw[List.length_map]at C;have wh:=fun h K=>XW (h:=h) (K:=K) lg hl
 have W:=fun(K:jA)=>zja (h:=h++[.box [AI f.kind,AL f.nets],.row none (r.map eU) 0]) (K:=K) f r hf (id:=h.length+1) (by rw[sF];rfl) hr hb (2^lg-1)
 have hw:win ((DC r f (2^lg-1)).map eU) 0 r.length=(DC r f (2^lg-1)).map eU:=ED (by rw[List.length_map,FN])
 have hl2:((DC r f (2^lg-1)).map eU).length=r.length:=by rw[List.length_map,FN]
 have hl3:(DC r f (2^lg-1)).length=r.length:=FN _ _ _
 simp only[Flt.pv]at W;simp only[vM,Flt.pv,go_sem,C,wh,W,hw,hl3]
theorem ziQ (r:List Nat)(f:Flt)(lg:Nat)(hl:lg≤64)(hf:rF f.nets r.length)(hr:r.length≤1000000)(hb:∀ x∈r,x<2^lg) :
 eA X EG [.p (.sl none (r.map eU)),.p f.pv,AI lg] h K=K (.p (eU (CG lg r f))) h []:=by
 refine CA ?_;rw[z77 rfl];have l64:=le64 hl
 have R:=fun h K=>ziY (h:=h) (K:=K) r f lg hl hf hr (fun x hx=>Nat.lt_of_lt_of_le (hb x hx) l64)
 have hl3:(DC r f (2^lg-1)).length=r.length:=FN _ _ _
 have hb2:=z1r (f:=f) hb (zeY lg)
 simp only[Flt.pv]at R;simp only[rM,Flt.pv,go_sem,R,hl3];unfold CG;generalize DC r f (2^lg-1)=r2 at *;refine LA (fun k:Nat=>⟨[(0,.p (.sl none (r.map eU))),(7,.p (eU (dtK r2 r k))),(13,.p (.sl none (r2.map eU))),(14,AI r.length),(15,AI k)],h++[.box [AI f.kind,AL f.nets]],[]⟩) (fun k=>k≤r.length) (fun k=>r.length-k) 0 rfl (by omega) ?_
 intro k hk;rcases Nat.lt_or_ge k r.length with hlt|hge
 ·have g1:=aB eU hlt
  have g2:=aB eU (show k<r2.length by omega)
  have w2:IntKind.i64.wrap ((k:Int)+1)=((k+1:Nat):Int):=yA _ (by omega) (by omega)
  have b1:=Nat.lt_of_lt_of_le (hb _ (List.getElem_mem hlt)) l64
  have b2:=Nat.lt_of_lt_of_le (hb2 _ (List.getElem_mem (show k<r2.length by omega))) l64
  have b3:=Nat.lt_of_lt_of_le (kU hb2 hb k) l64
  have e1:=z1R b2 b1
  have e2:=JN b3 (b:=r2[k] ^^^ r[k]) (by rw[←iC]at *;exact Nat.xor_lt_two_pow b2 b1)
  have e3:dtK r2 r (k+1)=dtK r2 r k ||| (r2[k] ^^^ r[k]):=by
   rw[dtK];simp [List.getD_eq_getElem?_getD,List.getElem?_eq_getElem hlt,List.getElem?_eq_getElem (show k<r2.length by omega)]
  simp only[go_sem,hlt,g1,g2,e1,e2,w2];exact⟨k+1,by rw[e3],by omega,by omega⟩
 ·have ek:k=r.length:=by omega
  subst ek;simp only[go_sem,Nat.lt_irrefl]
def RC (t:List (List UInt8))(f:Flt):Nat:=CG (t.headD []).length (t.map MA) f
end Go.Am
end
section
/- The shortest way between two states of a test access port: a search over a queue. -/
open Go
set_option linter.all false
namespace Go.Am
variable {h:aA} {K:jA}
attribute [-go_sem] BD BE bL dL
def nxtT:List (List Nat):=[[1,0],[1,2],[3,9],[4,5],[4,5],[6,8],[6,7],[4,8],[1,2],[10,0],[11,12],[11,12],[13,15],[13,14],[11,15],[1,2]]
def nxt (s t:Nat):Nat:=(nxtT.getD s []).getD t 0
theorem zeU {s t:Nat}(hs:s<16)(ht:t<2):([AI 1,AI 0,AI 1,AI 2,AI 3,AI 9,AI 4,AI 5,AI 4,AI 5,AI 6,AI 8,AI 6,AI 7,AI 4,AI 8,AI 1,AI 2,AI 10,AI 0,AI 11,AI 12,AI 11,AI 12,AI 13,AI 15,AI 13,AI 14,AI 11,AI 15,AI 1,AI 2]:List AV)[s*2+t*1]?=some (AI (nxt s t)):=by
 have hs':s=0∨s=1∨s=2∨s=3∨s=4∨s=5∨s=6∨s=7∨s=8∨s=9∨s=10∨s=11∨s=12∨s=13∨s=14∨s=15:=by omega
 have ht':t=0∨t=1:=by omega
 rcases hs' with rfl|rfl|rfl|rfl|rfl|rfl|rfl|rfl|rfl|rfl|rfl|rfl|rfl|rfl|rfl|rfl <;> rcases ht' with rfl|rfl <;> rfl
theorem zcU {Y:Ctx}(hY:Y.fn PG=some zJ)(s t:Nat)(hs:s<16)(ht:t<2):eA Y PG [AI s,AI t] h K=K (AI (nxt s t)) h []:=by
 refine CA ?_;rw[DA hY rfl (show nA h [AI s,AI t]=some ([AI s,AI t],h) from rfl) rfl,zcb]
 show gU _ _ _ _ _ _ (oA [.t 4] false _ _)
 have g:=zeU hs ht
 simp only[gU,go_sem,hs,ht,g]
abbrev rC:=List (Int × List UInt8)
def uC (n:Int):PV:=.int .i64 n
def wC (s:List UInt8):AV:=.p (.str s)
def sG (t:Nat):List UInt8:=[UInt8.ofNat (48+t)]
def mG (at_ t:Nat)(s:rC × List Nat):rC×List Nat:=
 if(rB (nxt at_ t:Int) s.1).isSome then s else(sD (nxt at_ t:Int) ((rB (at_:Int) s.1).getD []++sG t) s.1,s.2++[nxt at_ t])
def oF (at_:Nat):Nat→rC×List Nat→rC×List Nat
 | 0,s=>s
 | t+1,s=>mG at_ t (oF at_ t s)
def popS (s:rC × List Nat):rC×List Nat:=match s.2 with
 | []=>s
 | a::r=>oF a 2 (s.1,r)
def bfs (a:Nat):Nat→rC×List Nat
 | 0=>([((a:Int),[])],[a])
 | k+1=>popS (bfs a k)
def wW (a b:Nat):List UInt8:=(rB (b:Int) (bfs a 16).1).getD []
def WH (s:rC × List Nat):Bool:=decide (s.1.length≤16)&&decide (s.2.length≤16)&&s.2.all (fun x=>decide (x<16))&&s.1.all (fun e=>decide (e.2.length≤16))
theorem uY:(List.range 16).all (fun a=>(List.range 16).all (fun k=>WH (bfs a k) && !(bfs a k).2.isEmpty)&&WH (bfs a 16)&&(bfs a 16).2.isEmpty)=true:=by kernel_rfl
theorem z6R {a k:Nat}(ha:a<16)(hk:k<16):WH (bfs a k)=true∧(bfs a k).2≠[]:=by
 have h1:=List.all_eq_true.1 uY a (List.mem_range.2 ha)
 simp only[Bool.and_eq_true]at h1;have h2:=List.all_eq_true.1 h1.1.1 k (List.mem_range.2 hk)
 simp only[Bool.and_eq_true,Bool.not_eq_true',List.isEmpty_eq_false_iff]at h2;exact h2
theorem z6Q {a:Nat}(ha:a<16):WH (bfs a 16)=true∧(bfs a 16).2=[]:=by
 have h1:=List.all_eq_true.1 uY a (List.mem_range.2 ha)
 simp only[Bool.and_eq_true,List.isEmpty_iff]at h1;exact⟨h1.1.2,h1.2⟩
theorem zcE {s:rC × List Nat}(hf:WH s=true):s.1.length≤16∧s.2.length≤16∧(∀x∈s.2,x<16)∧∀e∈s.1,e.2.length≤16:=by
 unfold WH at hf;simp only[Bool.and_eq_true,decide_eq_true_eq,List.all_eq_true]at hf;exact⟨hf.1.1.1,hf.1.1.2,hf.1.2,hf.2⟩
theorem z2c {hp:aA}{id:Nat}{m:rC}{b:Int}(hh:hp[id]?=some (XB uC wC m)):BD (none,[0]) false (.p (.str [])) (.mp id) (AI b) hp=some (.p (.str ((rB b m).getD []))):=by
 have:=z2d (key:=uC) (val:=wC) (fun a b=>QU a b) hh (kk:=(none,[0])) (k:=b) RU (ok:=false) (z:=.p (.str []))
 rw[cond_false]at this;refine this.trans ?_;cases rB b m <;> rfl
theorem lookQ {hp:aA}{id:Nat}{m:rC}{b:Int}(hh:hp[id]?=some (XB uC wC m)):BD (none,[0]) true (.p (.str [])) (.mp id) (AI b) hp=some (.tup [.p (.str ((rB b m).getD [])),AB (rB b m).isSome]):=by
 have:=z2d (key:=uC) (val:=wC) (fun a b=>QU a b) hh (kk:=(none,[0])) (k:=b) RU (ok:=true) (z:=.p (.str []))
 rw[cond_true]at this;refine this.trans ?_;cases rB b m <;> rfl
theorem updP {hp:aA}{id:Nat}{m:rC}{b:Int}{v:List UInt8}(hh:hp[id]?=some (XB uC wC m)):BE (none,[0]) (.mp id) (AI b) (.p (.str v)) hp=some (.und,hp.set id (XB uC wC (sD b v m)),[]):=
 zeF (key:=uC) (val:=wC) (fun a b=>QU a b) hh (kk:=(none,[0])) (k:=b) RU (v:=v) rfl
structure Que (R:aA) (i:Nat) (xs:List Nat) (off:Nat) (q:List Nat):Prop where
 get:R[i]?=some (.row none (xs.map fun n:Nat=>eI n) 0)
 le:off≤xs.length
 eq:xs.drop off=q
theorem zeT {hp:aA}{id:Nat}{xs:List Nat}{off:Nat}{n:Int}{k:AV→aA→Esc→Prop}(hh:hp[id]?=some (.row none (xs.map fun n:Nat=>eI n) 0))(ho:off≤xs.length)(hm:xs.length≤1000000)
 (k1:k (.own id (xs.length+1) off (xs.length-off+1)) (hp.set id (.row none (xs.map (fun n:Nat=>eI n)++[eI n]) 0)) [])
 (k2:k (.own hp.length (xs.length-off+1) 0 (xs.length-off+1)) (hp++[.row none ((xs.drop off).map (fun n:Nat=>eI n)++[eI n]) 0]) []) :
 nqK (some none) [.own id xs.length off (xs.length-off),.p (.sl none [eI n])] hp k:=by
 have hx:xs.length-off+1≤IA:=by unfold IA;omega
 have hr:rds hp (.p (.sl none [eI n]))=some (none,[eI n]):=rfl
 have hw:win (xs.map fun n:Nat=>eI n) off (xs.length-off)=(xs.drop off).map fun n:Nat=>eI n:=by
  unfold win;rw[←List.map_drop];exact List.take_of_length_le (by simp)
 unfold nqK zG appq;simp only[hr,if_true,hh,List.length_map,List.length_cons,List.length_nil,Nat.zero_add];rw[if_pos ⟨trivial,trivial,by omega,hx,Nat.zero_le _⟩,hw]
 refine⟨by simp,fun y hy=>?_⟩
 simp only[List.mem_cons,List.not_mem_nil,or_false]at hy;rcases hy with rfl|rfl
 ·exact k1
 ·exact k2
theorem z2i {α β:Type}[DecidableEq α]{k:α}{v:β}:∀{l:List (α×β)} {e:α×β},e∈sD k v l→e∈l∨e=(k,v)
 | [],e,h=>by simp [sD]at h;exact .inr h
 | x::r,e,h=>by
  unfold sD at h;split at h
  ·rcases List.mem_cons.1 h with h|h
   ·exact .inr h
   ·exact .inl (List.mem_cons_of_mem _ h)
  ·rcases List.mem_cons.1 h with h|h
   ·exact .inl (h ▸ List.mem_cons_self)
   ·rcases z2i h with h|h
    ·exact .inl (List.mem_cons_of_mem _ h)
    ·exact .inr h
theorem z1B {α β:Type}[DecidableEq α]{k:α}{v:β}:∀{l:List (α×β)},rB k l=some v→(k,v)∈l
 | [],h=>by cases h
 | x::r,h=>by
  unfold rB at h;split at h
  ·rename_i he;cases h;subst he;simp
  ·exact List.mem_cons_of_mem _ (z1B h)
theorem z4r {n:Nat}{w:rC}(hw:∀ e∈w,e.2.length≤n)(k:Int):((rB k w).getD []).length≤n:=by
 cases hg:rB k w with
 | none=>simp
 | some v=>exact hw _ (z1B hg)
theorem zkj {n at_ t:Nat}{s:rC × List Nat}(hw:∀ e∈s.1,e.2.length≤n):∀e∈(mG at_ t s).1,e.2.length≤n+1:=by
 unfold mG;split
 ·intro e he;have:=hw e he;omega
 ·intro e he
  rcases z2i he with h|h
  ·have:=hw e h;omega
  ·subst h
   have:=z4r hw (at_:Int);simp [sG];omega
theorem z4m {n at_:Nat}{s:rC × List Nat}(hw:∀ e∈s.1,e.2.length≤n):∀(t:Nat),∀e∈(oF at_ t s).1,e.2.length≤n+t
 | 0=>hw
 | t+1=>zkj (z4m hw t)
set_option maxHeartbeats 1000000 in
theorem zcT {Y:Ctx}(hY1:Y.fn QG=some UL)(hY2:Y.fn PG=some zJ)(a b:Nat)(ha:a<16)(hb:b<16):eA Y QG [AI a,AI b] h K=K (.p (.str (wW a b))) h []:=by
 refine CA ?_;rw[HJ hY1 rfl (show nA h [AI a,AI b]=some ([AI a,AI b],h) from rfl) rfl]
 simp only[zcc];show ∃v h' x,_∧pN _ _ _ _ _ _ _ _ (oA [.t 4] false _ _)
 simp only[pN];refine⟨_,_,_,⟨rfl,rfl,rfl⟩,?_⟩;have em:XB uC wC [((a:Int),([]:List UInt8))] = .amap [⟨.int .i64 a,.p (.str []),0⟩] 1:=rfl
 have u0:=fun(hp:aA) (hh:hp[h.length]?=some (XB uC wC []))=>updP (b:=(a:Int)) (v:=[]) hh
 have e0:sD (a:Int) [] ([]:rC)=[((a:Int),[])]:=rfl
 have em0:XB uC wC ([]:rC) = .amap [] 0:=rfl
 rw[e0]at u0;simp only[em0]at u0;simp only[go_sem,u0];refine LA (fun t:Nat×aA×Nat×List Nat×Nat×Option Nat=>⟨[(1,AI b),(5,.mp h.length),(6,.own (h.length+(t.2.2.1+1)) t.2.2.2.1.length t.2.2.2.2.1 (t.2.2.2.1.length-t.2.2.2.2.1))]++(match t.2.2.2.2.2 with|none=>[]|some q=>[(7,AI q),(25,AI 2),(26,AB false)]),h++XB uC wC (bfs a t.1).1::t.2.1,[]⟩)
  (fun t=>t.1≤16∧Que t.2.1 t.2.2.1 t.2.2.2.1 t.2.2.2.2.1 (bfs a t.1).2∧t.2.2.2.1.length≤1+2*t.1) (fun t=>16-t.1) (0,[.row none [eI a] 0],0,[a],0,none) (by simp [bfs]) ⟨by simp,⟨rfl,by simp,rfl⟩,by simp⟩ ?_
 rintro⟨k,R,i,xs,off,oq⟩ ⟨h1,hq,h2⟩
 dsimp only at h1 hq h2 ⊢;have hqg:=hq.get
 have hle:=hq.le
 have heq:=hq.eq
 have hln:xs.length-off=(bfs a k).2.length:=by rw[←heq];simp
 by_cases hk:k<16
 ·obtain⟨hf,hne⟩:=z6R ha hk
  obtain⟨f1,f2,f3,f4⟩:=zcE hf;have hpos:0<xs.length-off:=by rw[hln];exact List.length_pos_iff.2 hne
  have hoff:off<xs.length:=by omega
  obtain⟨q0,qr,hqe⟩:∃q0 qr,(bfs a k).2=q0::qr:=by
   cases hb2:(bfs a k).2 with
   | nil=>exact absurd hb2 hne
   | cons x y=>exact⟨x,y,rfl⟩
  have hx0:xs[off]?=some q0:=by
   have:(xs.drop off)[0]?=some q0:=by rw[heq,hqe];rfl
   rwa [List.getElem?_drop,Nat.add_zero]at this
  have hdr:xs.drop (off+1)=qr:=by
   rw[←List.drop_drop,heq,hqe];rfl
  have hq0:q0<16:=f3 q0 (by rw[hqe];simp)
  have hgq:(xs.map fun n:Nat=>eI n)[off]?=some (eI q0):=by rw[List.getElem?_map,hx0];rfl
  have hpi:(0:Int)<((xs.length-off:Nat):Int):=by omega
  have hl1:1≤xs.length-off:=by omega
  have hbn:bfs a (k+1)=oF q0 2 ((bfs a k).1,qr):=by show popS _=_;unfold popS;rw[hqe]
  have e3:xs.length-off-1=xs.length-(off+1):=by omega
  have hcond:off+(xs.length-off)≤xs.length:=by omega
  have hNL:∀(e:List (Nat×AV)),zA (some [1,5,6,7,25]) e=zA (some [1,5,6,7,25]) e:=fun _=>rfl
  rcases oq with _|oq
  all_goals
  simp only[List.append_nil,List.cons_append,List.nil_append,go_sem,List.getElem?_cons_succ,hqg,hpi,hpos,hgq,hl1,hcond];all_goals
  clear u0 em em0 e0;generalize hw0:((bfs a k).1,qr)=s0 at *;have es1:(bfs a k).1=s0.1:=by rw[←hw0]
  have es2:qr=s0.2:=by rw[←hw0]
  rw[es1,e3];refine LA (fun t:Nat×aA×Nat×List Nat×Nat=>⟨[(1,AI b),(5,.mp h.length),(6,.own (h.length+(t.2.2.1+1)) t.2.2.2.1.length t.2.2.2.2 (t.2.2.2.1.length-t.2.2.2.2)),(7,AI q0),(25,AI t.1)],h++XB uC wC (oF q0 t.1 s0).1::t.2.1,[]⟩)
   (fun t=>t.1≤2∧Que t.2.1 t.2.2.1 t.2.2.2.1 t.2.2.2.2 (oF q0 t.1 s0).2∧t.2.2.2.1.length≤1+2*k+t.1) (fun t=>2-t.1) (0,R,i,xs,off+1) rfl ⟨by simp,⟨hqg,hoff,by rw[hdr,es2];rfl⟩,by simp;omega⟩ ?_
  rintro⟨j,R',i',ys,of'⟩ ⟨j1,jq,j2⟩
  dsimp only at j1 jq j2 ⊢;have jg:=jq.get
  have jle:=jq.le
  have jeq:=jq.eq
  by_cases hj:j<2
  ·have hji:(j:Int)<2:=by omega
   have qn:=fun h K=>zcU (h:=h) (K:=K) hY2 q0 j hq0 hj
   have hvis:oF q0 (j+1) s0=mG q0 j (oF q0 j s0):=rfl
   generalize hsj:oF q0 j s0=s at *;have lq:=fun(hp:aA) (hh:hp[h.length]?=some (XB uC wC s.1))=>lookQ (b:=(nxt q0 j:Int)) hh
   have lp:=fun(hp:aA) (hh:hp[h.length]?=some (XB uC wC s.1))=>z2c (b:=(q0:Int)) hh
   have up:=fun(hp:aA) (v:List UInt8) (hh:hp[h.length]?=some (XB uC wC s.1))=>updP (b:=(nxt q0 j:Int)) (v:=v) hh
   have w1:IntKind.i64.wrap ((j:Int)+1)=((j+1:Nat):Int):=yA _ (by omega) (by omega)
   cases hs:(rB (nxt q0 j:Int) s.1).isSome with
   | true=>
    have hv:mG q0 j s=s:=by unfold mG;rw[if_pos hs]
    rw[hv]at hvis;simp only[go_sem,hji,↓qn,qn,lq,hs,w1];exact⟨(j+1,R',i',ys,of'),by dsimp only;rw[hvis],⟨by dsimp only;omega,by dsimp only;rw[hvis];exact jq,by dsimp only;omega⟩,by dsimp only;omega⟩
   | false=>
    have hv:mG q0 j s=(sD (nxt q0 j:Int) ((rB (q0:Int) s.1).getD []++sG j) s.1,s.2++[nxt q0 j]):=by unfold mG;rw[hs];rfl
    rw[hv]at hvis;have w2:IntKind.i64.wrap (48+(j:Int))=((48+j:Nat):Int):=yA _ (by omega) (by omega)
    have w3:IntKind.i32.wrap ((48+j:Nat):Int)=((48+j:Nat):Int):=by
     have:j=0∨j=1:=by omega
     rcases this with rfl|rfl <;> rfl
    have w4:(0:Int)≤((48+j:Nat):Int)∧((48+j:Nat):Int)<128:=by omega
    have hln2:=z4r (z4m (n:=16) (at_:=q0) (s:=s0) (by rw[←es1];exact f4) j) (q0:Int)
    rw[hsj]at hln2;have w5:((rB (q0:Int) s.1).getD []).length+(sG j).length≤zD:=by have:(sG j).length=1:=rfl;unfold zD;omega
    have w6:[UInt8.ofNat ((48+j:Nat):Int).toNat]=sG j:=rfl
    simp only[go_sem,hji,↓qn,qn,lq,hs,lp,up,w1,w2,w3,w4,w5,w6];have hh1:(h++XB uC wC (sD (nxt q0 j:Int) ((rB (q0:Int) s.1).getD []++sG j) s.1)::R')[h.length+(i'+1)]?=some (.row none (ys.map fun n:Nat=>eI n) 0):=by
     rw[List.getElem?_append_right (by omega)];simpa using jg
    have hi':i'<R'.length:=tA jg
    refine zeT hh1 jle (by omega) ?_ ?_
    ·refine⟨(j+1,R'.set i' (.row none (ys.map (fun n:Nat=>eI n)++[eI (nxt q0 j)]) 0),i',ys++[nxt q0 j],of'),?_,⟨by dsimp only;omega,⟨?_,?_,?_⟩,?_⟩,by dsimp only;omega⟩
     ·dsimp only
      rw[hvis,List.set_append_right _ _ (by omega)]
      simp only[List.length_append,List.length_cons,List.length_nil,Nat.add_sub_cancel_left,List.set_cons_succ];rw[show ys.length+1-of'=ys.length-of'+1 by omega]
     ·dsimp only
      rw[List.getElem?_set_self hi'];simp
     ·simp;omega
     ·dsimp only
      rw[hvis,List.drop_append_of_le_length jle,jeq]
     ·simp;omega
    ·refine⟨(j+1,R'++[.row none ((ys.drop of').map (fun n:Nat=>eI n)++[eI (nxt q0 j)]) 0],R'.length,ys.drop of'++[nxt q0 j],0),?_,⟨by dsimp only;omega,⟨?_,?_,?_⟩,?_⟩,by dsimp only;omega⟩
     ·dsimp only
      rw[hvis];simp
     ·simp
     ·simp
     ·dsimp only
      rw[hvis,jeq,List.drop_zero]
     ·simp;omega
  ·have hj2:j=2:=by omega
   subst hj2;simp only[go_sem];refine⟨(k+1,R',i',ys,of',some q0),?_,⟨by dsimp only;omega,by dsimp only;rw[hbn];exact jq,by dsimp only;omega⟩,by dsimp only;omega⟩
   dsimp only;rw[hbn]
 ·have hk16:k=16:=by omega
  subst hk16;obtain⟨_,hne⟩:=z6Q ha;have hz:xs.length-off=0:=by rw[hln,hne];rfl
  have lk:=fun(hp:aA) (hh:hp[h.length]?=some (XB uC wC (bfs a 16).1))=>z2c (b:=(b:Int)) hh
  have hpv:(rB (b:Int) (bfs a 16).1).getD []=wW a b:=rfl
  rcases oq with _|oq <;> simp only[List.append_nil,List.cons_append,List.nil_append,go_sem,hz,lk,hpv]
end Go.Am
end
section
/- ready: a BB call,computed. -/
open Go
set_option linter.all false
namespace Go.Am
def orcP (f:Nat)(a:List AV):Option AV:=bif Nat.beq f QG then match a with
 | [.p (.int .i64 x),.p (.int .i64 y)]=>bif decide (0≤x)&&decide (x<16)&&decide (0≤y)&&decide (y<16) then some (.p (.str (wW x.toNat y.toNat))) else none
 | _=>none else none
theorem zfd:∀ f a v,orcP f a=some v→∀ h (K:jA),K v h []→eA X0 f a h K:=by
 intro f a v hv h K hK;unfold orcP at hv;cases hf:Nat.beq f QG with
 | false=>rw[hf]at hv;cases hv
 | true=>
  have hf':=Nat.eq_of_beq_eq_true hf
  rw[hf]at hv;subst hf';simp only[cond_true]at hv;split at hv
  ·rename_i x y
   cases hc:(decide (0≤x)&&decide (x<16)&&decide (0≤y)&&decide (y<16)) with
   | false=>rw[hc]at hv;cases hv
   | true=>
    rw[hc]at hv;simp only[cond_true,Option.some.injEq]at hv;simp only[Bool.and_eq_true,decide_eq_true_eq]at hc;obtain⟨a,rfl⟩:=Int.eq_ofNat_of_zero_le hc.1.1.1;obtain⟨b,rfl⟩:=Int.eq_ofNat_of_zero_le hc.1.2;have:=zcT (h:=h) (K:=K) zkr zkq a b (by omega) (by omega)
    rw[this];subst hv;exact hK
  ·cases hv
theorem zir:aK X0 orcP 1000 60 KG [] []=some (AB true,[],[]):=by kernel_rfl
theorem zl3:eA X0 KG [] [] fun v h x=>v=AB true∧h=[]∧x=[]:=(z45 zfd 1000 60 zir _).2 ⟨rfl,rfl,rfl⟩
theorem z32 {h:aA}{K:jA}:eA X KG [] h K=K (AB true) h []:=QN (by kernel_rfl) rfl
end Go.Am
end
section
/- What all laws of the keep package use. -/
open Go
set_option linter.all false
namespace Go.Am
variable {h:aA} {K:jA}
theorem ziT (l:List Int)(hl:l.length≤1000):eA X JG [AL l] h K=K (AI (XH l)) h []:=by
 refine CA ?_;rw[z7N rfl];simp only[CM,go_sem];refine LA (fun k:Nat=>⟨[(5,AL l),(6,AI l.length),(7,AI k)],h,[]⟩) (fun k=>k≤l.length∧XH (l.drop k)=XH l) (fun k=>l.length-k) 0 rfl (by simp) ?_
 rintro k ⟨hk,hp⟩
 rcases Nat.lt_or_ge k l.length with hlt|hge
 ·have hg:=aB eI hlt
  have w2:IntKind.i64.wrap ((k:Int)+1)=((k+1:Nat):Int):=yA _ (by omega) (by omega)
  rw[List.drop_eq_getElem_cons hlt,XH]at hp;by_cases he:l[k]=0
  ·rw[if_pos he]at hp
   simp only[go_sem,hlt,hg,w2,he];exact⟨k+1,rfl,⟨by omega,hp⟩,by omega⟩
  ·rw[if_neg he]at hp
   simp only[go_sem,hlt,hg,w2,he];rw[hp]
 ·have e1:k=l.length:=by omega
  subst e1;simp only[go_sem,Nat.lt_irrefl];rw[List.drop_length]at hp;rw[←hp];rfl
end Go.Am
end
section
/- ShortsAreAlike returns true. -/
open Go
set_option linter.all false
namespace Go.Am
variable {h:aA} {K:jA}
end Go.Am
end
section
/- FaultsAreOnes returns true. -/
open Go
set_option linter.all false
namespace Go.Am
variable {h:aA} {K:jA}
end Go.Am
end
section
/- Responses,the reference's way. -/
open Go
set_option linter.all false
namespace Go.Am
variable {h:aA} {K:jA}
end Go.Am
end
section
/- Responses of tests,the reference's way. -/
open Go
set_option linter.all false
namespace Go.Am
variable {h:aA} {K:jA}
theorem uZ {t:List (List UInt8)}{f:Flt}{lg:Nat}(e:(t.headD []).length=lg)(hf:rF f.nets t.length)(v:Nat):(RC t f).testBit v=true↔∃n,n<t.length∧(hJ (t.map MA) (2^lg-1) f n).testBit v≠(MA (t.getD n [])).testBit v:=by
 unfold RC CG;rw[e,DZ,List.length_map];have hq:∀n,n<t.length→(DC (t.map MA) f (2^lg-1)).getD n 0=hJ (t.map MA) (2^lg-1) f n:=by
  intro k hk;unfold DC hJ;rw[List.getD_eq_getElem?_getD,z3E _ _ _ _ (fun n hn=>(hf.2.2 n hn).1),List.length_map]
  by_cases hm:(k:Int)∈f.nets
  ·rw[if_pos ⟨hm,hk⟩,if_pos hm];rfl
  ·rw[if_neg (fun q=>hm q.1),if_neg hm,List.getD_eq_getElem?_getD]
 have hr:∀n,n<t.length→(t.map MA).getD n 0=MA (t.getD n []):=fun n hn=>by simp [List.getD_eq_getElem?_getD,List.getElem?_eq_getElem hn]
 constructor
 ·rintro⟨n,h1,h2⟩;exact⟨n,h1,by rw[←hq n h1,←hr n h1];exact h2⟩
 ·rintro⟨n,h1,h2⟩;exact⟨n,h1,by rw[hq n h1,hr n h1];exact h2⟩
theorem HR (k d:Nat):vA (k+1) d=vA k d++if d.testBit k=true then [k] else []:=by
 unfold vA;rw[List.range_succ,List.filter_append];cases hq:d.testBit k <;> simp [hq]
end Go.Am
end
section
/- How many bits;which vectors detect each fault;are some enough: the program. -/
open Go
set_option linter.all false
namespace Go.Am
variable {h:aA} {K:jA}
theorem TG {a b:Nat}(h:a+b<18446744073709551616):IntKind.u64.wrap ((a:Int)+(b:Int))=((a+b:Nat):Int):=by
 have:=kG (a+b) h;rw[←this];congr 1
theorem zdh {a b:Nat}(ha:a<9223372036854775808)(hb:b<9223372036854775808):XC .i64 (a:Int) (b:Int)=((a &&& b:Nat):Int):=by
 show IntKind.i64.wrap ((BitVec.ofInt 64 (a:Int) &&& BitVec.ofInt 64 (b:Int)).toNat:Int)=_
 rw[bvN,bvN,BitVec.toNat_and,BitVec.toNat_ofNat,BitVec.toNat_ofNat,Nat.mod_eq_of_lt (by rw[iC];omega),Nat.mod_eq_of_lt (by rw[iC];omega)]
 have h:a &&& b≤a:=Nat.and_le_left
 exact yA _ (by omega) (by omega)
theorem z7l (n:Nat):SA n≤12297829382473034410∧yB (SA n)≤7378697629483820646∧VB (yB (SA n))≤1085102592571150095:=by
 refine⟨?_,?_,?_⟩
 ·have h1:n / 2 &&& 6148914691236517205≤6148914691236517205:=Nat.and_le_right
  have h2:n &&& 6148914691236517205≤6148914691236517205:=Nat.and_le_right
  unfold SA;omega
 ·generalize SA n=m
  have h1:m / 4 &&& 3689348814741910323≤3689348814741910323:=Nat.and_le_right
  have h2:m &&& 3689348814741910323≤3689348814741910323:=Nat.and_le_right
  unfold yB;omega
 ·exact Nat.and_le_right
theorem VW (n:Nat)(hn:n<18446744073709551616):eA X IG [.p (eU n)] h K=K (AI (uA 64 n:Nat)) h []:=by
 refine CA ?_;rw[z7L rfl];obtain⟨b1,b2,b3⟩:=z7l n;have e1:yD .u64 (n:Int) 1=((n / 2:Nat):Int):=VG (a:=n) (i:=1) (by omega)
 have e2:XC .u64 ((n / 2:Nat):Int) 6148914691236517205=((n / 2 &&& 6148914691236517205:Nat):Int):=yE (a:=n / 2) (b:=6148914691236517205) (by omega) (by omega)
 have e3:XC .u64 (n:Int) 6148914691236517205=((n &&& 6148914691236517205:Nat):Int):=yE (a:=n) (b:=6148914691236517205) hn (by omega)
 have e4:IntKind.u64.wrap (((n / 2 &&& 6148914691236517205:Nat):Int)+((n &&& 6148914691236517205:Nat):Int))=((SA n:Nat):Int):=TG (by have:=b1;unfold SA at this;omega)
 have e5:yD .u64 ((SA n:Nat):Int) 2=((SA n / 4:Nat):Int):=VG (a:=SA n) (i:=2) (by omega)
 have e6:XC .u64 ((SA n / 4:Nat):Int) 3689348814741910323=((SA n / 4 &&& 3689348814741910323:Nat):Int):=yE (a:=SA n / 4) (b:=3689348814741910323) (by omega) (by omega)
 have e7:XC .u64 ((SA n:Nat):Int) 3689348814741910323=((SA n &&& 3689348814741910323:Nat):Int):=yE (a:=SA n) (b:=3689348814741910323) (by omega) (by omega)
 have e8:IntKind.u64.wrap (((SA n / 4 &&& 3689348814741910323:Nat):Int)+((SA n &&& 3689348814741910323:Nat):Int))=((yB (SA n):Nat):Int):=TG (by have:=b2;unfold yB at this;omega)
 have d2:(popL n)=(((VB (yB (SA n))+VB (yB (SA n)) / 256)+(VB (yB (SA n))+VB (yB (SA n)) / 256) / 65536)+((VB (yB (SA n))+VB (yB (SA n)) / 256)+(VB (yB (SA n))+VB (yB (SA n)) / 256) / 65536) / 4294967296)%128:=rfl
 have d3:VB (yB (SA n))=(yB (SA n) / 16+yB (SA n)) &&& 1085102592571150095:=rfl
 rw[←zig hn,d2];generalize yB (SA n)=m at *;have e9:yD .u64 (m:Int) 4=((m / 16:Nat):Int):=VG (a:=m) (i:=4) (by omega)
 have e10:IntKind.u64.wrap (((m / 16:Nat):Int)+(m:Int))=((m / 16+m:Nat):Int):=TG (by omega)
 have e11:XC .u64 ((m / 16+m:Nat):Int) 1085102592571150095=((VB m:Nat):Int):=by rw[d3];exact yE (a:=m / 16+m) (b:=1085102592571150095) (by omega) (by omega)
 clear d3;generalize VB m=y at *;have e12:yD .u64 (y:Int) 8=((y / 256:Nat):Int):=VG (a:=y) (i:=8) (by omega)
 have e13:IntKind.u64.wrap ((y:Int)+((y / 256:Nat):Int))=((y+y / 256:Nat):Int):=TG (by omega)
 obtain⟨a,ha⟩:∃a,a=y+y / 256:=⟨_,rfl⟩;have ba:a≤1100000000000000000:=by omega
 rw[←ha]at e13 ⊢;have e14:yD .u64 (a:Int) 16=((a / 65536:Nat):Int):=VG (a:=a) (i:=16) (by omega)
 have e15:IntKind.u64.wrap ((a:Int)+((a / 65536:Nat):Int))=((a+a / 65536:Nat):Int):=TG (by omega)
 obtain⟨b,hb⟩:∃b,b=a+a / 65536:=⟨_,rfl⟩;have bb:b≤1200000000000000000:=by omega
 rw[←hb]at e15 ⊢;have e16:yD .u64 (b:Int) 32=((b / 4294967296:Nat):Int):=VG (a:=b) (i:=32) (by omega)
 have e17:IntKind.u64.wrap ((b:Int)+((b / 4294967296:Nat):Int))=((b+b / 4294967296:Nat):Int):=TG (by omega)
 obtain⟨c,hc⟩:∃c,c=b+b / 4294967296:=⟨_,rfl⟩;have bc:c≤1300000000000000000:=by omega
 rw[←hc]at e17 ⊢;have e18:IntKind.i64.wrap (c:Int)=(c:Int):=yA _ (by omega) (by omega)
 have e19:XC .i64 (c:Int) 127=((c%128:Nat):Int):=by
  rw[show(127:Int)=((127:Nat):Int) from rfl,zdh (by omega) (by omega)]
  congr 1
  exact Nat.and_two_pow_sub_one_eq_mod c 7
 simp only[BM,go_sem,e1,e2,e3,e4,e5,e6,e7,e8,e9,e10,e11,e12,e13,e14,e15,e16,e17,e18,e19]
theorem ziP (r:List Nat)(f:Flt)(lg:Nat)(hl:lg≤64)(hf:rF f.nets r.length)(hr:r.length≤1000000)(hb:∀ x∈r,x<2^lg){id n fz:Nat}(hn:n=r.length)(hh:h[id]?=some (.row none (r.map eU) fz)) :
 eA X EG [.own id n 0 n,.p f.pv,AI lg] h K=K (.p (eU (CG lg r f))) (frz h id n) []:=by
 subst hn;have e:=CR (X:=X) (f:=EG) (F:=IL) (a:=[.own id r.length 0 r.length,.p f.pv,AI lg]) (vs:=[.sl none (r.map eU),f.pv,.int .i64 lg]) (h:=h) (h1:=frz h id r.length) (P:=K) z41 rfl
  (by
   have:win (r.map eU) 0 r.length=r.map eU:=ED (by simp)
   simp [nA,pur,rd,hh,this]) rfl rfl z1p
 rw[e];exact ziQ r f lg hl hf hr hb
def UA (t:List (List UInt8))(l:List Flt):List Nat:=l.map (RC t)
theorem dI {t:List (List UInt8)}{l:List Flt}{lg:Nat}(T:TestOk t lg)(hlg:(t.headD []).length=lg):∀m∈UA t l,m<2^lg:=by
 intro m hm;obtain⟨f,_,rfl⟩:=List.mem_map.1 hm;unfold RC;rw[hlg];exact tZ (PW T)
set_option maxHeartbeats 1000000 in
theorem cQ (t:List (List UInt8))(l:List Flt)(lg:Nat)(T:TestOk t lg)(hlg:(t.headD []).length=lg)(hf:∀ f∈l,uB t.length f=0)(hn:l.length≤20000) :
 eA X HF [nB t,xC l] h K=K (.p (.sl none ((UA t l).map eU))) h []:=by
 refine CA ?_;rw[z7D rfl];have R:=fun h K=>ziZ (h:=h) (K:=K) t T.b (fun s hs=>by rw[T.e s hs];exact T.l) (by have:=T.n1;omega)
 have r0:=PW T
 have hz:=SG T.n0
 have htl:=T.n1
 simp only[uM,go_sem,R];refine LA (fun k:Nat=>⟨[(0,nB t),(5,.own h.length t.length 0 t.length),(6,.own (h.length+1) k 0 k),(11,xC l),(12,AI l.length),(13,AI k)],h++[.row none ((t.map MA).map eU) (if k=0 then 0 else t.length),.row none ((UA t (l.take k)).map eU) 0],[]⟩) (fun k=>k≤l.length) (fun k=>l.length-k) 0 rfl (by omega) ?_
 intro k hk;rw[qF];have ml:((UA t (l.take k)).map eU).length=k:=by unfold UA;rw[List.length_map,List.length_map,List.length_take];omega
 rcases Nat.lt_or_ge k l.length with hlt|hge
 ·have hlt':(k:Int)<(l.length:Int):=by omega
  have hg:=aB Flt.pv hlt
  have cx:=z1i (f:=l[k])
  have w2:IntKind.i64.wrap ((k:Int)+1)=((k+1:Nat):Int):=yA _ (by omega) (by omega)
  have hfk:=hf _ (List.getElem_mem hlt)
  have et:UA t (l.take (k+1))=UA t (l.take k)++[RC t l[k]]:=by
   unfold UA;rw[List.take_succ_eq_append_getElem hlt,List.map_append];rfl
  have ed:RC t l[k]=CG lg (t.map MA) l[k]:=by unfold RC;rw[hlg]
  generalize l[k]=f at *;generalize UA t (l.take k)=M at *;have D:=fun(o:Obj) (fz:Nat) (g:aA) (K:jA)=>ziP (h:=h++(.row none ((t.map MA).map eU) fz::o::g)) (K:=K) (t.map MA) f lg T.l (by rw[List.length_map];exact z1g hfk) (by simp;omega) r0 (id:=h.length) (n:=t.length) (fz:=fz) (by simp) (by rw[DJ];rfl)
  rw[←ed]at D;simp only[Flt.pv]at D hg cx;have ms:k+1≤IA:=by unfold IA;omega
  have fz:∀(n:Nat) (o:Obj) (g:aA),frz (.row none ((t.map MA).map eU) n::o::g) 0 t.length = .row none ((t.map MA).map eU) (max n t.length)::o::g:=fun n o g=>by simp [frz]
  have em:max (if k=0 then 0 else t.length) t.length=t.length:=by split <;> omega
  simp only[go_sem,hlt',hlt,hg,cx,splice,hz,hlg,D,fz,em,ml,ms,w2];exact⟨k+1,by rw[et,if_neg (by omega),List.map_append];rfl,by omega,by omega⟩
 ·have ek:k=l.length:=by omega
  have hlt':¬(k:Int)<(l.length:Int):=by omega
  have wf:win ((UA t (l.take k)).map eU) 0 k=(UA t (l.take k)).map eU:=ED ml
  have et:l.take k=l:=List.take_of_length_le (by omega)
  rw[et]at ml wf ⊢;simp only[go_sem,hlt',ml,wf]
theorem bQ (t:List (List UInt8))(l:List Flt)(hb:∀ s∈t,s.length≤1000000)(ht:t.length≤1000000)(hf:∀ f∈l,f.nets.length≤1000000)(hn:l.length≤20000):eA X GF [nB t,xC l] h K=K (AI (PB t l)) h []:=by
 refine CA ?_;rw[z7C rfl];have c1:=fun h K=>z3p (h:=h) (K:=K) t hb ht
 have c2:=fun h K=>ziU (h:=h) (K:=K) t l hb ht hf (by omega)
 have h1:¬(20000:Int)<l.length:=by omega
 by_cases h0:vC t=0
 ·simp only[RJ,go_sem,c1,c2,h0,h1]
 ·have e:PB t l=vC t:=by unfold PB;rw[if_pos h0]
  simp only[RJ,go_sem,c1,c2,h0,e]
theorem ziR (m s:Nat)(hm:m<18446744073709551616)(hs:s<18446744073709551616){id:Nat}(hh:h[id]?=some (.box [.p (eU s)])):eA X LH [.p (eU m),.ref id 0] h K=K (AB (!(decide (m=0)||decide (m &&& s≠0)))) h []:=by
 refine CA ?_;rw[z79 rfl];have e:=yE hm hs
 by_cases h0:m=0
 ·have h0':((m:Nat):Int)=0:=by omega
  simp only[CH,go_sem,h0',h0]
 ·have h0':¬((m:Nat):Int)=0:=by omega
  by_cases h1:m &&& s=0
  ·have h1':(((m &&& s:Nat)):Int)=0:=by omega
   simp only[CH,go_sem,h0',h0,hh,e,h1',h1]
  ·have h1':¬(((m &&& s:Nat)):Int)=0:=by omega
   simp only[CH,go_sem,h0',h0,hh,e,h1',h1]
theorem z30 (D:List Nat)(s:Nat)(hD:∀ m∈D,m<18446744073709551616)(hs:s<18446744073709551616)(hl:D.length≤1000000):eA X FF [.p (.sl none (D.map eU)),.p (eU s)] h K=K (AB (sB D s)) h []:=by
 refine CA ?_;rw[z78 rfl];have C:=fun(K:jA)=>z4J (h:=h++[.box [.p (eU s)]]) (K:=K) (g:=LH) (caps:=[.ref h.length 0]) (p:=fun v=>match v with | .int _ m=>!(decide (m.toNat=0)||decide (m.toNat &&& s≠0))|_=>false) (xs:=D.map eU) (fun v hv K=>by
  obtain⟨m,hm,rfl⟩:=List.mem_map.1 hv;exact ziR m s (hD m hm) hs (by simp)) (fun x hx=>by obtain⟨n,_,rfl⟩:=List.mem_map.1 hx;rfl) (by simp;omega)
 have e:(D.map eU).any (fun v=>match v with | .int _ m=>!(decide (m.toNat=0)||decide (m.toNat &&& s≠0))|_=>false) = !sB D s:=by
  unfold sB;rw[List.any_map,List.not_all_eq_any_not];rfl
 rw[e]at C;simp only[sM,go_sem,C,Bool.not_not]
end Go.Am
end
section
/- Needed vectors;the smallest choice is PN;what a test says of some vectors alone: in plain Lean. -/
set_option linter.all false
namespace Go.Am
def aD (D:List Nat):Nat:=D.foldl (fun a m=>if uA 64 m=1 then a ||| m else a) 0
theorem z2p (v:Nat):∀(D:List Nat) (a:Nat),(D.foldl (fun a m=>if uA 64 m=1 then a ||| m else a) a).testBit v=true↔a.testBit v=true∨∃m∈D,uA 64 m=1∧m.testBit v=true
 | [],a=>by simp
 | m::D,a=>by
  rw[List.foldl_cons,z2p v D];by_cases h:uA 64 m=1
  ·rw[if_pos h,Nat.testBit_or,Bool.or_eq_true]
   constructor
   ·rintro ((h1|h1)|⟨x,h1,h2⟩)
    ·exact .inl h1
    ·exact .inr ⟨m,by simp,h,h1⟩
    ·exact .inr ⟨x,by simp [h1],h2⟩
   ·rintro (h1|⟨x,h1,h2⟩)
    ·exact .inl (.inl h1)
    ·rcases List.mem_cons.1 h1 with e|e
     ·subst e;exact .inl (.inr h2.2)
     ·exact .inr ⟨x,e,h2⟩
  ·rw[if_neg h]
   constructor
   ·rintro (h1|⟨x,h1,h2⟩)
    ·exact .inl h1
    ·exact .inr ⟨x,by simp [h1],h2⟩
   ·rintro (h1|⟨x,h1,h2⟩)
    ·exact .inl h1
    ·rcases List.mem_cons.1 h1 with e|e
     ·subst e;exact absurd h2.1 h
     ·exact .inr ⟨x,e,h2⟩
theorem zeH (D:List Nat)(v:Nat):(aD D).testBit v=true↔∃m∈D,uA 64 m=1∧m.testBit v=true:=by
 unfold aD;rw[z2p,Nat.zero_testBit];simp
theorem z1l {lg:Nat}:∀(D:List Nat) (a:Nat),a<2^lg→(∀m∈D,m<2^lg)→D.foldl (fun a m=>if uA 64 m=1 then a ||| m else a) a<2^lg
 | [],a,ha,_=>ha
 | m::D,a,ha,h=>by
  rw[List.foldl_cons];refine z1l D _ ?_ fun x hx=>h x (by simp [hx])
  split
  ·exact Nat.or_lt_two_pow ha (h m (by simp))
  ·exact ha
theorem z2r {D:List Nat}{lg:Nat}(h:∀ m∈D,m<2^lg):aD D<2^lg:=z1l D 0 (Nat.two_pow_pos lg) h
theorem zii {m lg v:Nat}(hl:lg≤64)(hm:m<2^lg)(hp:uA 64 m=1)(hv:m.testBit v=true):vA lg m=[v]:=by
 have h1:(vA lg m).length=1:=by rw[MP,←DW hl hm];exact hp
 have h2:v∈vA lg m:=fE.2 ⟨FR hm hv,hv⟩
 obtain⟨x,hx⟩:=List.length_eq_one_iff.1 h1;rw[hx]at h2 ⊢;rw[List.mem_singleton]at h2;rw[h2]
theorem z2q {lg:Nat}(hl:lg≤64){D:List Nat}(hD:∀ m∈D,m<2^lg){s:Nat}(hc:sB D s=true){v:Nat}(hv:v∈vA lg (aD D)):v∈vA lg s:=by
 obtain⟨h0,h1⟩:=fE.1 hv;obtain⟨m,hm,h2,h3⟩:=(zeH D v).1 h1;unfold sB at hc;have:=List.all_eq_true.1 hc m hm;have hne:m≠0:=fun e=>by rw[e,Nat.zero_testBit]at h3;cases h3
 simp only[hne,decide_false,Bool.false_or,decide_eq_true_eq]at this;obtain⟨w,hw1,hw2⟩:=(mY (hD m hm)).1 this;rw[zii hl (hD m hm) h2 h3,List.mem_singleton]at hw1;rw[←hw1];exact hw2
theorem zeI {lg:Nat}(hl:lg≤64){D:List Nat}(hD:∀ m∈D,m<2^lg){s:Nat}(hc:sB D s=true):(vA lg (aD D)).length≤(vA lg s).length:=by
 unfold vA;rw[←List.countP_eq_length_filter,←List.countP_eq_length_filter];refine List.countP_mono_left fun v hv h=>?_
 exact(fE.1 (z2q hl hD hc (fE.2 ⟨List.mem_range.1 hv,h⟩))).2
theorem z3N (D:List Nat)(lg:Nat):∀k,(∀s,s<k→sB D s=true→uA 64 (mB D lg k)≤uA 64 s)∧uA 64 (mB D lg k)≤uA 64 (2^lg-1)
 | 0=>⟨fun s h=>by omega,Nat.le_refl _⟩
 | k+1=>by
  obtain⟨h1,h2⟩:=z3N D lg k;have hs:UD k (mB D lg k)=true→uA 64 (mB D lg k)≤uA 64 k:=fun h=>by
   unfold UD at h;rw[Bool.or_eq_true,Bool.and_eq_true,decide_eq_true_eq,decide_eq_true_eq]at h;rcases h with h|h <;> omega
  have hn:UD k (mB D lg k)=false→uA 64 k≤uA 64 (mB D lg k):=fun h=>by
   unfold UD at h;rw[Bool.or_eq_false_iff,decide_eq_false_iff_not]at h;omega
  rw[mB];cases hq:UD k (mB D lg k) with
  | true=>
   rw[if_pos rfl];refine⟨fun s hlt hc=>?_,h2⟩
   by_cases e:s=k
   ·subst e;exact hs hq
   ·exact h1 s (by omega) hc
  | false=>
   rw[if_neg (by simp)]
   have:=hn hq;split
   ·refine⟨fun s hlt hc=>?_,by omega⟩
    by_cases e:s=k
    ·subst e;exact Nat.le_refl _
    ·have:=h1 s (by omega) hc;omega
   ·rename_i hnc
    refine⟨fun s hlt hc=>?_,h2⟩
    by_cases e:s=k
    ·subst e;exact absurd hc hnc
    ·exact h1 s (by omega) hc
theorem zjs {D:List Nat}{lg s:Nat}(hs:s<2^lg)(hc:sB D s=true):uA 64 (mB D lg (2^lg-1))≤uA 64 s:=by
 obtain⟨h1,h2⟩:=z3N D lg (2^lg-1);rcases Nat.lt_or_ge s (2^lg-1) with h|h
 ·exact h1 s h hc
 ·have:s=2^lg-1:=by omega
  rw[this];exact h2
def jB (L:List Nat)(s:List UInt8):List UInt8:=L.map fun v=>s.getD v 48
theorem HP (L:List Nat)(s:List UInt8):(jB L s).length=L.length:=List.length_map ..
theorem z28 {L:List Nat}{s:List UInt8}(h:oB s=true):oB (jB L s)=true:=by
 unfold oB at *;rw[List.all_eq_true]at *;intro c hc;obtain⟨v,_,rfl⟩:=List.mem_map.1 hc;rw[List.getD_eq_getElem?_getD];cases hq:s[v]? with
 | none=>decide
 | some c=>exact h c (List.mem_of_getElem? hq)
theorem zhZ {L:List Nat}{s:List UInt8}(h:oB s=true){lg:Nat}(hl:s.length=lg)(hL:∀ v∈L,v<lg){j:Nat}(hj:j<L.length):(MA (jB L s)).testBit j=(MA s).testBit L[j]:=by
 rw[OW _ _ (z28 h),OW _ _ h];have hv:=hL _ (List.getElem_mem hj)
 unfold jB;rw[List.getElem?_map,List.getElem?_eq_getElem hj,Option.map_some,List.getD_eq_getElem?_getD,List.getElem?_eq_getElem (by omega)]
 rfl
end Go.Am
end
section
/- Needed vectors,reduced tests: the program. -/
open Go
set_option linter.all false
namespace Go.Am
variable {h:aA} {K:jA}
theorem zeJ (D:List Nat)(k:Nat)(hk:k<D.length):aD (D.take (k+1))=if uA 64 D[k]=1 then aD (D.take k) ||| D[k] else aD (D.take k):=by
 unfold aD;rw[List.take_succ_eq_append_getElem hk,List.foldl_append,List.foldl_cons,List.foldl_nil]
theorem YL {t:List (List UInt8)}{l:List Flt}(h:PB t l=0):vC t=0∧∀f∈l,uB t.length f=0:=by
 have hT:vC t=0:=by unfold PB at h;split at h <;> simp_all
 refine⟨hT,?_⟩;unfold PB at h;rw[if_neg (by simp [hT])]at h
 exact z1j h
theorem PF {d lg:Nat}(hl:lg≤64)(h:d<2^lg):d<18446744073709551616:=Nat.lt_of_lt_of_le h (le64 hl)
theorem DR {N i:Nat}(hi:i≤64)(hN:N<18446744073709551616):yD .u64 (N:Int) (i:Int)=((N / 2^i:Nat):Int)∧XC .u64 ((N / 2^i:Nat):Int) 1=if N.testBit i=true then 1 else 0:=by
 refine⟨VG hi,?_⟩;have h1:N / 2^i<18446744073709551616:=Nat.lt_of_le_of_lt (Nat.div_le_self _ _) hN
 have h2:=yE (a:=N / 2^i) (b:=1) h1 (by omega)
 rw[z6A]at h2;refine h2.trans ?_;split <;> rfl
theorem ziI (t:List (List UInt8))(l:List Flt)(hb:∀ s∈t,s.length≤1000000)(ht:t.length≤1000000)(hf:∀ f∈l,f.nets.length≤1000000)(hn:l.length≤20000) :
 eA X dK [nB t,xC l] h K=K (if PB t l≠0 then .tup [.p (.sl none []),AI (PB t l)] else .tup [AL (iL (vA (t.headD []).length (aD (UA t l)))),AI 0]) h []:=by
 refine CA ?_;rw[z7z rfl];have c:=fun h K=>bQ (h:=h) (K:=K) t l hb ht hf hn
 by_cases h1:PB t l=0
 case neg=>simp only[NJ,go_sem,c,h1]
 obtain⟨hT,hF⟩:=YL h1;have T:=uJ hT
 obtain⟨lg,hlg⟩:∃n,(t.headD []).length=n:=⟨_,rfl⟩;rw[hlg]at T ⊢;have hl:=T.l
 have hz:=SG T.n0
 have M:=fun h K=>cQ (h:=h) (K:=K) t l lg T hlg hF hn
 have hD:=dI (l:=l) T hlg
 have hDl:(UA t l).length=l.length:=by unfold UA;rw[List.length_map]
 have hN:=z2r hD
 simp only[NJ,go_sem,c,h1,M];generalize UA t l=D at *;refine LA (fun k:Nat=>⟨[(0,nB t),(7,.p (eU (aD (D.take k)))),(20,.p (.sl none (D.map eU))),(21,AI D.length),(22,AI k)],h,[]⟩) (fun k=>k≤D.length) (fun k=>D.length-k) 0 (by simp [aD]) (by omega) ?_
 intro k hk;have w2:IntKind.i64.wrap ((k:Int)+1)=((k+1:Nat):Int):=yA _ (by omega) (by omega)
 rcases Nat.lt_or_ge k D.length with hlt|hge
 ·have hlt':(k:Int)<(D.length:Int):=by omega
  have hg:=aB eU hlt
  have hm:=hD _ (List.getElem_mem hlt)
  have et:=zeJ D k hlt
  have hNk:=z2r (D:=D.take k) (lg:=lg) fun m hm=>hD m (List.mem_of_mem_take hm)
  generalize D[k]=m at *;generalize aD (D.take k)=N at *;have O:=fun h K=>VW (h:=h) (K:=K) m (PF hl hm)
  have e1:=JN (PF hl hNk) (PF hl hm)
  by_cases hp:uA 64 m=1
  ·have hp':((uA 64 m:Nat):Int)=1:=by omega
   rw[if_pos hp]at et;simp only[go_sem,hlt',hlt,hg,O,eq_true hp',e1,w2];exact⟨k+1,by rw[et],by omega,by omega⟩
  ·have hp':¬((uA 64 m:Nat):Int)=1:=by omega
   rw[if_neg hp]at et;simp only[go_sem,hlt',hlt,hg,O,hp',w2];exact⟨k+1,by rw[et],by omega,by omega⟩
 ·have ek:k=D.length:=by omega
  have hlt':¬(k:Int)<(D.length:Int):=by omega
  have et:D.take k=D:=List.take_of_length_le (by omega)
  rw[et];generalize aD D=N at *;have hN64:=PF hl hN
  simp only[go_sem,hlt',hz,hlg];refine LA (fun i:Nat=>⟨[(7,.p (eU N)),(10,.own h.length (vA i N).length 0 (vA i N).length),(36,AI lg),(37,AI i)],h++[.row none ((iL (vA i N)).map eI) 0],[]⟩) (fun i=>i≤lg) (fun i=>lg-i) 0 rfl (by omega) ?_
  intro i hi;rw[qF];have w3:IntKind.i64.wrap ((i:Int)+1)=((i+1:Nat):Int):=yA _ (by omega) (by omega)
  have hcl:(vA i N).length≤i:=Nat.le_trans (List.length_filter_le _ _) (by simp)
  have hsc:=HR i N
  rcases Nat.lt_or_ge i lg with ilt|ige
  ·have ilt':(i:Int)<(lg:Int):=by omega
   obtain⟨f1,f2⟩:=DR (N:=N) (i:=i) (by omega) hN64
   generalize vA i N=C at *;have cml:((iL C).map eI).length=C.length:=by unfold iL;rw[List.length_map,List.length_map]
   have ms:C.length+1≤IA:=by unfold IA;omega
   cases hb:N.testBit i with
   | true=>
    rw[hb,if_pos rfl]at hsc f2;simp only[go_sem,ilt',f1,f2,cml,ms,w3,splice];refine⟨i+1,?_,by omega,by omega⟩
    rw[hsc];simp [iL]
   | false=>
    rw[hb,if_neg (by simp),List.append_nil]at hsc
    rw[hb,if_neg (by simp)]at f2
    simp only[go_sem,ilt',f1,f2,w3];exact⟨i+1,by rw[hsc],by omega,by omega⟩
  ·have ei:i=lg:=by omega
   have ilt':¬(i:Int)<(lg:Int):=by omega
   subst ei;have cml:((iL (vA i N)).map eI).length=(vA i N).length:=by unfold iL;rw[List.length_map,List.length_map]
   have wf:win ((iL (vA i N)).map eI) 0 (vA i N).length=(iL (vA i N)).map eI:=ED cml
   simp only[go_sem,ilt',cml,wf]
theorem zdi {s v:Nat}(hs:s<18446744073709551616)(hv:v<64):UG .u64 (s:Int) ((2^v:Nat):Int)=((UF s v:Nat):Int):=by
 have hp:2^v<18446744073709551616:=by rw[←iC];exact Nat.pow_lt_pow_right (by omega) hv
 show IntKind.u64.wrap ((BitVec.ofInt 64 (s:Int) &&& ~~~ BitVec.ofInt 64 ((2^v:Nat):Int)).toNat:Int)=_
 rw[bvN,bvN,BitVec.toNat_and,BitVec.toNat_not,BitVec.toNat_ofNat,BitVec.toNat_ofNat,Nat.mod_eq_of_lt (by rw[iC];exact hs),Nat.mod_eq_of_lt (by rw[iC];exact hp)]
 exact kG _ (Nat.lt_of_le_of_lt (UU s v) hs)
def redT (t:List (List UInt8))(D:List Nat)(lg:Nat):List (List UInt8):=t.map (jB (vA lg (dC D lg lg)))
theorem zie (C:List Nat)(i:Nat)(s:List UInt8)(hi:i<s.length):jB (C++[i]) s=jB C s++[s[i]]:=by
 unfold jB;rw[List.map_append,List.map_cons,List.map_nil,List.getD_eq_getElem?_getD,List.getElem?_eq_getElem hi];rfl
set_option maxHeartbeats 1000000 in
theorem ziJ (t:List (List UInt8))(l:List Flt)(hb:∀ s∈t,s.length≤1000000)(ht:t.length≤1000000)(hf:∀ f∈l,f.nets.length≤1000000)(hn:l.length≤20000) :
 eA X eK [nB t,xC l] h K=K (if PB t l≠0 then .tup [.p (.sl none []),AI (PB t l)] else .tup [nB (redT t (UA t l) (t.headD []).length),AI 0]) h []:=by
 refine CA ?_;rw[z71 rfl];have c:=fun h K=>bQ (h:=h) (K:=K) t l hb ht hf hn
 by_cases h1:PB t l=0
 case neg=>simp only[OJ,go_sem,c,h1]
 obtain⟨hT,hF⟩:=YL h1;have T:=uJ hT
 obtain⟨lg,hlg⟩:∃n,(t.headD []).length=n:=⟨_,rfl⟩;rw[hlg]at T ⊢;have hl:=T.l
 have hz:=SG T.n0
 have M:=fun h K=>cQ (h:=h) (K:=K) t l lg T hlg hF hn
 have W:=fun h K=>XW (h:=h) (K:=K) lg hl
 have hD:=dI (l:=l) T hlg
 have hDl:(UA t l).length=l.length:=by unfold UA;rw[List.length_map]
 generalize UA t l=D at *;have w0:IntKind.i64.wrap ((lg:Int)-1)=(lg:Int)-1:=yA _ (by omega) (by omega)
 have h2:=Nat.two_pow_pos lg
 simp only[OJ,go_sem,c,h1,M,hz,hlg,W,w0];unfold redT;refine LA (fun k:Nat=>⟨[(0,nB t),(7,.p (.sl none (D.map eU))),(8,.p (eU (dC D lg k))),(9,AI ((lg:Int)-1-k))],h,[]⟩) (fun k=>k≤lg) (fun k=>lg-k) 0 (by simp [dC]) (by omega) ?_
 intro k hk;have hrk:=HW D lg k
 have w2:IntKind.i64.wrap ((lg:Int)-1-k-1)=(lg:Int)-1-((k+1:Nat):Int):=by rw[yA _ (by omega) (by omega)];omega
 rcases Nat.lt_or_ge k lg with hlt|hge
 ·have hge':(0:Int)≤(lg:Int)-1-k:=by omega
  obtain⟨i,hi⟩:∃i:Nat,(lg:Int)-1-k=i:=⟨lg-1-k,by omega⟩
  have hi2:lg-1-k=i:=by omega
  have et:dC D lg (k+1)=if sB D (UF (dC D lg k) i) then UF (dC D lg k) i else dC D lg k:=by rw[dC,hi2]
  rw[hi]at hge' w2 ⊢;have s1:NF .u64 1 (i:Int)=((2^i:Nat):Int):=by
   have:=MU (a:=1) (i:=i) (by omega) (by rw[Nat.one_mul,←iC];exact Nat.pow_lt_pow_right (by omega) (by omega))
   rw[Nat.one_mul]at this;exact this
  generalize dC D lg k=s at *;have hs64:s<18446744073709551616:=PF hl (by omega)
  have s2:=zdi (s:=s) (v:=i) hs64 (by omega)
  have ol:=UU s i
  have E:=fun h K=>z30 (h:=h) (K:=K) D (UF s i) (fun m hm=>PF hl (hD m hm)) (by omega) (by omega)
  cases hcv:sB D (UF s i) with
  | true=>
   rw[hcv,if_pos rfl]at et;rw[hcv]at E;simp only[go_sem,hge',s1,s2,E,w2];exact⟨k+1,by rw[et],by omega,by omega⟩
  | false=>
   rw[hcv,if_neg (by simp)]at et
   rw[hcv]at E;simp only[go_sem,hge',s1,s2,E,w2];exact⟨k+1,by rw[et],by omega,by omega⟩
 ·have ek:k=lg:=by omega
  subst ek;have hge':¬(0:Int)≤(k:Int)-1-k:=by omega
  generalize dC D k k=s at *;have hs64:s<18446744073709551616:=PF hl (by omega)
  simp only[go_sem,hge'];refine LA (fun j:Nat=>⟨[(8,.p (eU s)),(11,.own h.length j 0 j),(47,nB t),(48,AI t.length),(49,AI j)],h++[.row none (((t.take j).map (jB (vA k s))).map PV.str) 0],[]⟩) (fun j=>j≤t.length) (fun j=>t.length-j) 0 rfl (by omega) ?_
  intro j hj;rw[qF];have jml:(((t.take j).map (jB (vA k s))).map PV.str).length=j:=by rw[List.length_map,List.length_map,List.length_take];omega
  have w4:IntKind.i64.wrap ((j:Int)+1)=((j+1:Nat):Int):=yA _ (by omega) (by omega)
  rcases Nat.lt_or_ge j t.length with jlt|jge
  ·have jlt':(j:Int)<(t.length:Int):=by omega
   have hg:=aB PV.str jlt
   have hsl:=T.e _ (List.getElem_mem jlt)
   have et:(t.take (j+1)).map (jB (vA k s))=(t.take j).map (jB (vA k s))++[jB (vA k s) t[j]]:=by rw[List.take_succ_eq_append_getElem jlt,List.map_append];rfl
   generalize t[j]=r at *;generalize (t.take j).map (jB (vA k s))=R at *;simp only[go_sem,jlt',jlt,hg,hsl];refine LA (fun i:Nat=>⟨[(8,.p (eU s)),(11,.own h.length j 0 j),(13,AS r),(14,.own (h.length+1) (vA i s).length 0 (vA i s).length),(47,nB t),(48,AI t.length),(49,AI j),(54,AI k),(55,AI i)],h++[.row none (R.map PV.str) 0,.row none (ZA (jB (vA i s) r)) 0],[]⟩) (fun i=>i≤k) (fun i=>k-i) 0 rfl (by omega) ?_
   intro i hi;rw[qF];have w3:IntKind.i64.wrap ((i:Int)+1)=((i+1:Nat):Int):=yA _ (by omega) (by omega)
   have hcl:(vA i s).length≤i:=Nat.le_trans (List.length_filter_le _ _) (by simp)
   have hsc:=HR i s
   rcases Nat.lt_or_ge i k with ilt|ige
   ·have ilt':(i:Int)<(k:Int):=by omega
    obtain⟨f1,f2⟩:=DR (N:=s) (i:=i) (by omega) hs64
    have gc:r[i]?=some r[i]:=List.getElem?_eq_getElem (by omega)
    have ps:=zie (vA i s) i r (by omega)
    generalize vA i s=C at *;have cml:(ZA (jB C r)).length=C.length:=by unfold ZA;rw[List.length_map,HP]
    have ms:C.length+1≤IA:=by unfold IA;omega
    cases hb:s.testBit i with
    | true=>
     rw[hb,if_pos rfl]at hsc f2;simp only[go_sem,ilt',f1,f2,gc,cml,ms,w3,splice];refine⟨i+1,?_,by omega,by omega⟩
     rw[hsc,ps];simp [ZA]
    | false=>
     rw[hb,if_neg (by simp),List.append_nil]at hsc
     rw[hb,if_neg (by simp)]at f2
     simp only[go_sem,ilt',f1,f2,w3];exact⟨i+1,by rw[hsc],by omega,by omega⟩
   ·have ei:i=k:=by omega
    have ilt':¬(i:Int)<(k:Int):=by omega
    subst ei;have cml:(ZA (jB (vA i s) r)).length=(vA i s).length:=by unfold ZA;rw[List.length_map,HP]
    have wf:win (ZA (jB (vA i s) r)) 0 (vA i s).length=ZA (jB (vA i s) r):=ED cml
    have tb:=z3V (jB (vA i s) r)
    have ms:j+1≤IA:=by unfold IA;have:=T.n1;omega
    simp only[go_sem,ilt',cml,wf,rd,rds,tb,ZD,ms,jml,w4,splice];refine⟨j+1,?_,by omega,by omega⟩
    rw[et];simp
  ·have ej:j=t.length:=by omega
   have jlt':¬(j:Int)<(t.length:Int):=by omega
   have et:t.take j=t:=List.take_of_length_le (by omega)
   rw[et]at jml ⊢;have wf:win ((t.map (jB (vA k s))).map PV.str) 0 j=(t.map (jB (vA k s))).map PV.str:=ED jml
   simp only[go_sem,jlt',jml,wf]
end Go.Am
end
