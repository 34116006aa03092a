/- Texts of the proof, laid together: PSort, PFlt, PWalk, PVec, PVec2, Am1, Am2, Am3, Am4, Am5, Am6, Am7. -/
import Derived.Calls
import Derived.Laws.Sem
import Derived.Laws.Strings
import Derived.Laws.StructEq
set_option linter.all false
section
/- Plain lists: insertion sort asv Go's package slices does it on short lists;deleting;compacting. -/
namespace Go.Am
variable {α:Type}
end Go.Am
namespace Go.Am
variable {α:Type}
end Go.Am
end
section
/- Faults of nets: what the words mean,in plain Lean. -/
set_option linter.all false
namespace Go.Am
def zzJ (c:UInt8):Bool:=[48,49].contains c
def z0Q (s:List UInt8):Bool:=s.all zzJ
theorem z4o (p:UInt8→Bool):∀ l:List UInt8,l.dropWhile p=[]↔l.all p=true
 | []=>by simp
 | c::r=>by
  rw[List.dropWhile_cons,List.all_cons]
  cases hp:p c with
  | true=>simp only[if_true,Bool.true_and];exact z4o p r
  | false=>simp
theorem ztH (s:List UInt8):decide ((s.reverse.dropWhile ([48,49].contains ·)).reverse.dropWhile ([48,49].contains ·)=[])=z0Q s:=by
 rw[Bool.eq_iff_iff,decide_eq_true_eq,z4o,List.all_reverse]
 have hb:z0Q s=s.all ([48,49].contains ·):=rfl
 rw[hb]
 constructor
 ·intro h
  rw[← z4o] at h
  have key:∀ l:List UInt8,(l.dropWhile ([48,49].contains ·)).all ([48,49].contains ·)=true→l.all ([48,49].contains ·)=true:=by
   intro l
   induction l with
   | nil=>intro _;rfl
   | cons c r ih=>
    rw[List.dropWhile_cons]
    split
    ·rename_i hp;intro h;rw[List.all_cons,hp,ih h];rfl
    ·exact id
  have:=key s.reverse ((z4o _ _).1 h)
  rwa [List.all_reverse] at this
 ·intro h
  have key:∀ l:List UInt8,l.all ([48,49].contains ·)=true→(l.dropWhile ([48,49].contains ·)).all ([48,49].contains ·)=true:=by
   intro l hl
   rw[(z4o _ l).2 hl];rfl
  exact key _ (by rwa [List.all_reverse])
end Go.Am
end
section
/- Walks over the states of a test access port,plainly. -/
namespace Go.Am
def nxtU:List (List Nat):=[[1,0],[1,2],[3,9],[4,5],[4,5],[6,8],[6,7],[4,8],[1,2],[10,0],[11,12],[11,12],[13,15],[13,14],[11,15],[1,2]]
def stp (s t:Nat):Nat:=(nxtU.getD s []).getD t 0
theorem zy8 {s t:Nat} (hs:s<16) (ht:t<2):stp s t<16:=by
 have key:(List.range 16).all (fun s=>(List.range 2).all fun t=>decide (stp s t<16))=true:=by decide
 have:=List.all_eq_true.1 key s (List.mem_range.2 hs)
 exact of_decide_eq_true (List.all_eq_true.1 this t (List.mem_range.2 ht))
def stW (s:Nat) (c:UInt8):Nat:=stp s (c.toNat-48)
def z5n (s:Nat):List UInt8→List Nat
 | []=>[]
 | c::r=>stW s c::z5n (stW s c) r
def endL (s:Nat) (l:List UInt8):Nat:=l.foldl stW s
theorem z1J:∀ (l:List UInt8) (s:Nat),(z5n s l).length=l.length
 | [],s=>rfl
 | c::r,s=>by simp [z5n,z1J r]
theorem z7q (c:UInt8):∀ (l:List UInt8) (s:Nat),z5n s (l++[c])=z5n s l++[stW (endL s l) c]
 | [],s=>rfl
 | d::r,s=>by simp only[List.cons_append,z5n,z7q c r];rfl
theorem ze4 (s:Nat) (l:List UInt8) (c:UInt8):endL s (l++[c])=stW (endL s l) c:=by simp [endL]
theorem z25 (s:Nat) (l r:List UInt8):endL s (l++r)=endL (endL s l) r:=by simp [endL]
theorem stW_lt {s:Nat} {c:UInt8} (hs:s<16) (hc:c=48∨c=49):stW s c<16:=by
 rcases hc with rfl | rfl
 ·exact zy8 hs (by decide)
 ·exact zy8 hs (by decide)
theorem zae {c:UInt8} {l:List UInt8} (h:z0Q l=true) (hc:c∈l):c=48∨c=49:=by
 have:=List.all_eq_true.1 h c hc
 simpa [zzJ] using this
theorem zpo:∀ {l:List UInt8} {s:Nat},s<16→z0Q l=true→endL s l<16
 | [],s,hs,_=>hs
 | c::r,s,hs,h=>by
  have h1:=zae h (List.mem_cons_self ..)
  exact zpo (l:=r) (stW_lt hs h1) (List.all_eq_true.2 fun x hx=>List.all_eq_true.1 h x (List.mem_cons_of_mem _ hx))
theorem zkm (s:Nat) (l:List UInt8) (h:0<l.length):(z5n s l)[l.length-1]?=some (endL s l):=by
 obtain⟨i,c,rfl⟩:∃ i c,l=i++[c]:=⟨l.dropLast,l.getLast (by intro e;subst e;simp at h),(List.dropLast_concat_getLast _).symm⟩
 rw[z7q,ze4]
 have:(z5n s i).length=i.length:=z1J i s
 simp [← this]
def rowS:Nat→List (List UInt8)
 | 0=>[[]]
 | k+1=>(rowS k).flatMap fun s=>[s++[48],s++[49]]
theorem z1G:∀ k,(rowS k).length=2^k
 | 0=>rfl
 | k+1=>by
  have:∀ l:List (List UInt8),(l.flatMap fun s=>[s++[48],s++[49]]).length=2*l.length:=by
   intro l
   induction l with
   | nil=>rfl
   | cons a r ih=>simp [ih];omega
  simp only[rowS,this,z1G k,Nat.pow_succ]
  omega
theorem z7Q:∀ {k:Nat} {s:List UInt8},s∈rowS k→z0Q s=true∧s.length=k
 | 0,s,h=>by simp [rowS] at h;subst h;exact⟨rfl,rfl⟩
 | k+1,s,h=>by
  simp only[rowS,List.mem_flatMap] at h
  obtain⟨t,ht,hs⟩:=h
  obtain⟨h1,h2⟩:=z7Q ht
  have:∀ c:UInt8,c=48∨c=49→z0Q (t++[c])=true:=fun c hc=>by
   unfold z0Q at h1 ⊢
   rw[List.all_append,h1]
   rcases hc with rfl | rfl <;> rfl
  simp only[List.mem_cons,List.not_mem_nil,or_false] at hs
  rcases hs with rfl | rfl
  ·exact⟨this _ (.inl rfl),by simp [h2]⟩
  ·exact⟨this _ (.inr rfl),by simp [h2]⟩
def wayF (a b:Nat):Nat→Nat→Option (List UInt8)
 | 0,_=>none
 | n+1,k=>match (rowS k).find? fun s=>endL a s==b with
  | some s=>some s
  | none=>wayF a b n (k+1)
theorem zb0 {a b:Nat} {w:List UInt8}:∀ {n k:Nat},wayF a b n k=some w→∃ kw,k≤kw∧kw<k+n∧(rowS kw).find? (fun s=>endL a s==b)=some w∧∀ j,k≤j→j<kw→(rowS j).find? (fun s=>endL a s==b)=none
 | 0,k,h=>by cases h
 | n+1,k,h=>by
  unfold wayF at h
  split at h
  ·rename_i s hs
   cases h
   exact⟨k,by omega,by omega,hs,fun j h1 h2=>by omega⟩
  ·rename_i hs
   obtain⟨kw,h1,h2,h3,h4⟩:=zb0 h
   refine⟨kw,by omega,by omega,h3,fun j h5 h6=>?_⟩
   rcases Nat.lt_or_ge k j with h7 | h7
   ·exact h4 j h7 h6
   ·rw[show j=k by omega];exact hs
theorem zf8 {a b:Nat} {w:List UInt8} {n:Nat} (h:wayF a b n 0=some w):∃ kw,kw<n∧(rowS kw).find? (fun s=>endL a s==b)=some w∧∀ j,j<kw→(rowS j).find? (fun s=>endL a s==b)=none:=by
 obtain⟨kw,_,h2,h3,h4⟩:=zb0 h
 exact⟨kw,by omega,h3,fun j hj=>h4 j (by omega) hj⟩
theorem zaP {α:Type} {p:α→Bool}:∀ {l:List α} {i:Nat} {s:α},(∀ x∈l.take i,p x=false)→l[i]?=some s→p s=true→l.find? p=some s
 | [],i,s,_,h,_=>by simp at h
 | a::r,0,s,_,h,hp=>by
  simp only[List.getElem?_cons_zero,Option.some.injEq] at h
  subst h
  simp [hp]
 | a::r,i+1,s,hn,h,hp=>by
  have h1:p a=false:=hn a (by simp)
  have:=zaP (l:=r) (i:=i) (s:=s) (fun x hx=>hn x (by simp [hx])) (by simpa using h) hp
  simp [h1,this]
theorem zeM {α:Type} {p:α→Bool} {l:List α} (h:∀ x∈l,p x=false):l.find? p=none:=List.find?_eq_none.2 fun x hx=>by simp [h x hx]
def frS:List Nat:=[0,1,6,13,5,12]
def toS:List Nat:=[0,1,6,13,4,11]
end Go.Am
end
section
/- Programs of vectors,plainly: what is wrong with commands;what the reference makes of them,and what the program does. -/
namespace Go.Am
structure Cmd where
 k:Int
 s:Int
 cl:Int
 b:List UInt8
 w:List UInt8
 m:List UInt8
 deriving DecidableEq
def z08 (n:Int):Bool:=n==0||n==1||n==6||n==13
def z2Q (c:Cmd):Nat:=
 if c.b=[] then 8 else if !z0Q c.b then 9 else if 2000<c.b.length then 2
 else if c.w≠[]∧(c.w.length≠c.b.length∨c.m.length≠c.b.length) then 3
 else if !z0Q c.w || !z0Q c.m then 9 else if c.w=[]∧c.m≠[] then 3 else 0
def cmdF (c:Cmd):Nat:=
 if c.k=1∨c.k=2∨c.k=10 then (if !z08 c.s then 1 else if c=⟨c.k,c.s,0,[],[],[]⟩ then 0 else 3)
 else if c.k=9 then (if c.cl<0∨20000<c.cl then 1 else if c=⟨c.k,0,c.cl,[],[],[]⟩ then 0 else 3)
 else if c.k=7∨c.k=8 then (if z2Q c≠0 then z2Q c else if c=⟨c.k,0,0,c.b,c.w,c.m⟩ then 0 else 3)
 else if 3≤c.k∧c.k≤6 then (if !z0Q c.b then 9 else if 2000<c.b.length then 2 else if c=⟨c.k,0,0,c.b,[],[]⟩ then 0 else 3)
 else 4
def z55:List Cmd→Nat
 | []=>0
 | c::r=>if cmdF c≠0 then cmdF c else z55 r
def idleC:Cmd:=⟨0,1,0,[],[],[]⟩
def setC (l:List Cmd) (k:Int):Cmd:=(l.reverse.find? fun c=>c.k==k).getD idleC
structure Part where
 tms:List UInt8
 tdi:List UInt8
 want:List UInt8
 fr:Nat
 st:Nat
def zs (n:Nat):List UInt8:=List.replicate n 48
def xsL (n:Nat):List UInt8:=List.replicate n 120
def z3N (c:Cmd) (i:Nat):UInt8:=if c.m[i]?=some 49 then (c.w[i]?).getD 0 else 120
def expC (c:Cmd):List UInt8:=(List.range c.b.length).map (z3N c)
def padP (p:Part):Part:={ p with tdi:=p.tdi++zs (p.tms.length-p.tdi.length),want:=p.want++xsL (p.tms.length-p.want.length) }
variable (path:Nat→Nat→List UInt8)
def z1o (c:Cmd) (state sh ex:Nat) (hd tl:List UInt8) (en:Nat):Part:=
 {
  tms:=path state sh++zs ((hd++c.b++tl).length-1)++[49]++path ex en
  tdi:=zs (path state sh).length++(hd++c.b++tl)
  want:=xsL ((path state sh).length+hd.length)++expC c
  fr:=(path state sh).length+hd.length
  st:=en }
def z0P (pre:List Cmd) (c:Cmd) (state:Nat):Part:=
 padP (if c.k=10 then ⟨path state c.s.toNat,[],[],0,c.s.toNat⟩
  else if c.k=9 then ⟨path state 1++zs c.cl.toNat,[],[],0,1⟩
  else if c.k=7 then z1o path c state 11 12 (setC pre 3).b (setC pre 4).b (setC pre 1).s.toNat
  else if c.k=8 then z1o path c state 4 5 (setC pre 5).b (setC pre 6).b (setC pre 2).s.toNat
  else ⟨[],[],[],0,state⟩)
def z0u (pre:List Cmd) (state:Nat):List Cmd→List Part
 | []=>[]
 | c::r=>z0P path pre c state::z0u (pre++[c]) (z0P path pre c state).st r
def sigT (l:List Part):List UInt8:=l.flatMap Part.tms
def sigI (l:List Part):List UInt8:=l.flatMap Part.tdi
def sigW (l:List Part):List UInt8:=l.flatMap Part.want
def z1F (l:List Cmd):Nat:=if 1000<l.length then 2 else if z55 l≠0 then z55 l else if 20000<(sigT (z0u path [] 0 l)).length then 2 else 0
structure Sett where
 e1:Cmd
 e2:Cmd
 h1:Cmd
 t1:Cmd
 h2:Cmd
 t2:Cmd
def sett0:Sett:=⟨⟨1,1,0,[],[],[]⟩,⟨2,1,0,[],[],[]⟩,⟨3,0,0,[],[],[]⟩,⟨4,0,0,[],[],[]⟩,⟨5,0,0,[],[],[]⟩,⟨6,0,0,[],[],[]⟩⟩
def Sett.put (s:Sett) (c:Cmd):Sett:=
 if c.k=1 then { s with e1:=c } else if c.k=2 then { s with e2:=c } else if c.k=3 then { s with h1:=c } else if c.k=4 then { s with t1:=c } else if c.k=5 then { s with h2:=c } else { s with t2:=c }
structure Run where
 se:Sett
 st:Nat
 ck:Nat
 ni:Nat
 nd:Nat
 sts:List Nat
 frs:List Nat
 tms:List UInt8
 tdi:List UInt8
 want:List UInt8
 wr:Bool
def Run.clk (r:Run) (l:List (UInt8 × UInt8 × UInt8)):Run:=
 if r.wr then { r with ck:=r.ck+l.length,tms:=r.tms++l.map (·.1),tdi:=r.tdi++l.map (·.2.1),want:=r.want++l.map (·.2.2) } else { r with ck:=r.ck+l.length }
def Run.go (r:Run) (tov:Nat):Run:={ r.clk ((path r.st tov).map fun c=>(c,48,120)) with st:=tov }
def z0R (c:Cmd) (hd al:List UInt8):List (UInt8 × UInt8 × UInt8):=
 (List.range al.length).map fun i=>(if i=al.length-1 then 49 else 48,(al[i]?).getD 0,if hd.length≤i then (if i-hd.length<c.m.length then z3N c (i-hd.length) else 120) else 120)
def Run.scn (r:Run) (c:Cmd):Run:=
 let (hd,tl,en,sh,ex):=if c.k=7 then (r.se.h1.b,r.se.t1.b,r.se.e1.s,11,12) else (r.se.h2.b,r.se.t2.b,r.se.e2.s,4,5)
 let r1:=r.go path sh
 let r2:=if c.k=7 then { r1 with ni:=r1.ni+(hd++c.b++tl).length } else { r1 with nd:=r1.nd+(hd++c.b++tl).length }
 Run.go path { r2.clk (z0R c hd (hd++c.b++tl)) with st:=ex } en.toNat
def Run.scnF (r:Run) (c:Cmd):Nat:=
 if c.k=7 then (r.go path 11).ck+r.se.h1.b.length else (r.go path 4).ck+r.se.h2.b.length
def Run.step (r:Run) (c:Cmd):Run:=
 let (r',f):=if 1≤c.k∧c.k≤6 then ({ r with se:=r.se.put c },0)
  else if c.k=7∨c.k=8 then (r.scn path c,r.scnF path c)
  else if c.k=9 then ((r.go path 1).clk (List.replicate c.cl.toNat (48,48,120)),0)
  else (r.go path c.s.toNat,0)
 { r' with sts:=r'.sts++[r'.st],frs:=r'.frs++[f] }
def Run.play (r:Run):List Cmd→Run
 | []=>r
 | c::l=>if 20000<r.ck then r else (r.step path c).play l
def run0 (wr:Bool):Run:=⟨sett0,0,0,0,0,[],[],[],[],[],wr⟩
end Go.Am
end
section
/- The program and the reference agree on the signals of right commands. -/
namespace Go.Am
variable (path:Nat→Nat→List UInt8)
theorem z09 (l:List Cmd) (c:Cmd) (k:Int):setC (l++[c]) k=if c.k=k then c else setC l k:=by
 unfold setC
 rw[List.reverse_append,List.reverse_singleton,List.singleton_append,List.find?_cons]
 by_cases h:c.k=k
 ·simp [h]
 ·have:(c.k==k)=false:=by simpa using h
  simp [this,h]
inductive Kinds (c:Cmd):Prop where
 | set (h:c.k=1∨c.k=2) (hs:z08 c.s=true) (e:c=⟨c.k,c.s,0,[],[],[]⟩)
 | go (h:c.k=10) (hs:z08 c.s=true) (e:c=⟨c.k,c.s,0,[],[],[]⟩)
 | idle (h:c.k=9) (h0:0≤c.cl) (h1:c.cl≤20000) (e:c=⟨c.k,0,c.cl,[],[],[]⟩)
 | scan (h:c.k=7∨c.k=8) (hs:z2Q c=0) (e:c=⟨c.k,0,0,c.b,c.w,c.m⟩)
 | pad (h0:3≤c.k) (h1:c.k≤6) (hb:z0Q c.b=true) (hl:c.b.length≤2000) (e:c=⟨c.k,0,0,c.b,[],[]⟩)
theorem z0S {c:Cmd} (h:cmdF c=0):Kinds c:=by
 unfold cmdF at h
 split at h
 ·rename_i hk
  split at h
  ·cases h
  rename_i hs
  split at h
  ·rename_i e
   have hs:z08 c.s=true:=by simpa using hs
   rcases hk with hk | hk | hk
   ·exact .set (.inl hk) hs e
   ·exact .set (.inr hk) hs e
   ·exact .go hk hs e
  ·cases h
 split at h
 ·rename_i hk
  split at h
  ·cases h
  split at h
  ·exact .idle hk (by omega) (by omega) (by assumption)
  ·cases h
 split at h
 ·rename_i hk
  split at h
  ·rename_i h1;exact absurd h h1
  split at h
  ·rename_i h1 e;exact .scan hk (by omega) e
  ·cases h
 split at h
 ·rename_i hk
  split at h
  ·cases h
  split at h
  ·cases h
  split at h
  ·rename_i hb _ e;exact .pad hk.1 hk.2 (by simpa using hb) (by omega) e
  ·cases h
 ·cases h
theorem z1B {c:Cmd} (h:z2Q c=0):c.b≠[]∧z0Q c.b=true∧c.b.length≤2000∧z0Q c.w=true∧z0Q c.m=true∧((c.w=[]∧c.m=[])∨(c.w.length=c.b.length∧c.m.length=c.b.length)):=by
 unfold z2Q at h
 split at h
 ·cases h
 split at h
 ·cases h
 split at h
 ·cases h
 split at h
 ·cases h
 split at h
 ·cases h
 split at h
 ·cases h
 rename_i h1 h2 h3 h4 h5 h6
 simp only[Bool.or_eq_true,Bool.not_eq_true',not_or,Bool.not_eq_false] at h5
 refine⟨h1,by simpa using h2,by omega,h5.1,h5.2,?_⟩
 by_cases hw:c.w=[]
 ·exact .inl ⟨hw,Classical.byContradiction fun hm=>h6 ⟨hw,hm⟩⟩
 ·exact .inr ⟨Classical.byContradiction fun e=>h4 ⟨hw,.inl e⟩,Classical.byContradiction fun e=>h4 ⟨hw,.inr e⟩⟩
def stb:List Nat:=[0,1,6,13]
theorem z04 {n:Int} (h:z08 n=true):n.toNat∈stb∧(n.toNat:Int)=n:=by
 unfold z08 at h
 simp only[Bool.or_eq_true,beq_iff_eq] at h
 rcases h with ((rfl | rfl) | rfl) | rfl <;> decide
structure RelV (pre:List Cmd) (r:Run) (ps:List Part) (state:Nat):Prop where
 st:r.st=state
 sb:state∈stb
 e1:r.se.e1.s=(setC pre 1).s
 e2:r.se.e2.s=(setC pre 2).s
 h1:r.se.h1.b=(setC pre 3).b
 t1:r.se.t1.b=(setC pre 4).b
 h2:r.se.h2.b=(setC pre 5).b
 t2:r.se.t2.b=(setC pre 6).b
 s1:z08 (setC pre 1).s=true
 s2:z08 (setC pre 2).s=true
 b1:∀ k,3≤k→k≤6→z0Q (setC pre k).b=true∧(setC pre k).b.length≤2000
 ck:r.ck=(sigT ps).length
 sts:r.sts=ps.map Part.st
 sig:r.wr=true→r.tms=sigT ps∧r.tdi=sigI ps∧r.want=sigW ps
theorem rel0 (wr:Bool):RelV [] (run0 wr) [] 0 where
 st:=rfl
 sb:=by decide
 e1:=rfl
 e2:=rfl
 h1:=rfl
 t1:=rfl
 h2:=rfl
 t2:=rfl
 s1:=rfl
 s2:=rfl
 b1:=fun k _ _=>⟨rfl,Nat.zero_le _⟩
 ck:=rfl
 sts:=rfl
 sig:=fun _=>⟨rfl,rfl,rfl⟩
theorem z2f (r:Run) (l:List (UInt8 × UInt8 × UInt8)):(r.clk l).se=r.se∧(r.clk l).st=r.st∧(r.clk l).sts=r.sts∧(r.clk l).frs=r.frs∧(r.clk l).wr=r.wr∧(r.clk l).ck=r.ck+l.length∧(r.clk l).ni=r.ni∧(r.clk l).nd=r.nd:=by
 unfold Run.clk;split <;> exact⟨rfl,rfl,rfl,rfl,rfl,rfl,rfl,rfl⟩
theorem zfU {r:Run} (h:r.wr=true) (l:List (UInt8 × UInt8 × UInt8)):(r.clk l).tms=r.tms++l.map (·.1)∧(r.clk l).tdi=r.tdi++l.map (·.2.1)∧(r.clk l).want=r.want++l.map (·.2.2):=by
 unfold Run.clk;rw[if_pos h];exact⟨rfl,rfl,rfl⟩
theorem zjM (l:List UInt8):(l.map fun c=>((c,48,120):UInt8 × UInt8 × UInt8)).map (·.1)=l∧(l.map fun c=>((c,48,120):UInt8 × UInt8 × UInt8)).map (·.2.1)=zs l.length∧(l.map fun c=>((c,48,120):UInt8 × UInt8 × UInt8)).map (·.2.2)=xsL l.length:=by
 refine⟨by rw[List.map_map];exact List.map_id l,?_,?_⟩
 ·unfold zs;rw[List.map_map];exact List.map_const' ..
 ·unfold xsL;rw[List.map_map];exact List.map_const' ..
theorem y0E (c:Cmd) (hd al:List UInt8) (h:al≠[]):(z0R c hd al).map (·.1)=zs (al.length-1)++[49]:=by
 have hpos:=List.length_pos_iff.2 h
 unfold z0R zs
 rw[List.map_map]
 apply List.ext_getElem
 ·simp;omega
 ·intro i h1 h2
  simp at h1
  simp only[List.getElem_map,List.getElem_range,Function.comp]
  by_cases hi:i=al.length-1
  ·subst hi;simp
  ·rw[if_neg hi,List.getElem_append_left (by simp;omega)];simp
theorem y0F (c:Cmd) (hd al:List UInt8):(z0R c hd al).map (·.2.1)=al:=by
 unfold z0R
 rw[List.map_map]
 apply List.ext_getElem
 ·simp
 ·intro i h1 h2
  simp [h2]
theorem y0G (c:Cmd) (hd tl:List UInt8) (hm:c.m.length≤c.b.length):(z0R c hd (hd++c.b++tl)).map (·.2.2)=xsL hd.length++expC c++xsL tl.length:=by
 unfold z0R xsL expC
 rw[List.map_map]
 apply List.ext_getElem
 ·simp <;> omega
 ·intro i h1 h2
  simp only[List.length_map,List.length_range,List.length_append] at h1
  simp only[List.getElem_map,List.getElem_range,Function.comp]
  have hx:∀ j,c.m.length≤j→z3N c j=120:=fun j hj=>by unfold z3N;rw[List.getElem?_eq_none hj];rfl
  by_cases h3:hd.length≤i
  ·rw[if_pos h3]
   by_cases h4:i-hd.length<c.b.length
   ·rw[List.getElem_append_left (by simp;omega),List.getElem_append_right (by simp;omega)]
    simp only[List.length_replicate,List.getElem_map,List.getElem_range]
    split
    ·rfl
    ·rw[hx _ (by omega)]
   ·rw[List.getElem_append_right (by simp;omega)]
    simp only[List.getElem_replicate]
    rw[if_neg (by omega)]
  ·rw[if_neg h3,List.getElem_append_left (by simp;omega),List.getElem_append_left (by simp;omega)]
   simp
theorem z2k (c:Cmd) (hd al:List UInt8):(z0R c hd al).length=al.length:=by simp [z0R]
theorem z6E (c:Cmd) (state sh ex:Nat) (hd tl:List UInt8) (en:Nat) (hb:c.b≠[]) :
 padP (z1o path c state sh ex hd tl en) =
  {
   tms:=path state sh++(zs ((hd++c.b++tl).length-1)++[49])++path ex en
   tdi:=zs (path state sh).length++(hd++c.b++tl)++zs (path ex en).length
   want:=xsL (path state sh).length++(xsL hd.length++expC c++xsL tl.length)++xsL (path ex en).length
   fr:=(path state sh).length+hd.length
   st:=en }:=by
 have hpos:=List.length_pos_iff.2 hb
 have hz:∀ n,(zs n).length=n:=fun n=>by simp [zs]
 have hx:∀ n,(xsL n).length=n:=fun n=>by simp [xsL]
 have hxa:∀ a b,xsL a++xsL b=xsL (a+b):=fun a b=>by unfold xsL;rw[List.replicate_append_replicate]
 have he:(expC c).length=c.b.length:=by simp [expC]
 unfold padP z1o
 simp only[Part.mk.injEq,and_true]
 refine⟨by simp only[List.append_assoc],?_,?_⟩
 ·congr 2
  simp only[List.length_append,hz,List.length_singleton]
  omega
 ·have e:(path state sh++zs ((hd++c.b++tl).length-1)++[49]++path ex en).length-(xsL ((path state sh).length+hd.length)++expC c).length=tl.length+(path ex en).length:=by
   simp only[List.length_append,hz,hx,he,List.length_singleton]
   omega
  rw[e,← hxa,← hxa]
  simp only[List.append_assoc]
theorem z7S (ps:List Part) (p:Part):sigT (ps++[p])=sigT ps++p.tms∧sigI (ps++[p])=sigI ps++p.tdi∧sigW (ps++[p])=sigW ps++p.want:=by
 simp [sigT,sigI,sigW]
theorem zgk (w:List UInt8) (n:Nat) (st:Nat):padP ⟨w++zs n,[],[],0,st⟩=⟨w++zs n,zs w.length++zs n,xsL w.length++xsL n,0,st⟩:=by
 have hz:∀ n,(zs n).length=n:=fun n=>by simp [zs]
 unfold padP
 simp only[List.length_append,hz,List.nil_append,List.length_nil,Nat.sub_zero,Part.mk.injEq,true_and,and_true]
 exact⟨by unfold zs;rw[List.replicate_append_replicate],by unfold xsL;rw[List.replicate_append_replicate]⟩
theorem zii (w:List UInt8) (st:Nat):padP ⟨w,[],[],0,st⟩=⟨w,zs w.length,xsL w.length,0,st⟩:=by
 have:=zgk w 0 st
 simpa [zs,xsL] using this
theorem z07 (r:Run) (tov:Nat):(r.go path tov).se=r.se∧(r.go path tov).st=tov∧(r.go path tov).sts=r.sts∧(r.go path tov).frs=r.frs∧(r.go path tov).wr=r.wr∧(r.go path tov).ck=r.ck+(path r.st tov).length∧(r.go path tov).ni=r.ni∧(r.go path tov).nd=r.nd:=by
 obtain⟨a,b,c,d,e,f,g,h⟩:=z2f r ((path r.st tov).map fun c=>(c,48,120))
 unfold Run.go
 exact⟨a,rfl,c,d,e,by rw[show ({ r.clk ((path r.st tov).map fun c=>(c,48,120)) with st:=tov }:Run).ck=_ from rfl,f,List.length_map],g,h⟩
theorem zhN {r:Run} (h:r.wr=true) (tov:Nat):(r.go path tov).tms=r.tms++path r.st tov∧(r.go path tov).tdi=r.tdi++zs (path r.st tov).length∧(r.go path tov).want=r.want++xsL (path r.st tov).length:=by
 obtain⟨a,b,c⟩:=zfU h ((path r.st tov).map fun c=>(c,48,120))
 obtain⟨x,y,z⟩:=zjM (path r.st tov)
 unfold Run.go
 exact⟨by rw[← x];exact x.symm ▸ a,by rw[y] at b;exact b,by rw[z] at c;exact c⟩
end Go.Am
end
section
/- The abstract machine,part 1: values,objects,operations. Plain definitions;nothing is proved of the program here. -/
namespace Go.Am
inductive PV where
 | int (k:IntKind) (n:Int)
 | bool (b:Bool)
 | str (s:List UInt8)
 | sl (sh:Option Nat) (xs:List PV)
 | agg (cs:List PV)
 | nilp
 | unk            -- a whole number,it is not said which
 deriving Inhabited
inductive AV where
 | p (v:PV)
 | own (id g off len:Nat)
 | sl0 (sh:Option Nat)
 | ref (id off:Nat)
 | rref (id g i off:Nat)
 | vp (v:PV)
 | nilp | nilm | nilf | nili | ifc
 | mp (id:Nat)
 | it (id:Nat)
 | fn (f:Nat) (caps:List AV)
 | agg (cs:List AV)
 | tup (vs:List AV)
 | anyb           -- true or false
 | skp            -- what an operation that was passed over leaves
 | und
 | anyp           -- a pointer,it is not said where tov
 | bt (k t id g:Nat)   -- (3: a slice over a row of rows,of a shape t;4: the address of its cell t;g its elements then) of a builder: 0 its nil address (the block's type t);1 its buffer;2 the buffer's first byte
 deriving Inhabited
structure ME where
 key:PV
 val:AV
 born:Nat
 deriving Inhabited
inductive Obj where
 | box (cs:List AV)
 | row (sh:Option Nat) (xs:List PV) (fz:Nat)
 | amap (es:List ME) (clock:Nat)
 | iter (m:Option Nat) (since:Nat) (seen:List Nat) (last:Nat)
 | arow (sh:Option Nat) (cs:List AV)   -- a row whose elements may name rows: its cells
 deriving Inhabited
abbrev Esc:=List (Nat × Nat)
abbrev Heap:=List Obj
abbrev Sh:=Option Nat
def PV.sc:PV→Bool
 | .agg _=>false
 | _=>true
def PV.cells:PV→List PV
 | .agg cs=>cs
 | v=>[v]
def AV.sc:AV→Bool
 | .p v=>v.sc
 | .agg _ | .tup _ | .skp | .und | .anyb=>false
 | _=>true
def AV.cells:AV→Option (List AV)
 | .p (.agg cs)=>if cs.all PV.sc then some (cs.map .p) else none
 | .p v=>some [.p v]
 | .agg cs=>if cs.all AV.sc then some cs else none
 | .tup _ | .skp | .und | .anyb=>none
 | x=>some [x]
def unp:List AV→Option (List PV)
 | []=>some []
 | .p v::r=>(unp r).map (v :: ·)
 | _::_=>none
def mkA (cs:List AV):AV:=match unp cs with
 | some vs=>.p (.agg vs)
 | none=>.agg cs
def PV.shp:Sh→PV→Bool
 | none,v=>v.sc
 | some n,.agg cs=>cs.length==n&&cs.all PV.sc
 | some _,_=>false
def cut (sh:Sh) (off:Nat) (cs:List AV):Option AV:=match sh with
 | none=>cs[off]?
 | some n=>if off+n≤cs.length then some (mkA ((cs.drop off).take n)) else none
def cutP (sh:Sh) (off:Nat):PV→Option PV
 | .agg cs=>match sh with
  | none=>(cs[off]?).bind fun x=>if x.sc then some x else none
  | some n=>if off+n≤cs.length then some (.agg ((cs.drop off).take n)) else none
 | v=>match sh,off with
  | none,0=>some v
  | _,_=>none
def splice {α:Type} (cs:List α) (off:Nat) (vs:List α):List α:=cs.take off++vs++cs.drop (off+vs.length)
mutual
def AV.top:AV→Nat
 | .own id _ _ _ | .ref id _ | .rref id _ _ _ | .mp id | .it id | .bt _ _ id _=>id+1
 | .fn _ cs | .agg cs | .tup cs=>AV.tops cs
 | _=>0
def AV.tops:List AV→Nat
 | []=>0
 | v::r=>max v.top (AV.tops r)
end
def Obj.top:Obj→Nat
 | .box cs=>AV.tops cs
 | .row _ _ _=>0
 | .amap es _=>AV.tops (es.map ME.val)
 | .iter m _ _ _=>match m with | some i=>i+1 | none=>0
 | .arow _ cs=>AV.tops cs
def win {α:Type} (xs:List α) (off len:Nat):List α:=(xs.drop off).take len
def rd (h:Heap):AV→Option (Sh × List PV)
 | .p (.sl sh xs)=>some (sh,xs)
 | .sl0 sh=>some (sh,[])
 | .own id g off len=>match h[id]? with
  | some (.row sh xs _)=>if g=xs.length∧off+len≤xs.length then some (sh,win xs off len) else none
  | _=>none
 | _=>none
def frz (h:Heap) (id k:Nat):Heap:=match h[id]? with
 | some (.row sh xs fz)=>h.set id (.row sh xs (max fz k))
 | _=>h
def z0a:Sh→Nat
 | none=>1
 | some n=>n
def z5o (n:Nat):Nat→List PV→List PV
 | 0,_=>[]
 | f+1,vs=>.agg (vs.take n)::z5o n f (vs.drop n)
def z1M (sh:Sh) (g:Nat) (vs:List PV):List PV:=match sh with
 | none=>vs
 | some n=>z5o n g vs
def pur0 (h:Heap):AV→Option (PV × Heap)
 | .p v=>some (v,h)
 | .sl0 sh=>some (.sl sh [],h)
 | .nilp=>some (.nilp,h)
 | .own id g off len=>(rd h (.own id g off len)).map fun y=>(.sl y.1 y.2,frz h id (off+len))
 | _=>none
def zfb (h:Heap):List AV→Option (List PV × Heap)
 | []=>some ([],h)
 | v::r=>match pur0 h v with
  | some (x,h1)=>match zfb h1 r with
   | some (xs,h2)=>some (x::xs,h2)
   | none=>none
  | none=>none
def purA (h:Heap) (id g:Nat):Option (PV × Heap):=match h[id]? with
 | some (.arow sh cs)=>if g*z0a sh=cs.length then match zfb h cs with
  | some (vs,h1)=>some (.sl sh (z1M sh g vs),frz (h1.set id (.row sh (z1M sh g vs) 0)) id (0+g))
  | none=>none
  else none
 | _=>none
mutual
def pur (h:Heap):AV→Option (PV × Heap)
 | .p v=>some (v,h)
 | .sl0 sh=>some (.sl sh [],h)
 | .nilp=>some (.nilp,h)
 | .own id g off len=>(rd h (.own id g off len)).map fun y=>(.sl y.1 y.2,frz h id (off+len))
 | .bt k _ id g=>bif Nat.beq k 3 then purA h id g else none
 | .agg cs=>match purs h cs with
  | some (vs,h')=>some (.agg vs,h')
  | none=>none
 | _=>none
def purs (h:Heap):List AV→Option (List PV × Heap)
 | []=>some ([],h)
 | v::r=>match pur h v with
  | some (x,h1)=>match purs h1 r with
   | some (xs,h2)=>some (x::xs,h2)
   | none=>none
  | none=>none
end
def PV.eq1:PV→PV→Option Bool
 | .int k a,.int k' b=>if k=k' then some (decide (a=b)) else none
 | .bool a,.bool b=>some (decide (a=b))
 | .str a,.str b=>some (decide (a=b))
 | _,_=>none
def eqs:List PV→List PV→Option Bool
 | [],[]=>some true
 | a::asv,b::bs=>match PV.eq1 a b with
  | some x=>(eqs asv bs).map (x && ·)
  | none=>none
 | _,_=>none
def PV.intP:PV→Bool
 | .int _ _ | .unk=>true
 | _=>false
def PV.kind:PV→Nat
 | .int _ _=>0
 | .bool _=>1
 | .str _=>2
 | _=>3
def PV.eqv:PV→PV→Option Bool
 | .agg asv,.agg bs=>eqs asv bs
 | a,b=>PV.eq1 a b
def iand (k:IntKind) (a b:Int):Int:=k.wrap (BitVec.ofInt k.bits a &&& BitVec.ofInt k.bits b).toNat
def ior (k:IntKind) (a b:Int):Int:=k.wrap (BitVec.ofInt k.bits a ||| BitVec.ofInt k.bits b).toNat
def ixor (k:IntKind) (a b:Int):Int:=k.wrap (BitVec.ofInt k.bits a ^^^ BitVec.ofInt k.bits b).toNat
def zjF (k:IntKind) (a b:Int):Int:=k.wrap (BitVec.ofInt k.bits a &&& ~~~(BitVec.ofInt k.bits b)).toNat
def ishl (k:IntKind) (a b:Int):Int:=k.wrap (a*2^(min b.toNat k.bits))
def ishr (k:IntKind) (a b:Int):Int:=a.fdiv (2^(min b.toNat k.bits))
def aint (op:BinOp) (k:IntKind) (a b:Int):Option PV:=match op with
 | .add=>some (.int k (k.wrap (a+b)))
 | .sub=>some (.int k (k.wrap (a-b)))
 | .mul=>some (.int k (k.wrap (a*b)))
 | .quo=>if b=0 then none else some (.int k (k.wrap (a.tdiv b)))
 | .rem=>if b=0 then none else some (.int k (a.tmod b))
 | .and=>some (.int k (iand k a b))
 | .or=>some (.int k (ior k a b))
 | .xor=>some (.int k (ixor k a b))
 | .andNot=>some (.int k (zjF k a b))
 | .eql=>some (.bool (decide (a=b)))
 | .neq=>some (.bool (!decide (a=b)))
 | .lss=>some (.bool (decide (a<b)))
 | .leq=>some (.bool (decide (a≤b)))
 | .gtr=>some (.bool (decide (b<a)))
 | .geq=>some (.bool (decide (b≤a)))
 | _=>none
def z0n:Nat:=2^46
def z0J:Nat:=2^38
def astr (op:BinOp) (a b:List UInt8):Option PV:=match op with
 | .add=>if a.length+b.length≤z0n then some (.str (a++b)) else none
 | .eql=>some (.bool (decide (a=b)))
 | .neq=>some (.bool (!decide (a=b)))
 | .lss=>some (.bool (Op.bytesLess a b))
 | .leq=>some (.bool (Op.bytesLess a b||decide (a=b)))
 | .gtr=>some (.bool (!(Op.bytesLess a b||decide (a=b))))
 | .geq=>some (.bool (!Op.bytesLess a b))
 | _=>none
def abin (op:BinOp):PV→PV→Option PV
 | .int k a,.int k' b=>match op with
  | .shl=>if b<0 then none else some (.int k (ishl k a b))
  | .shr=>if b<0 then none else some (.int k (ishr k a b))
  | _=>if k=k' then aint op k a b else none
 | .str a,.str b=>astr op a b
 | _,_=>none
def aun (op:UnOp):PV→Option PV
 | .int k n=>match op with
  | .neg=>some (.int k (k.wrap (0-n)))
  | .xor=>some (.int k (k.wrap (BitVec.ofInt k.bits (if k.signed then -1 else k.max) ^^^ BitVec.ofInt k.bits n).toNat))
  | _=>none
 | .bool b=>match op with
  | .not=>some (.bool !b)
  | _=>none
 | _=>none
def zm2:PV→PV→Option PV
 | .int k x,.int k' y=>if k=k' then some (.int k (max x y)) else none
 | _,_=>none
def zm3:PV→PV→Option PV
 | .int k x,.int k' y=>if k=k' then some (.int k (min x y)) else none
 | _,_=>none
def PV.key:PV→Bool
 | .int _ _ | .str _ | .bool _=>true
 | .agg cs=>cs.all fun | .int _ _ | .str _ | .bool _=>true | _=>false
 | _=>false
def z2B (k:PV):List ME→Option (Option Nat)
 | []=>some none
 | e::es=>match PV.eqv k e.key with
  | some true=>some (some 0)
  | some false=>(z2B k es).map (·.map (· + 1))
  | none=>none
end Go.Am
end
section
/- The abstract machine,part 2: operations,code,and what it means that code ends well (AW),that a call ends well (z0c). -/
namespace Go.Am
inductive Opd where
 | t (n:Nat)
 | c (v:AV)
 | f (id:Nat)
 | g (n:Nat)
 deriving Inhabited
inductive Cv where
 | i (k:IntKind)
 | s2b | b2s | r2s | same
 deriving Inhabited
inductive AO where
 | mv (x:Opd)
 | pick (c a b:Opd)
 | alloc (z:List AV)
 | box (x:Opd)
 | build (z:List AV) (ps:List (Nat × Nat × Opd))
 | bsl (own:Bool) (sh:Sh) (n:Nat) (z:PV) (ps:List (Nat × Opd))
 | load (sh:Sh) (a:Opd)
 | store (sh:Sh) (a v:Opd)
 | nilchk (x:Opd)
 | bin (op:BinOp) (x y:Opd)
 | eqa (ks:List Nat) (neg:Bool) (x y:Opd)
 | isnil (k:Nat) (neg:Bool) (x:Opd)
 | mkif (x:Opd)
 | un (op:UnOp) (x:Opd)
 | conv (c:Cv) (x:Opd)
 | mkfn (f:Nat) (caps:List Opd)
 | mkmap
 | mksl (sh:Sh) (z:PV) (len cap:Opd)
 | slice (sh:Sh) (x:Opd) (lo hi mx:Option Opd)
 | slstr (x:Opd) (lo hi:Option Opd)
 | faddr (off:Nat) (sh:Sh) (x:Opd)
 | field (off:Nat) (sh:Sh) (x:Opd)
 | iaddr (sh:Sh) (x i:Opd)
 | iaddra (n:Nat) (sh:Sh) (x i:Opd)
 | idxa (n:Nat) (sh:Sh) (x i:Opd)
 | idxs (x i:Opd)
 | look (kk:Sh × List Nat) (ok:Bool) (z:AV) (x k:Opd)
 | mupd (kk:Sh × List Nat) (m k v:Opd)
 | ment (kk:Sh × List Nat) (z:AV) (m k:Opd)
 | estore (m s v:Opd)
 | mdel (kk:Sh × List Nat) (m k:Opd)
 | ext (x:Opd) (i:Nat)
 | len (x:Opd)
 | lens (x:Opd)
 | lenm (x:Opd)
 | app (sh:Sh) (s x:Opd)
 | copy (sh:Sh) (d s:Opd)
 | clr (sh:Sh) (z:PV) (x:Opd)
 | mx (xs:List Opd)
 | mn (xs:List Opd)
 | mrange (x:Opd)
 | mnext (sh:Option Sh) (xs:List Opd)   -- more ways than one: a step of a range (none);an append behind a cut (some)
 | mentry (it:Opd)
 | new0 (sh:Sh)                        -- a nil slice that will be appended tov: an empty row
 | uns (k t:Nat) (xs:List Opd)     -- of a builder (z13)
 | call (f:Nat) (args:List Opd)
 | callv (f:Opd) (args:List Opd)
 deriving Inhabited
structure AOp where
 dst:Option Nat
 guard:Option (Nat × Bool)
 op:AO
 deriving Inhabited
structure DOp where
 op:AOp
 rd:List Nat      -- the slots that it reads
 eff:Bool
 early:List Nat
 again:List Nat
 deriving Inhabited
inductive ACode where
 | skip
 | reg (ops:List AOp) (keep:Option (List Nat))
 | draw (ds:List DOp) (keep:Option (List Nat))
 | seq (a b:ACode)
 | cond (c:Opd) (a b:ACode)
 | condu (c:Opd) (a b:ACode)       -- the condition may be unknown: both ways
 | det (b:ACode)                     -- whichever way is gone,the end is one
 | block (id:Nat) (b:ACode)
 | loop (b:ACode)
 | scope (b:ACode)
 | pr (keep:List Nat) (b:ACode)     -- only these slots are kept
 | exit (id:Nat)
 | ret
 | bad
 deriving Inhabited
inductive ARes where
 | t (n:Nat)
 | cell (a:Nat) (sh:Sh)
 deriving Inhabited
structure AFun where
 nparams:Nat
 results:List ARes
 body:ACode
 byref:Bool      -- slices of the caller's own come asv they are
 keep:Bool       -- rows made here and handed back stay rows
 deriving Inhabited
structure St where
 env:List (Nat × AV)
 h:Heap
 esc:Esc
def aget:List (Nat × AV)→Nat→AV
 | [],_=>.und
 | (k,v)::r,n=>if k=n then v else aget r n
def Opd.ev (gl:Nat→Option PV) (e:List (Nat × AV)):Opd→AV
 | .t n=>aget e n
 | .c v=>v
 | .f id=>.fn id []
 | .g n=>match gl n with | some v=>.vp v | none=>.und
def z3c (id:Nat) (v:AV):Esc:=if id<v.top then [(id,v.top)] else []
def z7d:List AV→Bool
 | [_,.bt 1 _ _ _]=>true
 | _=>false
def escS (id:Nat) (cs:List AV) (v:AV):Esc:=bif z7d cs&&decide (v.top≤AV.tops cs) then [] else z3c id v
def zbS (ev:Opd→AV):List (Nat × Nat × Opd)→List AV→Option (List AV)
 | [],cs=>some cs
 | (off,n,x)::r,cs=>match (ev x).cells with
  | some vs=>if vs.length=n∧off+n≤cs.length then zbS ev r (splice cs off vs) else none
  | none=>none
def zbT (ev:Opd→AV) (sh:Sh):List (Nat × Opd)→Heap→List PV→Option (List PV × Heap)
 | [],h,xs=>some (xs,h)
 | (i,x)::r,h,xs=>match pur h (ev x) with
  | some (v,h')=>if v.shp sh∧i<xs.length then zbT ev sh r h' (xs.set i v) else none
  | none=>none
def z1k:AV→Option Nat
 | .p (.int _ n)=>if 0≤n then some n.toNat else none
 | _=>none
def bnd (ev:Opd→AV) (d:Nat):Option Opd→Option Nat
 | none=>some d
 | some x=>z1k (ev x)
def pint (n:Nat):AV:=.p (.int .i64 n)
def pbool (b:Bool):AV:=.p (.bool b)
def asl (sh:Sh) (ev:Opd→AV) (h:Heap) (x:AV) (lo hi mx:Option Opd):Option AV:=
 match x with
 | .p (.sl sh' xs)=>match bnd ev 0 lo,bnd ev xs.length hi,bnd ev xs.length mx with
  | some l,some r,some m=>if sh'=sh∧l≤r∧r≤m∧m≤xs.length then some (if mx.isSome∧m=l then .sl0 sh else .p (.sl sh (win xs l (r-l)))) else none
  | _,_,_=>none
 | .sl0 sh'=>match bnd ev 0 lo,bnd ev 0 hi,bnd ev 0 mx with
  | some l,some r,some m=>if l=0∧r=0∧m=0 then some (.sl0 sh') else none
  | _,_,_=>none
 | .own id g off len=>match h[id]? with
  | some (.row rsh xs _)=>match bnd ev 0 lo,bnd ev len hi,bnd ev len mx with
   | some l,some r,some m=>if rsh=sh∧g=xs.length∧off+len≤xs.length∧l≤r∧r≤m∧m≤len then some (if mx.isSome∧m=l then .sl0 sh else .own id g (off+l) (r-l)) else none
   | _,_,_=>none
  | _=>none
 | _=>none
def z0o (s:List UInt8):List PV:=s.map fun b=>.int .u8 b.toNat
def z3Y:List PV→Option (List UInt8)
 | []=>some []
 | .int .u8 n::r=>if 0≤n∧n<256 then (z3Y r).map (UInt8.ofNat n.toNat :: ·) else none
 | _::_=>none
def rds (h:Heap):AV→Option (Sh × List PV)
 | .p (.str s)=>some (none,z0o s)
 | x=>rd h x
def z9T (h:Heap) (c:Cv) (x:AV):Option (AV × Heap):=match c with
 | .i k=>match x with
  | .p (.int _ n)=>some (.p (.int k (k.wrap n)),h)
  | _=>none
 | .s2b=>match x with
  | .p (.str s)=>if s.length≤z0J then some (.own h.length s.length 0 s.length,h++[.row none (z0o s) 0]) else none
  | _=>none
 | .b2s=>match rd h x with
  | some y=>(z3Y y.2).map fun b=>(.p (.str b),h)
  | none=>none
 | .r2s=>match x with
  | .p (.int _ n)=>if 0≤n∧n<128 then some (.p (.str [UInt8.ofNat n.toNat]),h) else none
  | _=>none
 | .same=>match x with
  | .p (.str s)=>some (.p (.str s),h)
  | _=>none
def mget (h:Heap):AV→Option (Nat × List ME × Nat)
 | .mp id=>match h[id]? with
  | some (.amap es c)=>some (id,es,c)
  | _=>none
 | _=>none
def z5k (kk:Sh × List Nat):AV→Option PV
 | .p k=>if k.key&&k.shp kk.1&&k.cells.map PV.kind==kk.2 then some k else none
 | _=>none
def okIn:AV→Bool
 | .und | .skp | .tup _=>false
 | _=>true
def zqJ (k:Nat) (v:AV):Option Bool:=match k with
 | 0=>match v with
  | .nilp | .p .nilp | .bt 0 _ _ _=>some true
  | .ref _ _ | .rref _ _ _ _ | .vp _=>some false
  | _=>none
 | 1=>match v with
  | .nilm=>some true
  | .mp _=>some false
  | _=>none
 | 2=>match v with
  | .nilf=>some true
  | .fn _ _=>some false
  | _=>none
 | 3=>match v with
  | .nili=>some true
  | .ifc=>some false
  | _=>none
 | _=>match v with
  | .p (.sl _ (_::_))=>some false
  | _=>none
def z7B (k:Nat) (v:AV):Bool:=match v with
 | .p (.sl _ [])=>decide (4≤k)
 | _=>false
def appB (t:Nat) (h:Heap) (s x:AV):Option (AV × Heap × Esc):=match rds h x with
 | some (none,ys)=>match s with
  | .bt 1 t' id g=>match h[id]? with
   | some (.row none xs fz)=>if t'=t∧g=xs.length∧fz≤xs.length∧g+ys.length≤z0J then some (.bt 1 t id (g+ys.length),h.set id (.row none (xs++ys) fz),[]) else none
   | _=>none
  | _=>none
 | _=>none
def strB (t:Nat) (h:Heap) (p:AV) (n:Nat):Option (AV × Heap × Esc):=match p with
 | .anyp=>if n=0 then some (.p (.str []),h,[]) else none
 | .bt 2 t' id g=>match h[id]? with
  | some (.row none xs _)=>if t'=t∧g=xs.length∧n=g∧1≤n∧n≤z0J then (z3Y xs).map fun s=>(.p (.str s),h.set id (.row none xs (xs.length+1)),[]) else none
  | _=>none
 | _=>none
def zu3 (t:Nat) (h:Heap) (s:AV):Option (AV × Heap × Esc):=match s with
 | .bt 1 t' id g=>match h[id]? with
  | some (.row none xs _)=>if t'=t∧g=xs.length then (if g=0 then some (.anyp,h,[]) else some (.bt 2 t id g,h,[])) else none
  | _=>none
 | _=>none
def n64:AV→Option Nat
 | .p (.int .i64 n)=>if 0≤n then some n.toNat else none
 | _=>none
def upcB (t:Nat) (h:Heap) (x:AV):Option (AV × Heap × Esc):=match x with
 | .ref id 0=>match h[id]? with
  | some (.box [.bt 0 t' id' _,_])=>if t'=t∧id'=id then some (.ref id 0,h,[]) else none
  | _=>none
 | _=>none
def neqB (h:Heap) (x y:AV):Option (AV × Heap × Esc):=match x,y with
 | .ref id o,.ref id' o'=>if id=id'∧o=o' then some (pbool false,h,[]) else none
 | _,_=>none
def y0B (t:Nat) (h:Heap) (f x:AV):Option (AV × Heap × Esc):=match f with
 | .fn g []=>if g=t then some (x,h,[]) else none
 | _=>none
def lenB:AV→Option Nat
 | .bt 1 _ _ g=>some g
 | _=>none
def ldA (sh:Sh) (k off id g:Nat) (h:Heap):Option AV:=bif Nat.beq k 4 then (match h[id]? with
 | some (.arow rsh cs)=>if g*z0a rsh=cs.length then cut sh off cs else none
 | _=>none) else none
def stA (sh:Sh) (k off id g:Nat) (x:AV) (h:Heap):Option (AV × Heap × Esc):=bif Nat.beq k 4 then (match h[id]?,x.cells with
 | some (.arow rsh cs),some vs=>if g*z0a rsh=cs.length∧vs.length=z0a sh∧off+vs.length≤cs.length then some (.und,h.set id (.arow rsh (splice cs off vs)),z3c id x) else none
 | _,_=>none) else none
def iaA (sh:Sh) (k id g i:Nat) (h:Heap):Option AV:=bif Nat.beq k 3 then (match h[id]? with
 | some (.arow rsh cs)=>if rsh=sh∧g*z0a rsh=cs.length∧i<g then some (.bt 4 (i*z0a sh) id g) else none
 | _=>none) else none
def faA (k off o id g:Nat):Option AV:=bif Nat.beq k 4 then some (.bt 4 (o+off) id g) else none
def lnA (k g:Nat):Option AV:=bif Nat.beq k 3 then some (pint g) else none
def nlA (k:Nat) (x:AV):Option AV:=bif Nat.beq k 4 then some x else none
def apA (sh:Sh) (h:Heap) (s x:AV):Option (AV × Heap × Esc):=match s,x with
 | .bt k t id g,.bt k' _ id' g'=>bif Nat.beq k 3&&Nat.beq k' 3 then (match h[id]?,h[id']? with
  | some (.arow rsh cs),some (.arow rsh' ds)=>if rsh=sh∧rsh'=sh∧g*z0a sh=cs.length∧g'*z0a sh=ds.length∧g+g'≤z0J then
   some (.bt 3 t id (g+g'),h.set id (.arow sh (cs++ds)),bif decide (id<AV.tops ds) then [(id,AV.tops ds)] else []) else none
  | _,_=>none) else none
 | _,_=>none
def z24:Nat→Sh
 | 0=>none
 | n+1=>some n
def z0H:List AV→Heap→List AV × Heap
 | [],h=>([],h)
 | v::r,h=>match v with
  | .sl0 sh=>(.own h.length 0 0 0::(z0H r (h++[.row sh [] 0])).1,(z0H r (h++[.row sh [] 0])).2)
  | .bt _ t _ _=>(.bt 3 t h.length 0::(z0H r (h++[.arow (z24 t) []])).1,(z0H r (h++[.arow (z24 t) []])).2)
  | v=>(v::(z0H r h).1,(z0H r h).2)
def z1h:List AV→Heap→List AV × Heap
 | [],h=>([],h)
 | v::r,h=>match v with
  | .sl0 sh=>(.own h.length 0 0 0::(z1h r (h++[.row sh [] 0])).1,(z1h r (h++[.row sh [] 0])).2)
  | v=>(v::(z1h r h).1,(z1h r h).2)
def z13 (k t:Nat) (vs:List AV) (h:Heap):Option (AV × Heap × Esc):=match k with
 | 0=>match vs with
  | [v]=>match n64 v with
   | some te=>some (.ref h.length 0,h++[.box [.bt 0 t h.length 0,.bt 1 te (h.length+1) 0],.row none [] 0],[(h.length,h.length+2)])
   | none=>none
  | _=>none
 | 1=>match vs with
  | [x]=>upcB t h x
  | _=>none
 | 2=>match vs with
  | [x,y]=>neqB h x y
  | _=>none
 | 3=>match vs with
  | [s,x]=>appB t h s x
  | _=>none
 | 4=>match vs with
  | [s]=>(lenB s).map fun n=>(pint n,h,[])
  | _=>none
 | 5=>match vs with
  | [s]=>zu3 t h s
  | _=>none
 | 6=>match vs with
  | [p,n]=>match n64 n with
   | some m=>strB t h p m
   | none=>none
  | _=>none
 | 7=>match vs with
  | [f,x]=>y0B t h f x
  | _=>none
 | 8=>some (.ref (z0H vs h).2.length 0,(z0H vs h).2++[.box (z0H vs h).1],[])
 | 9=>match vs with
  | [x]=>match x.cells with
   | some cs=>if cs.length=z0a (z24 t) then some (.bt 3 t h.length 1,h++[.arow (z24 t) cs],[]) else none
   | none=>none
  | _=>none
 | 10=>match vs with
  | []=>some (.bt 3 t h.length 0,h++[.arow (z24 t) []],[])
  | _=>none
 | 11=>match vs with
  | [s,x]=>apA (z24 t) h s x
  | _=>none
 | 12=>match vs with
  | [x]=>match x.cells with
   | some cs=>some (.ref (z1h cs h).2.length 0,(z1h cs h).2++[.box (z1h cs h).1],[])
   | none=>none
  | _=>none
 | _=>none
def aop (o:AO) (ev:Opd→AV) (h:Heap):Option (AV × Heap × Esc):=
 match o with
 | .mv x=>some (ev x,h,[])
 | .pick c a b=>match ev c with
  | .p (.bool t)=>some (bif t then ev a else ev b,h,[])
  | _=>none
 | .alloc z=>some (.ref h.length 0,h++[.box z],[])
 | .box x=>match (ev x).cells with
  | some cs=>some (.ref h.length 0,h++[.box cs],[])
  | none=>none
 | .build z ps=>(zbS ev ps z).map fun cs=>(mkA cs,h,[])
 | .bsl own sh n z ps=>match zbT ev sh ps h (List.replicate n z) with
  | some (xs,h')=>if !z.shp sh then none else some (bif own then (.own h'.length n 0 n,h'++[.row sh xs 0],[]) else (.p (.sl sh xs),h',[]))
  | none=>none
 | .load sh a=>match ev a with
  | .ref id off=>match h[id]? with
   | some (.box cs)=>(cut sh off cs).map fun v=>(v,h,[])
   | _=>none
  | .rref id g i off=>match h[id]? with
   | some (.row _ xs _)=>if g=xs.length then ((xs[i]?).bind (cutP sh off)).map fun v=>(.p v,h,[]) else none
   | _=>none
  | .vp v=>(cutP sh 0 v).map fun v=>(.p v,h,[])
  | .bt k off id g=>(ldA sh k off id g h).map fun v=>(v,h,[])
  | _=>none
 | .store sh a x=>match ev a with
  | .ref id off=>match h[id]?,(ev x).cells with
   | some (.box cs),some vs=>if vs.length=z0a sh∧off+vs.length≤cs.length then some (.und,h.set id (.box (splice cs off vs)),escS id cs (ev x)) else none
   | _,_=>none
  | .rref id g i off=>match pur h (ev x) with
   | some (v,h1)=>match h1[id]? with
    | some (.row rsh xs fz)=>if g=xs.length∧fz≤i∧v.cells.length=z0a sh∧v.cells.all PV.sc then match xs[i]? with
     | some (.agg cs)=>if off+v.cells.length≤cs.length then some (.und,h1.set id (.row rsh (xs.set i (.agg (splice cs off v.cells))) fz),[]) else none
     | some _=>if off=0∧v.sc then some (.und,h1.set id (.row rsh (xs.set i v) fz),[]) else none
     | none=>none
     else none
    | _=>none
   | none=>none
  | .bt k off id g=>stA sh k off id g (ev x) h
  | _=>none
 | .nilchk x=>match ev x with
  | .ref _ _ | .rref _ _ _ _ | .vp _ | .fn _ _=>some (ev x,h,[])
  | .bt k _ _ _=>(nlA k (ev x)).map fun v=>(v,h,[])
  | _=>none
 | .bin op x y=>match ev x,ev y with
  | .p a,.p b=>(abin op a b).map fun v=>(.p v,h,[])
  | _,_=>none
 | .eqa ks neg x y=>match ev x,ev y with
  | .p (.agg asv),.p (.agg bs)=>if asv.map PV.kind=ks∧bs.map PV.kind=ks∧ks≠[] then (eqs asv bs).map fun t=>(pbool (bif neg then !t else t),h,[]) else none
  | .p (.bool a),.p (.bool b)=>if ks=[] then some (pbool (bif neg then !decide (a=b) else decide (a=b)),h,[]) else none
  | _,_=>none
 | .isnil k neg x=>bif z7B k (ev x) then some (.anyb,h,[]) else (zqJ k (ev x)).map fun r=>(pbool (bif neg then !r else r),h,[])
 | .mkif x=>if okIn (ev x) then some (.ifc,h,[]) else none
 | .un op x=>match ev x with
  | .p a=>(aun op a).map fun v=>(.p v,h,[])
  | _=>none
 | .conv c x=>(z9T h c (ev x)).map fun (v,h')=>(v,h',[])
 | .mkfn f caps=>some (.fn f (caps.map ev),h,[])
 | .mkmap=>some (.mp h.length,h++[.amap [] 0],[])
 | .mksl sh z len cap=>match z1k (ev len),z1k (ev cap) with
  | some n,some m=>if n≤m∧m≤z0J∧z.shp sh then some (.own h.length n 0 n,h++[.row sh (List.replicate n z) 0],[]) else none
  | _,_=>none
 | .slstr x lo hi=>match ev x with
  | .p (.str s)=>match bnd ev 0 lo,bnd ev s.length hi with
   | some l,some r=>if l≤r∧r≤s.length then some (.p (.str (win s l (r-l))),h,[]) else none
   | _,_=>none
  | _=>none
 | .slice sh x lo hi mx=>(asl sh ev h (ev x) lo hi mx).map fun v=>(v,h,[])
 | .faddr off sh x=>match ev x with
  | .ref id o=>some (.ref id (o+off),h,[])
  | .rref id g i o=>some (.rref id g i (o+off),h,[])
  | .vp v=>(cutP sh off v).map fun u=>(.vp u,h,[])
  | .bt k o id g=>(faA k off o id g).map fun u=>(u,h,[])
  | _=>none
 | .field off sh x=>match ev x with
  | .p v=>match v with
   | .agg _=>(cutP sh off v).map fun u=>(.p u,h,[])
   | _=>none
  | .agg cs=>(cut sh off cs).map fun u=>(u,h,[])
  | _=>none
 | .iaddr sh x i=>match ev x,z1k (ev i) with
  | .p (.sl sh' xs),some k=>if sh'=sh then (xs[k]?).map fun v=>(.vp v,h,[]) else none
  | .own id g off len,some k=>match h[id]? with
   | some (.row rsh xs _)=>if rsh=sh∧g=xs.length∧off+len≤xs.length∧k<len then some (.rref id g (off+k) 0,h,[]) else none
   | _=>none
  | .bt kk _ id g,some k=>(iaA sh kk id g k h).map fun u=>(u,h,[])
  | _,_=>none
 | .iaddra n sh x i=>match ev x,z1k (ev i) with
  | .ref id o,some k=>if k<n then some (.ref id (o+k*z0a sh),h,[]) else none
  | .rref id g j o,some k=>if k<n then some (.rref id g j (o+k*z0a sh),h,[]) else none
  | .vp v,some k=>if k<n then (cutP sh (k*z0a sh) v).map fun u=>(.vp u,h,[]) else none
  | _,_=>none
 | .idxa n sh x i=>match ev x,z1k (ev i) with
  | .p (.agg cs),some k=>if k<n then (cutP sh (k*z0a sh) (.agg cs)).map fun u=>(.p u,h,[]) else none
  | _,_=>none
 | .idxs x i=>match ev x,z1k (ev i) with
  | .p (.str s),some k=>(s[k]?).map fun b=>(.p (.int .u8 b.toNat),h,[])
  | _,_=>none
 | .look kk ok z x k=>match z5k kk (ev k) with
  | some key=>match (match ev x with | .nilm=>some [] | m=>(mget h m).map fun y=>y.2.1) with
   | some es=>match z2B key es with
    | some r=>
     let v:=((r.bind (es[·]?)).map ME.val)
     some (bif ok then .tup [v.getD z,pbool v.isSome] else v.getD z,h,[])
    | none=>none
   | none=>none
  | none=>none
 | .mupd kk m k x=>match z5k kk (ev k),mget h (ev m),okIn (ev x) with
  | some key,some (id,es,c),true=>match z2B key es with
   | some (some i)=>some (.und,h.set id (.amap (es.modify i fun e=>{ e with val:=ev x }) c),z3c id (ev x))
   | some none=>some (.und,h.set id (.amap (es++[⟨key,ev x,c⟩]) (c+1)),z3c id (ev x))
   | none=>none
  | _,_,_=>none
 | .ment kk z m k=>match z5k kk (ev k),mget h (ev m) with
  | some key,some (id,es,c)=>match z2B key es with
   | some (some i)=>(es[i]?).map fun e=>(.tup [e.val,pint e.born],h,[])
   | some none=>some (.tup [z,pint c],h.set id (.amap (es++[⟨key,z,c⟩]) (c+1)),[])
   | none=>none
  | _,_=>none
 | .estore m s x=>match mget h (ev m),z1k (ev s),okIn (ev x) with
  | some (id,es,c),some b,true=>match es.findIdx? (fun e=>e.born==b) with
   | some i=>some (.und,h.set id (.amap (es.modify i fun e=>{ e with val:=ev x }) c),z3c id (ev x))
   | none=>none
  | _,_,_=>none
 | .mdel kk m k=>match z5k kk (ev k),mget h (ev m) with
  | some key,some (id,es,c)=>match z2B key es with
   | some (some i)=>some (.und,h.set id (.amap (es.eraseIdx i) c),[])
   | some none=>some (.und,h,[])
   | none=>none
  | _,_=>none
 | .ext x i=>match ev x with
  | .tup vs=>(vs[i]?).map fun v=>(v,h,[])
  | _=>none
 | .lens x=>match ev x with
  | .p (.str s)=>some (pint s.length,h,[])
  | _=>none
 | .len x=>match ev x with
  | .p (.sl _ xs)=>some (pint xs.length,h,[])
  | .sl0 _=>some (pint 0,h,[])
  | .own _ _ _ len=>some (pint len,h,[])
  | .bt k _ _ g=>(lnA k g).map fun u=>(u,h,[])
  | _=>none
 | .lenm x=>match ev x with
  | .nilm=>some (pint 0,h,[])
  | .mp id=>(mget h (.mp id)).map fun y=>(pint y.2.1.length,h,[])
  | _=>none
 | .app sh s x=>match rds h (ev x) with
  | some (sh',ys)=>if sh'=sh then match ev s with
   | .sl0 _=>if ys.length≤z0J then some (.own h.length ys.length 0 ys.length,h++[.row sh ys 0],[]) else none
   | .own id g off len=>match h[id]? with
    | some (.row rsh xs fz)=>if rsh=sh∧g=xs.length∧off=0∧len=xs.length∧len+ys.length≤z0J∧fz≤xs.length then some (.own id (g+ys.length) off (len+ys.length),h.set id (.row sh (xs++ys) fz),[])
     else if rsh=sh∧g=xs.length∧off+len+ys.length≤xs.length∧fz≤off+len∧1≤ys.length∧len+ys.length≤z0J∧sh=none∧xs.all PV.intP=true∧ys.all PV.intP=true then
      some (.p (.sl sh (win xs off len++ys)),h.set id (.row sh (splice xs (off+len) (List.replicate ys.length .unk)) (off+len+ys.length)),[])
     else none
    | _=>none
   | _=>none
   else none
  | none=>none
 | .copy sh d s=>match ev d,rds h (ev s) with
  | .own id g off len,some (sh',ys)=>match h[id]? with
   | some (.row rsh xs fz)=>if rsh=sh∧sh'=sh∧g=xs.length∧off+len≤xs.length∧fz≤off then
    some (pint (min ys.length len),h.set id (.row sh (splice xs off (ys.take (min ys.length len))) fz),[])
    else none
   | _=>none
  | _,_=>none
 | .clr sh z x=>match ev x with
  | .sl0 _=>some (.tup [],h,[])
  | .own id g off len=>match h[id]? with
   | some (.row rsh xs fz)=>if rsh=sh∧g=xs.length∧off+len≤xs.length∧fz≤off then
    some (.tup [],h.set id (.row sh (splice xs off (List.replicate len z)) fz),[])
    else none
   | _=>none
  | _=>none
 | .mx xs=>match xs.map ev with
  | .p a::r=>((unp r).bind fun l=>l.foldlM zm2 a).map fun v=>(.p v,h,[])
  | _=>none
 | .mn xs=>match xs.map ev with
  | .p a::r=>((unp r).bind fun l=>l.foldlM zm3 a).map fun v=>(.p v,h,[])
  | _=>none
 | .new0 sh=>some (.own h.length 0 0 0,h++[.row sh [] 0],[])
 | .mrange x=>match mget h (ev x) with
  | some (id,_,c)=>some (.it h.length,h++[.iter (some id) c [] c],[])
  | none=>match ev x with
   | .nilm=>some (.it h.length,h++[.iter none 0 [] 0],[])
   | _=>none
 | .mentry i=>match ev i with
  | .it id=>match h[id]? with
   | some (.iter (some m) _ seen last)=>match mget h (.mp m),seen.getLast? with
    | some (_,es,c),some b=>if c=last then (es.find? (fun e=>e.born==b)).map fun e=>(.tup [.p e.key,e.val],h,[]) else none
    | _,_=>none
   | _=>none
  | _=>none
 | .uns k t xs=>z13 k t (xs.map ev) h
 | .call _ _ | .callv _ _ | .mnext _ _=>none
def zqD (h:Heap):AV→Option (List (AV × Heap))
 | .it id=>match h[id]? with
  | some (.iter none since _ _)=>if since=0 then some [(.tup [pbool false],h)] else none
  | some (.iter (some m) since seen last)=>match mget h (.mp m) with
   | some (_,es,c)=>if c=since∧last=since then
    match es.filter (fun e=>!seen.contains e.born) with
    | []=>some [(.tup [pbool false],h.set id (.iter none 1 [] 0))]
    | l=>some (l.map fun e=>(.tup [pbool true,.p e.key,e.val],h.set id (.iter (some m) since (seen++[e.born]) last)))
    else none
   | none=>none
  | _=>none
 | _=>none
def appq (h:Heap) (sh:Sh) (s x:AV):Option (List (AV × Heap)):=match rds h x with
 | some (sh',ys)=>if sh'=sh then match s with
  | .own id g off len=>match h[id]? with
   | some (.row rsh xs fz)=>if rsh=sh∧g=xs.length∧off+len=xs.length∧len+ys.length≤z0J∧fz≤xs.length then
    some [(.own id (g+ys.length) off (len+ys.length),h.set id (.row sh (xs++ys) fz)),(.own h.length (len+ys.length) 0 (len+ys.length),h++[.row sh (win xs off len++ys) 0])]
    else if rsh=sh∧g=xs.length∧off+len<xs.length∧fz≤off+len∧len+ys.length≤z0J then
     some [(.own id (splice xs (off+len) ys).length off (len+ys.length),h.set id (.row sh (splice xs (off+len) ys) fz)),(.own h.length (len+ys.length) 0 (len+ys.length),h++[.row sh (win xs off len++ys) 0])]
    else none
   | _=>none
  | _=>none
  else none
 | none=>none
def z52 (h:Heap):Option Sh→List AV→Option (List (AV × Heap))
 | none,[it]=>zqD h it
 | some sh,[s,x]=>appq h sh s x
 | _,_=>none
end Go.Am
end
section
/- The abstract machine,part 3: what it means that code,that a call ends well,whatever is left open (AW,z0c). -/
namespace Go.Am
abbrev Post:=AV→Heap→Esc→Prop
abbrev Hd:=Nat→List AV→Heap→Post→Prop
structure Ctx where
 fn:Nat→Option AFun
 gl:Nat→Option PV
 ext:Nat→List PV→Option PV
 ex2:Nat→List AV→Heap→Option (AV × Heap × Esc):=fun _ _ _=>none
inductive Ex where
 | normal
 | exit (id:Nat)
 | ret
def put (d:Option Nat) (v:AV) (e:List (Nat × AV)):List (Nat × AV):=match d with
 | some d=>(d,v)::e
 | none=>e
def wanted (g:Option (Nat × Bool)) (e:List (Nat × AV)):Option Bool:=match g with
 | none=>some true
 | some (t,b)=>match aget e t with
  | .p (.bool c)=>some (c==b)
  | .skp=>some false
  | _=>none
def AReg (C:Hd) (gl:Nat→Option PV):List AOp→List (Nat × AV)→Heap→Esc→(List (Nat × AV)→Heap→Esc→Prop)→Prop
 | [],e,h,x,K=>K e h x
 | o::r,e,h,x,K=>match wanted o.guard e with
  | some true=>match o.op with
   | .call f args=>C f (args.map (Opd.ev gl e)) h fun v h' x'=>AReg C gl r (put o.dst v e) h' (x'++x) K
   | .callv f args=>match Opd.ev gl e f with
    | .fn g caps=>C g (args.map (Opd.ev gl e)++caps) h fun v h' x'=>AReg C gl r (put o.dst v e) h' (x'++x) K
    | _=>False
   | .mnext sh xs=>match z52 h sh (xs.map (Opd.ev gl e)) with
    | some l=>l≠[]∧∀ y∈l,AReg C gl r (put o.dst y.1 e) y.2 x K
    | none=>False
   | op=>match aop op (Opd.ev gl e) h with
    | some (v,h',x')=>AReg C gl r (put o.dst v e) h' (x'++x) K
    | none=>False
  | some false=>AReg C gl r (put o.dst .skp e) h x K
  | none=>False
def z0E (keep:Option (List Nat)) (e:List (Nat × AV)):List (Nat × AV):=match keep with
 | none=>e
 | some l=>l.map fun t=>(t,aget e t)
def ADo (C:Hd) (gl:Nat→Option PV) (o:AOp) (e:List (Nat × AV)) (h:Heap) (v:AV) (h':Heap) (x:Esc):Prop:=match wanted o.guard e with
 | some true=>match o.op with
  | .call f args=>C f (args.map (Opd.ev gl e)) h fun v1 h1 x1=>v1=v∧h1=h'∧x1=x
  | .callv f args=>match Opd.ev gl e f with
   | .fn g caps=>C g (args.map (Opd.ev gl e)++caps) h fun v1 h1 x1=>v1=v∧h1=h'∧x1=x
   | _=>False
  | .mnext _ _=>False
  | op=>aop op (Opd.ev gl e) h=some (v,h',x)
 | some false=>v = .skp∧h'=h∧x=[]
 | none=>False
abbrev Done:=List (AOp × List (Nat × AV) × AV)
def z2s (C:Hd) (gl:Nat→Option PV):List DOp→Done→List Heap→List (Nat × AV)→Heap→Esc→(List (Nat × AV)→Heap→Esc→Prop)→Prop
 | [],_,_,e,h,x,K=>K e h x
 | o::r,dn,hs,e,h,x,K=>∃ v h' y,ADo C gl o.op (z0E (some o.rd) e) h v h' y∧(o.eff=false→h'=h∧y=[])∧(∀ k∈o.early,∃ g,hs[k]?=some g∧ADo C gl o.op (z0E (some o.rd) e) g v g []) ∧
  (∀ j∈o.again,∃ q,dn[j]?=some q∧ADo C gl q.1 q.2.1 h' q.2.2 h' [])∧z2s C gl r (dn++[(o.op,z0E (some o.rd) e,v)]) (hs++[h]) (put o.op.dst v e) h' (y++x) K
def bump (x:Esc) (n:Nat):Nat:=x.foldl (fun m y=>if y.1<m then max m y.2 else m) n
def z2t:Nat→Esc→Nat→Nat
 | 0,_,n=>n
 | k+1,x,n=>z2t k x (bump x n)
def z1p (x:Esc) (n:Nat):Bool:=x.all fun y=>decide (n≤y.1)||decide (y.2≤n)
def zde (n:Nat) (e:List (Nat × AV)):List (Nat × AV):=e.map fun y=>(y.1,if y.2.top≤n then y.2 else .und)
def z9X (b:Nat) (x0:Esc) (s:St):St:=
 let n:=z2t s.esc.length s.esc b
 if z1p s.esc n then ⟨zde n s.env,s.h.take n,s.esc.filter (fun y=>decide (y.1<n))++x0⟩ else ⟨s.env,s.h,s.esc++x0⟩
inductive ALoop (T:St→(Ex→St→Prop)→Prop) (K:Ex→St→Prop):St→Prop where
 | mk (s:St) (R:Ex→St→Prop) (h:T s R) (hn:∀ s',R .normal s'→ALoop T K s') (he:∀ i s',R (.exit i) s'→K (.exit i) s') (hr:∀ s',R .ret s'→K .ret s'):ALoop T K s
def AW (C:Hd) (gl:Nat→Option PV):ACode→St→(Ex→St→Prop)→Prop
 | .skip,s,K=>K .normal s
 | .reg ops keep,s,K=>AReg C gl ops s.env s.h s.esc fun e h x=>K .normal ⟨z0E keep e,h,x⟩
 | .draw ds keep,s,K=>z2s C gl ds [] [] s.env s.h s.esc fun e h x=>K .normal ⟨z0E keep e,h,x⟩
 | .seq a b,s,K=>AW C gl a s fun e s'=>match e with
  | .normal=>AW C gl b s' K
  | .exit i=>K (.exit i) s'
  | .ret=>K .ret s'
 | .cond c a b,s,K=>match Opd.ev gl s.env c with
  | .p (.bool t)=>match t with
   | true=>AW C gl a s K
   | false=>AW C gl b s K
  | _=>False
 | .condu c a b,s,K=>match Opd.ev gl s.env c with
  | .p (.bool t)=>match t with
   | true=>AW C gl a s K
   | false=>AW C gl b s K
  | .anyb=>AW C gl a s K∧AW C gl b s K
  | _=>False
 | .det b,s,K=>AW C gl b s K
 | .block id b,s,K=>AW C gl b s fun e s'=>match e with
  | .normal=>K .normal s'
  | .exit i=>if i=id then K .normal s' else K (.exit i) s'
  | .ret=>K .ret s'
 | .loop b,s,K=>ALoop (AW C gl b) K s
 | .scope b,s,K=>AW C gl b ⟨s.env,s.h,[]⟩ fun e s'=>K e (z9X s.h.length s.esc s')
 | .pr l b,s,K=>AW C gl b ⟨z0E (some l) s.env,s.h,s.esc⟩ K
 | .exit id,s,K=>K (.exit id) s
 | .ret,s,K=>K .ret s
 | .bad,_,_=>False
def rd0 (b:Nat) (h:Heap):AV→Option PV
 | .p v=>some v
 | .sl0 sh=>some (.sl sh [])
 | .nilp=>some .nilp
 | .own id g off len=>if b≤id then (rd h (.own id g off len)).map fun y=>.sl y.1 y.2 else none
 | _=>none
def rd0s (b:Nat) (h:Heap):List AV→Option (List PV)
 | []=>some []
 | v::r=>match rd0 b h v with
  | some x=>(rd0s b h r).map (x :: ·)
  | none=>none
def rdA (b:Nat) (h:Heap) (id g:Nat):Option AV:=match h[id]? with
 | some (.arow sh cs)=>if g*z0a sh=cs.length then (rd0s b h cs).map fun vs=>.p (.sl sh (z1M sh g vs)) else none
 | _=>none
mutual
def reif (b:Nat) (h:Heap):AV→Option AV
 | .own id g off len=>if b≤id then (rd h (.own id g off len)).map fun y=>.p (.sl y.1 y.2) else some (.own id g off len)
 | .sl0 sh=>some (.p (.sl sh []))
 | .bt k t id g=>bif Nat.beq k 3&&decide (b≤id) then rdA b h id g else some (.bt k t id g)
 | .agg cs=>(z7g b h cs).map mkA
 | .tup vs=>(z7g b h vs).map .tup
 | v=>some v
def z7g (b:Nat) (h:Heap):List AV→Option (List AV)
 | []=>some []
 | v::r=>match reif b h v with
  | some x=>(z7g b h r).map (x :: ·)
  | none=>none
end
def ares (s:St):ARes→Option AV
 | .t n=>some (aget s.env n)
 | .cell a sh=>match aget s.env a with
  | .ref id off=>match s.h[id]? with
   | some (.box cs)=>cut sh off cs
   | _=>none
  | _=>none
def z1T (s:St):List ARes→Option (List AV)
 | []=>some []
 | r::rs=>match ares s r with
  | some v=>(z1T s rs).map (v :: ·)
  | none=>none
def z1b:List AV→AV
 | [v]=>v
 | vs=>.tup vs
def fin (F:AFun) (b:Nat) (s:St) (K:Post):Prop:=match z1T s F.results with
 | some vs=>match F.keep with
  | true=>
   let n:=z2t s.esc.length s.esc (max b (z1b vs).top)
   if z1p s.esc n then K (z1b vs) (s.h.take n) (s.esc.filter fun y=>decide (y.1<n)) else K (z1b vs) s.h s.esc
  | false=>match reif b s.h (z1b vs) with
   | some v0=>
    let n:=z2t s.esc.length s.esc (max b v0.top)
    if z1p s.esc n then match reif n s.h (z1b vs) with
     | some v=>v.top≤n∧K v (s.h.take n) (s.esc.filter fun y=>decide (y.1<n))
     | none=>False
    else K (z1b vs) s.h s.esc
   | none=>False
 | none=>False
def z0p (h:Heap):List AV→Option (List AV × Heap)
 | []=>some ([],h)
 | v::r=>match v with
  | .own id g off len=>match rd h (.own id g off len) with
   | some z=>(z0p (frz h id (off+len)) r).map fun y=>(.p (.sl z.1 z.2)::y.1,y.2)
   | none=>none
  | .agg cs=>match pur h (.agg cs) with
   | some (x,h1)=>(z0p h1 r).map fun y=>(.p x::y.1,y.2)
   | none=>none
  | .sl0 sh=>(z0p h r).map fun y=>(.p (.sl sh [])::y.1,y.2)
  | v=>(z0p h r).map fun y=>(v::y.1,y.2)
def enter (args:List AV):List (Nat × AV):=(args.zipIdx).map fun y=>(y.2,y.1)
def z2Z (C:Hd) (gl:Nat→Option PV) (F:AFun) (args:List AV) (h:Heap) (K:Post):Prop:=
 match (if F.byref then some (args,h) else z0p h args) with
 | some (asv,h1)=>asv.length=F.nparams∧AW C gl F.body ⟨enter asv,h1,[]⟩ fun e s=>match e with
  | .exit _=>False
  | _=>fin F h.length s K
 | none=>False
def AFun.isDet (F:AFun):Bool:=match F.body with
 | .det _=>true
 | _=>false
def z56 (C:Hd) (gl:Nat→Option PV) (F:AFun) (args:List AV) (h:Heap) (K:Post):Prop:=match F.isDet with
 | true=>∃ v h' x,K v h' x∧z2Z C gl F args h fun v1 h1 x1=>v1=v∧h1=h'∧x1=x
 | false=>z2Z C gl F args h K
def Step (X:Ctx) (C:Hd):Hd:=fun f args h K=>match X.fn f with
 | some F=>z56 C X.gl F args h K
 | none=>match X.ex2 f args h with
  | some (v,h1,x)=>K v h1 x
  | none=>match z0p h args with
   | some (asv,h1)=>match unp asv with
    | some vs=>match X.ext f vs with
     | some r=>K (.p r) h1 []
     | none=>False
    | none=>False
   | none=>False
def Hd.Mono (C:Hd):Prop:=∀ f a h K K',(∀ v h' x,K v h' x→K' v h' x)→C f a h K→C f a h K'
def z0c (X:Ctx):Hd:=fun f a h K=>∀ C:Hd,C.Mono→(∀ f a h K,Step X C f a h K→C f a h K)→C f a h K
theorem z2y {C C':Hd} {gl:Nat→Option PV} (hC:∀ f a h K K',(∀ v h' x,K v h' x→K' v h' x)→C f a h K→C' f a h K') :
 ∀ (ops:List AOp) e h x K K',(∀ e h x,K e h x→K' e h x)→AReg C gl ops e h x K→AReg C' gl ops e h x K'
 | [],e,h,x,K,K',hK,H=>hK _ _ _ H
 | o::r,e,h,x,K,K',hK,H=>by
  unfold AReg at H ⊢
  split at H
  ·split at H
   ·exact hC _ _ _ _ _ (fun v h' x' H'=>z2y hC r _ _ _ K K' hK H') H
   ·split at H
    ·exact hC _ _ _ _ _ (fun v h' x' H'=>z2y hC r _ _ _ K K' hK H') H
    ·exact H.elim
   ·split at H
    ·exact⟨H.1,fun y hy=>z2y hC r _ _ _ K K' hK (H.2 y hy)⟩
    ·exact H.elim
   ·split at H
    ·exact z2y hC r _ _ _ K K' hK H
    ·exact H.elim
  ·exact z2y hC r _ _ _ K K' hK H
  ·exact H.elim
theorem zb4 {C C':Hd} {gl:Nat→Option PV} (hC:∀ f a h K K',(∀ v h' x,K v h' x→K' v h' x)→C f a h K→C' f a h K') {o:AOp} {e:List (Nat × AV)} {h h':Heap} {v:AV} {x:Esc}
 (H:ADo C gl o e h v h' x):ADo C' gl o e h v h' x:=by
 unfold ADo at H ⊢
 split at H
 ·split at H
  ·exact hC _ _ _ _ _ (fun _ _ _ h=>h) H
  ·split at H
   ·exact hC _ _ _ _ _ (fun _ _ _ h=>h) H
   ·exact H.elim
  ·exact H.elim
  ·exact H
 ·exact H
 ·exact H.elim
theorem z6U {C C':Hd} {gl:Nat→Option PV} (hC:∀ f a h K K',(∀ v h' x,K v h' x→K' v h' x)→C f a h K→C' f a h K') :
 ∀ (ds:List DOp) dn hs e h x K K',(∀ e h x,K e h x→K' e h x)→z2s C gl ds dn hs e h x K→z2s C' gl ds dn hs e h x K'
 | [],dn,hs,e,h,x,K,K',hK,H=>hK _ _ _ H
 | o::r,dn,hs,e,h,x,K,K',hK,H=>by
  obtain⟨v,h',y,h1,h2,h3,h4,h5⟩:=H
  exact⟨v,h',y,zb4 hC h1,h2,fun k hk=>by obtain⟨g,q1,q2⟩:=h3 k hk;exact⟨g,q1,zb4 hC q2⟩,fun j hj=>by obtain⟨q,q1,q2⟩:=h4 j hj;exact⟨q,q1,zb4 hC q2⟩,
   z6U hC r _ _ _ _ _ K K' hK h5⟩
theorem ALoop.mono {T T':St→(Ex→St→Prop)→Prop} {K K':Ex→St→Prop} (hT:∀ s R,T s R→T' s R) (hK:∀ e s,K e s→K' e s) {s:St} (H:ALoop T K s):ALoop T' K' s:=by
 induction H with
 | mk s R h hn he hr ih=>exact .mk s R (hT _ _ h) ih (fun i s' h=>hK _ _ (he i s' h)) (fun s' h=>hK _ _ (hr s' h))
theorem z1u {C C':Hd} {gl:Nat→Option PV} (hC:∀ f a h K K',(∀ v h' x,K v h' x→K' v h' x)→C f a h K→C' f a h K') :
 ∀ (c:ACode) s K K',(∀ e s,K e s→K' e s)→AW C gl c s K→AW C' gl c s K'
 | .skip,s,K,K',hK,H=>hK _ _ H
 | .reg ops keep,s,K,K',hK,H=>z2y hC ops _ _ _ _ _ (fun _ _ _ h=>hK _ _ h) H
 | .draw ds keep,s,K,K',hK,H=>z6U hC ds _ _ _ _ _ _ _ (fun _ _ _ h=>hK _ _ h) H
 | .seq a b,s,K,K',hK,H=>z1u hC a s _ _ (fun e s' h=>by
  cases e
  ·exact z1u hC b s' K K' hK h
  ·exact hK _ _ h
  ·exact hK _ _ h) H
 | .condu c a b,s,K,K',hK,H=>by
  unfold AW at H ⊢
  split at H
  ·split at H
   ·exact z1u hC a s K K' hK H
   ·exact z1u hC b s K K' hK H
  ·exact⟨z1u hC a s K K' hK H.1,z1u hC b s K K' hK H.2⟩
  ·exact H.elim
 | .det b,s,K,K',hK,H=>z1u hC b s K K' hK H
 | .cond c a b,s,K,K',hK,H=>by
  unfold AW at H ⊢
  split at H
  ·split at H
   ·exact z1u hC a s K K' hK H
   ·exact z1u hC b s K K' hK H
  ·exact H.elim
 | .block id b,s,K,K',hK,H=>z1u hC b s _ _ (fun e s' h=>by
  cases e
  ·exact hK _ _ h
  ·dsimp only at h ⊢;split at h
   ·rw[if_pos ‹_›];exact hK _ _ h
   ·rw[if_neg ‹_›];exact hK _ _ h
  ·exact hK _ _ h) H
 | .loop b,s,K,K',hK,H=>ALoop.mono (fun s R h=>z1u hC b s R R (fun _ _ h=>h) h) hK H
 | .scope b,s,K,K',hK,H=>z1u hC b _ _ _ (fun e s' h=>hK _ _ h) H
 | .pr l b,s,K,K',hK,H=>z1u hC b _ K K' hK H
 | .exit id,s,K,K',hK,H=>hK _ _ H
 | .ret,s,K,K',hK,H=>hK _ _ H
 | .bad,s,K,K',hK,H=>H.elim
theorem zhH {F:AFun} {b:Nat} {s:St} {K K':Post} (hK:∀ v h x,K v h x→K' v h x) (H:fin F b s K):fin F b s K':=by
 unfold fin at H ⊢
 split at H
 ·split at H
  ·dsimp only at H ⊢
   split at H
   ·rw[if_pos ‹_›];exact hK _ _ _ H
   ·rw[if_neg ‹_›];exact hK _ _ _ H
  ·split at H
   ·dsimp only at H ⊢
    split at H
    ·rw[if_pos ‹_›]
     split at H
     ·exact⟨H.1,hK _ _ _ H.2⟩
     ·exact H.elim
    ·rw[if_neg ‹_›];exact hK _ _ _ H
   ·exact H.elim
 ·exact H.elim
theorem z4S {C C':Hd} {gl:Nat→Option PV} (hC:∀ f a h K K',(∀ v h' x,K v h' x→K' v h' x)→C f a h K→C' f a h K') {F:AFun} {a:List AV} {h:Heap} {K K':Post}
 (hK:∀ v h x,K v h x→K' v h x) (H:z2Z C gl F a h K):z2Z C' gl F a h K':=by
 unfold z2Z at H ⊢
 split at H
 ·refine⟨H.1,z1u hC _ _ _ _ (fun e s h=>?_) H.2⟩
  cases e
  ·exact zhH hK h
  ·exact h.elim
  ·exact zhH hK h
 ·exact H.elim
theorem zj5 {C C':Hd} {gl:Nat→Option PV} (hC:∀ f a h K K',(∀ v h' x,K v h' x→K' v h' x)→C f a h K→C' f a h K') {F:AFun} {a:List AV} {h:Heap} {K K':Post}
 (hK:∀ v h x,K v h x→K' v h x) (H:z56 C gl F a h K):z56 C' gl F a h K':=by
 unfold z56 at H ⊢
 cases hd:F.isDet with
 | true=>
  rw[hd] at H
  obtain⟨v,h',x,k,H⟩:=H
  exact⟨v,h',x,hK _ _ _ k,z4S hC (fun _ _ _ h=>h) H⟩
 | false=>
  rw[hd] at H
  exact z4S hC hK H
theorem z7X {X:Ctx} {C C':Hd} (hC:∀ f a h K K',(∀ v h' x,K v h' x→K' v h' x)→C f a h K→C' f a h K') {f:Nat} {a:List AV} {h:Heap} {K K':Post}
 (hK:∀ v h x,K v h x→K' v h x) (H:Step X C f a h K):Step X C' f a h K':=by
 unfold Step at H ⊢
 split at H
 ·exact zj5 hC hK H
 ·split at H
  ·exact hK _ _ _ H
  ·split at H
   ·split at H
    ·split at H
     ·exact hK _ _ _ H
     ·exact H.elim
    ·exact H.elim
   ·exact H.elim
theorem z0c.mono (X:Ctx):(z0c X).Mono:=fun f a h K K' hK H=>by
 intro C hM hS
 exact hM _ _ _ _ _ hK (H C hM hS)
theorem z0c.fold {X:Ctx} {f:Nat} {a:List AV} {h:Heap} {K:Post} (H:Step X (z0c X) f a h K):z0c X f a h K:=by
 intro C hM hS
 exact hS _ _ _ _ (z7X (fun f a h K K' hK H'=>hM _ _ _ _ _ hK (H' C hM hS)) (fun _ _ _ h=>h) H)
theorem zj6 {C:Hd} (hC:C.Mono) {gl:Nat→Option PV} {F:AFun} {a:List AV} {h:Heap} {K:Post} (H:z56 C gl F a h K):z2Z C gl F a h K:=by
 unfold z56 at H
 split at H
 ·obtain⟨v,h',x,k,H⟩:=H
  refine z4S (C:=C) (C':=C) (fun f a h K K' hK g=>hC f a h K K' hK g) (fun v1 h1 x1 (hv:v1=v∧h1=h'∧x1=x)=>?_) H
  obtain⟨q1,q2,q3⟩:=hv
  subst q1;subst q2;subst q3
  exact k
 ·exact H
theorem z0c.unfold {X:Ctx} {f:Nat} {a:List AV} {h:Heap} {K:Post} (H:z0c X f a h K):Step X (z0c X) f a h K:=by
 refine H (fun f a h K=>Step X (z0c X) f a h K) ?_ ?_
 ·intro f a h K K' hK H'
  exact z7X (z0c.mono X) hK H'
 ·intro f a h K H'
  exact z7X (C:=fun f a h K=>Step X (z0c X) f a h K) (C':=z0c X) (fun f a h K K' hK H''=>z0c.mono X _ _ _ _ _ hK (z0c.fold H'')) (fun _ _ _ h=>h) H'
theorem zc3 {X:Ctx} {f:Nat} {a:List AV} {h:Heap} {K:Post}:z0c X f a h K↔Step X (z0c X) f a h K:=⟨z0c.unfold,z0c.fold⟩
def Meet (C D:Hd):Prop:=∀ f a h K L,C f a h K→D f a h L→∃ v h' x,K v h' x∧L v h' x
theorem z3f {C D:Hd} {gl:Nat→Option PV} (hC:Meet C D) :
 ∀ (ops:List AOp) e h x K L,AReg C gl ops e h x K→AReg D gl ops e h x L→∃ e h x,K e h x∧L e h x
 | [],e,h,x,K,L,H,G=>⟨e,h,x,H,G⟩
 | o::r,e,h,x,K,L,H,G=>by
  obtain⟨dst,guard,op⟩:=o
  unfold AReg at H G
  dsimp only at H G
  split at H
  ·rename_i hw
   simp only[hw] at G
   cases op
   case call f args=>
    obtain⟨v,h',x',H',G'⟩:=hC _ _ _ _ _ H G
    exact z3f hC r _ _ _ K L H' G'
   case callv f args=>
    dsimp only at H G
    split at H
    ·rename_i hf
     simp only[hf] at G
     obtain⟨v,h',x',H',G'⟩:=hC _ _ _ _ _ H G
     exact z3f hC r _ _ _ K L H' G'
    ·exact H.elim
   case mnext sh xs=>
    dsimp only at H G
    split at H
    ·rename_i l hl
     simp only[hl] at G
     obtain⟨y,hy⟩:=List.exists_mem_of_ne_nil l H.1
     exact z3f hC r _ _ _ K L (H.2 y hy) (G.2 y hy)
    ·exact H.elim
   all_goals
    dsimp only at H G
    split at H
    ·rename_i ha
     simp only[ha] at G
     exact z3f hC r _ _ _ K L H G
    ·exact H.elim
  ·rename_i hw
   simp only[hw] at G
   exact z3f hC r _ _ _ K L H G
  ·exact H.elim
theorem ztS {C D:Hd} {gl:Nat→Option PV} (hC:Meet C D) {o:AOp} {e:List (Nat × AV)} {h h1 h2:Heap} {v1 v2:AV} {x1 x2:Esc} (H:ADo C gl o e h v1 h1 x1) (G:ADo D gl o e h v2 h2 x2):v1=v2∧h1=h2∧x1=x2:=by
 obtain⟨dst,guard,op⟩:=o
 unfold ADo at H G
 dsimp only at H G
 split at H
 ·rename_i hw
  simp only[hw] at G
  cases op
  case call f args=>
   obtain⟨v,h',x',⟨a1,a2,a3⟩,b1,b2,b3⟩:=hC _ _ _ _ _ H G
   exact⟨a1.symm.trans b1,a2.symm.trans b2,a3.symm.trans b3⟩
  case callv f args=>
   dsimp only at H G
   split at H
   ·rename_i hf
    simp only[hf] at G
    obtain⟨v,h',x',⟨a1,a2,a3⟩,b1,b2,b3⟩:=hC _ _ _ _ _ H G
    exact⟨a1.symm.trans b1,a2.symm.trans b2,a3.symm.trans b3⟩
   ·exact H.elim
  case mnext sh xs=>exact H.elim
  all_goals
   dsimp only at H G
   rw[H] at G
   injection G with G
   injection G with g1 G
   injection G with g2 g3
   exact⟨g1,g2,g3⟩
 ·rename_i hw
  simp only[hw] at G
  exact⟨H.1.trans G.1.symm,H.2.1.trans G.2.1.symm,H.2.2.trans G.2.2.symm⟩
 ·exact H.elim
theorem z9Z {C D:Hd} {gl:Nat→Option PV} (hC:Meet C D) :
 ∀ (ds:List DOp) dn hs e h x K L,z2s C gl ds dn hs e h x K→z2s D gl ds dn hs e h x L→∃ e h x,K e h x∧L e h x
 | [],dn,hs,e,h,x,K,L,H,G=>⟨e,h,x,H,G⟩
 | o::r,dn,hs,e,h,x,K,L,H,G=>by
  obtain⟨v,h',y,h1,h2,h3,h4,h5⟩:=H
  obtain⟨v',h'',y',g1,g2,g3,g4,g5⟩:=G
  obtain⟨rfl,rfl,rfl⟩:=ztS hC h1 g1
  exact z9Z hC r _ _ _ _ _ K L h5 g5
def WMeet (T U:St→(Ex→St→Prop)→Prop):Prop:=∀ s K L,T s K→U s L→∃ e s',K e s'∧L e s'
theorem ziV {T U:St→(Ex→St→Prop)→Prop} (hT:WMeet T U) {K L:Ex→St→Prop} {s:St} (H:ALoop T K s):ALoop U L s→∃ e s',K e s'∧L e s':=by
 induction H with
 | mk s R h hn he hr ih=>
  intro G
  cases G with
  | mk _ S h' hn' he' hr'=>
   obtain⟨e,s',hR,hS⟩:=hT _ _ _ h h'
   cases e with
   | normal=>exact ih s' hR (hn' s' hS)
   | exit i=>exact⟨_,_,he i s' hR,he' i s' hS⟩
   | ret=>exact⟨_,_,hr s' hR,hr' s' hS⟩
theorem z1S {C D:Hd} {gl:Nat→Option PV} (hC:Meet C D):∀ (c:ACode),WMeet (AW C gl c) (AW D gl c)
 | .skip,s,K,L,H,G=>⟨_,_,H,G⟩
 | .reg ops keep,s,K,L,H,G=>by
  obtain⟨e,h,x,h1,h2⟩:=z3f hC ops _ _ _ _ _ H G
  exact⟨_,_,h1,h2⟩
 | .draw ds keep,s,K,L,H,G=>by
  obtain⟨e,h,x,h1,h2⟩:=z9Z hC ds _ _ _ _ _ _ _ H G
  exact⟨_,_,h1,h2⟩
 | .seq a b,s,K,L,H,G=>by
  obtain⟨e,s',h1,h2⟩:=z1S hC a _ _ _ H G
  cases e with
  | normal=>exact z1S hC b _ _ _ h1 h2
  | exit i=>exact⟨_,_,h1,h2⟩
  | ret=>exact⟨_,_,h1,h2⟩
 | .condu c a b,s,K,L,H,G=>by
  unfold AW at H G
  split at H
  ·rename_i t ht
   simp only[ht] at G
   split at H
   ·exact z1S hC a _ _ _ H G
   ·exact z1S hC b _ _ _ H G
  ·rename_i ht
   simp only[ht] at G
   exact z1S hC a _ _ _ H.1 G.1
  ·exact H.elim
 | .det b,s,K,L,H,G=>z1S hC b _ _ _ H G
 | .cond c a b,s,K,L,H,G=>by
  unfold AW at H G
  split at H
  ·rename_i t ht
   simp only[ht] at G
   split at H
   ·exact z1S hC a _ _ _ H G
   ·exact z1S hC b _ _ _ H G
  ·exact H.elim
 | .block id b,s,K,L,H,G=>by
  obtain⟨e,s',h1,h2⟩:=z1S hC b _ _ _ H G
  cases e with
  | normal=>exact⟨_,_,h1,h2⟩
  | exit i=>
   dsimp only at h1 h2
   split at h1
   ·rw[if_pos ‹_›] at h2;exact⟨_,_,h1,h2⟩
   ·rw[if_neg ‹_›] at h2;exact⟨_,_,h1,h2⟩
  | ret=>exact⟨_,_,h1,h2⟩
 | .loop b,s,K,L,H,G=>ziV (z1S hC b) H G
 | .scope b,s,K,L,H,G=>by
  obtain⟨e,s',h1,h2⟩:=z1S hC b _ _ _ H G
  exact⟨_,_,h1,h2⟩
 | .pr l b,s,K,L,H,G=>z1S hC b _ K L H G
 | .exit id,s,K,L,H,G=>⟨_,_,H,G⟩
 | .ret,s,K,L,H,G=>⟨_,_,H,G⟩
 | .bad,s,K,L,H,G=>H.elim
theorem zhG {F:AFun} {b:Nat} {s:St} {K L:Post} (H:fin F b s K) (G:fin F b s L):∃ v h x,K v h x∧L v h x:=by
 unfold fin at H G
 split at H
 ·rename_i h1
  simp only[h1] at G
  split at H
  ·rename_i h2
   simp only[h2] at G
   dsimp only at H G
   split at H
   ·rename_i h3;rw[if_pos h3] at G;exact⟨_,_,_,H,G⟩
   ·rename_i h3;rw[if_neg h3] at G;exact⟨_,_,_,H,G⟩
  ·rename_i h2
   simp only[h2] at G
   split at H
   ·rename_i h4
    simp only[h4] at G
    dsimp only at H G
    split at H
    ·rename_i h3
     rw[if_pos h3] at G
     split at H
     ·rename_i h5
      simp only[h5] at G
      exact⟨_,_,_,H.2,G.2⟩
     ·exact H.elim
    ·rename_i h3;rw[if_neg h3] at G;exact⟨_,_,_,H,G⟩
   ·exact H.elim
 ·exact H.elim
theorem zad {C D:Hd} {gl:Nat→Option PV} (hC:Meet C D) {F:AFun} {a:List AV} {h:Heap} {K L:Post} (H:z2Z C gl F a h K) (G:z2Z D gl F a h L):∃ v h' x,K v h' x∧L v h' x:=by
 unfold z2Z at H G
 split at H
 ·rename_i hp
  simp only[hp] at G
  obtain⟨e,s',h1,h2⟩:=z1S hC _ _ _ _ H.2 G.2
  cases e with
  | normal=>exact zhG h1 h2
  | exit i=>exact h1.elim
  | ret=>exact zhG h1 h2
 ·exact H.elim
theorem zj4 {C D:Hd} {gl:Nat→Option PV} (hC:Meet C D) {F:AFun} {a:List AV} {h:Heap} {K L:Post} (H:z56 C gl F a h K) (G:z56 D gl F a h L):∃ v h' x,K v h' x∧L v h' x:=by
 unfold z56 at H G
 cases hd:F.isDet with
 | true=>
  rw[hd] at H G
  obtain⟨v,h',x,k,H⟩:=H
  obtain⟨v2,h2,x2,k2,G⟩:=G
  obtain⟨v3,h3,x3,⟨q1,q2,q3⟩,q4,q5,q6⟩:=zad hC H G
  subst q1;subst q2;subst q3;subst q4;subst q5;subst q6
  exact⟨_,_,_,k,k2⟩
 | false=>
  rw[hd] at H G
  exact zad hC H G
theorem zlz {X:Ctx} {C D:Hd} (hC:Meet C D):Meet (Step X C) (Step X D):=by
 intro f a h K L H G
 unfold Step at H G
 split at H
 ·rename_i F hF
  simp only[hF] at G
  exact zj4 hC H G
 ·rename_i hF
  simp only[hF] at G
  split at H
  ·rename_i hx2
   simp only[hx2] at G
   exact⟨_,_,_,H,G⟩
  ·rename_i hx2
   simp only[hx2] at G
   split at H
   ·rename_i hp
    simp only[hp] at G
    split at H
    ·rename_i hu
     simp only[hu] at G
     split at H
     ·rename_i hx
      simp only[hx] at G
      exact⟨_,_,_,H,G⟩
     ·exact H.elim
    ·exact H.elim
   ·exact H.elim
theorem ziU (X:Ctx):Meet (z0c X) (z0c X):=by
 intro f a h K L H
 refine H (fun f a h K=>∀ L,z0c X f a h L→∃ v h' x,K v h' x∧L v h' x) ?_ ?_ L
 ·intro f a h K K' hK H' L hL
  obtain⟨v,h',x,h1,h2⟩:=H' L hL
  exact⟨v,h',x,hK _ _ _ h1,h2⟩
 ·intro f a h K H' L hL
  exact zlz (C:=fun f a h K=>∀ L,z0c X f a h L→∃ v h' x,K v h' x∧L v h' x) (fun f a h K L H1 H2=>H1 L H2) _ _ _ _ _ H' (z0c.unfold hL)
theorem z0c.eq {X:Ctx} {f:Nat} {a:List AV} {h:Heap} {v:AV} {h':Heap} {x:Esc} (H:z0c X f a h fun v1 h1 x1=>v1=v∧h1=h'∧x1=x) (K:Post) :
 z0c X f a h K↔K v h' x:=by
 constructor
 ·intro G
  obtain⟨v1,h1,x1,⟨rfl,rfl,rfl⟩,hk⟩:=ziU X _ _ _ _ _ H G
  exact hk
 ·intro hk
  exact z0c.mono X _ _ _ _ _ (fun v1 h1 x1 ⟨e1,e2,e3⟩=>by subst e1;subst e2;subst e3;exact hk) H
end Go.Am
end
section
/- The abstract machine,part 4: how its values and heap stand tov the model's (relations),and that they outlast what comes. -/
namespace Go.Am
def zed (w:World):World:={ w with heap:=#[],drawn:=0 }
structure Mem where
 c:Nat→Nat→Option Value
 b:Nat→Option Go.Obj
 z:Option World
 s:Nat→Option TypeId
instance:CoeFun Mem fun _=>Nat→Nat→Option Value:=⟨Mem.c⟩
abbrev Mu:=List (Option (Nat × Nat))
inductive RPV (M:Mem):PV→Value→Prop
 | int (k:IntKind) (n:Int):RPV M (.int k n) (.int k n)
 | bool (b:Bool):RPV M (.bool b) (.bool b)
 | str (s:List UInt8):RPV M (.str s) (.string ⟨s.toArray⟩)
 | nilp:RPV M .nilp (.pointer none)
 | unk (k:IntKind) (n:Int):RPV M .unk (.int k n)
 | nils (sh:Sh) (a:Option Addr) (cap:Nat):RPV M (.sl sh []) (.slice a 0 cap)
 | sl (sh:Sh) (xs:List PV) (b o cap:Nat) (f:Nat→Value) (hne:xs≠[]) (hc:xs.length≤cap) (he:∀ x∈xs,x.shp sh=true)
  (hm:∀ (j:Nat) (y:PV),(xs.flatMap PV.cells)[j]?=some y→M b (o+j)=some (f j))
  (hr:∀ (j:Nat) (y:PV),(xs.flatMap PV.cells)[j]?=some y→RPV M y (f j)):RPV M (.sl sh xs) (.slice (some ⟨b,o,none⟩) xs.length cap)
 | agg (cs:List PV) (vs:List Value) (hl:cs.length=vs.length)
  (hr:∀ (j:Nat) (y:PV) (v:Value),cs[j]?=some y→vs[j]?=some v→RPV M y v):RPV M (.agg cs) (.agg vs.toArray)
def z5G (m:Option (Nat × Nat)) (e off:Nat) (a:Option Addr) (cap:Nat):Prop:=match m with
 | none=>cap=0
 | some (b,n)=>cap=0∨(a=some ⟨b,off*e,none⟩∧(off+cap)*e≤n)
def BufAt (M:Mem) (t:Nat) (m:Option (Nat × Nat)) (a:Option Addr) (cap:Nat):Prop:=match m with
 | none=>a=none∧cap=0
 | some (b,n)=>a=some ⟨b,0,none⟩∧(0<cap∧cap≤n)∧M.s b=some t
inductive RAV (M:Mem) (h:Heap) (μ:Mu):AV→Value→Prop
 | p (v:PV) (x:Value) (hv:RPV M v x):RAV M h μ (.p v) x
 | own (id g off len:Nat) (a:Option Addr) (cap:Nat) (sh:Sh) (xs:List PV) (fz:Nat) (m:Option (Nat × Nat)) (hl:len≤cap) (ho:h[id]?=some (.row sh xs fz)) (hm:μ[id]?=some m)
  (hg:g≤xs.length) (hgl:off+len≤g) (hv:g=xs.length→z5G m (z0a sh) off a cap):RAV M h μ (.own id g off len) (.slice a len cap)
 | sl0 (sh:Sh) (a:Option Addr):RAV M h μ (.sl0 sh) (.slice a 0 0)
 | ref (id off b n:Nat) (cs:List AV) (ho:h[id]?=some (.box cs)) (hm:μ[id]?=some (some (b,n))):RAV M h μ (.ref id off) (.pointer (some ⟨b,off,none⟩))
 | rref (id g i off:Nat) (a:Addr) (sh:Sh) (xs:List PV) (fz:Nat) (m:Option (Nat × Nat)) (ho:h[id]?=some (.row sh xs fz)) (hm:μ[id]?=some m)
  (hg:g≤xs.length) (hi:i<g) (hv:g=xs.length→∃ b n,m=some (b,n)∧a=⟨b,i*z0a sh+off,none⟩):RAV M h μ (.rref id g i off) (.pointer (some a))
 | vp (v:PV) (b o:Nat) (f:Nat→Value) (hm:∀ (j:Nat) (y:PV),v.cells[j]?=some y→M b (o+j)=some (f j)) (hr:∀ (j:Nat) (y:PV),v.cells[j]?=some y→RPV M y (f j)) :
  RAV M h μ (.vp v) (.pointer (some ⟨b,o,none⟩))
 | nilp:RAV M h μ .nilp (.pointer none)
 | nilm:RAV M h μ .nilm (.map none)
 | nilf:RAV M h μ .nilf .nilFunc
 | nili:RAV M h μ .nili .nilIface
 | ifc (t:TypeId) (v:Value):RAV M h μ .ifc (.iface t v)
 | mp (id b n:Nat) (es:List ME) (c:Nat) (ho:h[id]?=some (.amap es c)) (hm:μ[id]?=some (some (b,n))):RAV M h μ (.mp id) (.map (some b))
 | it (id b n:Nat) (m:Option Nat) (s:Nat) (seen:List Nat) (l:Nat) (ho:h[id]?=some (.iter m s seen l)) (hm:μ[id]?=some (some (b,n))):RAV M h μ (.it id) (.pointer (some ⟨b,0,none⟩))
 | fn (f:Nat) (cs:List AV) (vs:List Value) (hl:cs.length=vs.length) (hr:∀ (j:Nat) (y:AV) (v:Value),cs[j]?=some y→vs[j]?=some v→RAV M h μ y v) :
  RAV M h μ (.fn f cs) (.func (.func f) #[] vs.toArray)
 | agg (cs:List AV) (vs:List Value) (hl:cs.length=vs.length) (hr:∀ (j:Nat) (y:AV) (v:Value),cs[j]?=some y→vs[j]?=some v→RAV M h μ y v):RAV M h μ (.agg cs) (.agg vs.toArray)
 | tup (cs:List AV) (vs:List Value) (hl:cs.length=vs.length) (hr:∀ (j:Nat) (y:AV) (v:Value),cs[j]?=some y→vs[j]?=some v→RAV M h μ y v):RAV M h μ (.tup cs) (.tuple vs.toArray)
 | anyb (b:Bool):RAV M h μ .anyb (.bool b)
 | skp:RAV M h μ .skp undef
 | und (x:Value):RAV M h μ .und x
 | anyp (a:Option Addr):RAV M h μ .anyp (.pointer a)
 | bt0 (t id g b n:Nat) (cs:List AV) (ho:h[id]?=some (.box cs)) (hm:μ[id]?=some (some (b,n))) (hs:M.s b=some t):RAV M h μ (.bt 0 t id g) (.pointer none)
 | bt1 (t id g:Nat) (a:Option Addr) (cap:Nat) (xs:List PV) (fz:Nat) (m:Option (Nat × Nat)) (hl:g≤cap) (ho:h[id]?=some (.row none xs fz)) (hm:μ[id]?=some m)
  (hg:g≤xs.length) (hv:g=xs.length→BufAt M t m a cap):RAV M h μ (.bt 1 t id g) (.slice a g cap)
 | bt2 (t id g:Nat) (a:Addr) (xs:List PV) (fz:Nat) (m:Option (Nat × Nat)) (ho:h[id]?=some (.row none xs fz)) (hm:μ[id]?=some m)
  (hg:g≤xs.length) (hv:g=xs.length→∃ b n,m=some (b,n)∧a=⟨b,0,none⟩∧M.s b=some t):RAV M h μ (.bt 2 t id g) (.pointer (some a))
 | bt3 (t id g:Nat) (a:Option Addr) (cap:Nat) (o:Obj) (m:Option (Nat × Nat)) (hl:g≤cap) (ho:h[id]?=some o) (hm:μ[id]?=some m)
  (hv:∀ sh cs,o = .arow sh cs→g*z0a sh≤cs.length∧(g*z0a sh=cs.length→z5G m (z0a sh) 0 a cap)):RAV M h μ (.bt 3 t id g) (.slice a g cap)
 | bt4 (off id g:Nat) (a:Addr) (o:Obj) (m:Option (Nat × Nat)) (ho:h[id]?=some o) (hm:μ[id]?=some m)
  (hv:∀ sh cs,o = .arow sh cs→g*z0a sh≤cs.length∧(g*z0a sh=cs.length→∃ b n,m=some (b,n)∧a=⟨b,off,none⟩)):RAV M h μ (.bt 4 off id g) (.pointer (some a))
structure Mem.le (M M':Mem):Prop where
 c:∀ b o v,M.c b o=some v→M'.c b o=some v
 b:∀ b o,M.b b=some o→M'.b b=some o
 z:M'.z=M.z
 s:∀ b t,M.s b=some t→M'.s b=some t
theorem RPV.mono {M M':Mem} (hM:M.le M') {v:PV} {x:Value} (H:RPV M v x):RPV M' v x:=by
 induction H with
 | int k n=>exact .int k n
 | bool b=>exact .bool b
 | str s=>exact .str s
 | nilp=>exact .nilp
 | unk k n=>exact .unk k n
 | nils sh a cap=>exact .nils sh a cap
 | sl sh xs b o cap f hne hc he hm hr ih=>exact .sl sh xs b o cap f hne hc he (fun j y hy=>hM.c _ _ _ (hm j y hy)) ih
 | agg cs vs hl hr ih=>exact .agg cs vs hl ih
def OEvo (o:Obj) (m:Option (Nat × Nat)) (o':Obj) (m':Option (Nat × Nat)):Prop:=match o with
 | .box _=>(∃ cs',o' = .box cs')∧m'=m
 | .row sh xs _=>∃ xs' fz',o' = .row sh xs' fz'∧xs.length≤xs'.length∧(xs'.length=xs.length→m'=m)
 | .amap _ _=>(∃ es c,o' = .amap es c)∧m'=m
 | .iter _ _ _ _=>(∃ a b c d,o' = .iter a b c d)∧m'=m
 | .arow sh cs=>(∃ cs',o' = .arow sh cs'∧cs.length≤cs'.length∧(cs'.length=cs.length→m'=m))∨∃ sh' xs fz,o' = .row sh' xs fz
theorem OEvo.refl (o:Obj) (m:Option (Nat × Nat)):OEvo o m o m:=by
 cases o <;> simp [OEvo]
theorem OEvo.trans {o o' o'':Obj} {m m' m'':Option (Nat × Nat)} (h:OEvo o m o' m') (h':OEvo o' m' o'' m''):OEvo o m o'' m'':=by
 cases o with
 | box cs=>obtain⟨⟨cs',rfl⟩,rfl⟩:=h;exact h'
 | row sh xs fz=>
  obtain⟨xs',fz',rfl,h1,h2⟩:=h
  obtain⟨xs'',fz'',rfl,h3,h4⟩:=h'
  exact⟨xs'',fz'',rfl,by omega,fun he=>(h4 (by omega)).trans (h2 (by omega))⟩
 | amap es c=>obtain⟨⟨es',c',rfl⟩,rfl⟩:=h;exact h'
 | iter a b c d=>obtain⟨⟨a',b',c',d',rfl⟩,rfl⟩:=h;exact h'
 | arow sh cs=>
  rcases h with ⟨cs',rfl,h1,h2⟩ | ⟨sh',xs,fz,rfl⟩
  ·rcases h' with ⟨cs'',rfl,h3,h4⟩ | h'
   ·exact .inl ⟨cs'',rfl,by omega,fun he=>(h4 (by omega)).trans (h2 (by omega))⟩
   ·exact .inr h'
  ·obtain⟨xs'',fz'',rfl,_⟩:=h'
   exact .inr ⟨sh',xs'',fz'',rfl⟩
theorem OEvo.to_arow {o:Obj} {m m':Option (Nat × Nat)} {sh:Sh} {cs':List AV} (h:OEvo o m (.arow sh cs') m'):∃ cs,o = .arow sh cs∧cs.length≤cs'.length∧(cs'.length=cs.length→m'=m):=by
 cases o with
 | box cs=>obtain⟨⟨_,h⟩,_⟩:=h;cases h
 | row sh xs fz=>obtain⟨_,_,h,_⟩:=h;cases h
 | amap es c=>obtain⟨⟨_,_,h⟩,_⟩:=h;cases h
 | iter a b c d=>obtain⟨⟨_,_,_,_,h⟩,_⟩:=h;cases h
 | arow sh' cs=>
  rcases h with ⟨cs2,h1,h2,h3⟩ | ⟨_,_,_,h⟩
  ·injection h1 with h1 h4;subst h1;subst h4;exact⟨cs,rfl,h2,h3⟩
  ·cases h
structure Evo (M:Mem) (h:Heap) (μ:Mu) (M':Mem) (h':Heap) (μ':Mu):Prop where
 le:M.le M'
 len:h.length≤h'.length
 obj:∀ (id:Nat) (o:Obj) (m:Option (Nat × Nat)),h[id]?=some o→μ[id]?=some m→∃ o' m',h'[id]?=some o'∧μ'[id]?=some m'∧OEvo o m o' m'
theorem Evo.refl (M:Mem) (h:Heap) (μ:Mu):Evo M h μ M h μ:=⟨⟨fun _ _ _ h=>h,fun _ _ h=>h,rfl,fun _ _ h=>h⟩,Nat.le_refl _,fun _ o m h1 h2=>⟨o,m,h1,h2,OEvo.refl o m⟩⟩
theorem Evo.trans {M M' M'':Mem} {h h' h'':Heap} {μ μ' μ'':Mu} (a:Evo M h μ M' h' μ') (b:Evo M' h' μ' M'' h'' μ''):Evo M h μ M'' h'' μ'':=
 ⟨⟨fun x y v h=>b.le.c x y v (a.le.c x y v h),fun x y h=>b.le.b x y (a.le.b x y h),b.le.z.trans a.le.z,fun x t h=>b.le.s x t (a.le.s x t h)⟩,Nat.le_trans a.len b.len,fun id o m h1 h2=>by
  obtain⟨o',m',h3,h4,h5⟩:=a.obj id o m h1 h2
  obtain⟨o'',m'',h6,h7,h8⟩:=b.obj id o' m' h3 h4
  exact⟨o'',m'',h6,h7,h5.trans h8⟩⟩
theorem RAV.evo {M M':Mem} {h h':Heap} {μ μ':Mu} (E:Evo M h μ M' h' μ') {v:AV} {x:Value} (H:RAV M h μ v x):RAV M' h' μ' v x:=by
 induction H with
 | p v x hv=>exact .p v x (hv.mono E.le)
 | own id g off len a cap sh xs fz m hl ho hm hg hgl hv=>
  obtain⟨o',m',h1,h2,xs',fz',rfl,h4,h5⟩:=E.obj id _ m ho hm
  refine .own id g off len a cap sh xs' fz' m' hl h1 h2 (by omega) hgl (fun he=>?_)
  rw[h5 (by omega)]
  exact hv (by omega)
 | sl0 sh a=>exact .sl0 sh a
 | ref id off b n cs ho hm=>
  obtain⟨o',m',h1,h2,⟨cs',rfl⟩,rfl⟩:=E.obj id _ _ ho hm
  exact .ref id off b n cs' h1 h2
 | rref id g i off a sh xs fz m ho hm hg hi hv=>
  obtain⟨o',m',h1,h2,xs',fz',rfl,h4,h5⟩:=E.obj id _ m ho hm
  refine .rref id g i off a sh xs' fz' m' h1 h2 (by omega) hi (fun he=>?_)
  rw[h5 (by omega)]
  exact hv (by omega)
 | vp v b o f hm hr=>exact .vp v b o f (fun j y hy=>E.le.c _ _ _ (hm j y hy)) (fun j y hy=>(hr j y hy).mono E.le)
 | nilp=>exact .nilp
 | nilm=>exact .nilm
 | nilf=>exact .nilf
 | nili=>exact .nili
 | ifc t v=>exact .ifc t v
 | mp id b n es c ho hm=>
  obtain⟨o',m',h1,h2,⟨es',c',rfl⟩,rfl⟩:=E.obj id _ _ ho hm
  exact .mp id b n es' c' h1 h2
 | it id b n m s seen l ho hm=>
  obtain⟨o',m',h1,h2,⟨a',b',c',d',rfl⟩,rfl⟩:=E.obj id _ _ ho hm
  exact .it id b n a' b' c' d' h1 h2
 | fn f cs vs hl hr ih=>exact .fn f cs vs hl ih
 | agg cs vs hl hr ih=>exact .agg cs vs hl ih
 | tup cs vs hl hr ih=>exact .tup cs vs hl ih
 | anyb b=>exact .anyb b
 | skp=>exact .skp
 | und x=>exact .und x
 | anyp a=>exact .anyp a
 | bt0 t id g b n cs ho hm hs=>
  obtain⟨o',m',h1,h2,⟨cs',rfl⟩,rfl⟩:=E.obj id _ _ ho hm
  exact .bt0 t id g b n cs' h1 h2 (E.le.s _ _ hs)
 | bt1 t id g a cap xs fz m hl ho hm hg hv=>
  obtain⟨o',m',h1,h2,xs',fz',rfl,h4,h5⟩:=E.obj id _ m ho hm
  refine .bt1 t id g a cap xs' fz' m' hl h1 h2 (by omega) (fun he=>?_)
  rw[h5 (by omega)]
  have q:=hv (by omega)
  cases m with
  | none=>exact q
  | some m=>exact⟨q.1,q.2.1,E.le.s _ _ q.2.2⟩
 | bt2 t id g a xs fz m ho hm hg hv=>
  obtain⟨o',m',h1,h2,xs',fz',rfl,h4,h5⟩:=E.obj id _ m ho hm
  refine .bt2 t id g a xs' fz' m' h1 h2 (by omega) (fun he=>?_)
  rw[h5 (by omega)]
  obtain⟨b,n,q1,q2,q3⟩:=hv (by omega)
  exact⟨b,n,q1,q2,E.le.s _ _ q3⟩
 | bt3 t id g a cap o m hl ho hm hv=>
  obtain⟨o',m',h1,h2,h3⟩:=E.obj id _ m ho hm
  refine .bt3 t id g a cap o' m' hl h1 h2 (fun sh cs' e=>?_)
  subst e
  obtain⟨cs,rfl,h4,h5⟩:=OEvo.to_arow h3
  obtain⟨q1,q2⟩:=hv sh cs rfl
  exact⟨by omega,fun he=>by rw[h5 (by omega)];exact q2 (by omega)⟩
 | bt4 off id g a o m ho hm hv=>
  obtain⟨o',m',h1,h2,h3⟩:=E.obj id _ m ho hm
  refine .bt4 off id g a o' m' h1 h2 (fun sh cs' e=>?_)
  subst e
  obtain⟨cs,rfl,h4,h5⟩:=OEvo.to_arow h3
  obtain⟨q1,q2⟩:=hv sh cs rfl
  exact⟨by omega,fun he=>by rw[h5 (by omega)];exact q2 (by omega)⟩
theorem z4O {cs:List AV} {n:Nat} (H:∀ (j:Nat) (y:AV),cs[j]?=some y→y.top≤n):AV.tops cs≤n:=by
 induction cs with
 | nil=>simp [AV.tops]
 | cons v r ih=>
  simp only[AV.tops]
  have h0:=H 0 v rfl
  have h1:=ih (fun j y hy=>H (j+1) y (by simpa using hy))
  omega
theorem z4x {cs:List AV} {j:Nat} {y:AV} (H:cs[j]?=some y):y.top≤AV.tops cs:=by
 induction cs generalizing j with
 | nil=>simp at H
 | cons v r ih=>
  simp only[AV.tops]
  cases j with
  | zero=>simp at H;subst H;omega
  | succ j=>have:=ih (by simpa using H);omega
theorem z0g {α:Type} {l:List α} {i:Nat} {x:α} (h:l[i]?=some x):i<l.length:=by
 rcases Nat.lt_or_ge i l.length with h' | h'
 ·exact h'
 ·rw[List.getElem?_eq_none h'] at h;cases h
theorem RAV.top_le {M:Mem} {h:Heap} {μ:Mu} {v:AV} {x:Value} (H:RAV M h μ v x):v.top≤h.length:=by
 induction H with
 | own id g off len a cap sh xs fz m hl ho hm hg hgl hv=>exact z0g ho
 | ref id off b n cs ho hm=>exact z0g ho
 | rref id g i off a sh xs fz m ho hm hg hi hv=>exact z0g ho
 | mp id b n es c ho hm=>exact z0g ho
 | it id b n m s seen l ho hm=>exact z0g ho
 | bt0 t id g b n cs ho hm hs=>exact z0g ho
 | bt1 t id g a cap xs fz m hl ho hm hg hv=>exact z0g ho
 | bt2 t id g a xs fz m ho hm hg hv=>exact z0g ho
 | bt3 t id g a cap o m hl ho hm hv=>exact z0g ho
 | bt4 off id g a o m ho hm hv=>exact z0g ho
 | fn f cs vs hl hr ih=>
  simp only[AV.top]
  refine z4O (fun j y hy=>?_)
  have hj:j<vs.length:=by rw[← hl];exact z0g hy
  exact ih j y vs[j] hy (List.getElem?_eq_getElem hj)
 | agg cs vs hl hr ih=>
  simp only[AV.top]
  refine z4O (fun j y hy=>?_)
  have hj:j<vs.length:=by rw[← hl];exact z0g hy
  exact ih j y vs[j] hy (List.getElem?_eq_getElem hj)
 | tup cs vs hl hr ih=>
  simp only[AV.top]
  refine z4O (fun j y hy=>?_)
  have hj:j<vs.length:=by rw[← hl];exact z0g hy
  exact ih j y vs[j] hy (List.getElem?_eq_getElem hj)
 | _=>simp [AV.top]
theorem RAV.take {M M':Mem} (hM:M.le M') {h:Heap} {μ:Mu} {n:Nat} {v:AV} {x:Value} (H:RAV M h μ v x):v.top≤n→RAV M' (h.take n) (μ.take n) v x:=by
 have get:∀ {α:Type} {l:List α} {i:Nat} {y:α},l[i]?=some y→i<n→(l.take n)[i]?=some y:=by
  intro α l i y h hi
  rw[List.getElem?_take,if_pos hi,h]
 induction H with
 | p v x hv=>exact fun _=>.p v x (hv.mono hM)
 | own id g off len a cap sh xs fz m hl ho hm hg hgl hv=>exact fun ht=>.own id g off len a cap sh xs fz m hl (get ho ht) (get hm ht) hg hgl hv
 | sl0 sh a=>exact fun _=>.sl0 sh a
 | ref id off b n cs ho hm=>exact fun ht=>.ref id off b n cs (get ho ht) (get hm ht)
 | rref id g i off a sh xs fz m ho hm hg hi hv=>exact fun ht=>.rref id g i off a sh xs fz m (get ho ht) (get hm ht) hg hi hv
 | vp v b o f hm hr=>exact fun _=>.vp v b o f (fun j y hy=>hM.c _ _ _ (hm j y hy)) (fun j y hy=>(hr j y hy).mono hM)
 | nilp=>exact fun _=>.nilp
 | nilm=>exact fun _=>.nilm
 | nilf=>exact fun _=>.nilf
 | nili=>exact fun _=>.nili
 | ifc t v=>exact fun _=>.ifc t v
 | mp id b n es c ho hm=>exact fun ht=>.mp id b n es c (get ho ht) (get hm ht)
 | it id b n m s seen l ho hm=>exact fun ht=>.it id b n m s seen l (get ho ht) (get hm ht)
 | fn f cs vs hl hr ih=>exact fun ht=>.fn f cs vs hl (fun j y v h1 h2=>ih j y v h1 h2 (by have:=z4x h1;simp only[AV.top] at ht;omega))
 | agg cs vs hl hr ih=>exact fun ht=>.agg cs vs hl (fun j y v h1 h2=>ih j y v h1 h2 (by have:=z4x h1;simp only[AV.top] at ht;omega))
 | tup cs vs hl hr ih=>exact fun ht=>.tup cs vs hl (fun j y v h1 h2=>ih j y v h1 h2 (by have:=z4x h1;simp only[AV.top] at ht;omega))
 | anyb b=>exact fun _=>.anyb b
 | skp=>exact fun _=>.skp
 | und x=>exact fun _=>.und x
 | anyp a=>exact fun _=>.anyp a
 | bt0 t id g b n cs ho hm hs=>exact fun ht=>.bt0 t id g b n cs (get ho ht) (get hm ht) (hM.s _ _ hs)
 | bt1 t id g a cap xs fz m hl ho hm hg hv=>exact fun ht=>.bt1 t id g a cap xs fz m hl (get ho ht) (get hm ht) hg (fun e=>by
  have q:=hv e
  cases m with
  | none=>exact q
  | some m=>exact⟨q.1,q.2.1,hM.s _ _ q.2.2⟩)
 | bt2 t id g a xs fz m ho hm hg hv=>exact fun ht=>.bt2 t id g a xs fz m (get ho ht) (get hm ht) hg (fun e=>by obtain⟨b,n,q1,q2,q3⟩:=hv e;exact⟨b,n,q1,q2,hM.s _ _ q3⟩)
 | bt3 t id g a cap o m hl ho hm hv=>exact fun ht=>.bt3 t id g a cap o m hl (get ho ht) (get hm ht) hv
 | bt4 off id g a o m ho hm hv=>exact fun ht=>.bt4 off id g a o m (get ho ht) (get hm ht) hv
def zb6 (h:Heap) (μ:Mu) (b o:Nat):Prop:=∃ (id n:Nat),μ[id]?=some (some (b,n))∧∀ (sh:Sh) (xs:List PV) (fz:Nat),h[id]?=some (.row sh xs fz)→fz*z0a sh≤o
def zjj (μ:Mu) (b:Nat):Prop:=∃ (id n:Nat),μ[id]?=some (some (b,n))
def ety (w:World) (b:Nat):Option TypeId:=match w.heap[b]? with
 | some (.cells _ e _)=>some e
 | _=>none
open Classical in
noncomputable def imm (h:Heap) (μ:Mu) (w:World):Mem:=⟨fun b o=>if zb6 h μ b o then none else w.cell? ⟨b,o,none⟩,fun b=>if zjj μ b then none else w.heap[b]?,some (zed w),ety w⟩
theorem z1m {h:Heap} {μ:Mu} {w:World} {b o:Nat} {v:Value}:(imm h μ w).c b o=some v↔¬ zb6 h μ b o∧w.cell? ⟨b,o,none⟩=some v:=by
 unfold imm
 by_cases hO:zb6 h μ b o <;> simp [hO]
theorem z4w {h:Heap} {μ:Mu} {w:World} {b:Nat} {o:Go.Obj}:(imm h μ w).b b=some o↔¬ zjj μ b∧w.heap[b]?=some o:=by
 unfold imm
 by_cases hO:zjj μ b <;> simp [hO]
def z0V (w:World) (b n:Nat) (c:Array Value) (sealed:Prop:=False):Prop:=c.size=n∧∃ E lo hi,w.heap[b]?=some (.cells c E (lo,hi))∧(¬ sealed→lo<hi→n≤lo)
theorem z0V.unsl {w:World} {b n:Nat} {c:Array Value} {s:Prop} (h:z0V w b n c s) (hs:¬ s):z0V w b n c:=by
 obtain⟨h1,E,lo,hi,h2,h3⟩:=h
 exact⟨h1,E,lo,hi,h2,fun _=>h3 hs⟩
theorem z0V.imp {w:World} {b n:Nat} {c:Array Value} {s s':Prop} (i:s→s') (h:z0V w b n c s):z0V w b n c s':=by
 obtain⟨h1,E,lo,hi,h2,h3⟩:=h
 exact⟨h1,E,lo,hi,h2,fun q=>h3 (fun p=>q (i p))⟩
theorem z0V.sealed {w:World} {b n:Nat} {c:Array Value} (s:Prop) (h:z0V w b n c):z0V w b n c s:=by
 obtain⟨h1,E,lo,hi,h2,h3⟩:=h
 exact⟨h1,E,lo,hi,h2,fun _=>h3 (fun h=>h)⟩
def z7V (M:Mem) (h:Heap) (μ:Mu) (w:World) (o:Obj) (m:Option (Nat × Nat)):Prop:=match o with
 | .box cs=>∃ b c,m=some (b,cs.length)∧z0V w b cs.length c∧∀ (j:Nat) (x:AV),cs[j]?=some x→x.sc=true∧∃ v,c[j]?=some v∧RAV M h μ x v
 | .row sh xs fz=>fz≤xs.length+1∧(∀ x∈xs,x.shp sh=true)∧match m with
  | none=>xs=[]
  | some (b,n)=>∃ c,z0V w b n c (xs.length<fz)∧xs.length*z0a sh≤n∧∀ (i j:Nat) (x y:PV),xs[i]?=some x→x.cells[j]?=some y→∃ v,c[i*z0a sh+j]?=some v∧RPV M y v
 | .amap es clk=>∃ b n ces,m=some (b,n)∧w.heap[b]?=some (.map ces clk)∧ces.size=es.length∧(∀ e∈es,e.born<clk) ∧
  ∀ (i:Nat) (e:ME) (ce:MapEntry),es[i]?=some e→ces[i]?=some ce→RPV M e.key ce.key∧e.key.key=true∧RAV M h μ e.val ce.val∧ce.born=e.born
 | .iter mm since seen last=>∃ b n,m=some (b,n)∧match mm with
  | none=>since=0→w.heap[b]?=some (.mapIter none 0 #[] 0)
  | some id=>∃ bm nm es c,μ[id]?=some (some (bm,nm))∧h[id]?=some (.amap es c)∧w.heap[b]?=some (.mapIter (some bm) since seen.toArray last)
 | .arow sh cs=>(∀ x∈cs,x.sc=true)∧match m with
  | none=>cs=[]
  | some (b,n)=>∃ c,z0V w b n c∧cs.length≤n∧∀ (j:Nat) (x:AV),cs[j]?=some x→∃ v,c[j]?=some v∧RAV M h μ x v
structure HeapRel (h:Heap) (μ:Mu) (w:World):Prop where
 len:μ.length=h.length
 obj:∀ (id:Nat) (o:Obj) (m:Option (Nat × Nat)),h[id]?=some o→μ[id]?=some m→z7V (imm h μ w) h μ w o m
 distinct:∀ (i j b n n':Nat),μ[i]?=some (some (b,n))→μ[j]?=some (some (b,n'))→i=j
 inside:∀ (i b n:Nat),μ[i]?=some (some (b,n))→b<w.heap.size
end Go.Am
end
section
/- The abstract machine,part 5: how the relation of the heaps outlasts what operations do tov the world. -/
namespace Go.Am
variable {h h':Heap} {μ μ':Mu} {w w':World}
theorem z2e {b o:Nat} (e:w'.heap[b]?=w.heap[b]?):w'.cell? ⟨b,o,none⟩=w.cell? ⟨b,o,none⟩:=by
 unfold World.cell?
 simp only[e]
theorem z0z {b n o:Nat} {c:Array Value} {s:Prop} (hb:z0V w b n c s):w.cell? ⟨b,o,none⟩=c[o]?:=by
 obtain⟨_,E,lo,hi,he,_⟩:=hb
 unfold World.cell?
 simp [he]
theorem zhR (H:∀ (b o:Nat) (v:Value),¬ zb6 h μ b o→w.cell? ⟨b,o,none⟩=some v→¬ zb6 h' μ' b o∧w'.cell? ⟨b,o,none⟩=some v)
 (HB:∀ (b:Nat) (o:Go.Obj),¬ zjj μ b→w.heap[b]?=some o→¬ zjj μ' b∧w'.heap[b]?=some o) (HZ:zed w'=zed w) (HS:∀ b t,ety w b=some t→ety w' b=some t):(imm h μ w).le (imm h' μ' w'):=by
 refine⟨fun b o v hv=>?_,fun b o hv=>?_,congrArg some HZ,HS⟩
 ·obtain⟨h1,h2⟩:=z1m.1 hv
  exact z1m.2 (H b o v h1 h2)
 ·obtain⟨h1,h2⟩:=z4w.1 hv
  exact z4w.2 (HB b o h1 h2)
theorem z8b {b:Nat} {o:Go.Obj} (hb:w.heap[b]?=some o):b<w.heap.size:=(Array.getElem?_eq_some_iff.1 hb).1
theorem z4Y {b:Nat} (e:w'.heap[b]?=w.heap[b]?):ety w' b=ety w b:=by
 unfold ety
 simp only[e]
theorem z4p {b:Nat} {c:Array Value} {E:TypeId} {f:Nat × Nat} (e:w.heap[b]?=some (.cells c E f)):ety w b=some E:=by
 unfold ety
 simp only[e]
theorem zh6 {b:Nat} {t:TypeId} (e:ety w b=some t):b<w.heap.size:=by
 unfold ety at e
 rcases Nat.lt_or_ge b w.heap.size with h | h
 ·exact h
 ·rw[Array.getElem?_eq_none h] at e
  cases e
theorem z0V.keep {b n:Nat} {c:Array Value} {s:Prop} (e:w'.heap[b]?=w.heap[b]?) (hb:z0V w b n c s):z0V w' b n c s:=by
 obtain⟨h1,E,lo,hi,he,h2⟩:=hb
 exact⟨h1,E,lo,hi,by rw[e];exact he,h2⟩
theorem z7V.keep {M M':Mem} {o:Obj} {m:Option (Nat × Nat)} (E:Evo M h μ M' h' μ') (hw:∀ b n,m=some (b,n)→w'.heap[b]?=w.heap[b]?)
 (H:z7V M h μ w o m):z7V M' h' μ' w' o m:=by
 cases o with
 | box cs=>
  obtain⟨b,c,rfl,hb,hc⟩:=H
  refine⟨b,c,rfl,hb.keep (hw _ _ rfl),fun j x hx=>?_⟩
  obtain⟨h1,v,h2,h3⟩:=hc j x hx
  exact⟨h1,v,h2,h3.evo E⟩
 | row sh xs fz=>
  obtain⟨h1,h2,h3⟩:=H
  refine⟨h1,h2,?_⟩
  cases m with
  | none=>exact h3
  | some m=>
   obtain⟨b,n⟩:=m
   obtain⟨c,h4,h5,h6⟩:=h3
   refine⟨c,h4.keep (hw _ _ rfl),h5,fun i j x y hx hy=>?_⟩
   obtain⟨v,h7,h8⟩:=h6 i j x y hx hy
   exact⟨v,h7,h8.mono E.le⟩
 | amap es clk=>
  obtain⟨b,n,ces,rfl,h1,h2,hb,h3⟩:=H
  refine⟨b,n,ces,rfl,by rw[hw _ _ rfl];exact h1,h2,hb,fun i e ce he hc=>?_⟩
  obtain⟨h4,h5,h6,h7⟩:=h3 i e ce he hc
  exact⟨h4.mono E.le,h5,h6.evo E,h7⟩
 | iter mm s seen l=>
  obtain⟨b,n,rfl,h1⟩:=H
  refine⟨b,n,rfl,?_⟩
  cases mm with
  | none=>exact fun e=>by rw[hw _ _ rfl];exact h1 e
  | some id=>
   obtain⟨bm,nm,es,c,h2,h3,h4⟩:=h1
   obtain⟨o',m',h5,h6,⟨es',c',rfl⟩,rfl⟩:=E.obj id _ _ h3 h2
   exact⟨bm,nm,es',c',h6,h5,by rw[hw _ _ rfl];exact h4⟩
 | arow sh cs=>
  obtain⟨h1,h2⟩:=H
  refine⟨h1,?_⟩
  cases m with
  | none=>exact h2
  | some m=>
   obtain⟨b,n⟩:=m
   obtain⟨c,h3,h4,h5⟩:=h2
   refine⟨c,h3.keep (hw _ _ rfl),h4,fun j x hx=>?_⟩
   obtain⟨v,h6,h7⟩:=h5 j x hx
   exact⟨v,h6,h7.evo E⟩
structure WExt (w w':World):Prop where
 left:w.heap.size≤w'.heap.size
 right:∀ b,b<w.heap.size→w'.heap[b]?=w.heap[b]?
 zz:zed w'=zed w
theorem WExt.refl (w:World):WExt w w:=⟨Nat.le_refl _,fun _ _=>rfl,rfl⟩
theorem WExt.trans {w w' w'':World} (a:WExt w w') (b:WExt w' w''):WExt w w'':=
 ⟨Nat.le_trans a.1 b.1,fun x hx=>(b.2 x (Nat.lt_of_lt_of_le hx a.1)).trans (a.2 x hx),b.zz.trans a.zz⟩
theorem WExt.push (w:World) (o:Go.Obj):WExt w { w with heap:=w.heap.push o }:=
 ⟨by simp,fun b hb=>by simp [Array.getElem?_push,Nat.ne_of_lt hb],rfl⟩
theorem WExt.drew (w:World) (n:Nat):WExt w { w with drawn:=n }:=⟨Nat.le_refl _,fun _ _=>rfl,rfl⟩
theorem z8d {b o:Nat} {v:Value} (hv:w.cell? ⟨b,o,none⟩=some v):b<w.heap.size:=by
 rcases Nat.lt_or_ge b w.heap.size with h | h
 ·exact h
 ·unfold World.cell? at hv
  simp [Array.getElem?_eq_none h] at hv
theorem HeapRel.ext (H:HeapRel h μ w) (hw:WExt w w'):HeapRel h μ w'∧Evo (imm h μ w) h μ (imm h μ w') h μ:=by
 have E:Evo (imm h μ w) h μ (imm h μ w') h μ:=
  ⟨zhR (fun b o v h1 h2=>⟨h1,by rw[z2e (hw.2 b (z8d h2))];exact h2⟩) (fun b o h1 h2=>⟨h1,by rw[hw.2 b (z8b h2)];exact h2⟩) hw.zz (fun b t h=>by rw[z4Y (hw.2 b (zh6 h))];exact h),Nat.le_refl _,fun _ o m h1 h2=>⟨o,m,h1,h2,OEvo.refl o m⟩⟩
 exact⟨⟨H.len,fun id o m h1 h2=>(H.obj id o m h1 h2).keep E fun b n e=>hw.2 b (H.inside id b n (e ▸ h2)),H.distinct,fun i b n hb=>Nat.lt_of_lt_of_le (H.inside i b n hb) hw.1⟩,E⟩
theorem z2b {α:Type} {l:List α} {x y:α} {i:Nat} (hy:(l++[x])[i]?=some y):l[i]?=some y∨(i=l.length∧y=x):=by
 rcases Nat.lt_trichotomy i l.length with h | h | h
 ·left;rw[List.getElem?_append_left h] at hy;exact hy
 ·right;subst h;simp at hy;exact⟨rfl,hy.symm⟩
 ·rw[List.getElem?_append_right (by omega)] at hy
  have:1≤i-l.length:=by omega
  rw[List.getElem?_eq_none (by simpa using this)] at hy;cases hy
theorem z2u {α:Type} {l r:List α} {y:α} {i:Nat} (hy:l[i]?=some y):(l++r)[i]?=some y:=by
 rw[List.getElem?_append_left (z0g hy)];exact hy
theorem HeapRel.push (H:HeapRel h μ w) (hw:WExt w w') (o:Obj) (m:Option (Nat × Nat)) (hm:∀ b n,m=some (b,n)→w.heap.size≤b∧b<w'.heap.size)
 (ho:∀ M',Evo (imm h μ w) h μ M' (h++[o]) (μ++[m])→z7V M' (h++[o]) (μ++[m]) w' o m) :
 HeapRel (h++[o]) (μ++[m]) w'∧Evo (imm h μ w) h μ (imm (h++[o]) (μ++[m]) w') (h++[o]) (μ++[m]):=by
 have hO:∀ b x,b<w.heap.size→zb6 (h++[o]) (μ++[m]) b x→zb6 h μ b x:=by
  rintro b x hb ⟨id,n,h1,h2⟩
  rcases z2b h1 with h1 | ⟨_,h1⟩
  ·refine⟨id,n,h1,fun sh xs fz h3=>h2 sh xs fz (z2u h3)⟩
  ·have:=(hm b n h1.symm).1;omega
 have E:Evo (imm h μ w) h μ (imm (h++[o]) (μ++[m]) w') (h++[o]) (μ++[m]):=
  ⟨zhR (fun b x v h1 h2=>⟨fun h3=>h1 (hO b x (z8d h2) h3),by rw[z2e (hw.2 b (z8d h2))];exact h2⟩) (fun b o h1 h2=>⟨(by
   rintro⟨i,n,h3⟩
   rcases z2b h3 with h3 | ⟨_,h3⟩
   ·exact h1 ⟨i,n,h3⟩
   ·have:=(hm b n h3.symm).1;have:=z8b h2;omega),by rw[hw.2 b (z8b h2)];exact h2⟩) hw.zz (fun b t h=>by rw[z4Y (hw.2 b (zh6 h))];exact h),by simp,
   fun _ o m h1 h2=>⟨o,m,z2u h1,z2u h2,OEvo.refl o m⟩⟩
 refine⟨⟨by simp [H.len],fun id o' m' h1 h2=>?_,fun i j b n n' h1 h2=>?_,fun i b n h1=>?_⟩,E⟩
 ·rcases z2b h1 with h1 | ⟨e,e'⟩
  ·rw[List.getElem?_append_left (by rw[H.len];exact z0g h1)] at h2
   exact (H.obj id o' m' h1 h2).keep E fun b n e=>hw.2 b (H.inside id b n (e ▸ h2))
  ·subst e'
   rw[e,← H.len] at h2
   simp at h2
   subst h2
   exact ho _ E
 ·rcases z2b h1 with h1 | ⟨e1,e1'⟩
  ·rcases z2b h2 with h2 | ⟨e2,e2'⟩
   ·exact H.distinct i j b n n' h1 h2
   ·have h3:=H.inside i b n h1;have:=(hm b n' e2'.symm).1;omega
  ·rcases z2b h2 with h2 | ⟨e2,e2'⟩
   ·have h3:=H.inside j b n' h2;have:=(hm b n e1'.symm).1;omega
   ·rw[e1,e2]
 ·rcases z2b h1 with h1 | ⟨_,h1⟩
  ·exact Nat.lt_of_lt_of_le (H.inside i b n h1) hw.1
  ·exact (hm b n h1.symm).2
theorem z2A {α:Type} {l:List α} {x y:α} {i j:Nat} (hy:(l.set i x)[j]?=some y):(i≠j∧l[j]?=some y)∨(i=j∧y=x∧j<l.length):=by
 by_cases e:i=j
 ·subst e
  right
  have hl:i<l.length:=by simpa using z0g hy
  rw[List.getElem?_set_self hl] at hy
  exact⟨rfl,by simpa using hy.symm,hl⟩
 ·left;rw[List.getElem?_set_ne e] at hy;exact⟨e,hy⟩
theorem z06 {α:Type} {l:List α} {x y:α} {i:Nat} (hy:l[i]?=some y):(l.set i x)[i]?=some x:=List.getElem?_set_self (z0g hy)
theorem HeapRel.set (H:HeapRel h μ w) {id:Nat} {o o':Obj} {m m':Option (Nat × Nat)} (ho:h[id]?=some o) (hm:μ[id]?=some m) (hev:OEvo o m o' m')
 (hz:zed w'=zed w) (hsz:w.heap.size≤w'.heap.size) (hw:∀ b,b<w.heap.size→(∀ n,m≠some (b,n))→w'.heap[b]?=w.heap[b]?)
 (hm':∀ b n,m'=some (b,n)→(∃ n0,m=some (b,n0))∨(w.heap.size≤b∧b<w'.heap.size))
 (hfz:∀ b n sh xs fz,m=some (b,n)→o = .row sh xs fz→∃ xs' fz',o' = .row sh xs' fz'∧∀ j,j<fz*z0a sh→w'.cell? ⟨b,j,none⟩=w.cell? ⟨b,j,none⟩∧(∀ n',m'=some (b,n')→j<fz'*z0a sh))
 (hob:∀ M',Evo (imm h μ w) h μ M' (h.set id o') (μ.set id m')→z7V M' (h.set id o') (μ.set id m') w' o' m')
 (hety:∀ b n t,m=some (b,n)→ety w b=some t→ety w' b=some t) :
 HeapRel (h.set id o') (μ.set id m') w'∧Evo (imm h μ w) h μ (imm (h.set id o') (μ.set id m') w') (h.set id o') (μ.set id m'):=by
 have E:Evo (imm h μ w) h μ (imm (h.set id o') (μ.set id m') w') (h.set id o') (μ.set id m'):=by
  refine⟨zhR (fun b x v h1 h2=>?_) (fun b o1 h1 h2=>⟨(by
   rintro⟨i,n,h3⟩
   rcases z2A h3 with ⟨_,h3⟩ | ⟨_,h3,_⟩
   ·exact h1 ⟨i,n,h3⟩
   ·rcases hm' b n h3.symm with ⟨n0,e⟩ | ⟨e,_⟩
    ·exact h1 ⟨id,n0,by rw[hm,e]⟩
    ·have:=z8b h2;omega),by rw[hw b (z8b h2) (fun n e=>h1 ⟨id,n,by rw[hm,e]⟩)];exact h2⟩) hz (fun b t h=>by
   by_cases hmb:∃ n,m=some (b,n)
   ·obtain⟨n,hn⟩:=hmb
    exact hety b n t hn h
   ·rw[z4Y (hw b (zh6 h) (fun n e=>hmb ⟨n,e⟩))];exact h),by simp,fun i o1 m1 h1 h2=>?_⟩
  ·have hb:=z8d h2
   by_cases hmb:∃ n,m=some (b,n)
   ·obtain⟨n,rfl⟩:=hmb
    have hnot:∃ sh xs fz,h[id]?=some (.row sh xs fz)∧x<fz*z0a sh:=by
     apply Classical.byContradiction
     intro hc
     exact h1 ⟨id,n,hm,fun sh xs fz h3=>by
      rcases Nat.lt_or_ge x (fz*z0a sh) with h4 | h4
      ·exact absurd ⟨sh,xs,fz,h3,h4⟩ hc
      ·exact h4⟩
    obtain⟨sh,xs,fz,h3,h4⟩:=hnot
    rw[ho] at h3
    injection h3 with h3
    obtain⟨xs',fz',rfl,h5⟩:=hfz b n sh xs fz rfl h3
    obtain⟨h6,h7⟩:=h5 x h4
    refine⟨?_,by rw[h6];exact h2⟩
    rintro⟨i,n',h8,h9⟩
    rcases z2A h8 with ⟨hne,h8⟩ | ⟨rfl,h8,_⟩
    ·exact hne (H.distinct id i b n n' hm h8)
    ·have:=h9 sh xs' fz' (z06 ho)
     have:=h7 n' h8.symm
     omega
   ·refine⟨?_,by rw[z2e (hw b hb (fun n e=>hmb ⟨n,e⟩))];exact h2⟩
    rintro⟨i,n',h8,h9⟩
    rcases z2A h8 with ⟨hne,h8⟩ | ⟨rfl,h8,_⟩
    ·exact h1 ⟨i,n',h8,fun sh xs fz h10=>h9 sh xs fz (by rw[List.getElem?_set_ne hne];exact h10)⟩
    ·rcases hm' b n' h8.symm with ⟨n0,e⟩ | ⟨e,_⟩
     ·exact hmb ⟨n0,e⟩
     ·omega
  ·by_cases e:id=i
   ·subst e
    rw[ho] at h1;rw[hm] at h2
    injection h1 with h1;injection h2 with h2
    subst h1;subst h2
    exact⟨o',m',z06 ho,z06 hm,hev⟩
   ·exact⟨o1,m1,by rw[List.getElem?_set_ne e];exact h1,by rw[List.getElem?_set_ne e];exact h2,OEvo.refl _ _⟩
 refine⟨⟨by simp [H.len],fun i o1 m1 h1 h2=>?_,fun i j b n n' h1 h2=>?_,fun i b n h1=>?_⟩,E⟩
 ·rcases z2A h1 with ⟨hne,h1⟩ | ⟨rfl,rfl,_⟩
  ·rw[List.getElem?_set_ne hne] at h2
   refine (H.obj i o1 m1 h1 h2).keep E fun b n e=>hw b (H.inside i b n (e ▸ h2)) fun n' e'=>?_
   subst e;subst e'
   exact hne (H.distinct id i b n' n hm h2)
  ·rw[z06 hm] at h2
   injection h2 with h2
   subst h2
   exact hob _ E
 ·rcases z2A h1 with ⟨hne,h1⟩ | ⟨rfl,h1,_⟩
  ·rcases z2A h2 with ⟨hne',h2⟩ | ⟨rfl,h2,_⟩
   ·exact H.distinct i j b n n' h1 h2
   ·rcases hm' b n' h2.symm with ⟨n0,e⟩ | ⟨e,_⟩
    ·subst e;exact absurd (H.distinct id i b n0 n hm h1) hne
    ·have:=H.inside i b n h1;omega
  ·rcases z2A h2 with ⟨hne',h2⟩ | ⟨rfl,h2,_⟩
   ·rcases hm' b n h1.symm with ⟨n0,e⟩ | ⟨e,_⟩
    ·subst e;exact absurd (H.distinct id j b n0 n' hm h2) hne'
    ·have:=H.inside j b n' h2;omega
   ·rfl
 ·rcases z2A h1 with ⟨hne,h1⟩ | ⟨rfl,h1,_⟩
  ·exact Nat.lt_of_lt_of_le (H.inside i b n h1) hsz
  ·rcases hm' b n h1.symm with ⟨n0,e⟩ | ⟨_,e⟩
   ·subst e;exact Nat.lt_of_lt_of_le (H.inside id b n0 hm) hsz
   ·exact e
theorem HeapRel.take (H:HeapRel h μ w) (n:Nat) (ht:∀ id o,h[id]?=some o→id<n→o.top≤n) :
 HeapRel (h.take n) (μ.take n) w∧(imm h μ w).le (imm (h.take n) (μ.take n) w):=by
 have get:∀ {α:Type} {l:List α} {i:Nat} {y:α},(l.take n)[i]?=some y→i<n∧l[i]?=some y:=by
  intro α l i y hy
  rw[List.getElem?_take] at hy
  by_cases hi:i<n
  ·rw[if_pos hi] at hy;exact⟨hi,hy⟩
  ·rw[if_neg hi] at hy;cases hy
 have put:∀ {α:Type} {l:List α} {i:Nat} {y:α},l[i]?=some y→i<n→(l.take n)[i]?=some y:=by
  intro α l i y hy hi
  rw[List.getElem?_take,if_pos hi,hy]
 have L:(imm h μ w).le (imm (h.take n) (μ.take n) w):=zhR (fun b x v h1 h2=>⟨fun ⟨id,k,h3,h4⟩=>h1 ⟨id,k,(get h3).2,fun sh xs fz h5=>h4 sh xs fz (put h5 (get h3).1)⟩,h2⟩) (fun b o h1 h2=>⟨fun ⟨i,k,h3⟩=>h1 ⟨i,k,(get h3).2⟩,h2⟩) rfl (fun _ _ h=>h)
 refine⟨⟨by simp [H.len],fun id o m h1 h2=>?_,fun i j b k k' h1 h2=>H.distinct i j b k k' (get h1).2 (get h2).2,fun i b k h1=>H.inside i b k (get h1).2⟩,L⟩
 obtain⟨hi,h1⟩:=get h1
 obtain⟨_,h2⟩:=get h2
 have hR:=H.obj id o m h1 h2
 have htop:=ht id o h1 hi
 cases o with
 | box cs=>
  obtain⟨b,c,rfl,hb,hc⟩:=hR
  refine⟨b,c,rfl,hb,fun j x hx=>?_⟩
  obtain⟨h3,v,h4,h5⟩:=hc j x hx
  exact⟨h3,v,h4,h5.take L (by have:=z4x hx;simp only[Obj.top] at htop;omega)⟩
 | row sh xs fz=>
  obtain⟨h3,h4,h5⟩:=hR
  refine⟨h3,h4,?_⟩
  cases m with
  | none=>exact h5
  | some m=>
   obtain⟨b,k⟩:=m
   obtain⟨c,h6,h7,h8⟩:=h5
   refine⟨c,h6,h7,fun i j x y hx hy=>?_⟩
   obtain⟨v,h9,h10⟩:=h8 i j x y hx hy
   exact⟨v,h9,h10.mono L⟩
 | amap es clk=>
  obtain⟨b,k,ces,rfl,h3,h4,hb,h5⟩:=hR
  refine⟨b,k,ces,rfl,h3,h4,hb,fun i e ce he hc=>?_⟩
  obtain⟨h6,h7,h8,h9⟩:=h5 i e ce he hc
  refine⟨h6.mono L,h7,h8.take L ?_,h9⟩
  have:(es.map ME.val)[i]?=some e.val:=by simp [he]
  have:=z4x this
  simp only[Obj.top] at htop
  omega
 | iter mm s seen l=>
  obtain⟨b,k,rfl,h3⟩:=hR
  refine⟨b,k,rfl,?_⟩
  cases mm with
  | none=>exact h3
  | some i=>
   obtain⟨bm,nm,es,c,h4,h5,h6⟩:=h3
   simp only[Obj.top] at htop
   exact⟨bm,nm,es,c,put h4 (by omega),put h5 (by omega),h6⟩
 | arow sh cs=>
  obtain⟨h3,h4⟩:=hR
  refine⟨h3,?_⟩
  cases m with
  | none=>exact h4
  | some m=>
   obtain⟨b,k⟩:=m
   obtain⟨c,h6,h7,h8⟩:=h4
   refine⟨c,h6,h7,fun j x hx=>?_⟩
   obtain⟨v,h9,h10⟩:=h8 j x hx
   exact⟨v,h9,h10.take L (by have:=z4x hx;simp only[Obj.top] at htop;omega)⟩
end Go.Am
end
section
/- The abstract machine,part 6: what the model's small steps on memory do (runs),and the book of newer references. -/
set_option linter.unusedSimpArgs false
set_option linter.unusedVariables false
namespace Go.Am
variable {h h':Heap} {μ μ':Mu} {w w':World} {P:Program}
def z9M (h:Heap) (id:Nat):Nat:=match h[id]? with
 | some o=>o.top
 | none=>0
def z1q:Esc→Nat→Nat
 | [],_=>0
 | y::r,id=>max (if y.1=id then y.2 else 0) (z1q r id)
theorem zbM (x y:Esc) (id:Nat):z1q (x++y) id=max (z1q x id) (z1q y id):=by
 induction x with
 | nil=>simp [z1q]
 | cons a r ih=>simp only[List.cons_append,z1q,ih];omega
def z0k (h0 h:Heap) (x:Esc):Prop:=∀ (id:Nat) (o:Obj),h[id]?=some o→o.top≤max (max (z9M h0 id) id) (z1q x id)
theorem z0k.refl (h:Heap) (x:Esc):z0k h h x:=by
 intro id o ho
 simp only[z9M,ho]
 omega
theorem z0k.trans {h0 h1 h2:Heap} {x1 x2:Esc} (a:z0k h0 h1 x1) (b:z0k h1 h2 x2):z0k h0 h2 (x2++x1):=by
 intro id o ho
 have h1':=b id o ho
 rw[zbM]
 simp only[z9M] at h1' ⊢
 cases hh:h1[id]? with
 | none=>rw[hh] at h1';simp at h1';omega
 | some o1=>
  rw[hh] at h1'
  have h2':=a id o1 hh
  simp only[z9M] at h2'
  dsimp only at h1'
  omega
theorem z0k.push {h:Heap} {o:Obj} (ht:o.top≤h.length):z0k h (h++[o]) []:=by
 intro id o' ho
 rcases z2b ho with ho | ⟨e,e'⟩
 ·simp only[z9M,ho];omega
 ·subst e';omega
theorem z0k.set {h:Heap} {id:Nat} {o o':Obj} {x:Esc} (ho:h[id]?=some o) (ht:o'.top≤max (max o.top id) (z1q x id)):z0k h (h.set id o') x:=by
 intro i o1 h1
 rcases z2A h1 with ⟨_,h1⟩ | ⟨rfl,rfl,_⟩
 ·simp only[z9M,h1];omega
 ·simp only[z9M,ho];omega
theorem z2h (id:Nat) (v:AV):v.top≤max id (z1q (z3c id v) id):=by
 unfold z3c
 split
 ·simp [z1q];omega
 ·simp [z1q];omega
theorem zbO {x:Esc} {n id:Nat} (hi:id<n):z1q (x.filter fun y=>decide (y.1<n)) id=z1q x id:=by
 induction x with
 | nil=>rfl
 | cons a r ih=>
  by_cases ha:a.1<n
  ·simp [List.filter_cons,ha,z1q,ih]
  ·have:a.1≠id:=by omega
   simp [List.filter_cons,ha,z1q,ih,this]
theorem zbN {x:Esc} {n id:Nat} (hc:z1p x n=true) (hi:id<n):z1q x id≤n:=by
 induction x with
 | nil=>simp [z1q]
 | cons a r ih=>
  simp only[z1p,List.all_cons,Bool.and_eq_true,Bool.or_eq_true,decide_eq_true_eq] at hc
  have:=ih (by simpa [z1p] using hc.2)
  simp only[z1q]
  split
  ·have:=hc.1;omega
  ·omega
theorem z2M (a b:List AV):AV.tops (a++b)=max (AV.tops a) (AV.tops b):=by
 induction a with
 | nil=>simp [AV.tops]
 | cons v r ih=>simp only[List.cons_append,AV.tops,ih];omega
theorem ztG (a:List AV) (n:Nat):AV.tops (a.take n)≤AV.tops a:=by
 have:=z2M (a.take n) (a.drop n)
 rw[List.take_append_drop] at this
 omega
theorem ztF (a:List AV) (n:Nat):AV.tops (a.drop n)≤AV.tops a:=by
 have:=z2M (a.take n) (a.drop n)
 rw[List.take_append_drop] at this
 omega
theorem z9O (cs vs:List AV) (off:Nat):AV.tops (splice cs off vs)≤max (AV.tops cs) (AV.tops vs):=by
 unfold splice
 rw[z2M,z2M]
 have:=ztG cs off
 have:=ztF cs (off+vs.length)
 omega
theorem zby (vs:List PV):AV.tops (vs.map AV.p)=0:=by
 induction vs with
 | nil=>rfl
 | cons v r ih=>simp [AV.tops,AV.top,ih]
theorem z8e {v:AV} {cs:List AV} (hc:v.cells=some cs):AV.tops cs=v.top:=by
 cases v with
 | p x=>
  cases x with
  | agg l=>simp only[AV.cells] at hc;split at hc <;> simp at hc;subst hc;rw[zby];simp [AV.top]
  | _=>simp [AV.cells] at hc;subst hc;simp [AV.tops,AV.top]
 | agg l=>simp only[AV.cells] at hc;split at hc <;> simp at hc;subst hc;simp [AV.top]
 | tup l=>simp [AV.cells] at hc
 | anyb=>simp [AV.cells] at hc
 | skp=>simp [AV.cells] at hc
 | und=>simp [AV.cells] at hc
 | _=>simp [AV.cells] at hc;subst hc;simp [AV.tops]
def shOf (P:Program) (t:TypeId):Option Sh:=match P.underlying t,P.info? t with
 | some (.struct _),some i=>some (some i.size)
 | some (.array _ _),some i=>some (some i.size)
 | some _,some i=>if i.size=1 then some none else none
 | _,_=>none
theorem z0F {t:TypeId} {i:TypeInfo} (hi:P.info? t=some i):(typeInfo t).run P w = .ok i w:=by
 unfold typeInfo
 simp [hi]
theorem z0b {t:TypeId} {d:TypeDesc} (hd:P.underlying t=some d):(underlying t).run P w = .ok d w:=by
 unfold underlying
 simp [hd]
theorem z00 {t:TypeId} {sh:Sh} (hs:shOf P t=some sh):(sizeOf t).run P w = .ok (z0a sh) w:=by
 unfold sizeOf
 unfold shOf at hs
 cases hi:P.info? t with
 | none=>simp [hi] at hs
 | some i=>
  simp only[hi] at hs
  rw[Sem.run_bind,z0F hi]
  split at hs <;> simp_all [z0a]
  ·subst hs;rfl
  ·subst hs;rfl
  ·obtain⟨h1,h2⟩:=hs;subst h2;simp
theorem z7C {t:TypeId} {sh:Sh} (hs:shOf P t=some sh):(isAgg t).run P w = .ok sh.isSome w:=by
 unfold isAgg
 unfold shOf at hs
 cases hd:P.underlying t with
 | none=>simp [hd] at hs
 | some d=>
  rw[Sem.run_bind,z0b hd]
  cases hi:P.info? t with
  | none=>simp [hd,hi] at hs
  | some i=>cases d <;> simp_all <;> (first | (obtain⟨h1,h2⟩:=hs;subst h2;rfl) | (subst hs;rfl))
theorem z1w (b o k:Nat):(⟨b,o,none⟩:Addr).add k=⟨b,o+k,none⟩:=by
 unfold Addr.add
 split
 ·subst_vars;rfl
 ·rfl
theorem z9B {b o:Nat} {v:Value} (hv:w.cell? ⟨b,o,none⟩=some v):(load ⟨b,o,none⟩).run P w = .ok v w:=by
 rw[run_load];simp [hv]
theorem z3F {b o:Nat} {f:Nat→Value}:∀ (n i:Nat) (acc:Array Value),(∀ j,j<n→w.cell? ⟨b,o+(i+j),none⟩=some (f (i+j))) →
 (loadCellsFrom ⟨b,o,none⟩ i n acc).run P w = .ok (acc++((List.range' i n).map f).toArray) w
 | 0,i,acc,_=>by simp [loadCellsFrom]
 | n+1,i,acc,hf=>by
  unfold loadCellsFrom
  rw[Sem.run_bind,z1w,z9B (v:=f i) (by simpa using hf 0 (by omega))]
  simp only[Result.andThen_ok]
  rw[z3F n (i+1) _ (fun j hj=>by have:=hf (j+1) (by omega);rw[show i+1+j=i+(j+1) by omega];exact this)]
  congr 1
  simp [List.range'_succ]
theorem z3V {b o n:Nat} {f:Nat→Value} (hf:∀ j,j<n→w.cell? ⟨b,o+j,none⟩=some (f j)) :
 (loadCells ⟨b,o,none⟩ n).run P w = .ok ((List.range n).map f).toArray w:=by
 unfold loadCells
 rw[z3F n 0 _ (fun j hj=>by rw[Nat.zero_add];exact hf j hj)]
 simp [List.range_eq_range']
def z4J (sh:Sh) (f:Nat→Value):Value:=match sh with
 | none=>f 0
 | some n=>.agg ((List.range n).map f).toArray
theorem z9A {t:TypeId} {sh:Sh} (hs:shOf P t=some sh) {b o:Nat} {f:Nat→Value} (hf:∀ j,j<z0a sh→w.cell? ⟨b,o+j,none⟩=some (f j)) :
 (loadVar t ⟨b,o,none⟩).run P w = .ok (z4J sh f) w:=by
 unfold loadVar
 rw[Sem.run_bind,z7C hs]
 simp only[Result.andThen_ok]
 cases sh with
 | none=>
  simp only[Option.isSome,Bool.false_eq_true,if_false]
  exact z9B (hf 0 (by simp [z0a]))
 | some n=>
  simp only[Option.isSome,if_true]
  rw[Sem.run_bind,z00 hs]
  simp only[Result.andThen_ok,Sem.run_bind,z0a]
  rw[z3V (f:=f) (fun j hj=>hf j (by simpa [z0a] using hj))]
  rfl
def z0I (w:World) (b:Nat) (o:Go.Obj):World:={ w with heap:=w.heap.setIfInBounds b o }
theorem z1e {b:Nat} {o o':Go.Obj} (hb:w.heap[b]?=some o):(z0I w b o').heap[b]?=some o':=by
 have:b<w.heap.size:=by
  rcases Nat.lt_or_ge b w.heap.size with h | h
  ·exact h
  ·rw[Array.getElem?_eq_none h] at hb;cases hb
 simp [z0I,this]
theorem z2l {b b':Nat} {o':Go.Obj} (hb:b'≠b):(z0I w b o').heap[b']?=w.heap[b']?:=by
 simp [z0I,Array.getElem?_setIfInBounds,Ne.symm hb]
theorem z11 (b:Nat) (o':Go.Obj):(z0I w b o').heap.size=w.heap.size:=by simp [z0I]
theorem zcy (b:Nat) (x y:Go.Obj):z0I (z0I w b x) b y=z0I w b y:=by
 simp only[z0I]
 congr 1
 apply Array.ext'
 simp
theorem z5B {b:Nat} {o:Go.Obj} (hb:w.heap[b]?=some o):z0I w b o=w:=by
 have hlt:b<w.heap.size:=by
  rcases Nat.lt_or_ge b w.heap.size with h | h
  ·exact h
  ·rw[Array.getElem?_eq_none h] at hb;cases hb
 have:w.heap.setIfInBounds b o=w.heap:=by
  apply Array.ext_getElem?
  intro i
  by_cases hi:b=i
  ·subst hi;rw[hb,Array.getElem?_setIfInBounds_self_of_lt hlt]
  ·rw[Array.getElem?_setIfInBounds_ne hi]
 simp [z0I,this]
theorem zgt {b o:Nat} {v:Value} {c:Array Value} {E:TypeId} {fr:Nat × Nat} (hb:w.heap[b]?=some (.cells c E fr)) :
 w.setCell ⟨b,o,none⟩ v=z0I w b (.cells (c.setIfInBounds o v) E fr):=by
 have hlt:b<w.heap.size:=by
  rcases Nat.lt_or_ge b w.heap.size with h | h
  ·exact h
  ·rw[Array.getElem?_eq_none h] at hb;cases hb
 have hb':w.heap[b] = .cells c E fr:=by
  rw[Array.getElem?_eq_getElem hlt] at hb;injection hb
 simp only[World.setCell,z0I]
 congr 1
 apply Array.ext_getElem?
 intro i
 by_cases hi:b=i
 ·subst hi
  rw[Array.getElem?_setIfInBounds_self_of_lt hlt,Array.getElem?_modify]
  simp only[hlt,if_true,Option.map_some,Array.getElem?_eq_getElem,Option.some.injEq]
  rw[hb']
  simp
 ·rw[Array.getElem?_setIfInBounds_ne hi,Array.getElem?_modify]
  simp [hi]
theorem zjB {b o n:Nat} {c:Array Value} (hb:z0V w b n c) (ho:o<n):w.frozen? ⟨b,o,none⟩=false:=by
 obtain⟨_,E,lo,hi,he,hf⟩:=hb
 unfold World.frozen?
 simp only[he]
 simp
 intro h1
 rcases Nat.lt_or_ge lo hi with h2 | h2
 ·have:=hf (fun h=>h) h2;omega
 ·omega
theorem z7a {b n:Nat} {c c0:Array Value} {E:TypeId} {f f0:Nat × Nat} (g1:w.heap[b]?=some (.cells c0 E f0)) (b' n':Nat) (t:TypeId) (e:some (b,n)=some (b',n')) (ht:ety w b'=some t) :
 ety (z0I w b (.cells c E f)) b'=some t:=by
 injection e with e
 injection e with e1 e2
 subst e1
 rw[z4p g1] at ht
 rw[z4p (z1e g1)]
 exact ht
def z0L (c:Array Value) (o:Nat):List Value→Array Value
 | []=>c
 | v::r=>z0L (c.setIfInBounds o v) (o+1) r
theorem z0Z (c:Array Value) (o:Nat) (vs:List Value):(z0L c o vs).size=c.size:=by
 induction vs generalizing c o with
 | nil=>rfl
 | cons v r ih=>simp [z0L,ih]
theorem z16 (c:Array Value) (o:Nat) (vs:List Value) (j:Nat) (hl:o+vs.length≤c.size) :
 (z0L c o vs)[j]?=if o≤j∧j<o+vs.length then vs[j-o]? else c[j]?:=by
 induction vs generalizing c o with
 | nil=>simp [z0L];intro h1 h2;omega
 | cons v r ih=>
  simp only[z0L,List.length_cons] at hl ⊢
  rw[ih _ _ (by simp;omega)]
  by_cases h1:o+1≤j∧j<o+1+r.length
  ·rw[if_pos h1,if_pos (by omega)]
   rw[show j-o=(j-(o+1))+1 by omega]
   simp
  ·rw[if_neg h1]
   by_cases h2:o=j
   ·subst h2
    rw[if_pos (by omega),Array.getElem?_setIfInBounds_self_of_lt (by omega)]
    simp
   ·rw[if_neg (by omega)]
    simp [Array.getElem?_setIfInBounds,h2]
theorem z3d {b o n:Nat} (vs:List Value):∀ (w:World) (c:Array Value) (i:Nat),z0V w b n c→o+i+vs.length≤n→(∀ v∈vs,v.oneCell'=true) →
 ∃ E lo hi,w.heap[b]?=some (.cells c E (lo,hi))∧(storeCells ⟨b,o,none⟩ vs i).run P w = .ok () (z0I w b (.cells (z0L c (o+i) vs) E (lo,hi))):=by
 induction vs with
 | nil=>
  intro w c i hb hl hv
  obtain⟨h1,E,lo,hi,he,hf⟩:=hb
  refine⟨E,lo,hi,he,?_⟩
  simp only[storeCells,z0L,z5B he]
  rfl
 | cons v r ih=>
  intro w c i hb hl hv
  have hb0:=hb
  obtain⟨h1,E,lo,hi,he,hf⟩:=hb
  simp only[List.length_cons] at hl
  have hcell:∃ u,w.cell? ⟨b,o+i,none⟩=some u:=by
   rw[z0z hb0]
   exact⟨c[o+i]'(by omega),Array.getElem?_eq_getElem _⟩
  obtain⟨u,hu⟩:=hcell
  refine⟨E,lo,hi,he,?_⟩
  unfold storeCells
  rw[Sem.run_bind,z1w,run_store P w _ _ _ (hv v (by simp)),hu]
  simp only[zjB hb0 (show o+i<n by omega),Bool.false_eq_true,if_false,Result.andThen_ok]
  rw[zgt he]
  have hb1:z0V (z0I w b (.cells (c.setIfInBounds (o+i) v) E (lo,hi))) b n (c.setIfInBounds (o+i) v):=
   ⟨by simp [h1],E,lo,hi,z1e he,hf⟩
  obtain⟨E',lo',hi',he',hrun⟩:=ih _ _ (i+1) hb1 (by omega) (fun x hx=>hv x (by simp [hx]))
  rw[z1e he] at he'
  injection he' with he'
  injection he' with e1 e2 e3
  injection e3 with e3 e4
  subst e2;subst e3;subst e4
  rw[hrun,zcy]
  simp [z0L,Nat.add_assoc]
end Go.Am
end
section
/- The abstract machine,part 7: each operation does in the model what it does here (first lot: operations that leave the world alone). -/
set_option linter.unusedSimpArgs false
set_option linter.unusedVariables false
namespace Go.Am
variable {h h':Heap} {μ μ':Mu} {w w':World} {P:Program} {M:Mem}
def zbG:PV→Value→Bool
 | .int k n,.int k' n'=>k==k'&&n==n'
 | .bool b,.bool b'=>b==b'
 | .str s,.string s'=>s==s'.data.toList
 | .nilp,.pointer none=>true
 | .sl _ [],.slice _ 0 _=>true
 | _,_=>false
def z4W:List PV→List Value→Bool
 | [],[]=>true
 | a::r,b::s=>zbG a b&&z4W r s
 | _,_=>false
def z3b:AV→Value→Bool
 | .p (.agg cs),.agg vs=>z4W cs vs.toList
 | .p v,x=>zbG v x
 | .nilp,.pointer none=>true
 | .sl0 _,.slice _ 0 0=>true
 | .nilm,.map none=>true
 | .nilf,.nilFunc=>true
 | .nili,.nilIface=>true
 | _,_=>false
def z0w:Opd→Operand→Bool
 | .t n,.tmp m=>n==m
 | .c a,.const v=>z3b a v
 | .f i,.func j=>i==j
 | .g i,.global j=>i==j
 | _,_=>false
theorem z5M {v:PV} {x:Value} (hc:zbG v x=true):RPV M v x:=by
 unfold zbG at hc
 split at hc <;> simp at hc
 ·obtain⟨rfl,rfl⟩:=hc;exact .int _ _
 ·subst hc;exact .bool _
 ·subst hc;rename_i s';exact .str s'.data.toList
 ·exact .nilp
 ·exact .nils _ _ _
theorem z5p:∀ {cs:List PV} {vs:List Value},z4W cs vs=true→cs.length=vs.length∧∀ (j:Nat) (y:PV) (v:Value),cs[j]?=some y→vs[j]?=some v→RPV M y v
 | [],[],_=>⟨rfl,fun j y v h=>by simp at h⟩
 | [],_::_,h=>by simp [z4W] at h
 | _::_,[],h=>by simp [z4W] at h
 | a::r,b::s,h=>by
  simp only[z4W,Bool.and_eq_true] at h
  have hs:=z5p h.2
  refine⟨by simp [hs.1],fun j y v hy hv=>?_⟩
  cases j with
  | zero=>simp at hy hv;subst hy;subst hv;exact z5M h.1
  | succ j=>exact hs.2 j y v (by simpa using hy) (by simpa using hv)
theorem z1c {a:AV} {x:Value} (hc:z3b a x=true):RAV M h μ a x:=by
 unfold z3b at hc
 split at hc
 ·rename_i cs vs
  have hs:=z5p (M:=M) hc
  have:=RPV.agg (M:=M) cs vs.toList hs.1 hs.2
  exact .p _ _ (by simpa using this)
 ·exact .p _ _ (z5M hc)
 ·exact .nilp
 ·exact .sl0 _ _
 ·exact .nilm
 ·exact .nilf
 ·exact .nili
 ·cases hc
def z2z (M:Mem) (h:Heap) (μ:Mu) (ev:Opd→AV) (ρ:Operand→Value):Prop:=∀ x y,z0w x y=true→RAV M h μ (ev x) (ρ y)
def OpOk (P:Program) (s:Sem Next) (h:Heap) (μ:Mu) (w:World) (v:AV) (h':Heap) (x:Esc):Prop:=
 ∃ nx w' μ',s.run P w = .ok nx w'∧((∃ u,nx = .value u∧RAV (imm h' μ' w') h' μ' v u)∨(nx = .skip∧v = .und))∧HeapRel h' μ' w' ∧
  Evo (imm h μ w) h μ (imm h' μ' w') h' μ'∧z0k h h' x
theorem OpOk.pure {s:Sem Next} {v:AV} {u:Value} (H:HeapRel h μ w) (hr:s.run P w = .ok (.value u) w) (hu:RAV (imm h μ w) h μ v u):OpOk P s h μ w v h []:=
 ⟨_,w,μ,hr,.inl ⟨u,rfl,hu⟩,H,Evo.refl _ _ _,z0k.refl _ _⟩
theorem OpOk.ext {s:Sem Next} {v:AV} {u:Value} {w':World} (H:HeapRel h μ w) (hw:WExt w w') (hr:s.run P w = .ok (.value u) w') (hu:RAV (imm h μ w') h μ v u):OpOk P s h μ w v h []:=
 ⟨_,w',μ,hr,.inl ⟨u,rfl,hu⟩,(H.ext hw).1,(H.ext hw).2,z0k.refl _ _⟩
theorem z0r {s:Sem Value} {u:Value} (hs:s.run P w = .ok u w'):((do pure (.value (← s)):Sem Next)).run P w = .ok (.value u) w':=by
 simp [hs]
theorem zvQ {s:Sem Unit} (hs:s.run P w = .ok () w'):((do s;pure .skip:Sem Next)).run P w = .ok .skip w':=by
 simp [hs]
theorem RAV.p_int {k:IntKind} {n:Int} {x:Value} (H:RAV M h μ (.p (.int k n)) x):x = .int k n:=by
 cases H with | p _ _ hv=>cases hv;rfl
theorem RAV.p_bool {b:Bool} {x:Value} (H:RAV M h μ (.p (.bool b)) x):x = .bool b:=by
 cases H with | p _ _ hv=>cases hv;rfl
theorem RAV.p_str {s:List UInt8} {x:Value} (H:RAV M h μ (.p (.str s)) x):x = .string ⟨s.toArray⟩:=by
 cases H with | p _ _ hv=>cases hv;rfl
theorem RAV.p_inv {v:PV} {x:Value} (H:RAV M h μ (.p v) x):RPV M v x:=by
 cases H with | p _ _ hv=>exact hv
theorem z2o {a:AV} {k:Nat} {x:Value} (hk:z1k a=some k) (H:RAV M h μ a x):∃ kk,x = .int kk (k:Int):=by
 unfold z1k at hk
 split at hk
 ·split at hk
  ·simp at hk
   rename_i kk n hn
   rw[H.p_int]
   exact⟨kk,by rw[← hk];simp;omega⟩
  ·cases hk
 ·cases hk
theorem RAV.pint (n:Nat):RAV M h μ (pint n) (goInt n):=.p _ _ (.int _ _)
theorem RAV.pbool (b:Bool):RAV M h μ (pbool b) (.bool b):=.p _ _ (.bool b)
theorem z5i:∀ {cs:List AV} {vs:List PV},unp cs=some vs→cs=vs.map AV.p
 | [],vs,h=>by simp [unp] at h;subst h;rfl
 | a::r,vs,h=>by
  cases a <;> simp [unp] at h
  obtain⟨l,h1,rfl⟩:=h
  simp [z5i h1]
theorem z9c {cs:List AV} {vs:List Value} (hl:cs.length=vs.length) (hr:∀ (j:Nat) (y:AV) (v:Value),cs[j]?=some y→vs[j]?=some v→RAV M h μ y v) :
 RAV M h μ (mkA cs) (.agg vs.toArray):=by
 unfold mkA
 split
 ·rename_i ps hp
  have:=z5i hp
  subst this
  refine .p _ _ (.agg ps vs (by simpa using hl) (fun j y v h1 h2=>?_))
  exact (hr j (.p y) v (by simp [h1]) h2).p_inv
 ·exact .agg cs vs hl hr
theorem z1C {v:AV} {x:Value} {cs:List AV} (H:RAV M h μ v x) (hc:v.cells=some cs) :
 x.cells.size=cs.length∧(∀ (j:Nat) (y:AV),cs[j]?=some y→y.sc=true∧∃ u,x.cells[j]?=some u∧RAV M h μ y u):=by
 have one:∀ {v:AV} {x:Value},RAV M h μ v x→v.sc=true→x.cells = #[x]→x.cells.size=[v].length∧(∀ (j:Nat) (y:AV),[v][j]?=some y→y.sc=true∧∃ u,x.cells[j]?=some u∧RAV M h μ y u):=by
  intro v x H hs hx
  refine⟨by simp [hx],fun j y hy=>?_⟩
  cases j with
  | zero=>simp at hy;subst hy;exact⟨hs,x,by simp [hx],H⟩
  | succ j=>simp at hy
 cases v with
 | p pv=>
  cases pv with
  | agg l=>
   simp only[AV.cells] at hc
   split at hc
   ·rename_i hall
    simp at hc
    subst hc
    cases H with | p _ _ hv=>cases hv with | agg _ vs hl hr=>
    refine⟨by simp [Value.cells,hl],fun j y hy=>?_⟩
    simp only[List.getElem?_map,Option.map_eq_some_iff] at hy
    obtain⟨z,hz,rfl⟩:=hy
    have hj:j<vs.length:=by rw[← hl];exact z0g hz
    rw[List.all_eq_true] at hall
    refine⟨by simp [AV.sc];exact hall z (List.mem_of_getElem? hz),vs[j],by simp [Value.cells,hj],.p _ _ (hr j z _ hz (List.getElem?_eq_getElem hj))⟩
   ·cases hc
  | int k n=>simp [AV.cells] at hc;subst hc;exact one H rfl (by rw[H.p_int];rfl)
  | bool b=>simp [AV.cells] at hc;subst hc;exact one H rfl (by rw[H.p_bool];rfl)
  | str s=>simp [AV.cells] at hc;subst hc;exact one H rfl (by rw[H.p_str];rfl)
  | nilp=>simp [AV.cells] at hc;subst hc;exact one H rfl (by cases H.p_inv;rfl)
  | unk=>simp [AV.cells] at hc;subst hc;exact one H rfl (by cases H.p_inv;rfl)
  | sl sh xs=>simp [AV.cells] at hc;subst hc;exact one H rfl (by cases H.p_inv <;> rfl)
 | agg l=>
  simp only[AV.cells] at hc
  split at hc
  ·rename_i hall
   simp at hc
   subst hc
   cases H with | agg _ vs hl hr=>
   refine⟨by simp [Value.cells,hl],fun j y hy=>?_⟩
   have hj:j<vs.length:=by rw[← hl];exact z0g hy
   rw[List.all_eq_true] at hall
   exact⟨hall y (List.mem_of_getElem? hy),vs[j],by simp [Value.cells,hj],hr j y _ hy (List.getElem?_eq_getElem hj)⟩
  ·cases hc
 | tup l=>simp [AV.cells] at hc
 | anyb=>simp [AV.cells] at hc
 | skp=>simp [AV.cells] at hc
 | und=>simp [AV.cells] at hc
 | own a b c d=>simp [AV.cells] at hc;subst hc;exact one H rfl (by cases H;rfl)
 | sl0 sh=>simp [AV.cells] at hc;subst hc;exact one H rfl (by cases H;rfl)
 | ref a b=>simp [AV.cells] at hc;subst hc;exact one H rfl (by cases H;rfl)
 | rref a b c d=>simp [AV.cells] at hc;subst hc;exact one H rfl (by cases H;rfl)
 | vp v=>simp [AV.cells] at hc;subst hc;exact one H rfl (by cases H;rfl)
 | nilp=>simp [AV.cells] at hc;subst hc;exact one H rfl (by cases H;rfl)
 | nilm=>simp [AV.cells] at hc;subst hc;exact one H rfl (by cases H;rfl)
 | nilf=>simp [AV.cells] at hc;subst hc;exact one H rfl (by cases H;rfl)
 | nili=>simp [AV.cells] at hc;subst hc;exact one H rfl (by cases H;rfl)
 | ifc=>simp [AV.cells] at hc;subst hc;exact one H rfl (by cases H;rfl)
 | mp a=>simp [AV.cells] at hc;subst hc;exact one H rfl (by cases H;rfl)
 | it a=>simp [AV.cells] at hc;subst hc;exact one H rfl (by cases H;rfl)
 | fn a b=>simp [AV.cells] at hc;subst hc;exact one H rfl (by cases H;rfl)
 | anyp=>simp [AV.cells] at hc;subst hc;exact one H rfl (by cases H;rfl)
 | bt k t id g=>simp [AV.cells] at hc;subst hc;exact one H rfl (by cases H <;> rfl)
theorem zft {v:AV} {x:Value} (H:RAV M h μ v x) (hs:v.sc=true):x.oneCell'=true:=by
 cases H with
 | p pv _ hv=>cases hv <;> first | rfl | (simp [AV.sc,PV.sc] at hs)
 | agg=>simp [AV.sc] at hs
 | tup=>simp [AV.sc] at hs
 | anyb=>simp [AV.sc] at hs
 | skp=>simp [AV.sc] at hs
 | und=>simp [AV.sc] at hs
 | _=>rfl
theorem z2n {α:Type} [BEq α] [LawfulBEq α] [DecidableEq α] (a b:α):(a==b)=decide (a=b):=by
 by_cases h:a=b <;> simp [h]
theorem zjn {op:BinOp} {k:IntKind} {a b:Int} {r:PV} {t:TypeId} (h1:op ≠ .shl) (h2:op ≠ .shr) (hr:aint op k a b=some r) :
 ∃ u,(binOp op t (.int k a) (.int k b)).run P w = .ok u w∧RPV M r u:=by
 cases op <;> simp only[aint] at hr
 case shl=>exact absurd rfl h1
 case shr=>exact absurd rfl h2
 case quo=>split at hr <;> simp at hr;subst hr;exact⟨_,by simp [binOp,Op.intDiv, *],.int _ _⟩
 case rem=>split at hr <;> simp at hr;subst hr;exact⟨_,by simp [binOp,Op.intDiv, *],.int _ _⟩
 case add=>injection hr with hr;subst hr;exact⟨_,by simp [binOp,Op.intArith],.int _ _⟩
 case sub=>injection hr with hr;subst hr;exact⟨_,by simp [binOp,Op.intArith],.int _ _⟩
 case mul=>injection hr with hr;subst hr;exact⟨_,by simp [binOp,Op.intArith],.int _ _⟩
 case and=>injection hr with hr;subst hr;refine⟨_,?_,.int _ _⟩;simp [binOp,Op.intBits,iand,ior,ixor,zjF]
 case or=>injection hr with hr;subst hr;refine⟨_,?_,.int _ _⟩;simp [binOp,Op.intBits,iand,ior,ixor,zjF]
 case xor=>injection hr with hr;subst hr;refine⟨_,?_,.int _ _⟩;simp [binOp,Op.intBits,iand,ior,ixor,zjF]
 case andNot=>injection hr with hr;subst hr;refine⟨_,?_,.int _ _⟩;simp [binOp,Op.intBits,iand,ior,ixor,zjF]
 case eql=>injection hr with hr;subst hr;refine⟨_,?_,.bool _⟩;simp [binOp,Op.intCmp,z2n]
 case neq=>injection hr with hr;subst hr;refine⟨_,?_,.bool _⟩;simp [binOp,Op.intCmp,z2n,bne]
 case lss=>injection hr with hr;subst hr;refine⟨_,?_,.bool _⟩;simp [binOp,Op.intCmp]
 case leq=>injection hr with hr;subst hr;refine⟨_,?_,.bool _⟩;simp [binOp,Op.intCmp]
 case gtr=>injection hr with hr;subst hr;refine⟨_,?_,.bool _⟩;simp [binOp,Op.intCmp]
 case geq=>injection hr with hr;subst hr;refine⟨_,?_,.bool _⟩;simp [binOp,Op.intCmp]
theorem zjp {op:BinOp} {a b:List UInt8} {r:PV} {t:TypeId} (hr:astr op a b=some r) :
 ∃ u,(binOp op t (.string ⟨a.toArray⟩) (.string ⟨b.toArray⟩)).run P w = .ok u w∧RPV M r u:=by
 cases op <;> simp only[astr] at hr
 case add=>
  split at hr
  ·rename_i hl
   injection hr with hr
   subst hr
   refine⟨.string ⟨(a++b).toArray⟩,?_,.str _⟩
   simp only[binOp,Op.stringOp]
   rw[if_neg]
   ·have:(⟨a.toArray⟩:ByteArray)++⟨b.toArray⟩=⟨(a++b).toArray⟩:=by
     apply ByteArray.ext
     simp [ByteArray.data_append]
    rw[this]
    rfl
   ·simp only[z0n] at hl
    simp [ByteArray.size,IntKind.max,IntKind.signed,IntKind.bits]
    omega
  ·cases hr
 case eql=>injection hr with hr;subst hr;refine⟨_,?_,.bool _⟩;simp [binOp,Op.stringOp,Go.ByteArray.toList_mk,z2n]
 case neq=>injection hr with hr;subst hr;refine⟨_,?_,.bool _⟩;simp [binOp,Op.stringOp,Go.ByteArray.toList_mk,z2n]
 case lss=>injection hr with hr;subst hr;refine⟨_,?_,.bool _⟩;simp [binOp,Op.stringOp,Go.ByteArray.toList_mk]
 case leq=>injection hr with hr;subst hr;refine⟨_,?_,.bool _⟩;simp [binOp,Op.stringOp,Go.ByteArray.toList_mk,z2n]
 case gtr=>injection hr with hr;subst hr;refine⟨_,?_,.bool _⟩;simp [binOp,Op.stringOp,Go.ByteArray.toList_mk,z2n]
 case geq=>injection hr with hr;subst hr;refine⟨_,?_,.bool _⟩;simp [binOp,Op.stringOp,Go.ByteArray.toList_mk]
 all_goals cases hr
theorem zjl {op:BinOp} {a b r:PV} {x y:Value} {t:TypeId} (ha:RPV M a x) (hb:RPV M b y) (hr:abin op a b=some r) :
 ∃ u,(binOp op t x y).run P w = .ok u w∧RPV M r u:=by
 cases a with
 | int k n=>
  cases ha
  cases b with
  | int k' n'=>
   cases hb
   by_cases h1:op = .shl
   ·subst h1
    simp only[abin] at hr
    split at hr <;> simp at hr
    subst hr
    refine⟨_,?_,.int _ _⟩
    simp [binOp,Op.shift,ishl,ishr, *]
   ·by_cases h2:op = .shr
    ·subst h2
     simp only[abin] at hr
     split at hr <;> simp at hr
     subst hr
     refine⟨_,?_,.int _ _⟩
     simp [binOp,Op.shift,ishl,ishr, *]
    ·have:abin op (.int k n) (.int k' n')=if k=k' then aint op k n n' else none:=by
      cases op <;> first | rfl | exact absurd rfl h1 | exact absurd rfl h2
     rw[this] at hr
     split at hr
     ·rename_i hk;subst hk;exact zjn h1 h2 hr
     ·cases hr
  | _=>simp [abin] at hr
 | str s=>
  cases ha
  cases b with
  | str s'=>cases hb;exact zjp hr
  | _=>simp [abin] at hr
 | _=>simp [abin] at hr
theorem z5W {op:BinOp} {t:TypeId} {x y:Operand} {a b:Value} (h1:∀ vs,a ≠ .agg vs) (h2:a ≠ .nilIface∨b ≠ .nilIface):(eqGuard op t x y a b).run P w = .ok () w:=by
 unfold eqGuard
 cases op
 case eql=>cases a <;> first | exact absurd rfl (h1 _) | (cases b <;> first | rfl | (simp at h2;done)) | rfl
 case neq=>cases a <;> first | exact absurd rfl (h1 _) | (cases b <;> first | rfl | (simp at h2;done)) | rfl
 all_goals rfl
theorem zfI {op:BinOp} {a b r:PV} {x:Value} (ha:RPV M a x) (hr:abin op a b=some r):(∀ vs,x ≠ .agg vs)∧x ≠ .nilIface:=by
 cases ha
 case agg=>cases b <;> simp [abin] at hr
 all_goals exact⟨by simp,by simp⟩
theorem zm8 {op:UnOp} {a r:PV} {x:Value} (ha:RPV M a x) (hr:aun op a=some r):∃ u,(Op.unary op x).run P w = .ok u w∧RPV M r u:=by
 cases ha <;> cases op <;> simp [aun] at hr
 all_goals subst hr
 ·refine⟨_,?_,.int _ _⟩;simp [Op.unary,Op.intArith]
 ·refine⟨_,?_,.int _ _⟩;simp [Op.unary,Op.intBits]
 ·refine⟨_,?_,.bool _⟩;simp [Op.unary]
theorem zcV:∀ {l:List PV} {a r:PV} {x:Value} {vs:List Value},RPV M a x→l.length=vs.length→(∀ (j:Nat) (y:PV) (v:Value),l[j]?=some y→vs[j]?=some v→RPV M y v) →
 l.foldlM zm2 a=some r→∃ u,(vs.foldlM Builtin.max2 x).run P w = .ok u w∧RPV M r u
 | [],a,r,x,[],ha,_,_,hr=>by simp at hr;subst hr;exact⟨x,rfl,ha⟩
 | b::l,a,r,x,v::vs,ha,hl,hh,hr=>by
  simp only[List.foldlM_cons,Option.bind_eq_bind,Option.bind_eq_some_iff] at hr
  obtain⟨c,h1,h2⟩:=hr
  have hb:=hh 0 b v rfl rfl
  have hmax:∃ u,(Builtin.max2 x v).run P w = .ok u w∧RPV M c u:=by
   cases ha <;> cases hb <;> simp [zm2] at h1
   obtain⟨rfl,rfl⟩:=h1
   refine⟨_,?_,.int _ _⟩
   simp only[Builtin.max2,Sem.run_pure]
   congr 2
   omega
  obtain⟨u,h3,h4⟩:=hmax
  obtain⟨u',h5,h6⟩:=zcV h4 (by simpa using hl) (fun j y v' p q=>hh (j+1) y v' (by simpa using p) (by simpa using q)) h2
  exact⟨u',by simp [h3,h5],h6⟩
 | [],_,_,_,_::_,_,hl,_,_=>by simp at hl
 | _::_,_,_,_,[],_,hl,_,_=>by simp at hl
theorem zcW:∀ {l:List PV} {a r:PV} {x:Value} {vs:List Value},RPV M a x→l.length=vs.length→(∀ (j:Nat) (y:PV) (v:Value),l[j]?=some y→vs[j]?=some v→RPV M y v) →
 l.foldlM zm3 a=some r→∃ u,(vs.foldlM Builtin.min2 x).run P w = .ok u w∧RPV M r u
 | [],a,r,x,[],ha,_,_,hr=>by simp at hr;subst hr;exact⟨x,rfl,ha⟩
 | b::l,a,r,x,v::vs,ha,hl,hh,hr=>by
  simp only[List.foldlM_cons,Option.bind_eq_bind,Option.bind_eq_some_iff] at hr
  obtain⟨c,h1,h2⟩:=hr
  have hb:=hh 0 b v rfl rfl
  have hmax:∃ u,(Builtin.min2 x v).run P w = .ok u w∧RPV M c u:=by
   cases ha <;> cases hb <;> simp [zm3] at h1
   obtain⟨rfl,rfl⟩:=h1
   refine⟨_,?_,.int _ _⟩
   simp only[Builtin.min2,Sem.run_pure]
   congr 2
   omega
  obtain⟨u,h3,h4⟩:=hmax
  obtain⟨u',h5,h6⟩:=zcW h4 (by simpa using hl) (fun j y v' p q=>hh (j+1) y v' (by simpa using p) (by simpa using q)) h2
  exact⟨u',by simp [h3,h5],h6⟩
 | [],_,_,_,_::_,_,hl,_,_=>by simp at hl
 | _::_,_,_,_,[],_,hl,_,_=>by simp at hl
end Go.Am
end
