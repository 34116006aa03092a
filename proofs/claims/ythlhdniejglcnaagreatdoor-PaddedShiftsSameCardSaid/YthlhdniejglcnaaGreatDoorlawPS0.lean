/- Texts of the proof, laid together: PSort, PFlt, PWalk, PVec, PVec2, PVec3, PVec4, PTap, Am1, PRun, Nums, Am2, Am3, Am4, Am5. -/
import Derived.Calls
import Derived.Laws.Sem
set_option linter.all false
section
/- Plain lists: insertion sort asv Go's package slices does it on short lists;deleting;compacting. -/
namespace Go.Am
variable {α:Type}
end Go.Am
namespace Go.Am
variable {α:Type}
end Go.Am
end
section
/- Faults of nets: what the words mean,in plain Lean. -/
set_option linter.all false
namespace Go.Am
def lR (c:UInt8):Bool:=[48,49].contains c
def EA (s:List UInt8):Bool:=s.all lR
theorem mI (p:UInt8→Bool):∀l:List UInt8,l.dropWhile p=[]↔l.all p=true
 | []=>by simp
 | c::r=>by
  rw[List.dropWhile_cons,List.all_cons];cases hp:p c with
  | true=>simp only[if_true,Bool.true_and];exact mI p r
  | false=>simp
theorem z6P (s:List UInt8):decide ((s.reverse.dropWhile ([48,49].contains ·)).reverse.dropWhile ([48,49].contains ·)=[])=EA s:=by
 rw[Bool.eq_iff_iff,decide_eq_true_eq,mI,List.all_reverse];have hb:EA s=s.all ([48,49].contains ·):=rfl
 rw[hb];constructor
 ·intro h
  rw[←mI]at h;have key:∀l:List UInt8,(l.dropWhile ([48,49].contains ·)).all ([48,49].contains ·)=true→l.all ([48,49].contains ·)=true:=by
   intro l;induction l with
   | nil=>intro _;rfl
   | cons c r ih=>
    rw[List.dropWhile_cons];split
    ·rename_i hp;intro h;rw[List.all_cons,hp,ih h];rfl
    ·exact id
  have:=key s.reverse ((mI _ _).1 h);rwa [List.all_reverse]at this
 ·intro h
  have key:∀l:List UInt8,l.all ([48,49].contains ·)=true→(l.dropWhile ([48,49].contains ·)).all ([48,49].contains ·)=true:=by
   intro l hl;rw[(mI _ l).2 hl];rfl
  exact key _ (by rwa [List.all_reverse])
end Go.Am
end
section
/- Walks over the states of a test access port,plainly. -/
namespace Go.Am
def nxtU:List (List Nat):=[[1,0],[1,2],[3,9],[4,5],[4,5],[6,8],[6,7],[4,8],[1,2],[10,0],[11,12],[11,12],[13,15],[13,14],[11,15],[1,2]]
def stp (s t:Nat):Nat:=(nxtU.getD s []).getD t 0
theorem z6H {s t:Nat}(hs:s<16)(ht:t<2):stp s t<16:=by
 have key:(List.range 16).all (fun s=>(List.range 2).all fun t=>decide (stp s t<16))=true:=by decide
 have:=List.all_eq_true.1 key s (List.mem_range.2 hs);exact of_decide_eq_true (List.all_eq_true.1 this t (List.mem_range.2 ht))
def stW (s:Nat)(c:UInt8):Nat:=stp s (c.toNat-48)
def DC (s:Nat)(l:List UInt8):Nat:=l.foldl stW s
theorem OJ (s:Nat)(l r:List UInt8):DC s (l++r)=DC (DC s l) r:=by simp [DC]
theorem zkW {s:Nat}{c:UInt8}(hs:s<16)(hc:c=48∨c=49):stW s c<16:=by
 rcases hc with rfl|rfl
 ·exact z6H hs (by decide)
 ·exact z6H hs (by decide)
theorem z1o {c:UInt8}{l:List UInt8}(h:EA l=true)(hc:c∈l):c=48∨c=49:=by
 have:=List.all_eq_true.1 h c hc;simpa [lR] using this
def EG:Nat→List (List UInt8)
 | 0=>[[]]
 | k+1=>(EG k).flatMap fun s=>[s++[48],s++[49]]
theorem z5B:∀ {k:Nat} {s:List UInt8},s∈EG k→EA s=true∧s.length=k
 | 0,s,h=>by simp [EG]at h;subst h;exact⟨rfl,rfl⟩
 | k+1,s,h=>by
  simp only[EG,List.mem_flatMap]at h;obtain⟨t,ht,hs⟩:=h;obtain⟨h1,h2⟩:=z5B ht;have:∀c:UInt8,c=48∨c=49→EA (t++[c])=true:=fun c hc=>by
   unfold EA at h1 ⊢;rw[List.all_append,h1];rcases hc with rfl|rfl <;> rfl
  simp only[List.mem_cons,List.not_mem_nil,or_false]at hs;rcases hs with rfl|rfl
  ·exact⟨this _ (.inl rfl),by simp [h2]⟩
  ·exact⟨this _ (.inr rfl),by simp [h2]⟩
def SL (a b:Nat):Nat→Nat→Option (List UInt8)
 | 0,_=>none
 | n+1,k=>match (EG k).find? fun s=>DC a s==b with
  | some s=>some s
  | none=>SL a b n (k+1)
theorem z6Z {a b:Nat}{w:List UInt8}:∀{n k:Nat},SL a b n k=some w→∃kw,k≤kw∧kw<k+n∧(EG kw).find? (fun s=>DC a s==b)=some w∧∀j,k≤j→j<kw→(EG j).find? (fun s=>DC a s==b)=none
 | 0,k,h=>by cases h
 | n+1,k,h=>by
  unfold SL at h;split at h
  ·rename_i s hs
   cases h;exact⟨k,by omega,by omega,hs,fun j h1 h2=>by omega⟩
  ·rename_i hs
   obtain⟨kw,h1,h2,h3,h4⟩:=z6Z h;refine⟨kw,by omega,by omega,h3,fun j h5 h6=>?_⟩
   rcases Nat.lt_or_ge k j with h7|h7
   ·exact h4 j h7 h6
   ·rw[show j=k by omega];exact hs
theorem zlI {a b:Nat}{w:List UInt8}{n:Nat}(h:SL a b n 0=some w):∃kw,kw<n∧(EG kw).find? (fun s=>DC a s==b)=some w∧∀j,j<kw→(EG j).find? (fun s=>DC a s==b)=none:=by
 obtain⟨kw,_,h2,h3,h4⟩:=z6Z h;exact⟨kw,by omega,h3,fun j hj=>h4 j (by omega) hj⟩
theorem z3H {α:Type}{p:α→Bool}:∀{l:List α} {i:Nat} {s:α},(∀x∈l.take i,p x=false)→l[i]?=some s→p s=true→l.find? p=some s
 | [],i,s,_,h,_=>by simp at h
 | a::r,0,s,_,h,hp=>by
  simp only[List.getElem?_cons_zero,Option.some.injEq]at h;subst h;simp [hp]
 | a::r,i+1,s,hn,h,hp=>by
  have h1:p a=false:=hn a (by simp)
  have:=z3H (l:=r) (i:=i) (s:=s) (fun x hx=>hn x (by simp [hx])) (by simpa using h) hp
  simp [h1,this]
def frS:List Nat:=[0,1,6,13,5,12]
def toS:List Nat:=[0,1,6,13,4,11]
end Go.Am
end
section
/- Programs of vectors,plainly: what is wrong with commands;what the reference makes of them,and what the program does. -/
namespace Go.Am
structure Cmd where
 k:Int
 s:Int
 cl:Int
 b:List UInt8
 w:List UInt8
 m:List UInt8
 deriving DecidableEq
def tC (n:Int):Bool:=n==0||n==1||n==6||n==13
def OD (c:Cmd):Nat:=
 if c.b=[] then 8 else if !EA c.b then 9 else if 2000<c.b.length then 2
 else if c.w≠[]∧(c.w.length≠c.b.length∨c.m.length≠c.b.length) then 3
 else if !EA c.w || !EA c.m then 9 else if c.w=[]∧c.m≠[] then 3 else 0
def NA (c:Cmd):Nat:=
 if c.k=1∨c.k=2∨c.k=10 then(if !tC c.s then 1 else if c=⟨c.k,c.s,0,[],[],[]⟩ then 0 else 3)
 else if c.k=9 then(if c.cl<0∨20000<c.cl then 1 else if c=⟨c.k,0,c.cl,[],[],[]⟩ then 0 else 3)
 else if c.k=7∨c.k=8 then(if OD c≠0 then OD c else if c=⟨c.k,0,0,c.b,c.w,c.m⟩ then 0 else 3)
 else if 3≤c.k∧c.k≤6 then(if !EA c.b then 9 else if 2000<c.b.length then 2 else if c=⟨c.k,0,0,c.b,[],[]⟩ then 0 else 3)
 else 4
def JC:List Cmd→Nat
 | []=>0
 | c::r=>if NA c≠0 then NA c else JC r
def idleC:Cmd:=⟨0,1,0,[],[],[]⟩
def BA (l:List Cmd)(k:Int):Cmd:=(l.reverse.find? fun c=>c.k==k).getD idleC
structure Part where
 tms:List UInt8
 tdi:List UInt8
 want:List UInt8
 fr:Nat
 st:Nat
def zs (n:Nat):List UInt8:=List.replicate n 48
def xsL (n:Nat):List UInt8:=List.replicate n 120
def JD (c:Cmd)(i:Nat):UInt8:=if c.m[i]?=some 49 then(c.w[i]?).getD 0 else 120
def jF (c:Cmd):List UInt8:=(List.range c.b.length).map (JD c)
def fC (p:Part):Part:={ p with tdi:=p.tdi++zs (p.tms.length-p.tdi.length),want:=p.want++xsL (p.tms.length-p.want.length) }
variable (path:Nat→Nat→List UInt8)
def KC (c:Cmd)(state sh ex:Nat)(hd tl:List UInt8)(en:Nat):Part:=
 {
  tms:=path state sh++zs ((hd++c.b++tl).length-1)++[49]++path ex en
  tdi:=zs (path state sh).length++(hd++c.b++tl)
  want:=xsL ((path state sh).length+hd.length)++jF c
  fr:=(path state sh).length+hd.length
  st:=en }
def lA (pre:List Cmd)(c:Cmd)(state:Nat):Part:=
 fC (if c.k=10 then⟨path state c.s.toNat,[],[],0,c.s.toNat⟩
  else if c.k=9 then⟨path state 1++zs c.cl.toNat,[],[],0,1⟩
  else if c.k=7 then KC path c state 11 12 (BA pre 3).b (BA pre 4).b (BA pre 1).s.toNat
  else if c.k=8 then KC path c state 4 5 (BA pre 5).b (BA pre 6).b (BA pre 2).s.toNat
  else⟨[],[],[],0,state⟩)
def nA (pre:List Cmd)(state:Nat):List Cmd→List Part
 | []=>[]
 | c::r=>lA path pre c state::nA (pre++[c]) (lA path pre c state).st r
def sA (l:List Part):List UInt8:=l.flatMap Part.tms
def EB (l:List Part):List UInt8:=l.flatMap Part.tdi
def LE (l:List Part):List UInt8:=l.flatMap Part.want
def ZB (l:List Cmd):Nat:=if 1000<l.length then 2 else if JC l≠0 then JC l else if 20000<(sA (nA path [] 0 l)).length then 2 else 0
structure Sett where
 e1:Cmd
 e2:Cmd
 h1:Cmd
 t1:Cmd
 h2:Cmd
 t2:Cmd
def sett0:Sett:=⟨⟨1,1,0,[],[],[]⟩,⟨2,1,0,[],[],[]⟩,⟨3,0,0,[],[],[]⟩,⟨4,0,0,[],[],[]⟩,⟨5,0,0,[],[],[]⟩,⟨6,0,0,[],[],[]⟩⟩
def Sett.put (s:Sett)(c:Cmd):Sett:=
 if c.k=1 then { s with e1:=c } else if c.k=2 then { s with e2:=c } else if c.k=3 then { s with h1:=c } else if c.k=4 then { s with t1:=c } else if c.k=5 then { s with h2:=c } else { s with t2:=c }
structure Run where
 se:Sett
 st:Nat
 ck:Nat
 ni:Nat
 nd:Nat
 sts:List Nat
 frs:List Nat
 tms:List UInt8
 tdi:List UInt8
 want:List UInt8
 wr:Bool
def Run.clk (r:Run)(l:List (UInt8 × UInt8 × UInt8)):Run:=
 if r.wr then { r with ck:=r.ck+l.length,tms:=r.tms++l.map (·.1),tdi:=r.tdi++l.map (·.2.1),want:=r.want++l.map (·.2.2) } else { r with ck:=r.ck+l.length }
def Run.go (r:Run)(tov:Nat):Run:={ r.clk ((path r.st tov).map fun c=>(c,48,120)) with st:=tov }
def SA (c:Cmd)(hd al:List UInt8):List (UInt8×UInt8×UInt8):=
 (List.range al.length).map fun i=>(if i=al.length-1 then 49 else 48,(al[i]?).getD 0,if hd.length≤i then(if i-hd.length<c.m.length then JD c (i-hd.length) else 120) else 120)
def Run.scn (r:Run)(c:Cmd):Run:=
 let (hd,tl,en,sh,ex):=if c.k=7 then(r.se.h1.b,r.se.t1.b,r.se.e1.s,11,12) else(r.se.h2.b,r.se.t2.b,r.se.e2.s,4,5)
 let r1:=r.go path sh
 let r2:=if c.k=7 then { r1 with ni:=r1.ni+(hd++c.b++tl).length } else { r1 with nd:=r1.nd+(hd++c.b++tl).length }
 Run.go path { r2.clk (SA c hd (hd++c.b++tl)) with st:=ex } en.toNat
def Run.scnF (r:Run)(c:Cmd):Nat:=
 if c.k=7 then(r.go path 11).ck+r.se.h1.b.length else(r.go path 4).ck+r.se.h2.b.length
def Run.step (r:Run)(c:Cmd):Run:=
 let (r',f):=if 1≤c.k∧c.k≤6 then({ r with se:=r.se.put c },0)
  else if c.k=7∨c.k=8 then(r.scn path c,r.scnF path c)
  else if c.k=9 then((r.go path 1).clk (List.replicate c.cl.toNat (48,48,120)),0)
  else(r.go path c.s.toNat,0)
 { r' with sts:=r'.sts++[r'.st],frs:=r'.frs++[f] }
def Run.play (r:Run):List Cmd→Run
 | []=>r
 | c::l=>if 20000<r.ck then r else(r.step path c).play l
def gC (wr:Bool):Run:=⟨sett0,0,0,0,0,[],[],[],[],[],wr⟩
end Go.Am
end
section
/- The program and the reference agree on the signals of right commands. -/
namespace Go.Am
variable (path:Nat→Nat→List UInt8)
theorem zC (l:List Cmd)(c:Cmd)(k:Int):BA (l++[c]) k=if c.k=k then c else BA l k:=by
 unfold BA;rw[List.reverse_append,List.reverse_singleton,List.singleton_append,List.find?_cons];by_cases h:c.k=k
 ·simp [h]
 ·have:(c.k==k)=false:=by simpa using h
  simp [this,h]
inductive Kinds (c:Cmd):Prop where
 | set (h:c.k=1∨c.k=2) (hs:tC c.s=true) (e:c=⟨c.k,c.s,0,[],[],[]⟩)
 | go (h:c.k=10) (hs:tC c.s=true) (e:c=⟨c.k,c.s,0,[],[],[]⟩)
 | idle (h:c.k=9) (h0:0≤c.cl) (h1:c.cl≤20000) (e:c=⟨c.k,0,c.cl,[],[],[]⟩)
 | scan (h:c.k=7∨c.k=8) (hs:OD c=0) (e:c=⟨c.k,0,0,c.b,c.w,c.m⟩)
 | pad (h0:3≤c.k) (h1:c.k≤6) (hb:EA c.b=true) (hl:c.b.length≤2000) (e:c=⟨c.k,0,0,c.b,[],[]⟩)
theorem YE {c:Cmd}(h:NA c=0):Kinds c:=by
 unfold NA at h;split at h
 ·rename_i hk
  split at h
  ·cases h
  rename_i hs;split at h
  ·rename_i e
   have hs:tC c.s=true:=by simpa using hs
   rcases hk with hk|hk|hk
   ·exact .set (.inl hk) hs e
   ·exact .set (.inr hk) hs e
   ·exact .go hk hs e
  ·cases h
 split at h
 ·rename_i hk
  split at h
  ·cases h
  split at h
  ·exact .idle hk (by omega) (by omega) (by assumption)
  ·cases h
 split at h
 ·rename_i hk
  split at h
  ·rename_i h1;exact absurd h h1
  split at h
  ·rename_i h1 e;exact .scan hk (by omega) e
  ·cases h
 split at h
 ·rename_i hk
  split at h
  ·cases h
  split at h
  ·cases h
  split at h
  ·rename_i hb _ e;exact .pad hk.1 hk.2 (by simpa using hb) (by omega) e
  ·cases h
 ·cases h
theorem DH {c:Cmd}(h:OD c=0):c.b≠[]∧EA c.b=true∧c.b.length≤2000∧EA c.w=true∧EA c.m=true∧((c.w=[]∧c.m=[])∨(c.w.length=c.b.length∧c.m.length=c.b.length)):=by
 unfold OD at h;split at h
 ·cases h
 split at h
 ·cases h
 split at h
 ·cases h
 split at h
 ·cases h
 split at h
 ·cases h
 split at h
 ·cases h
 rename_i h1 h2 h3 h4 h5 h6;simp only[Bool.or_eq_true,Bool.not_eq_true',not_or,Bool.not_eq_false]at h5;refine⟨h1,by simpa using h2,by omega,h5.1,h5.2,?_⟩
 by_cases hw:c.w=[]
 ·exact .inl ⟨hw,Classical.byContradiction fun hm=>h6 ⟨hw,hm⟩⟩
 ·exact .inr ⟨Classical.byContradiction fun e=>h4 ⟨hw,.inl e⟩,Classical.byContradiction fun e=>h4 ⟨hw,.inr e⟩⟩
def stb:List Nat:=[0,1,6,13]
theorem tD {n:Int}(h:tC n=true):n.toNat∈stb∧(n.toNat:Int)=n:=by
 unfold tC at h;simp only[Bool.or_eq_true,beq_iff_eq]at h;rcases h with((rfl|rfl)|rfl)|rfl <;> decide
structure RelV (pre:List Cmd) (r:Run) (ps:List Part) (state:Nat):Prop where
 st:r.st=state
 sb:state∈stb
 e1:r.se.e1.s=(BA pre 1).s
 e2:r.se.e2.s=(BA pre 2).s
 h1:r.se.h1.b=(BA pre 3).b
 t1:r.se.t1.b=(BA pre 4).b
 h2:r.se.h2.b=(BA pre 5).b
 t2:r.se.t2.b=(BA pre 6).b
 s1:tC (BA pre 1).s=true
 s2:tC (BA pre 2).s=true
 b1:∀k,3≤k→k≤6→EA (BA pre k).b=true∧(BA pre k).b.length≤2000
 ck:r.ck=(sA ps).length
 sts:r.sts=ps.map Part.st
 sig:r.wr=true→r.tms=sA ps∧r.tdi=EB ps∧r.want=LE ps
theorem rel0 (wr:Bool):RelV [] (gC wr) [] 0 where
 st:=rfl
 sb:=by decide
 e1:=rfl
 e2:=rfl
 h1:=rfl
 t1:=rfl
 h2:=rfl
 t2:=rfl
 s1:=rfl
 s2:=rfl
 b1:=fun k _ _=>⟨rfl,Nat.zero_le _⟩
 ck:=rfl
 sts:=rfl
 sig:=fun _=>⟨rfl,rfl,rfl⟩
theorem IC (r:Run)(l:List (UInt8 × UInt8 × UInt8)):(r.clk l).se=r.se∧(r.clk l).st=r.st∧(r.clk l).sts=r.sts∧(r.clk l).frs=r.frs∧(r.clk l).wr=r.wr∧(r.clk l).ck=r.ck+l.length∧(r.clk l).ni=r.ni∧(r.clk l).nd=r.nd:=by
 unfold Run.clk;split <;> exact⟨rfl,rfl,rfl,rfl,rfl,rfl,rfl,rfl⟩
theorem FV {r:Run}(h:r.wr=true)(l:List (UInt8 × UInt8 × UInt8)):(r.clk l).tms=r.tms++l.map (·.1)∧(r.clk l).tdi=r.tdi++l.map (·.2.1)∧(r.clk l).want=r.want++l.map (·.2.2):=by
 unfold Run.clk;rw[if_pos h];exact⟨rfl,rfl,rfl⟩
theorem zf7 (l:List UInt8):(l.map fun c=>((c,48,120):UInt8×UInt8×UInt8)).map (·.1)=l∧(l.map fun c=>((c,48,120):UInt8×UInt8×UInt8)).map (·.2.1)=zs l.length∧(l.map fun c=>((c,48,120):UInt8×UInt8×UInt8)).map (·.2.2)=xsL l.length:=by
 refine⟨by rw[List.map_map];exact List.map_id l,?_,?_⟩
 ·unfold zs;rw[List.map_map];exact List.map_const' ..
 ·unfold xsL;rw[List.map_map];exact List.map_const' ..
theorem zk8 (c:Cmd)(hd al:List UInt8)(h:al≠[]):(SA c hd al).map (·.1)=zs (al.length-1)++[49]:=by
 have hpos:=List.length_pos_iff.2 h
 unfold SA zs;rw[List.map_map];apply List.ext_getElem
 ·simp;omega
 ·intro i h1 h2
  simp at h1;simp only[List.getElem_map,List.getElem_range,Function.comp];by_cases hi:i=al.length-1
  ·subst hi;simp
  ·rw[if_neg hi,List.getElem_append_left (by simp;omega)];simp
theorem zk9 (c:Cmd)(hd al:List UInt8):(SA c hd al).map (·.2.1)=al:=by
 unfold SA;rw[List.map_map];apply List.ext_getElem
 ·simp
 ·intro i h1 h2
  simp [h2]
theorem zkA (c:Cmd)(hd tl:List UInt8)(hm:c.m.length≤c.b.length):(SA c hd (hd++c.b++tl)).map (·.2.2)=xsL hd.length++jF c++xsL tl.length:=by
 unfold SA xsL jF;rw[List.map_map];apply List.ext_getElem
 ·simp <;> omega
 ·intro i h1 h2
  simp only[List.length_map,List.length_range,List.length_append]at h1;simp only[List.getElem_map,List.getElem_range,Function.comp];have hx:∀j,c.m.length≤j→JD c j=120:=fun j hj=>by unfold JD;rw[List.getElem?_eq_none hj];rfl
  by_cases h3:hd.length≤i
  ·rw[if_pos h3]
   by_cases h4:i-hd.length<c.b.length
   ·rw[List.getElem_append_left (by simp;omega),List.getElem_append_right (by simp;omega)]
    simp only[List.length_replicate,List.getElem_map,List.getElem_range];split
    ·rfl
    ·rw[hx _ (by omega)]
   ·rw[List.getElem_append_right (by simp;omega)]
    simp only[List.getElem_replicate];rw[if_neg (by omega)]
  ·rw[if_neg h3,List.getElem_append_left (by simp;omega),List.getElem_append_left (by simp;omega)]
   simp
theorem vO (c:Cmd)(hd al:List UInt8):(SA c hd al).length=al.length:=by simp [SA]
theorem lL (c:Cmd)(state sh ex:Nat)(hd tl:List UInt8)(en:Nat)(hb:c.b≠[]) :
 fC (KC path c state sh ex hd tl en) =
  {
   tms:=path state sh++(zs ((hd++c.b++tl).length-1)++[49])++path ex en
   tdi:=zs (path state sh).length++(hd++c.b++tl)++zs (path ex en).length
   want:=xsL (path state sh).length++(xsL hd.length++jF c++xsL tl.length)++xsL (path ex en).length
   fr:=(path state sh).length+hd.length
   st:=en }:=by
 have hpos:=List.length_pos_iff.2 hb
 have hz:∀n,(zs n).length=n:=fun n=>by simp [zs]
 have hx:∀n,(xsL n).length=n:=fun n=>by simp [xsL]
 have hxa:∀a b,xsL a++xsL b=xsL (a+b):=fun a b=>by unfold xsL;rw[List.replicate_append_replicate]
 have he:(jF c).length=c.b.length:=by simp [jF]
 unfold fC KC;simp only[Part.mk.injEq,and_true];refine⟨by simp only[List.append_assoc],?_,?_⟩
 ·congr 2
  simp only[List.length_append,hz,List.length_singleton];omega
 ·have e:(path state sh++zs ((hd++c.b++tl).length-1)++[49]++path ex en).length-(xsL ((path state sh).length+hd.length)++jF c).length=tl.length+(path ex en).length:=by
   simp only[List.length_append,hz,hx,he,List.length_singleton];omega
  rw[e,←hxa,←hxa];simp only[List.append_assoc]
theorem z6C (ps:List Part)(p:Part):sA (ps++[p])=sA ps++p.tms∧EB (ps++[p])=EB ps++p.tdi∧LE (ps++[p])=LE ps++p.want:=by
 simp [sA,EB,LE]
theorem z5b (w:List UInt8)(n:Nat)(st:Nat):fC ⟨w++zs n,[],[],0,st⟩=⟨w++zs n,zs w.length++zs n,xsL w.length++xsL n,0,st⟩:=by
 have hz:∀n,(zs n).length=n:=fun n=>by simp [zs]
 unfold fC;simp only[List.length_append,hz,List.nil_append,List.length_nil,Nat.sub_zero,Part.mk.injEq,true_and,and_true];exact⟨by unfold zs;rw[List.replicate_append_replicate],by unfold xsL;rw[List.replicate_append_replicate]⟩
theorem zjd (w:List UInt8)(st:Nat):fC ⟨w,[],[],0,st⟩=⟨w,zs w.length,xsL w.length,0,st⟩:=by
 have:=z5b w 0 st;simpa [zs,xsL] using this
theorem MB (r:Run)(tov:Nat):(r.go path tov).se=r.se∧(r.go path tov).st=tov∧(r.go path tov).sts=r.sts∧(r.go path tov).frs=r.frs∧(r.go path tov).wr=r.wr∧(r.go path tov).ck=r.ck+(path r.st tov).length∧(r.go path tov).ni=r.ni∧(r.go path tov).nd=r.nd:=by
 obtain⟨a,b,c,d,e,f,g,h⟩:=IC r ((path r.st tov).map fun c=>(c,48,120))
 unfold Run.go;exact⟨a,rfl,c,d,e,by rw[show({ r.clk ((path r.st tov).map fun c=>(c,48,120)) with st:=tov }:Run).ck=_ from rfl,f,List.length_map],g,h⟩
theorem iR {r:Run}(h:r.wr=true)(tov:Nat):(r.go path tov).tms=r.tms++path r.st tov∧(r.go path tov).tdi=r.tdi++zs (path r.st tov).length∧(r.go path tov).want=r.want++xsL (path r.st tov).length:=by
 obtain⟨a,b,c⟩:=FV h ((path r.st tov).map fun c=>(c,48,120))
 obtain⟨x,y,z⟩:=zf7 (path r.st tov);unfold Run.go;exact⟨by rw[←x];exact x.symm ▸ a,by rw[y]at b;exact b,by rw[z]at c;exact c⟩
end Go.Am
end
section
/- One command: both sides keep agreeing;a whole program. -/
namespace Go.Am
variable (path:Nat→Nat→List UInt8)
theorem eJ {r:Run}{c:Cmd}(h:1≤c.k∧c.k≤6):r.step path c={ r with se:=r.se.put c,sts:=r.sts++[r.st],frs:=r.frs++[0] }:=by
 unfold Run.step;simp only[if_pos h]
theorem NL {r:Run}{c:Cmd}(h:c.k=7∨c.k=8):r.step path c={ r.scn path c with sts:=(r.scn path c).sts++[(r.scn path c).st],frs:=(r.scn path c).frs++[r.scnF path c] }:=by
 unfold Run.step;rw[if_neg (by omega),if_pos h]
theorem ML {r:Run}{c:Cmd}(h:c.k=9):r.step path c={ (r.go path 1).clk (List.replicate c.cl.toNat (48,48,120)) with sts:=((r.go path 1).clk (List.replicate c.cl.toNat (48,48,120))).sts++[((r.go path 1).clk (List.replicate c.cl.toNat (48,48,120))).st],frs:=((r.go path 1).clk (List.replicate c.cl.toNat (48,48,120))).frs++[0] }:=by
 unfold Run.step;rw[if_neg (by omega),if_neg (by omega),if_pos h]
theorem DO {r:Run}{c:Cmd}(h:c.k=10):r.step path c={ r.go path c.s.toNat with sts:=(r.go path c.s.toNat).sts++[(r.go path c.s.toNat).st],frs:=(r.go path c.s.toNat).frs++[0] }:=by
 unfold Run.step;rw[if_neg (by omega),if_neg (by omega),if_neg (by omega)]
theorem VF {pre:List Cmd}{c:Cmd}{state:Nat}(h:c.k≤6):lA path pre c state=⟨[],[],[],0,state⟩:=by
 unfold lA;rw[if_neg (by omega),if_neg (by omega),if_neg (by omega),if_neg (by omega)];rfl
theorem mL {pre:List Cmd}{c:Cmd}{state:Nat}(h:c.k=10):lA path pre c state=⟨path state c.s.toNat,zs (path state c.s.toNat).length,xsL (path state c.s.toNat).length,0,c.s.toNat⟩:=by
 unfold lA;rw[if_pos h,zjd]
theorem nL {pre:List Cmd}{c:Cmd}{state:Nat}(h:c.k=9):lA path pre c state=⟨path state 1++zs c.cl.toNat,zs (path state 1).length++zs c.cl.toNat,xsL (path state 1).length++xsL c.cl.toNat,0,1⟩:=by
 unfold lA;rw[if_neg (by omega),if_pos h,z5b]
def Adds (r r':Run)(p:Part):Prop:=
 r'.ck=r.ck+p.tms.length∧(r'.wr=r.wr)∧(r.wr=true→r'.tms=r.tms++p.tms∧r'.tdi=r.tdi++p.tdi∧r'.want=r.want++p.want)∧r'.sts=r.sts++[p.st]∧r'.st=p.st
theorem NZ {pre pre':List Cmd}{r r':Run}{ps:List Part}{state:Nat}{p:Part}(H:RelV pre r ps state)(A:Adds r r' p)(hb:p.st∈stb)
 (e1:r'.se.e1.s=(BA pre' 1).s) (e2:r'.se.e2.s=(BA pre' 2).s) (h1:r'.se.h1.b=(BA pre' 3).b) (t1:r'.se.t1.b=(BA pre' 4).b) (h2:r'.se.h2.b=(BA pre' 5).b) (t2:r'.se.t2.b=(BA pre' 6).b)
 (s1:tC (BA pre' 1).s=true) (s2:tC (BA pre' 2).s=true) (b1:∀k,3≤k→k≤6→EA (BA pre' k).b=true∧(BA pre' k).b.length≤2000) :
 RelV pre' r' (ps++[p]) p.st:=by
 obtain⟨a1,a2,a3,a4,a5⟩:=A;obtain⟨q1,q2,q3⟩:=z6C ps p;exact⟨a5,hb,e1,e2,h1,t1,h2,t2,s1,s2,b1,by rw[a1,q1,List.length_append,H.ck],by rw[a4,H.sts,List.map_append];rfl,fun hw=>by
  rw[a2]at hw;obtain⟨x,y,z⟩:=a3 hw;obtain⟨u,v,w⟩:=H.sig hw;exact⟨by rw[x,q1,u],by rw[y,q2,v],by rw[z,q3,w]⟩⟩
theorem zT {pre:List Cmd}{r r':Run}{ps:List Part}{state:Nat}{p:Part}{c:Cmd}(H:RelV pre r ps state)(A:Adds r r' p)(hb:p.st∈stb)(hs:r'.se=r.se)(hk:¬ (1≤c.k∧c.k≤6)) :
 RelV (pre++[c]) r' (ps++[p]) p.st:=by
 have hn:∀k:Int,1≤k→k≤6→BA (pre++[c]) k=BA pre k:=fun k h1 h2=>by rw[zC,if_neg (by omega)]
 refine NZ H A hb ?_ ?_ ?_ ?_ ?_ ?_ ?_ ?_ ?_
 ·rw[hs,hn 1 (by omega) (by omega),H.e1]
 ·rw[hs,hn 2 (by omega) (by omega),H.e2]
 ·rw[hs,hn 3 (by omega) (by omega),H.h1]
 ·rw[hs,hn 4 (by omega) (by omega),H.t1]
 ·rw[hs,hn 5 (by omega) (by omega),H.h2]
 ·rw[hs,hn 6 (by omega) (by omega),H.t2]
 ·rw[hn 1 (by omega) (by omega)];exact H.s1
 ·rw[hn 2 (by omega) (by omega)];exact H.s2
 ·intro k h1 h2;rw[hn k (by omega) (by omega)];exact H.b1 k h1 h2
theorem z6y {r:Run}{c:Cmd}(hb:c.b≠[])(hm:c.m.length≤c.b.length)(hd tl:List UInt8)(sh ex en n1 n2:Nat)(f:Nat)(p:Part)(hp:p=fC (KC path c r.st sh ex hd tl en))(r2:Run)
 (h2:r2={ r.go path sh with ni:=n1,nd:=n2 }) (r3:Run) (h3:r3=Run.go path { r2.clk (SA c hd (hd++c.b++tl)) with st:=ex } en) :
 Adds r { r3 with sts:=r3.sts++[r3.st],frs:=r3.frs++[f] } p∧r3.se=r.se:=by
 obtain⟨g1,g2,g3,g4,g5,g6,_,_⟩:=MB path r sh;have ne:hd++c.b++tl≠[]:=by simp [hb]
 obtain⟨k1,k2,k3,k4,k5,k6,_,_⟩:=IC r2 (SA c hd (hd++c.b++tl));obtain⟨m1,m2,m3,m4,m5,m6,_,_⟩:=MB path { r2.clk (SA c hd (hd++c.b++tl)) with st:=ex } en
 rw[←h3]at m1 m2 m3 m4 m5 m6;have pr:=lL path c r.st sh ex hd tl en hb
 rw[←hp]at pr;subst pr;have hz:∀n,(zs n).length=n:=fun n=>by simp [zs]
 have a1:r2.se=r.se:=by rw[h2];exact g1
 have a3:r2.sts=r.sts:=by rw[h2];exact g3
 have a5:r2.wr=r.wr:=by rw[h2];exact g5
 have a6:r2.ck=r.ck+(path r.st sh).length:=by rw[h2];exact g6
 have hpos:0<(hd++c.b++tl).length:=List.length_pos_iff.2 ne
 refine⟨⟨?_,?_,?_,?_,m2⟩,?_⟩
 ·show r3.ck=_
  rw[m6];show(r2.clk _).ck+_=_
  rw[k6,a6,vO];simp only[List.length_append,hz,List.length_singleton];simp only[List.length_append]at hpos;omega
 ·show r3.wr=_
  rw[m5];show(r2.clk _).wr=_
  rw[k5,a5]
 ·intro hw
  have hw2:r2.wr=true:=by rw[a5];exact hw
  obtain⟨u1,u2,u3⟩:=iR path hw sh;obtain⟨v1,v2,v3⟩:=FV hw2 (SA c hd (hd++c.b++tl));have hw3:({ r2.clk (SA c hd (hd++c.b++tl)) with st:=ex }:Run).wr=true:=by show(r2.clk _).wr=_;rw[k5];exact hw2
  obtain⟨w1,w2,w3⟩:=iR path hw3 en;rw[←h3]at w1 w2 w3;have b1:r2.tms=r.tms++path r.st sh:=by rw[h2];exact u1
  have b2:r2.tdi=r.tdi++zs (path r.st sh).length:=by rw[h2];exact u2
  have b3:r2.want=r.want++xsL (path r.st sh).length:=by rw[h2];exact u3
  refine⟨?_,?_,?_⟩
  ·show r3.tms=_
   rw[w1];show(r2.clk _).tms++path ex en=_
   rw[v1,b1,zk8 c hd _ ne];simp only[List.append_assoc]
  ·show r3.tdi=_
   rw[w2];show(r2.clk _).tdi++zs (path ex en).length=_
   rw[v2,b2,zk9];simp only[List.append_assoc]
  ·show r3.want=_
   rw[w3];show(r2.clk _).want++xsL (path ex en).length=_
   rw[v3,b3,zkA c hd tl hm];simp only[List.append_assoc]
 ·show r3.sts++[r3.st]=_
  rw[m3,m2];show(r2.clk _).sts++_=_
  rw[k3,a3]
 ·rw[m1];show(r2.clk _).se=_
  rw[k1,a1]
theorem z0m {pre:List Cmd}{r:Run}{ps:List Part}{state:Nat}(H:RelV pre r ps state){c:Cmd}(hc:NA c=0) :
 RelV (pre++[c]) (r.step path c) (ps++[lA path pre c state]) (lA path pre c state).st:=by
 have hst:=H.st
 subst hst;have setf:∀(h:1≤c.k∧c.k≤6),Adds r (r.step path c) (lA path pre c r.st)∧(lA path pre c r.st).st∈stb:=fun h=>by
  rw[eJ path h,VF path h.2];exact⟨⟨rfl,rfl,fun _=>⟨(List.append_nil _).symm,(List.append_nil _).symm,(List.append_nil _).symm⟩,rfl,rfl⟩,H.sb⟩
 have hput:∀(h:1≤c.k∧c.k≤6),(r.step path c).se=r.se.put c:=fun h=>by rw[eJ path h]
 cases YE hc with
 | set h hs e=>
  have hr:1≤c.k∧c.k≤6:=by omega
  obtain⟨A,B⟩:=setf hr;have hp:=hput hr
  refine NZ H A B ?_ ?_ ?_ ?_ ?_ ?_ ?_ ?_ ?_;all_goals try rw[hp]
  ·rw[zC];unfold Sett.put
   rcases h with h|h
   ·rw[if_pos h,if_pos h]
   ·rw[if_neg (by omega),if_pos h,if_neg (by omega)];exact H.e1
  ·rw[zC];unfold Sett.put
   rcases h with h|h
   ·rw[if_pos h,if_neg (by omega)];exact H.e2
   ·rw[if_neg (by omega),if_pos h,if_pos h]
  ·rw[zC,if_neg (by omega)];unfold Sett.put
   rcases h with h|h
   ·rw[if_pos h];exact H.h1
   ·rw[if_neg (by omega),if_pos h];exact H.h1
  ·rw[zC,if_neg (by omega)];unfold Sett.put
   rcases h with h|h
   ·rw[if_pos h];exact H.t1
   ·rw[if_neg (by omega),if_pos h];exact H.t1
  ·rw[zC,if_neg (by omega)];unfold Sett.put
   rcases h with h|h
   ·rw[if_pos h];exact H.h2
   ·rw[if_neg (by omega),if_pos h];exact H.h2
  ·rw[zC,if_neg (by omega)];unfold Sett.put
   rcases h with h|h
   ·rw[if_pos h];exact H.t2
   ·rw[if_neg (by omega),if_pos h];exact H.t2
  ·rw[zC];split
   ·exact hs
   ·exact H.s1
  ·rw[zC];split
   ·exact hs
   ·exact H.s2
  ·intro k h1 h2;rw[zC,if_neg (by omega)];exact H.b1 k h1 h2
 | pad h0 h1 hb hl e=>
  have hr:1≤c.k∧c.k≤6:=by omega
  obtain⟨A,B⟩:=setf hr;have hp:=hput hr
  have hk:c.k=3∨c.k=4∨c.k=5∨c.k=6:=by omega
  refine NZ H A B ?_ ?_ ?_ ?_ ?_ ?_ ?_ ?_ ?_;all_goals try rw[hp]
  ·rw[zC,if_neg (by omega)];unfold Sett.put
   rcases hk with h|h|h|h <;> simp [h,H.e1]
  ·rw[zC,if_neg (by omega)];unfold Sett.put
   rcases hk with h|h|h|h <;> simp [h,H.e2]
  ·rw[zC];unfold Sett.put
   rcases hk with h|h|h|h <;> simp [h,H.h1]
  ·rw[zC];unfold Sett.put
   rcases hk with h|h|h|h <;> simp [h,H.t1]
  ·rw[zC];unfold Sett.put
   rcases hk with h|h|h|h <;> simp [h,H.h2]
  ·rw[zC];unfold Sett.put
   rcases hk with h|h|h|h <;> simp [h,H.t2]
  ·rw[zC,if_neg (by omega)];exact H.s1
  ·rw[zC,if_neg (by omega)];exact H.s2
  ·intro k h1 h2;rw[zC];split
   ·exact⟨hb,hl⟩
   ·exact H.b1 k h1 h2
 | go h hs e=>
  obtain⟨g1,g2,g3,g4,g5,g6,_,_⟩:=MB path r c.s.toNat;rw[DO path h,mL path h];refine zT H ⟨g6,g5,fun hw=>iR path hw _,?_,g2⟩ (tD hs).1 g1 (by omega)
  show(r.go path c.s.toNat).sts++_=_
  rw[g3,g2]
 | idle h h0 h1 e=>
  obtain⟨g1,g2,g3,g4,g5,g6,_,_⟩:=MB path r 1;obtain⟨k1,k2,k3,k4,k5,k6,_,_⟩:=IC (r.go path 1) (List.replicate c.cl.toNat (48,48,120));rw[ML path h,nL path h];refine zT H ⟨?_,?_,?_,?_,?_⟩ (by show 1∈stb;decide) ?_ (by omega)
  ·show Run.ck (Run.clk _ _)=_
   rw[k6,g6];simp [zs];omega
  ·show Run.wr (Run.clk _ _)=_
   rw[k5,g5]
  ·intro hw
   obtain⟨u1,u2,u3⟩:=iR path hw 1;obtain⟨v1,v2,v3⟩:=FV (r:=r.go path 1) (by rw[g5];exact hw) (List.replicate c.cl.toNat (48,48,120))
   refine⟨?_,?_,?_⟩
   ·show Run.tms (Run.clk _ _)=_
    rw[v1,u1];simp [zs]
   ·show Run.tdi (Run.clk _ _)=_
    rw[v2,u2];simp [zs]
   ·show Run.want (Run.clk _ _)=_
    rw[v3,u3];simp [xsL]
  ·show Run.sts (Run.clk _ _)++_=_
   rw[k3,k2,g3,g2]
  ·show Run.st (Run.clk _ _)=_
   rw[k2,g2]
  ·show Run.se (Run.clk _ _)=_
   rw[k1,g1]
 | scan h hs e=>
  obtain⟨q1,q2,q3,q4,q5,q6⟩:=DH hs;have hm:c.m.length≤c.b.length:=by rcases q6 with⟨_,h⟩|⟨_,h⟩ <;> simp [h]
  rw[NL path h];rcases h with h|h
  ·have hp:lA path pre c r.st=fC (KC path c r.st 11 12 r.se.h1.b r.se.t1.b r.se.e1.s.toNat):=by
    unfold lA;rw[if_neg (by omega),if_neg (by omega),if_pos h,H.h1,H.t1,H.e1]
   have hen:r.se.e1.s.toNat∈stb:=by rw[H.e1];exact(tD H.s1).1
   obtain⟨A,B⟩:=z6y path q1 hm r.se.h1.b r.se.t1.b 11 12 r.se.e1.s.toNat ((r.go path 11).ni+(r.se.h1.b++c.b++r.se.t1.b).length) (r.go path 11).nd (r.scnF path c) _ hp _ rfl (r.scn path c) (by unfold Run.scn;simp only[if_pos h])
   refine zT H A (by rw[hp];exact hen) B (by omega)
  ·have hp:lA path pre c r.st=fC (KC path c r.st 4 5 r.se.h2.b r.se.t2.b r.se.e2.s.toNat):=by
    unfold lA;rw[if_neg (by omega),if_neg (by omega),if_neg (by omega),if_pos h,H.h2,H.t2,H.e2]
   have hen:r.se.e2.s.toNat∈stb:=by rw[H.e2];exact(tD H.s2).1
   obtain⟨A,B⟩:=z6y path q1 hm r.se.h2.b r.se.t2.b 4 5 r.se.e2.s.toNat (r.go path 4).ni ((r.go path 4).nd+(r.se.h2.b++c.b++r.se.t2.b).length) (r.scnF path c) _ hp _ rfl (r.scn path c) (by
    unfold Run.scn;simp only[if_neg (show ¬c.k=7 by omega)])
   refine zT H A (by rw[hp];exact hen) B (by omega)
end Go.Am
end
section
/- A whole program;the bits that are shifted. -/
namespace Go.Am
variable (path:Nat→Nat→List UInt8)
theorem LT (ps qs:List Part):sA (ps++qs)=sA ps++sA qs:=by simp [sA]
theorem IZ:∀ (l:List Cmd) {pre:List Cmd} {r:Run} {ps:List Part} {state:Nat},RelV pre r ps state→JC l=0 →
 ((sA (ps++nA path pre state l)).length≤20000→∃st',RelV (pre++l) (r.play path l) (ps++nA path pre state l) st') ∧
 (20000<(sA (ps++nA path pre state l)).length→20000<(r.play path l).ck)
 | [],pre,r,ps,state,H,_=>by
  simp only[nA,List.append_nil,Run.play];exact⟨fun _=>⟨state,H⟩,fun h=>by rw[H.ck];exact h⟩
 | c::l,pre,r,ps,state,H,hc=>by
  unfold JC at hc;split at hc
  ·rename_i h1;exact absurd hc h1
  rename_i h1;have h0:NA c=0:=by omega
  have S:=z0m path H h0
  obtain⟨A,B⟩:=IZ l S hc;have e1:ps++[lA path pre c state]++nA path (pre++[c]) (lA path pre c state).st l=ps++nA path pre state (c::l):=by
   rw[List.append_assoc];rfl
  have e2:pre++[c]++l=pre++c::l:=by rw[List.append_assoc];rfl
  rw[e1]at A B;rw[e2]at A;unfold Run.play;have hlen:(sA ps).length≤(sA (ps++nA path pre state (c::l))).length:=by rw[LT,List.length_append];omega
  constructor
  ·intro h
   rw[if_neg (by rw[H.ck];omega)]
   exact A h
  ·intro h
   split
   ·assumption
   ·exact B h
def aC (s:Nat):List UInt8→List Nat
 | []=>[]
 | c::r=>s::aC (stW s c) r
theorem GH:∀ (l:List UInt8) (s:Nat) (r:List UInt8),aC s (l++r)=aC s l++aC (DC s l) r
 | [],s,r=>rfl
 | d::l,s,r=>by simp only[List.cons_append,aC,GH l];rfl
theorem OT {s:Nat}(h:stW s 48=s):∀n,aC s (zs n)=List.replicate n s∧DC s (zs n)=s
 | 0=>⟨rfl,rfl⟩
 | n+1=>by
  obtain⟨a,b⟩:=OT h n;have e:zs (n+1)=48::zs n:=rfl
  rw[e];constructor
  ·simp only[aC,h,a];rfl
  ·show DC (stW s 48) (zs n)=s
   rw[h,b]
structure PathOk:Prop where
 bits:∀a∈frS,∀b∈toS,EA (path a b)=true
 len:∀a∈frS,∀b∈toS,(path a b).length≤8
 ends:∀a∈frS,∀b∈toS,DC a (path a b)=b
 no11:∀a∈frS,∀b∈toS,(aC a (path a b)).count 11=0
 no4:∀a∈frS,∀b∈toS,(aC a (path a b)).count 4=0
theorem dD {a:Nat}(h:a∈stb):a∈frS:=by
 simp only[stb,List.mem_cons,List.not_mem_nil,or_false]at h;rcases h with rfl|rfl|rfl|rfl <;> decide
theorem NE {a:Nat}(h:a∈stb):a∈toS:=by
 simp only[stb,List.mem_cons,List.not_mem_nil,or_false]at h;rcases h with rfl|rfl|rfl|rfl <;> decide
structure RelN (r:Run) (ps:List Part) (state:Nat):Prop where
 en:DC 0 (sA ps)=state
 ni:r.ni=(aC 0 (sA ps)).count 11
 nd:r.nd=(aC 0 (sA ps)).count 4
variable {path}
theorem pO {r r':Run}{ps:List Part}{state:Nat}{p:Part}(N:RelN r ps state)(he:DC state p.tms=p.st)(h1:r'.ni=r.ni+(aC state p.tms).count 11)(h2:r'.nd=r.nd+(aC state p.tms).count 4):RelN r' (ps++[p]) p.st:=by
 obtain⟨q,_,_⟩:=z6C ps p;refine⟨?_,?_,?_⟩
 ·rw[q,OJ,N.en,he]
 ·rw[q,GH,N.en,List.count_append,h1,N.ni]
 ·rw[q,GH,N.en,List.count_append,h2,N.nd]
theorem IT (P:PathOk path){state sh ex en:Nat}(hs:state∈stb)(hx:(sh=11∧ex=12)∨(sh=4∧ex=5))(hen:en∈stb)(n:Nat)(hn:0<n) :
 DC state (path state sh++(zs (n-1)++[49])++path ex en)=en∧(aC state (path state sh++(zs (n-1)++[49])++path ex en)).count sh=n ∧
 ∀o,(o=11∨o=4)→o≠sh→(aC state (path state sh++(zs (n-1)++[49])++path ex en)).count o=0:=by
 have h1:sh∈toS:=by rcases hx with⟨rfl,rfl⟩|⟨rfl,rfl⟩ <;> decide
 have h2:ex∈frS:=by rcases hx with⟨rfl,rfl⟩|⟨rfl,rfl⟩ <;> decide
 have h3:stW sh 48=sh:=by rcases hx with⟨rfl,rfl⟩|⟨rfl,rfl⟩ <;> rfl
 have h4:stW sh 49=ex:=by rcases hx with⟨rfl,rfl⟩|⟨rfl,rfl⟩ <;> rfl
 obtain⟨v1,v2⟩:=OT h3 (n-1);have e1:=P.ends _ (dD hs) _ h1
 have e2:=P.ends _ h2 _ (NE hen)
 have ee:DC state (path state sh++(zs (n-1)++[49]))=ex:=by
  rw[OJ,e1,OJ,v2];exact h4
 have hv:aC state (path state sh++(zs (n-1)++[49])++path ex en)=aC state (path state sh)++(List.replicate (n-1) sh++[sh])++aC ex (path ex en):=by
  rw[GH,ee,GH,e1,GH,v1,v2];rfl
 have c0:∀o,(o=11∨o=4)→(aC state (path state sh)).count o=0∧(aC ex (path ex en)).count o=0:=by
  rintro o (rfl|rfl)
  ·exact⟨P.no11 _ (dD hs) _ h1,P.no11 _ h2 _ (NE hen)⟩
  ·exact⟨P.no4 _ (dD hs) _ h1,P.no4 _ h2 _ (NE hen)⟩
 refine⟨?_,?_,?_⟩
 ·rw[OJ,ee,e2]
 ·obtain⟨a,b⟩:=c0 sh (by rcases hx with⟨rfl,rfl⟩|⟨rfl,rfl⟩ <;> simp)
  rw[hv,List.count_append,List.count_append,List.count_append,a,b,List.count_replicate_self];simp;omega
 ·intro o ho hne
  obtain⟨a,b⟩:=c0 o ho;rw[hv,List.count_append,List.count_append,List.count_append,a,b,List.count_replicate,List.count_singleton];have:(sh==o)=false:=by simpa using Ne.symm hne
  simp [this]
theorem zkZ (P:PathOk path){pre:List Cmd}{r:Run}{ps:List Part}{state:Nat}(H:RelV pre r ps state)(N:RelN r ps state){c:Cmd}(hc:NA c=0) :
 RelN (r.step path c) (ps++[lA path pre c state]) (lA path pre c state).st:=by
 have hst:=H.st
 subst hst;have hf:=dD H.sb
 have setf:(1≤c.k∧c.k≤6)→RelN (r.step path c) (ps++[lA path pre c r.st]) (lA path pre c r.st).st:=fun h=>by
  rw[eJ path h,VF path h.2];exact pO N rfl rfl rfl
 cases YE hc with
 | set h hs e=>exact setf (by omega)
 | pad h0 h1 hb hl e=>exact setf (by omega)
 | go h hs e=>
  obtain⟨g1,g2,g3,g4,g5,g6,g7,g8⟩:=MB path r c.s.toNat;rw[DO path h,mL path h];have ht:=NE (tD hs).1
  refine pO N (P.ends _ hf _ ht) ?_ ?_
  ·show(r.go path c.s.toNat).ni=_
   rw[g7,P.no11 _ hf _ ht,Nat.add_zero]
  ·show(r.go path c.s.toNat).nd=_
   rw[g8,P.no4 _ hf _ ht,Nat.add_zero]
 | idle h h0 h1 e=>
  obtain⟨g1,g2,g3,g4,g5,g6,g7,g8⟩:=MB path r 1;obtain⟨k1,k2,k3,k4,k5,k6,k7,k8⟩:=IC (r.go path 1) (List.replicate c.cl.toNat (48,48,120));have ht:(1:Nat)∈toS:=by decide
  rw[ML path h,nL path h];have e1:=P.ends _ hf _ ht
  obtain⟨v1,v2⟩:=OT (s:=1) rfl c.cl.toNat;refine pO N (by show DC r.st (path r.st 1++zs c.cl.toNat)=1;rw[OJ,e1,v2]) ?_ ?_
  ·show Run.ni (Run.clk _ _)=r.ni+(aC r.st (path r.st 1++zs c.cl.toNat)).count 11
   rw[k7,g7,GH,e1,v1,List.count_append,P.no11 _ hf _ ht,List.count_replicate];rfl
  ·show Run.nd (Run.clk _ _)=r.nd+(aC r.st (path r.st 1++zs c.cl.toNat)).count 4
   rw[k8,g8,GH,e1,v1,List.count_append,P.no4 _ hf _ ht,List.count_replicate];rfl
 | scan h hs e=>
  obtain⟨q1,q2,q3,q4,q5,q6⟩:=DH hs;rw[NL path h];rcases h with h|h
  ·have hp:lA path pre c r.st=fC (KC path c r.st 11 12 r.se.h1.b r.se.t1.b r.se.e1.s.toNat):=by
    unfold lA;rw[if_neg (by omega),if_neg (by omega),if_pos h,H.h1,H.t1,H.e1]
   have hen:r.se.e1.s.toNat∈stb:=by rw[H.e1];exact(tD H.s1).1
   have hpos:0<(r.se.h1.b++c.b++r.se.t1.b).length:=by have:=List.length_pos_iff.2 q1;simp only[List.length_append];omega
   obtain⟨w1,w2,w3⟩:=IT P H.sb (.inl ⟨rfl,rfl⟩) hen (r.se.h1.b++c.b++r.se.t1.b).length hpos;rw[hp,lL path c r.st 11 12 _ _ _ q1];obtain⟨g1,g2,g3,g4,g5,g6,g7,g8⟩:=MB path r 11;refine pO N w1 ?_ ?_
   ·show(r.scn path c).ni=_
    unfold Run.scn;simp only[if_pos h];rw[(MB path _ _).2.2.2.2.2.2.1];show Run.ni (Run.clk _ _)=_
    rw[(IC _ _).2.2.2.2.2.2.1,w2];show(r.go path 11).ni+_=_
    rw[g7]
   ·show(r.scn path c).nd=_
    unfold Run.scn;simp only[if_pos h];rw[(MB path _ _).2.2.2.2.2.2.2];show Run.nd (Run.clk _ _)=_
    rw[(IC _ _).2.2.2.2.2.2.2,w3 4 (.inr rfl) (by decide)]
    show(r.go path 11).nd=_
    rw[g8,Nat.add_zero]
  ·have hp:lA path pre c r.st=fC (KC path c r.st 4 5 r.se.h2.b r.se.t2.b r.se.e2.s.toNat):=by
    unfold lA;rw[if_neg (by omega),if_neg (by omega),if_neg (by omega),if_pos h,H.h2,H.t2,H.e2]
   have hen:r.se.e2.s.toNat∈stb:=by rw[H.e2];exact(tD H.s2).1
   have hpos:0<(r.se.h2.b++c.b++r.se.t2.b).length:=by have:=List.length_pos_iff.2 q1;simp only[List.length_append];omega
   have h7:¬c.k=7:=by omega
   obtain⟨w1,w2,w3⟩:=IT P H.sb (.inr ⟨rfl,rfl⟩) hen (r.se.h2.b++c.b++r.se.t2.b).length hpos;rw[hp,lL path c r.st 4 5 _ _ _ q1];obtain⟨g1,g2,g3,g4,g5,g6,g7,g8⟩:=MB path r 4;refine pO N w1 ?_ ?_
   ·show(r.scn path c).ni=_
    unfold Run.scn;simp only[if_neg h7];rw[(MB path _ _).2.2.2.2.2.2.1];show Run.ni (Run.clk _ _)=_
    rw[(IC _ _).2.2.2.2.2.2.1,w3 11 (.inl rfl) (by decide)]
    show(r.go path 4).ni=_
    rw[g7,Nat.add_zero]
   ·show(r.scn path c).nd=_
    unfold Run.scn;simp only[if_neg h7];rw[(MB path _ _).2.2.2.2.2.2.2];show Run.nd (Run.clk _ _)=_
    rw[(IC _ _).2.2.2.2.2.2.2,w2];show(r.go path 4).nd+_=_
    rw[g8]
theorem reln0 (wr:Bool):RelN (gC wr) [] 0:=⟨rfl,rfl,rfl⟩
theorem z5m (P:PathOk path):∀(l:List Cmd) {pre:List Cmd} {r:Run} {ps:List Part} {state:Nat},RelV pre r ps state→RelN r ps state→JC l=0 →
 (sA (ps++nA path pre state l)).length≤20000→∃st',RelN (r.play path l) (ps++nA path pre state l) st'
 | [],pre,r,ps,state,H,N,_,_=>by
  simp only[nA,List.append_nil,Run.play];exact⟨state,N⟩
 | c::l,pre,r,ps,state,H,N,hc,h=>by
  unfold JC at hc;split at hc
  ·rename_i h1;exact absurd hc h1
  rename_i h1;have h0:NA c=0:=by omega
  have S:=z0m path H h0
  have S2:=zkZ P H N h0
  have e1:ps++[lA path pre c state]++nA path (pre++[c]) (lA path pre c state).st l=ps++nA path pre state (c::l):=by
   rw[List.append_assoc];rfl
  have A:=z5m P l S S2 hc (by rw[e1];exact h)
  rw[e1]at A;have hlen:(sA ps).length≤(sA (ps++nA path pre state (c::l))).length:=by rw[LT,List.length_append];omega
  unfold Run.play;rw[if_neg (by rw[H.ck];omega)]
  exact A
theorem z5k (P:PathOk path){l:List Cmd}(hc:JC l=0)(wr:Bool)(h:(sA (nA path [] 0 l)).length≤20000) :
 ((gC wr).play path l).ck=(sA (nA path [] 0 l)).length∧((gC wr).play path l).sts=(nA path [] 0 l).map Part.st ∧
 ((gC wr).play path l).ni=(aC 0 (sA (nA path [] 0 l))).count 11∧((gC wr).play path l).nd=(aC 0 (sA (nA path [] 0 l))).count 4 ∧
 (wr=true→((gC wr).play path l).tms=sA (nA path [] 0 l)∧((gC wr).play path l).tdi=EB (nA path [] 0 l)∧((gC wr).play path l).want=LE (nA path [] 0 l)):=by
 obtain⟨A,_⟩:=IZ path l (rel0 wr) hc;simp only[List.nil_append]at A;obtain⟨st',R⟩:=A h;obtain⟨_,N⟩:=z5m P l (rel0 wr) (reln0 wr) hc (by simpa using h)
 simp only[List.nil_append]at N;have hw:((gC wr).play path l).wr=wr:=by
  have:∀(l:List Cmd) (r:Run),(r.play path l).wr=r.wr:=by
   intro l;induction l with
   | nil=>intro r;rfl
   | cons c l ih=>
    intro r;unfold Run.play;split
    ·rfl
    ·rw[ih]
     by_cases h1:1≤c.k∧c.k≤6
     ·rw[eJ path h1]
     by_cases h2:c.k=7∨c.k=8
     ·rw[NL path h2]
      show(r.scn path c).wr=_
      unfold Run.scn;by_cases h7:c.k=7 <;> (simp only[h7,if_true,if_false];rw[(MB path _ _).2.2.2.2.1];show Run.wr (Run.clk _ _)=_;rw[(IC _ _).2.2.2.2.1];exact(MB path _ _).2.2.2.2.1)
     by_cases h3:c.k=9
     ·rw[ML path h3]
      show Run.wr (Run.clk _ _)=_
      rw[(IC _ _).2.2.2.2.1];exact(MB path _ _).2.2.2.2.1
     ·unfold Run.step
      rw[if_neg h1,if_neg h2,if_neg h3];exact(MB path _ _).2.2.2.2.1
  exact this l _
 exact⟨R.ck,R.sts,N.ni,N.nd,fun e=>R.sig (by rw[hw];exact e)⟩
end Go.Am
end
section
/- Devices on a chain,plainly: what is wrong with them,which register is selected,what a clock does. -/
set_option linter.all false
namespace Go.Am
structure TReg where
 name:List UInt8
 long:Int
 deriving DecidableEq
structure TIns where
 code:List UInt8
 reg:List UInt8
 deriving DecidableEq
structure TDev where
 name:List UInt8
 long:Int
 id:Int
 regs:List TReg
 ins:List TIns
 deriving DecidableEq
def mB:List UInt8:=[98,121,112,97,115,115]
def nB:List UInt8:=[105,100,99,111,100,101]
def SB (d:TDev)(n:List UInt8):Option TReg:=
 if n=mB then some ⟨mB,1⟩ else if n=nB∧d.id≠0 then some ⟨nB,32⟩ else d.regs.find? fun r=>r.name==n
def wF (d:TDev)(code:List UInt8):List UInt8:=(d.ins.foldl (fun n x=>if x.code=code then x.reg else n) mB)
def TB (d:TDev)(code:List UInt8):TReg:=
 if code=[] then(match SB d nB with|some r=>r|none=>⟨mB,1⟩) else(SB d (wF d code)).getD ⟨[],0⟩
structure DevOk (d:TDev):Prop where
 lo:2≤d.long
 hi:d.long≤32
 i0:0≤d.id
 i1:d.id≤4294967295
 code:∀x∈d.ins,x.code≠[]
 kn:∀x∈d.ins,(SB d x.reg).isSome=true
 nb:∀r∈d.regs,r.name≠mB
 ni:∀r∈d.regs,r.name≠nB
 rl:∀r∈d.regs,1≤r.long∧r.long≤1000000
 nd:(d.regs.map TReg.name).Nodup
 rn:d.regs.length≤1000
 im:d.ins.length≤1000
 nl:d.name.length≤1000
theorem zkC {d:TDev}(D:DevOk d)(code:List UInt8):(SB d (wF d code)).isSome=true:=by
 unfold wF;have:∀(l:List TIns) (n:List UInt8),(∀x∈l,(SB d x.reg).isSome=true)→(SB d n).isSome=true→(SB d (l.foldl (fun n x=>if x.code=code then x.reg else n) n)).isSome=true:=by
  intro l;induction l with
  | nil=>intro n _ h;exact h
  | cons x l ih=>
   intro n h hn;rw[List.foldl_cons];refine ih _ (fun y hy=>h y (List.mem_cons_of_mem _ hy)) ?_
   split
   ·exact h x List.mem_cons_self
   ·exact hn
 exact this _ _ D.kn rfl
def XC (id:Int):List UInt8:=(List.range 32).map fun i=>UInt8.ofNat (48+(id.toNat >>> i)%2)
def kD (d:TDev)(code:List UInt8):List UInt8:=
 let r:=TB d code
 if r.name=mB then [48] else if r.name=nB then XC d.id else zs r.long.toNat
abbrev PA:=List UInt8 × List UInt8
def bC (st:Nat)(d:TDev)(p:PA)(b:UInt8):PA×UInt8:=
 if st=0 then(([],p.2),b)
 else if st=3 then((p.1,kD d p.1),b)
 else if st=4∨st=11 then((p.1,p.2.tail++[b]),p.2.headD 0)
 else if st=10 then((p.1,49::zs (d.long-1).toNat),b)
 else if st=15 then((p.2,p.2),b)
 else(p,b)
def SD (st:Nat):List TDev→List PA→UInt8→List PA×UInt8
 | d::ds,p::ps,b=>let y:=bC st d p b;let z:=SD st ds ps y.2; (y.1::z.1,z.2)
 | _,_,b=>([],b)
def aG (st:Nat)(b:UInt8):UInt8:=if st=4∨st=11 then b else 122
def uB (ds:List TDev)(st:Nat)(ps:List PA):List (UInt8×UInt8)→List UInt8
 | []=>[]
 | (t,b)::r=>aG st (SD st ds ps b).2::uB ds (stW st t) (SD st ds ps b).1 r
def vE (ds:List TDev):List PA:=ds.map fun _=>([],[48])
def RH (ds:List TDev)(st:Nat)(ps:List PA):List (UInt8×UInt8)→Nat×List PA
 | []=>(st,ps)
 | (t,b)::r=>RH ds (stW st t) (SD st ds ps b).1 r
theorem z5H (ds:List TDev):∀(l r:List (UInt8×UInt8)) (st:Nat) (ps:List PA),uB ds st ps (l++r)=uB ds st ps l++uB ds (RH ds st ps l).1 (RH ds st ps l).2 r
 | [],r,st,ps=>rfl
 | (t,b)::l,r,st,ps=>by simp only[List.cons_append,uB,RH,z5H ds l r]
theorem VZ (ds:List TDev):∀(l:List (UInt8×UInt8)) (st:Nat) (ps:List PA),(uB ds st ps l).length=l.length
 | [],_,_=>rfl
 | _::l,_,_=>by simp only[uB,List.length_cons,VZ ds l]
def MC (c:UInt8):Prop:=c=48∨c=49
structure PortOk (p:PA):Prop where
 ne:p.2≠[]
 b:∀c∈p.2,MC c
 n:p.2.length≤1000000
 i:p.1.length≤1000000
theorem z7j {n:Nat}:∀c∈zs n,MC c:=fun c hc=>.inl (List.eq_of_mem_replicate hc)
theorem z62 {d:TDev}(D:DevOk d)(code:List UInt8):(TB d code).name=mB∨(TB d code).name=nB∨TB d code∈d.regs:=by
 unfold TB;have key:∀n r,SB d n=some r→r.name=mB∨r.name=nB∨r∈d.regs:=by
  intro n r h;unfold SB at h;split at h
  ·cases h;exact .inl rfl
  ·split at h
   ·cases h;exact .inr (.inl rfl)
   ·exact .inr (.inr (List.mem_of_find?_eq_some h))
 split
 ·cases h:SB d nB with
  | none=>exact .inl rfl
  | some r=>exact key _ _ h
 ·have:=zkC D code
  cases h:SB d (wF d code) with
  | none=>rw[h]at this;cases this
  | some r=>exact key _ _ h
theorem zaU {d:TDev}(D:DevOk d)(code:List UInt8):kD d code≠[]∧(∀c∈kD d code,MC c)∧(kD d code).length≤1000000:=by
 unfold kD;dsimp only;split
 ·exact⟨by simp,by simp [MC],by simp⟩
 ·split
  ·refine⟨fun e=>by have:=congrArg List.length e;simp [XC]at this,fun c hc=>?_,by simp [XC]⟩
   unfold XC at hc;obtain⟨i,_,rfl⟩:=List.mem_map.1 hc;rcases Nat.mod_two_eq_zero_or_one (d.id.toNat >>> i) with e|e <;> rw[e] <;> simp [MC]
  ·rename_i h1 h2
   rcases z62 D code with h|h|h
   ·exact absurd h h1
   ·exact absurd h h2
   ·have:=D.rl _ h
    refine⟨?_,z7j,by simp [zs];omega⟩
    intro e;have:=congrArg List.length e;simp [zs]at this;omega
theorem z8R {d:TDev}(D:DevOk d){p:PA}(P:PortOk p)(st:Nat){b:UInt8}(hb:MC b):PortOk (bC st d p b).1∧MC (bC st d p b).2:=by
 unfold bC;split
 ·exact⟨⟨P.ne,P.b,P.n,by simp⟩,hb⟩
 ·split
  ·obtain⟨c1,c2,c3⟩:=zaU D p.1
   exact⟨⟨c1,c2,c3,P.i⟩,hb⟩
  ·split
   ·refine⟨⟨by simp,fun c hc=>?_,?_,P.i⟩,?_⟩
    ·rcases List.mem_append.1 hc with h|h
     ·exact P.b c (List.mem_of_mem_tail h)
     ·rw[List.mem_singleton.1 h];exact hb
    ·have h1:=P.n
     have h2:=List.length_pos_iff.2 P.ne
     simp;omega
    ·have h1:=P.ne
     have h2:=P.b
     cases hp:p.2 with
     | nil=>exact absurd hp h1
     | cons x l=>rw[hp]at h2;exact h2 x List.mem_cons_self
   ·split
    ·have:=D.lo
     have:=D.hi;refine⟨⟨by simp,fun c hc=>?_,by simp [zs];omega,P.i⟩,hb⟩
     rcases List.mem_cons.1 hc with h|h
     ·exact .inr h
     ·exact z7j c h
    ·split
     ·exact⟨⟨P.ne,P.b,P.n,P.n⟩,hb⟩
     ·exact⟨P,hb⟩
def LC:List PA→UInt8→List PA × UInt8
 | p::ps,b=>let z:=LC ps (p.2.headD 0); ((p.1,p.2.tail++[b])::z.1,z.2)
 | [],b=>([],b)
def fG (st:Nat)(d:TDev)(p:PA):PA:=
 if st=0 then([],p.2) else if st=3 then(p.1,kD d p.1) else if st=10 then(p.1,49::zs (d.long-1).toNat) else if st=15 then(p.2,p.2) else p
def dB (st:Nat):List TDev→List PA→List PA
 | d::ds,p::ps=>fG st d p::dB st ds ps
 | _,_=>[]
theorem pV {st:Nat}(h:st=4∨st=11):∀{ds:List TDev} {ps:List PA} (b:UInt8),ps.length=ds.length→SD st ds ps b=LC ps b
 | [],[],b,_=>rfl
 | d::ds,p::ps,b,hl=>by
  have e:bC st d p b=((p.1,p.2.tail++[b]),p.2.headD 0):=by
   unfold bC;rw[if_neg (by omega),if_neg (by omega),if_pos h]
  simp only[SD,LC,e];rw[pV h _ (by simpa using hl)]
 | [],_::_,_,hl=>by simp at hl
 | _::_,[],_,hl=>by simp at hl
theorem kJ {st:Nat}(h:¬ (st=4∨st=11)):∀{ds:List TDev} {ps:List PA} (b:UInt8),ps.length=ds.length→SD st ds ps b=(dB st ds ps,b)
 | [],[],b,_=>rfl
 | d::ds,p::ps,b,hl=>by
  have e:bC st d p b=(fG st d p,b):=by
   unfold bC fG;by_cases h0:st=0
   ·rw[if_pos h0,if_pos h0]
   ·by_cases h3:st=3
    ·rw[if_neg h0,if_neg h0,if_pos h3,if_pos h3]
    ·by_cases h10:st=10
     ·rw[if_neg h0,if_neg h0,if_neg h3,if_neg h3,if_neg h,if_pos h10,if_pos h10]
     ·by_cases h15:st=15
      ·rw[if_neg h0,if_neg h0,if_neg h3,if_neg h3,if_neg h,if_neg h10,if_neg h10,if_pos h15,if_pos h15]
      ·rw[if_neg h0,if_neg h0,if_neg h3,if_neg h3,if_neg h,if_neg h10,if_neg h10,if_neg h15,if_neg h15]
  simp only[SD,dB,e];rw[kJ h _ (by simpa using hl)]
 | [],_::_,_,hl=>by simp at hl
 | _::_,[],_,hl=>by simp at hl
end Go.Am
end
section
/- The abstract machine,part 1: values,objects,operations. Plain definitions;nothing is proved of the program here. -/
namespace Go.Am
inductive PV where
 | int (k:IntKind) (n:Int)
 | bool (b:Bool)
 | str (s:List UInt8)
 | sl (sh:Option Nat) (xs:List PV)
 | agg (cs:List PV)
 | nilp
 | unk            -- a whole number,it is not said which
 deriving Inhabited
inductive AV where
 | p (v:PV)
 | own (id g off len:Nat)
 | sl0 (sh:Option Nat)
 | ref (id off:Nat)
 | rref (id g i off:Nat)
 | vp (v:PV)
 | nilp|nilm|nilf|nili|ifc
 | mp (id:Nat)
 | it (id:Nat)
 | fn (f:Nat) (caps:List AV)
 | agg (cs:List AV)
 | tup (vs:List AV)
 | anyb           -- true or false
 | skp            -- what an operation that was passed over leaves
 | und
 | anyp           -- a pointer,it is not said where tov
 | bt (k t id g:Nat)   -- (3: a slice over a row of rows,of a shape t;4: the address of its cell t;g its elements then) of a builder: 0 its nil address (the block's type t);1 its buffer;2 the buffer's first byte
 deriving Inhabited
structure ME where
 key:PV
 val:AV
 born:Nat
 deriving Inhabited
inductive Obj where
 | box (cs:List AV)
 | row (sh:Option Nat) (xs:List PV) (fz:Nat)
 | amap (es:List ME) (clock:Nat)
 | iter (m:Option Nat) (since:Nat) (seen:List Nat) (last:Nat)
 | arow (sh:Option Nat) (cs:List AV)   -- a row whose elements may name rows: its cells
 deriving Inhabited
abbrev Esc:=List (Nat × Nat)
abbrev aA:=List Obj
abbrev Sh:=Option Nat
def PV.sc:PV→Bool
 | .agg _=>false
 | _=>true
def PV.cells:PV→List PV
 | .agg cs=>cs
 | v=>[v]
def AV.sc:AV→Bool
 | .p v=>v.sc
 | .agg _ | .tup _ | .skp | .und | .anyb=>false
 | _=>true
def AV.cells:AV→Option (List AV)
 | .p (.agg cs)=>if cs.all PV.sc then some (cs.map .p) else none
 | .p v=>some [.p v]
 | .agg cs=>if cs.all AV.sc then some cs else none
 | .tup _ | .skp | .und | .anyb=>none
 | x=>some [x]
def unp:List AV→Option (List PV)
 | []=>some []
 | .p v::r=>(unp r).map (v :: ·)
 | _::_=>none
def mkA (cs:List AV):AV:=match unp cs with
 | some vs=>.p (.agg vs)
 | none=>.agg cs
def PV.shp:Sh→PV→Bool
 | none,v=>v.sc
 | some n,.agg cs=>cs.length==n&&cs.all PV.sc
 | some _,_=>false
def cut (sh:Sh)(off:Nat)(cs:List AV):Option AV:=match sh with
 | none=>cs[off]?
 | some n=>if off+n≤cs.length then some (mkA ((cs.drop off).take n)) else none
def lB (sh:Sh)(off:Nat):PV→Option PV
 | .agg cs=>match sh with
  | none=>(cs[off]?).bind fun x=>if x.sc then some x else none
  | some n=>if off+n≤cs.length then some (.agg ((cs.drop off).take n)) else none
 | v=>match sh,off with
  | none,0=>some v
  | _,_=>none
def splice {α:Type}(cs:List α)(off:Nat)(vs:List α):List α:=cs.take off++vs++cs.drop (off+vs.length)
mutual
def AV.top:AV→Nat
 | .own id _ _ _ | .ref id _ | .rref id _ _ _ | .mp id | .it id | .bt _ _ id _=>id+1
 | .fn _ cs | .agg cs | .tup cs=>AV.tops cs
 | _=>0
def AV.tops:List AV→Nat
 | []=>0
 | v::r=>max v.top (AV.tops r)
end
def Obj.top:Obj→Nat
 | .box cs=>AV.tops cs
 | .row _ _ _=>0
 | .amap es _=>AV.tops (es.map ME.val)
 | .iter m _ _ _=>match m with|some i=>i+1|none=>0
 | .arow _ cs=>AV.tops cs
def win {α:Type}(xs:List α)(off len:Nat):List α:=(xs.drop off).take len
def rd (h:aA):AV→Option (Sh×List PV)
 | .p (.sl sh xs)=>some (sh,xs)
 | .sl0 sh=>some (sh,[])
 | .own id g off len=>match h[id]? with
  | some (.row sh xs _)=>if g=xs.length∧off+len≤xs.length then some (sh,win xs off len) else none
  | _=>none
 | _=>none
def frz (h:aA)(id k:Nat):aA:=match h[id]? with
 | some (.row sh xs fz)=>h.set id (.row sh xs (max fz k))
 | _=>h
def gA:Sh→Nat
 | none=>1
 | some n=>n
def HF (n:Nat):Nat→List PV→List PV
 | 0,_=>[]
 | f+1,vs=>.agg (vs.take n)::HF n f (vs.drop n)
def NC (sh:Sh)(g:Nat)(vs:List PV):List PV:=match sh with
 | none=>vs
 | some n=>HF n g vs
def mO (h:aA):AV→Option (PV×aA)
 | .p v=>some (v,h)
 | .sl0 sh=>some (.sl sh [],h)
 | .nilp=>some (.nilp,h)
 | .own id g off len=>(rd h (.own id g off len)).map fun y=>(.sl y.1 y.2,frz h id (off+len))
 | _=>none
def vH (h:aA):List AV→Option (List PV×aA)
 | []=>some ([],h)
 | v::r=>match mO h v with
  | some (x,h1)=>match vH h1 r with
   | some (xs,h2)=>some (x::xs,h2)
   | none=>none
  | none=>none
def purA (h:aA)(id g:Nat):Option (PV×aA):=match h[id]? with
 | some (.arow sh cs)=>if g*gA sh=cs.length then match vH h cs with
  | some (vs,h1)=>some (.sl sh (NC sh g vs),frz (h1.set id (.row sh (NC sh g vs) 0)) id (0+g))
  | none=>none
  else none
 | _=>none
mutual
def pur (h:aA):AV→Option (PV×aA)
 | .p v=>some (v,h)
 | .sl0 sh=>some (.sl sh [],h)
 | .nilp=>some (.nilp,h)
 | .own id g off len=>(rd h (.own id g off len)).map fun y=>(.sl y.1 y.2,frz h id (off+len))
 | .bt k _ id g=>bif Nat.beq k 3 then purA h id g else none
 | .agg cs=>match oL h cs with
  | some (vs,h')=>some (.agg vs,h')
  | none=>none
 | _=>none
def oL (h:aA):List AV→Option (List PV×aA)
 | []=>some ([],h)
 | v::r=>match pur h v with
  | some (x,h1)=>match oL h1 r with
   | some (xs,h2)=>some (x::xs,h2)
   | none=>none
  | none=>none
end
def PV.eq1:PV→PV→Option Bool
 | .int k a,.int k' b=>if k=k' then some (decide (a=b)) else none
 | .bool a,.bool b=>some (decide (a=b))
 | .str a,.str b=>some (decide (a=b))
 | _,_=>none
def eqs:List PV→List PV→Option Bool
 | [],[]=>some true
 | a::asv,b::bs=>match PV.eq1 a b with
  | some x=>(eqs asv bs).map (x && ·)
  | none=>none
 | _,_=>none
def PV.intP:PV→Bool
 | .int _ _ | .unk=>true
 | _=>false
def PV.kind:PV→Nat
 | .int _ _=>0
 | .bool _=>1
 | .str _=>2
 | _=>3
def PV.eqv:PV→PV→Option Bool
 | .agg asv,.agg bs=>eqs asv bs
 | a,b=>PV.eq1 a b
def lH (k:IntKind)(a b:Int):Int:=k.wrap (BitVec.ofInt k.bits a &&& BitVec.ofInt k.bits b).toNat
def ior (k:IntKind)(a b:Int):Int:=k.wrap (BitVec.ofInt k.bits a ||| BitVec.ofInt k.bits b).toNat
def IN (k:IntKind)(a b:Int):Int:=k.wrap (BitVec.ofInt k.bits a ^^^ BitVec.ofInt k.bits b).toNat
def HN (k:IntKind)(a b:Int):Int:=k.wrap (BitVec.ofInt k.bits a &&& ~~~(BitVec.ofInt k.bits b)).toNat
def ishl (k:IntKind)(a b:Int):Int:=k.wrap (a*2^(min b.toNat k.bits))
def DI (k:IntKind)(a b:Int):Int:=a.fdiv (2^(min b.toNat k.bits))
def jD (op:BinOp)(k:IntKind)(a b:Int):Option PV:=match op with
 | .add=>some (.int k (k.wrap (a+b)))
 | .sub=>some (.int k (k.wrap (a-b)))
 | .mul=>some (.int k (k.wrap (a*b)))
 | .quo=>if b=0 then none else some (.int k (k.wrap (a.tdiv b)))
 | .rem=>if b=0 then none else some (.int k (a.tmod b))
 | .and=>some (.int k (lH k a b))
 | .or=>some (.int k (ior k a b))
 | .xor=>some (.int k (IN k a b))
 | .andNot=>some (.int k (HN k a b))
 | .eql=>some (.bool (decide (a=b)))
 | .neq=>some (.bool (!decide (a=b)))
 | .lss=>some (.bool (decide (a<b)))
 | .leq=>some (.bool (decide (a≤b)))
 | .gtr=>some (.bool (decide (b<a)))
 | .geq=>some (.bool (decide (b≤a)))
 | _=>none
def CB:Nat:=2^46
def RA:Nat:=2^38
def QH (op:BinOp)(a b:List UInt8):Option PV:=match op with
 | .add=>if a.length+b.length≤CB then some (.str (a++b)) else none
 | .eql=>some (.bool (decide (a=b)))
 | .neq=>some (.bool (!decide (a=b)))
 | .lss=>some (.bool (Op.bytesLess a b))
 | .leq=>some (.bool (Op.bytesLess a b||decide (a=b)))
 | .gtr=>some (.bool (!(Op.bytesLess a b||decide (a=b))))
 | .geq=>some (.bool (!Op.bytesLess a b))
 | _=>none
def PB (op:BinOp):PV→PV→Option PV
 | .int k a,.int k' b=>match op with
  | .shl=>if b<0 then none else some (.int k (ishl k a b))
  | .shr=>if b<0 then none else some (.int k (DI k a b))
  | _=>if k=k' then jD op k a b else none
 | .str a,.str b=>QH op a b
 | _,_=>none
def aun (op:UnOp):PV→Option PV
 | .int k n=>match op with
  | .neg=>some (.int k (k.wrap (0-n)))
  | .xor=>some (.int k (k.wrap (BitVec.ofInt k.bits (if k.signed then -1 else k.max) ^^^ BitVec.ofInt k.bits n).toNat))
  | _=>none
 | .bool b=>match op with
  | .not=>some (.bool !b)
  | _=>none
 | _=>none
def WL:PV→PV→Option PV
 | .int k x,.int k' y=>if k=k' then some (.int k (max x y)) else none
 | _,_=>none
def XL:PV→PV→Option PV
 | .int k x,.int k' y=>if k=k' then some (.int k (min x y)) else none
 | _,_=>none
def PV.key:PV→Bool
 | .int _ _ | .str _ | .bool _=>true
 | .agg cs=>cs.all fun | .int _ _ | .str _ | .bool _=>true|_=>false
 | _=>false
def rC (k:PV):List ME→Option (Option Nat)
 | []=>some none
 | e::es=>match PV.eqv k e.key with
  | some true=>some (some 0)
  | some false=>(rC k es).map (·.map (· + 1))
  | none=>none
end Go.Am
end
section
/- Where the bits of scans lie in the signals: both ways;what comes out of scans;failed scans. Plainly. -/
set_option linter.all false
namespace Go.Am
variable (path:Nat→Nat→List UInt8)
def QC (c:Cmd):Bool:=c.k==7||c.k==8
theorem nH {c:Cmd}:QC c=true↔c.k=7∨c.k=8:=by simp [QC]
def lF:List Cmd→Nat→List Cmd→Nat→List Nat
 | _,_,[],_=>[]
 | pre,state,c::l,at_=>(if QC c=true then at_+(lA path pre c state).fr else 0)::lF (pre++[c]) (lA path pre c state).st l (at_+(lA path pre c state).tms.length)
theorem z5f {pre:List Cmd}{c:Cmd}{state:Nat}(h:c.k=7):(lA path pre c state).fr=(path state 11).length+(BA pre 3).b.length∧(lA path pre c state).fr+c.b.length≤(lA path pre c state).tms.length:=by
 unfold lA;rw[if_neg (by omega),if_neg (by omega),if_pos h]
 refine⟨rfl,?_⟩;show(path state 11).length+(BA pre 3).b.length+c.b.length≤(path state 11++zs (((BA pre 3).b++c.b++(BA pre 4).b).length-1)++[49]++_).length
 simp only[List.length_append,zs,List.length_replicate,List.length_cons,List.length_nil];omega
theorem z5g {pre:List Cmd}{c:Cmd}{state:Nat}(h:c.k=8):(lA path pre c state).fr=(path state 4).length+(BA pre 5).b.length∧(lA path pre c state).fr+c.b.length≤(lA path pre c state).tms.length:=by
 unfold lA;rw[if_neg (by omega),if_neg (by omega),if_neg (by omega),if_pos h]
 refine⟨rfl,?_⟩;show(path state 4).length+(BA pre 5).b.length+c.b.length≤(path state 4++zs (((BA pre 5).b++c.b++(BA pre 6).b).length-1)++[49]++_).length
 simp only[List.length_append,zs,List.length_replicate,List.length_cons,List.length_nil];omega
theorem nK (r:Run)(tov:Nat):(r.go path tov).frs=r.frs:=(MB path r tov).2.2.2.1
theorem zkB (r:Run)(c:Cmd):(r.scn path c).frs=r.frs:=by
 unfold Run.scn;by_cases h7:c.k=7
 ·simp only[h7,if_true]
  rw[nK];show(Run.clk _ _).frs=_
  rw[(IC _ _).2.2.2.1];exact nK path r 11
 ·simp only[h7,if_false]
  rw[nK];show(Run.clk _ _).frs=_
  rw[(IC _ _).2.2.2.1];exact nK path r 4
theorem zkX {pre:List Cmd}{r:Run}{ps:List Part}{state:Nat}(H:RelV pre r ps state){c:Cmd}(hc:NA c=0) :
 (r.step path c).frs=r.frs++[if QC c=true then r.ck+(lA path pre c state).fr else 0]:=by
 have hst:=H.st
 have hk:(1≤c.k∧c.k≤6)∨(c.k=7∨c.k=8)∨c.k=9∨c.k=10:=by
  unfold NA at hc;by_cases a:c.k=1∨c.k=2∨c.k=10
  ·omega
  ·rw[if_neg a]at hc
   by_cases b:c.k=9
   ·omega
   ·rw[if_neg b]at hc
    by_cases d:c.k=7∨c.k=8
    ·omega
    ·rw[if_neg d]at hc
     by_cases e:3≤c.k∧c.k≤6
     ·omega
     ·rw[if_neg e]at hc;cases hc
 rcases hk with h|h|h|h
 ·rw[eJ path h,if_neg (by rw[nH];omega)]
 ·rw[NL path h,if_pos (nH.2 h)]
  show(r.scn path c).frs++[r.scnF path c]=_
  rw[zkB];congr 2
  unfold Run.scnF;rcases h with h|h
  ·rw[if_pos h,(z5f path h).1,(MB path r 11).2.2.2.2.2.1,hst,H.h1];omega
  ·rw[if_neg (by omega),(z5g path h).1,(MB path r 4).2.2.2.2.2.1,hst,H.h2];omega
 ·rw[ML path h,if_neg (by rw[nH];omega)]
  show(Run.clk _ _).frs++[0]=_
  rw[(IC _ _).2.2.2.1,nK]
 ·rw[DO path h,if_neg (by rw[nH];omega)]
  show(r.go path _).frs++[0]=_
  rw[nK]
theorem z5l:∀ (l:List Cmd) {pre:List Cmd} {r:Run} {ps:List Part} {state:Nat},RelV pre r ps state→JC l=0 →
 (sA (ps++nA path pre state l)).length≤20000→(r.play path l).frs=r.frs++lF path pre state l r.ck
 | [],pre,r,ps,state,H,_,_=>by simp [Run.play,lF]
 | c::l,pre,r,ps,state,H,hc,h=>by
  unfold JC at hc;split at hc
  ·rename_i h1;exact absurd hc h1
  rename_i h1;have h0:NA c=0:=by omega
  have S:=z0m path H h0
  have e1:ps++[lA path pre c state]++nA path (pre++[c]) (lA path pre c state).st l=ps++nA path pre state (c::l):=by
   rw[List.append_assoc];rfl
  have hlen:(sA ps).length≤(sA (ps++nA path pre state (c::l))).length:=by rw[LT,List.length_append];omega
  have A:=z5l l S hc (by rw[e1];exact h)
  unfold Run.play;rw[if_neg (by rw[H.ck];omega),A,zkX path H h0]
  have ck:(r.step path c).ck=r.ck+(lA path pre c state).tms.length:=by
   rw[S.ck,H.ck,LT,List.length_append];simp [sA]
  rw[ck,List.append_assoc];rfl
def TC:List Cmd→Nat→List Cmd→Nat→List UInt8→List (List UInt8)
 | _,_,[],_,_=>[]
 | pre,state,c::l,at_,R=>(if QC c=true then win R (at_+(lA path pre c state).fr) c.b.length else [])::TC (pre++[c]) (lA path pre c state).st l (at_+(lA path pre c state).tms.length) R
theorem PZ:∀ (l:List Cmd) (pre:List Cmd) (state at_:Nat) (R:List UInt8),(TC path pre state l at_ R).length=l.length
 | [],_,_,_,_=>rfl
 | c::l,pre,state,at_,R=>by simp [TC,PZ l]
theorem z3N:∀ (l:List Cmd) (pre:List Cmd) (state at_:Nat),(lF path pre state l at_).length=l.length
 | [],_,_,_=>rfl
 | c::l,pre,state,at_=>by simp [lF,z3N l]
theorem z3M {R:List UInt8}:∀(l:List Cmd) {pre:List Cmd} {state at_:Nat},at_+(sA (nA path pre state l)).length≤R.length→∀k (hk:k<l.length),QC l[k]=true →
 ∃f,(lF path pre state l at_)[k]?=some f∧f+l[k].b.length≤R.length∧(TC path pre state l at_ R)[k]?=some (win R f l[k].b.length)
 | [],pre,state,at_,h,k,hk,_=>by simp at hk
 | c::l,pre,state,at_,h,0,hk,hs=>by
  have hs:QC c=true:=hs
  have hl:(sA (nA path pre state (c::l))).length=(lA path pre c state).tms.length+(sA (nA path (pre++[c]) (lA path pre c state).st l)).length:=by
   show(sA (lA path pre c state::_)).length=_
   simp [sA]
  refine⟨at_+(lA path pre c state).fr,?_,?_,?_⟩
  ·simp [lF,hs]
  ·have:(lA path pre c state).fr+c.b.length≤(lA path pre c state).tms.length:=by
    rcases nH.1 hs with e|e
    ·exact(z5f path e).2
    ·exact(z5g path e).2
   simp only[List.getElem_cons_zero];omega
  ·simp [TC,hs]
 | c::l,pre,state,at_,h,k+1,hk,hs=>by
  have hl:(sA (nA path pre state (c::l))).length=(lA path pre c state).tms.length+(sA (nA path (pre++[c]) (lA path pre c state).st l)).length:=by
   show(sA (lA path pre c state::_)).length=_
   simp [sA]
  obtain⟨f,a1,a2,a3⟩:=z3M (R:=R) l (pre:=pre++[c]) (state:=(lA path pre c state).st) (at_:=at_+(lA path pre c state).tms.length) (by omega) k (by simpa using hk) (by simpa using hs)
  exact⟨f,by simpa [lF] using a1,by simpa using a2,by simpa [TC] using a3⟩
theorem z54 {R:List UInt8}:∀(l:List Cmd) {pre:List Cmd} {state at_:Nat} (k:Nat) (hk:k<l.length),QC l[k]=false→(TC path pre state l at_ R)[k]?=some []
 | [],pre,state,at_,k,hk,_=>by simp at hk
 | c::l,pre,state,at_,0,hk,hs=>by
  have hs:QC c=false:=hs
  simp [TC,hs]
 | c::l,pre,state,at_,k+1,hk,hs=>by
  simpa [TC] using z54 l k (by simpa using hk) (by simpa using hs)
end Go.Am
end
section
/- The numbers of the functions in this translation. -/
namespace Go.Am
abbrev ZD:Nat:=129
abbrev dH:Nat:=88
abbrev nX:Nat:=115
abbrev z2D:Nat:=163
abbrev zD:Nat:=117
abbrev oX:Nat:=200
abbrev WB:Nat:=103
abbrev z2E:Nat:=120
abbrev z2F:Nat:=169
abbrev z2G:Nat:=75
abbrev z2H:Nat:=234
abbrev z2I:Nat:=229
abbrev z2J:Nat:=170
abbrev z2K:Nat:=204
abbrev z2L:Nat:=232
abbrev z2M:Nat:=249
abbrev z2N:Nat:=256
abbrev RM:Nat:=230
abbrev z2O:Nat:=205
abbrev z2P:Nat:=121
abbrev UQ:Nat:=122
abbrev z2Q:Nat:=206
abbrev z2R:Nat:=233
abbrev z2S:Nat:=250
abbrev pX:Nat:=226
abbrev qX:Nat:=225
abbrev rX:Nat:=246
abbrev z2T:Nat:=194
abbrev z2U:Nat:=193
abbrev z2V:Nat:=112
abbrev z2W:Nat:=72
abbrev z2X:Nat:=155
abbrev z2Y:Nat:=223
abbrev z2Z:Nat:=156
abbrev z3a:Nat:=159
abbrev z3b:Nat:=158
abbrev z3c:Nat:=157
abbrev z3d:Nat:=247
abbrev VQ:Nat:=238
abbrev cH:Nat:=184
abbrev WQ:Nat:=240
abbrev z2C:Nat:=239
abbrev TQ:Nat:=254
abbrev XQ:Nat:=251
abbrev TM:Nat:=217
abbrev eH:Nat:=138
abbrev z3e:Nat:=73
abbrev z3f:Nat:=162
abbrev z3g:Nat:=114
abbrev z3h:Nat:=113
abbrev z3i:Nat:=161
abbrev YQ:Nat:=6
abbrev nI:Nat:=34
abbrev oI:Nat:=32
abbrev pI:Nat:=30
abbrev z3j:Nat:=76
abbrev qI:Nat:=78
abbrev UM:Nat:=8
abbrev NF:Nat:=36
abbrev qE:Nat:=33
abbrev fH:Nat:=44
abbrev OF:Nat:=10
abbrev gH:Nat:=35
abbrev VM:Nat:=141
abbrev WM:Nat:=15
abbrev XM:Nat:=52
abbrev UJ:Nat:=50
abbrev iH:Nat:=53
abbrev YM:Nat:=95
abbrev ZM:Nat:=140
abbrev aN:Nat:=144
abbrev cN:Nat:=54
abbrev dN:Nat:=94
abbrev z3k:Nat:=255
abbrev fN:Nat:=177
abbrev gN:Nat:=176
abbrev z3l:Nat:=171
abbrev sX:Nat:=231
abbrev VJ:Nat:=51
abbrev WJ:Nat:=143
abbrev rI:Nat:=93
abbrev z3m:Nat:=160
abbrev z3n:Nat:=145
abbrev tX:Nat:=196
abbrev iN:Nat:=20
abbrev z3o:Nat:=248
abbrev sI:Nat:=79
abbrev jN:Nat:=186
abbrev XJ:Nat:=139
abbrev z3p:Nat:=195
abbrev z3q:Nat:=187
abbrev uX:Nat:=224
abbrev z3r:Nat:=165
abbrev z3s:Nat:=164
abbrev z3t:Nat:=74
abbrev z3u:Nat:=198
abbrev z3v:Nat:=167
abbrev z3w:Nat:=197
abbrev z3x:Nat:=116
abbrev z3y:Nat:=228
abbrev z3z:Nat:=202
abbrev vX:Nat:=203
abbrev z30:Nat:=201
abbrev z31:Nat:=168
abbrev z32:Nat:=118
abbrev z33:Nat:=166
abbrev z34:Nat:=199
abbrev z35:Nat:=119
abbrev YJ:Nat:=227
abbrev ZJ:Nat:=142
abbrev kN:Nat:=185
abbrev mN:Nat:=92
abbrev MA:Nat:=26
abbrev tI:Nat:=91
abbrev nN:Nat:=178
abbrev oN:Nat:=130
abbrev jH:Nat:=89
abbrev pN:Nat:=128
abbrev aK:Nat:=172
abbrev qN:Nat:=90
abbrev rN:Nat:=127
abbrev sN:Nat:=173
abbrev tN:Nat:=175
abbrev uN:Nat:=210
abbrev uI:Nat:=207
abbrev HE:Nat:=179
abbrev PF:Nat:=208
abbrev vN:Nat:=212
abbrev bK:Nat:=213
abbrev vI:Nat:=211
abbrev wN:Nat:=235
abbrev xN:Nat:=174
abbrev yN:Nat:=209
abbrev zN:Nat:=236
abbrev sG:Nat:=63
abbrev z36:Nat:=61
abbrev xI:Nat:=37
abbrev cK:Nat:=80
abbrev AN:Nat:=81
abbrev kH:Nat:=11
abbrev tG:Nat:=49
abbrev yI:Nat:=82
abbrev dK:Nat:=104
abbrev QF:Nat:=64
abbrev BN:Nat:=47
abbrev eK:Nat:=46
abbrev uG:Nat:=126
abbrev vG:Nat:=124
abbrev fK:Nat:=85
abbrev kF:Nat:=125
abbrev iK:Nat:=152
abbrev zI:Nat:=84
abbrev CN:Nat:=77
abbrev jK:Nat:=151
abbrev kK:Nat:=105
def bldT:Nat:=115
def bldE:Nat:=5
end Go.Am
end
section
/- The abstract machine,part 2: operations,code,and what it means that code ends well (AW),that a call ends well (bA). -/
namespace Go.Am
inductive Opd where
 | t (n:Nat)
 | c (v:AV)
 | f (id:Nat)
 | g (n:Nat)
 deriving Inhabited
inductive Cv where
 | i (k:IntKind)
 | s2b|b2s|r2s|same
 deriving Inhabited
inductive AO where
 | mv (x:Opd)
 | pick (c a b:Opd)
 | alloc (z:List AV)
 | box (x:Opd)
 | build (z:List AV) (ps:List (Nat×Nat×Opd))
 | bsl (own:Bool) (sh:Sh) (n:Nat) (z:PV) (ps:List (Nat×Opd))
 | load (sh:Sh) (a:Opd)
 | store (sh:Sh) (a v:Opd)
 | nilchk (x:Opd)
 | bin (op:BinOp) (x y:Opd)
 | eqa (ks:List Nat) (neg:Bool) (x y:Opd)
 | isnil (k:Nat) (neg:Bool) (x:Opd)
 | mkif (x:Opd)
 | un (op:UnOp) (x:Opd)
 | conv (c:Cv) (x:Opd)
 | mkfn (f:Nat) (caps:List Opd)
 | mkmap
 | mksl (sh:Sh) (z:PV) (len cap:Opd)
 | slice (sh:Sh) (x:Opd) (lo hi mx:Option Opd)
 | slstr (x:Opd) (lo hi:Option Opd)
 | faddr (off:Nat) (sh:Sh) (x:Opd)
 | field (off:Nat) (sh:Sh) (x:Opd)
 | iaddr (sh:Sh) (x i:Opd)
 | iaddra (n:Nat) (sh:Sh) (x i:Opd)
 | idxa (n:Nat) (sh:Sh) (x i:Opd)
 | idxs (x i:Opd)
 | look (kk:Sh×List Nat) (ok:Bool) (z:AV) (x k:Opd)
 | mupd (kk:Sh×List Nat) (m k v:Opd)
 | ment (kk:Sh×List Nat) (z:AV) (m k:Opd)
 | estore (m s v:Opd)
 | mdel (kk:Sh×List Nat) (m k:Opd)
 | ext (x:Opd) (i:Nat)
 | len (x:Opd)
 | lens (x:Opd)
 | lenm (x:Opd)
 | app (sh:Sh) (s x:Opd)
 | copy (sh:Sh) (d s:Opd)
 | clr (sh:Sh) (z:PV) (x:Opd)
 | mx (xs:List Opd)
 | mn (xs:List Opd)
 | mrange (x:Opd)
 | mnext (sh:Option Sh) (xs:List Opd)   -- more ways than one: a step of a range (none);an append behind a cut (some)
 | mentry (it:Opd)
 | new0 (sh:Sh)                        -- a nil slice that will be appended tov: an empty row
 | uns (k t:Nat) (xs:List Opd)     -- of a builder (zF)
 | call (f:Nat) (args:List Opd)
 | callv (f:Opd) (args:List Opd)
 deriving Inhabited
structure AOp where
 dst:Option Nat
 guard:Option (Nat×Bool)
 op:AO
 deriving Inhabited
structure DOp where
 op:AOp
 rd:List Nat      -- the slots that it reads
 eff:Bool
 early:List Nat
 again:List Nat
 deriving Inhabited
inductive ACode where
 | skip
 | reg (ops:List AOp) (keep:Option (List Nat))
 | draw (ds:List DOp) (keep:Option (List Nat))
 | seq (a b:ACode)
 | cond (c:Opd) (a b:ACode)
 | condu (c:Opd) (a b:ACode)       -- the condition may be unknown: both ways
 | det (b:ACode)                     -- whichever way is gone,the end is one
 | block (id:Nat) (b:ACode)
 | loop (b:ACode)
 | scope (b:ACode)
 | pr (keep:List Nat) (b:ACode)     -- only these slots are kept
 | exit (id:Nat)
 | ret
 | bad
 deriving Inhabited
inductive ARes where
 | t (n:Nat)
 | cell (a:Nat) (sh:Sh)
 deriving Inhabited
structure AFun where
 nparams:Nat
 results:List ARes
 body:ACode
 byref:Bool      -- slices of the caller's own come asv they are
 keep:Bool       -- rows made here and handed back stay rows
 deriving Inhabited
structure St where
 env:List (Nat×AV)
 h:aA
 esc:Esc
def kA:List (Nat × AV)→Nat→AV
 | [],_=>.und
 | (k,v)::r,n=>if k=n then v else kA r n
def Opd.ev (gl:Nat→Option PV)(e:List (Nat × AV)):Opd→AV
 | .t n=>kA e n
 | .c v=>v
 | .f id=>.fn id []
 | .g n=>match gl n with|some v=>.vp v|none=>.und
def qC (id:Nat)(v:AV):Esc:=if id<v.top then [(id,v.top)] else []
def BG:List AV→Bool
 | [_,.bt 1 _ _ _]=>true
 | _=>false
def MF (id:Nat)(cs:List AV)(v:AV):Esc:=bif BG cs&&decide (v.top≤AV.tops cs) then [] else qC id v
def xG (ev:Opd→AV):List (Nat×Nat×Opd)→List AV→Option (List AV)
 | [],cs=>some cs
 | (off,n,x)::r,cs=>match (ev x).cells with
  | some vs=>if vs.length=n∧off+n≤cs.length then xG ev r (splice cs off vs) else none
  | none=>none
def yG (ev:Opd→AV)(sh:Sh):List (Nat×Opd)→aA→List PV→Option (List PV×aA)
 | [],h,xs=>some (xs,h)
 | (i,x)::r,h,xs=>match pur h (ev x) with
  | some (v,h')=>if v.shp sh∧i<xs.length then yG ev sh r h' (xs.set i v) else none
  | none=>none
def qB:AV→Option Nat
 | .p (.int _ n)=>if 0≤n then some n.toNat else none
 | _=>none
def bnd (ev:Opd→AV)(d:Nat):Option Opd→Option Nat
 | none=>some d
 | some x=>qB (ev x)
def pint (n:Nat):AV:=.p (.int .i64 n)
def pbool (b:Bool):AV:=.p (.bool b)
def asl (sh:Sh)(ev:Opd→AV)(h:aA)(x:AV)(lo hi mx:Option Opd):Option AV:=
 match x with
 | .p (.sl sh' xs)=>match bnd ev 0 lo,bnd ev xs.length hi,bnd ev xs.length mx with
  | some l,some r,some m=>if sh'=sh∧l≤r∧r≤m∧m≤xs.length then some (if mx.isSome∧m=l then .sl0 sh else .p (.sl sh (win xs l (r-l)))) else none
  | _,_,_=>none
 | .sl0 sh'=>match bnd ev 0 lo,bnd ev 0 hi,bnd ev 0 mx with
  | some l,some r,some m=>if l=0∧r=0∧m=0 then some (.sl0 sh') else none
  | _,_,_=>none
 | .own id g off len=>match h[id]? with
  | some (.row rsh xs _)=>match bnd ev 0 lo,bnd ev len hi,bnd ev len mx with
   | some l,some r,some m=>if rsh=sh∧g=xs.length∧off+len≤xs.length∧l≤r∧r≤m∧m≤len then some (if mx.isSome∧m=l then .sl0 sh else .own id g (off+l) (r-l)) else none
   | _,_,_=>none
  | _=>none
 | _=>none
def IA (s:List UInt8):List PV:=s.map fun b=>.int .u8 b.toNat
def OE:List PV→Option (List UInt8)
 | []=>some []
 | .int .u8 n::r=>if 0≤n∧n<256 then(OE r).map (UInt8.ofNat n.toNat :: ·) else none
 | _::_=>none
def rds (h:aA):AV→Option (Sh×List PV)
 | .p (.str s)=>some (none,IA s)
 | x=>rd h x
def EF (h:aA)(c:Cv)(x:AV):Option (AV×aA):=match c with
 | .i k=>match x with
  | .p (.int _ n)=>some (.p (.int k (k.wrap n)),h)
  | _=>none
 | .s2b=>match x with
  | .p (.str s)=>if s.length≤RA then some (.own h.length s.length 0 s.length,h++[.row none (IA s) 0]) else none
  | _=>none
 | .b2s=>match rd h x with
  | some y=>(OE y.2).map fun b=>(.p (.str b),h)
  | none=>none
 | .r2s=>match x with
  | .p (.int _ n)=>if 0≤n∧n<128 then some (.p (.str [UInt8.ofNat n.toNat]),h) else none
  | _=>none
 | .same=>match x with
  | .p (.str s)=>some (.p (.str s),h)
  | _=>none
def lC (h:aA):AV→Option (Nat×List ME×Nat)
 | .mp id=>match h[id]? with
  | some (.amap es c)=>some (id,es,c)
  | _=>none
 | _=>none
def aD (kk:Sh × List Nat):AV→Option PV
 | .p k=>if k.key&&k.shp kk.1&&k.cells.map PV.kind==kk.2 then some k else none
 | _=>none
def rH:AV→Bool
 | .und | .skp | .tup _=>false
 | _=>true
def MN (k:Nat)(v:AV):Option Bool:=match k with
 | 0=>match v with
  | .nilp | .p .nilp | .bt 0 _ _ _=>some true
  | .ref _ _ | .rref _ _ _ _ | .vp _=>some false
  | _=>none
 | 1=>match v with
  | .nilm=>some true
  | .mp _=>some false
  | _=>none
 | 2=>match v with
  | .nilf=>some true
  | .fn _ _=>some false
  | _=>none
 | 3=>match v with
  | .nili=>some true
  | .ifc=>some false
  | _=>none
 | _=>match v with
  | .p (.sl _ (_::_))=>some false
  | _=>none
def pH (k:Nat)(v:AV):Bool:=match v with
 | .p (.sl _ [])=>decide (4≤k)
 | _=>false
def appB (t:Nat)(h:aA)(s x:AV):Option (AV×aA×Esc):=match rds h x with
 | some (none,ys)=>match s with
  | .bt 1 t' id g=>match h[id]? with
   | some (.row none xs fz)=>if t'=t∧g=xs.length∧fz≤xs.length∧g+ys.length≤RA then some (.bt 1 t id (g+ys.length),h.set id (.row none (xs++ys) fz),[]) else none
   | _=>none
  | _=>none
 | _=>none
def strB (t:Nat)(h:aA)(p:AV)(n:Nat):Option (AV×aA×Esc):=match p with
 | .anyp=>if n=0 then some (.p (.str []),h,[]) else none
 | .bt 2 t' id g=>match h[id]? with
  | some (.row none xs _)=>if t'=t∧g=xs.length∧n=g∧1≤n∧n≤RA then(OE xs).map fun s=>(.p (.str s),h.set id (.row none xs (xs.length+1)),[]) else none
  | _=>none
 | _=>none
def z1T (t:Nat)(h:aA)(s:AV):Option (AV×aA×Esc):=match s with
 | .bt 1 t' id g=>match h[id]? with
  | some (.row none xs _)=>if t'=t∧g=xs.length then(if g=0 then some (.anyp,h,[]) else some (.bt 2 t id g,h,[])) else none
  | _=>none
 | _=>none
def n64:AV→Option Nat
 | .p (.int .i64 n)=>if 0≤n then some n.toNat else none
 | _=>none
def upcB (t:Nat)(h:aA)(x:AV):Option (AV×aA×Esc):=match x with
 | .ref id 0=>match h[id]? with
  | some (.box [.bt 0 t' id' _,_])=>if t'=t∧id'=id then some (.ref id 0,h,[]) else none
  | _=>none
 | _=>none
def neqB (h:aA)(x y:AV):Option (AV×aA×Esc):=match x,y with
 | .ref id o,.ref id' o'=>if id=id'∧o=o' then some (pbool false,h,[]) else none
 | _,_=>none
def z6r (t:Nat)(h:aA)(f x:AV):Option (AV×aA×Esc):=match f with
 | .fn g []=>if g=t then some (x,h,[]) else none
 | _=>none
def lenB:AV→Option Nat
 | .bt 1 _ _ g=>some g
 | _=>none
def ldA (sh:Sh)(k off id g:Nat)(h:aA):Option AV:=bif Nat.beq k 4 then(match h[id]? with
 | some (.arow rsh cs)=>if g*gA rsh=cs.length then cut sh off cs else none
 | _=>none) else none
def stA (sh:Sh)(k off id g:Nat)(x:AV)(h:aA):Option (AV×aA×Esc):=bif Nat.beq k 4 then(match h[id]?,x.cells with
 | some (.arow rsh cs),some vs=>if g*gA rsh=cs.length∧vs.length=gA sh∧off+vs.length≤cs.length then some (.und,h.set id (.arow rsh (splice cs off vs)),qC id x) else none
 | _,_=>none) else none
def iaA (sh:Sh)(k id g i:Nat)(h:aA):Option AV:=bif Nat.beq k 3 then(match h[id]? with
 | some (.arow rsh cs)=>if rsh=sh∧g*gA rsh=cs.length∧i<g then some (.bt 4 (i*gA sh) id g) else none
 | _=>none) else none
def faA (k off o id g:Nat):Option AV:=bif Nat.beq k 4 then some (.bt 4 (o+off) id g) else none
def lnA (k g:Nat):Option AV:=bif Nat.beq k 3 then some (pint g) else none
def nlA (k:Nat)(x:AV):Option AV:=bif Nat.beq k 4 then some x else none
def apA (sh:Sh)(h:aA)(s x:AV):Option (AV×aA×Esc):=match s,x with
 | .bt k t id g,.bt k' _ id' g'=>bif Nat.beq k 3&&Nat.beq k' 3 then(match h[id]?,h[id']? with
  | some (.arow rsh cs),some (.arow rsh' ds)=>if rsh=sh∧rsh'=sh∧g*gA sh=cs.length∧g'*gA sh=ds.length∧g+g'≤RA then
   some (.bt 3 t id (g+g'),h.set id (.arow sh (cs++ds)),bif decide (id<AV.tops ds) then [(id,AV.tops ds)] else []) else none
  | _,_=>none) else none
 | _,_=>none
def vC:Nat→Sh
 | 0=>none
 | n+1=>some n
def FG:List AV→aA→List AV × aA
 | [],h=>([],h)
 | v::r,h=>match v with
  | .sl0 sh=>(.own h.length 0 0 0::(FG r (h++[.row sh [] 0])).1,(FG r (h++[.row sh [] 0])).2)
  | .bt _ t _ _=>(.bt 3 t h.length 0::(FG r (h++[.arow (vC t) []])).1,(FG r (h++[.arow (vC t) []])).2)
  | v=>(v::(FG r h).1,(FG r h).2)
def tR:Nat→Sh→Bool
 | 0,_=>false
 | e+1,sh=>sh==vC e
def iB (t:Nat):List AV→aA→List AV×aA
 | [],h=>([],h)
 | v::r,h=>match v with
  | .sl0 sh=>bif tR t sh then(.bt 3 (t-1) h.length 0::(iB t r (h++[.arow (vC (t-1)) []])).1,(iB t r (h++[.arow (vC (t-1)) []])).2) else(.own h.length 0 0 0::(iB t r (h++[.row sh [] 0])).1,(iB t r (h++[.row sh [] 0])).2)
  | v=>(v::(iB t r h).1,(iB t r h).2)
def zF (k t:Nat)(vs:List AV)(h:aA):Option (AV×aA×Esc):=match k with
 | 0=>match vs with
  | [v]=>match n64 v with
   | some te=>some (.ref h.length 0,h++[.box [.bt 0 t h.length 0,.bt 1 te (h.length+1) 0],.row none [] 0],[(h.length,h.length+2)])
   | none=>none
  | _=>none
 | 1=>match vs with
  | [x]=>upcB t h x
  | _=>none
 | 2=>match vs with
  | [x,y]=>neqB h x y
  | _=>none
 | 3=>match vs with
  | [s,x]=>appB t h s x
  | _=>none
 | 4=>match vs with
  | [s]=>(lenB s).map fun n=>(pint n,h,[])
  | _=>none
 | 5=>match vs with
  | [s]=>z1T t h s
  | _=>none
 | 6=>match vs with
  | [p,n]=>match n64 n with
   | some m=>strB t h p m
   | none=>none
  | _=>none
 | 7=>match vs with
  | [f,x]=>z6r t h f x
  | _=>none
 | 8=>some (.ref (FG vs h).2.length 0,(FG vs h).2++[.box (FG vs h).1],[])
 | 9=>match vs with
  | [x]=>match x.cells with
   | some cs=>if cs.length=gA (vC t) then some (.bt 3 t h.length 1,h++[.arow (vC t) cs],[]) else none
   | none=>none
  | _=>none
 | 10=>match vs with
  | []=>some (.bt 3 t h.length 0,h++[.arow (vC t) []],[])
  | _=>none
 | 11=>match vs with
  | [s,x]=>apA (vC t) h s x
  | _=>none
 | 12=>match vs with
  | [x]=>match x.cells with
   | some cs=>some (.ref (iB t cs h).2.length 0,(iB t cs h).2++[.box (iB t cs h).1],[])
   | none=>none
  | _=>none
 | _=>none
def aop (o:AO)(ev:Opd→AV)(h:aA):Option (AV×aA×Esc):=
 match o with
 | .mv x=>some (ev x,h,[])
 | .pick c a b=>match ev c with
  | .p (.bool t)=>some (bif t then ev a else ev b,h,[])
  | _=>none
 | .alloc z=>some (.ref h.length 0,h++[.box z],[])
 | .box x=>match (ev x).cells with
  | some cs=>some (.ref h.length 0,h++[.box cs],[])
  | none=>none
 | .build z ps=>(xG ev ps z).map fun cs=>(mkA cs,h,[])
 | .bsl own sh n z ps=>match yG ev sh ps h (List.replicate n z) with
  | some (xs,h')=>if !z.shp sh then none else some (bif own then(.own h'.length n 0 n,h'++[.row sh xs 0],[]) else(.p (.sl sh xs),h',[]))
  | none=>none
 | .load sh a=>match ev a with
  | .ref id off=>match h[id]? with
   | some (.box cs)=>(cut sh off cs).map fun v=>(v,h,[])
   | _=>none
  | .rref id g i off=>match h[id]? with
   | some (.row _ xs _)=>if g=xs.length then((xs[i]?).bind (lB sh off)).map fun v=>(.p v,h,[]) else none
   | _=>none
  | .vp v=>(lB sh 0 v).map fun v=>(.p v,h,[])
  | .bt k off id g=>(ldA sh k off id g h).map fun v=>(v,h,[])
  | _=>none
 | .store sh a x=>match ev a with
  | .ref id off=>match h[id]?,(ev x).cells with
   | some (.box cs),some vs=>if vs.length=gA sh∧off+vs.length≤cs.length then some (.und,h.set id (.box (splice cs off vs)),MF id cs (ev x)) else none
   | _,_=>none
  | .rref id g i off=>match pur h (ev x) with
   | some (v,h1)=>match h1[id]? with
    | some (.row rsh xs fz)=>if g=xs.length∧fz≤i∧v.cells.length=gA sh∧v.cells.all PV.sc then match xs[i]? with
     | some (.agg cs)=>if off+v.cells.length≤cs.length then some (.und,h1.set id (.row rsh (xs.set i (.agg (splice cs off v.cells))) fz),[]) else none
     | some _=>if off=0∧v.sc then some (.und,h1.set id (.row rsh (xs.set i v) fz),[]) else none
     | none=>none
     else none
    | _=>none
   | none=>none
  | .bt k off id g=>stA sh k off id g (ev x) h
  | _=>none
 | .nilchk x=>match ev x with
  | .ref _ _ | .rref _ _ _ _ | .vp _ | .fn _ _=>some (ev x,h,[])
  | .bt k _ _ _=>(nlA k (ev x)).map fun v=>(v,h,[])
  | _=>none
 | .bin op x y=>match ev x,ev y with
  | .p a,.p b=>(PB op a b).map fun v=>(.p v,h,[])
  | _,_=>none
 | .eqa ks neg x y=>match ev x,ev y with
  | .p (.agg asv),.p (.agg bs)=>if asv.map PV.kind=ks∧bs.map PV.kind=ks∧ks≠[] then(eqs asv bs).map fun t=>(pbool (bif neg then !t else t),h,[]) else none
  | .p (.bool a),.p (.bool b)=>if ks=[] then some (pbool (bif neg then !decide (a=b) else decide (a=b)),h,[]) else none
  | _,_=>none
 | .isnil k neg x=>bif pH k (ev x) then some (.anyb,h,[]) else(MN k (ev x)).map fun r=>(pbool (bif neg then !r else r),h,[])
 | .mkif x=>if rH (ev x) then some (.ifc,h,[]) else none
 | .un op x=>match ev x with
  | .p a=>(aun op a).map fun v=>(.p v,h,[])
  | _=>none
 | .conv c x=>(EF h c (ev x)).map fun(v,h')=>(v,h',[])
 | .mkfn f caps=>some (.fn f (caps.map ev),h,[])
 | .mkmap=>some (.mp h.length,h++[.amap [] 0],[])
 | .mksl sh z len cap=>match qB (ev len),qB (ev cap) with
  | some n,some m=>if n≤m∧m≤RA∧z.shp sh then some (.own h.length n 0 n,h++[.row sh (List.replicate n z) 0],[]) else none
  | _,_=>none
 | .slstr x lo hi=>match ev x with
  | .p (.str s)=>match bnd ev 0 lo,bnd ev s.length hi with
   | some l,some r=>if l≤r∧r≤s.length then some (.p (.str (win s l (r-l))),h,[]) else none
   | _,_=>none
  | _=>none
 | .slice sh x lo hi mx=>(asl sh ev h (ev x) lo hi mx).map fun v=>(v,h,[])
 | .faddr off sh x=>match ev x with
  | .ref id o=>some (.ref id (o+off),h,[])
  | .rref id g i o=>some (.rref id g i (o+off),h,[])
  | .vp v=>(lB sh off v).map fun u=>(.vp u,h,[])
  | .bt k o id g=>(faA k off o id g).map fun u=>(u,h,[])
  | _=>none
 | .field off sh x=>match ev x with
  | .p v=>match v with
   | .agg _=>(lB sh off v).map fun u=>(.p u,h,[])
   | _=>none
  | .agg cs=>(cut sh off cs).map fun u=>(u,h,[])
  | _=>none
 | .iaddr sh x i=>match ev x,qB (ev i) with
  | .p (.sl sh' xs),some k=>if sh'=sh then(xs[k]?).map fun v=>(.vp v,h,[]) else none
  | .own id g off len,some k=>match h[id]? with
   | some (.row rsh xs _)=>if rsh=sh∧g=xs.length∧off+len≤xs.length∧k<len then some (.rref id g (off+k) 0,h,[]) else none
   | _=>none
  | .bt kk _ id g,some k=>(iaA sh kk id g k h).map fun u=>(u,h,[])
  | _,_=>none
 | .iaddra n sh x i=>match ev x,qB (ev i) with
  | .ref id o,some k=>if k<n then some (.ref id (o+k*gA sh),h,[]) else none
  | .rref id g j o,some k=>if k<n then some (.rref id g j (o+k*gA sh),h,[]) else none
  | .vp v,some k=>if k<n then(lB sh (k*gA sh) v).map fun u=>(.vp u,h,[]) else none
  | _,_=>none
 | .idxa n sh x i=>match ev x,qB (ev i) with
  | .p (.agg cs),some k=>if k<n then(lB sh (k*gA sh) (.agg cs)).map fun u=>(.p u,h,[]) else none
  | _,_=>none
 | .idxs x i=>match ev x,qB (ev i) with
  | .p (.str s),some k=>(s[k]?).map fun b=>(.p (.int .u8 b.toNat),h,[])
  | _,_=>none
 | .look kk ok z x k=>match aD kk (ev k) with
  | some key=>match (match ev x with | .nilm=>some []|m=>(lC h m).map fun y=>y.2.1) with
   | some es=>match rC key es with
    | some r=>
     let v:=((r.bind (es[·]?)).map ME.val)
     some (bif ok then .tup [v.getD z,pbool v.isSome] else v.getD z,h,[])
    | none=>none
   | none=>none
  | none=>none
 | .mupd kk m k x=>match aD kk (ev k),lC h (ev m),rH (ev x) with
  | some key,some (id,es,c),true=>match rC key es with
   | some (some i)=>some (.und,h.set id (.amap (es.modify i fun e=>{ e with val:=ev x }) c),qC id (ev x))
   | some none=>some (.und,h.set id (.amap (es++[⟨key,ev x,c⟩]) (c+1)),qC id (ev x))
   | none=>none
  | _,_,_=>none
 | .ment kk z m k=>match aD kk (ev k),lC h (ev m) with
  | some key,some (id,es,c)=>match rC key es with
   | some (some i)=>(es[i]?).map fun e=>(.tup [e.val,pint e.born],h,[])
   | some none=>some (.tup [z,pint c],h.set id (.amap (es++[⟨key,z,c⟩]) (c+1)),[])
   | none=>none
  | _,_=>none
 | .estore m s x=>match lC h (ev m),qB (ev s),rH (ev x) with
  | some (id,es,c),some b,true=>match es.findIdx? (fun e=>e.born==b) with
   | some i=>some (.und,h.set id (.amap (es.modify i fun e=>{ e with val:=ev x }) c),qC id (ev x))
   | none=>none
  | _,_,_=>none
 | .mdel kk m k=>match aD kk (ev k),lC h (ev m) with
  | some key,some (id,es,c)=>match rC key es with
   | some (some i)=>some (.und,h.set id (.amap (es.eraseIdx i) c),[])
   | some none=>some (.und,h,[])
   | none=>none
  | _,_=>none
 | .ext x i=>match ev x with
  | .tup vs=>(vs[i]?).map fun v=>(v,h,[])
  | _=>none
 | .lens x=>match ev x with
  | .p (.str s)=>some (pint s.length,h,[])
  | _=>none
 | .len x=>match ev x with
  | .p (.sl _ xs)=>some (pint xs.length,h,[])
  | .sl0 _=>some (pint 0,h,[])
  | .own _ _ _ len=>some (pint len,h,[])
  | .bt k _ _ g=>(lnA k g).map fun u=>(u,h,[])
  | _=>none
 | .lenm x=>match ev x with
  | .nilm=>some (pint 0,h,[])
  | .mp id=>(lC h (.mp id)).map fun y=>(pint y.2.1.length,h,[])
  | _=>none
 | .app sh s x=>match rds h (ev x) with
  | some (sh',ys)=>if sh'=sh then match ev s with
   | .sl0 _=>if ys.length≤RA then some (.own h.length ys.length 0 ys.length,h++[.row sh ys 0],[]) else none
   | .own id g off len=>match h[id]? with
    | some (.row rsh xs fz)=>if rsh=sh∧g=xs.length∧off=0∧len=xs.length∧len+ys.length≤RA∧fz≤xs.length then some (.own id (g+ys.length) off (len+ys.length),h.set id (.row sh (xs++ys) fz),[])
     else if rsh=sh∧g=xs.length∧off+len+ys.length≤xs.length∧fz≤off+len∧1≤ys.length∧len+ys.length≤RA∧sh=none∧xs.all PV.intP=true∧ys.all PV.intP=true then
      some (.p (.sl sh (win xs off len++ys)),h.set id (.row sh (splice xs (off+len) (List.replicate ys.length .unk)) (off+len+ys.length)),[])
     else none
    | _=>none
   | _=>none
   else none
  | none=>none
 | .copy sh d s=>match ev d,rds h (ev s) with
  | .own id g off len,some (sh',ys)=>match h[id]? with
   | some (.row rsh xs fz)=>if rsh=sh∧sh'=sh∧g=xs.length∧off+len≤xs.length∧fz≤off then
    some (pint (min ys.length len),h.set id (.row sh (splice xs off (ys.take (min ys.length len))) fz),[])
    else none
   | _=>none
  | _,_=>none
 | .clr sh z x=>match ev x with
  | .sl0 _=>some (.tup [],h,[])
  | .own id g off len=>match h[id]? with
   | some (.row rsh xs fz)=>if rsh=sh∧g=xs.length∧off+len≤xs.length∧fz≤off then
    some (.tup [],h.set id (.row sh (splice xs off (List.replicate len z)) fz),[])
    else none
   | _=>none
  | _=>none
 | .mx xs=>match xs.map ev with
  | .p a::r=>((unp r).bind fun l=>l.foldlM WL a).map fun v=>(.p v,h,[])
  | _=>none
 | .mn xs=>match xs.map ev with
  | .p a::r=>((unp r).bind fun l=>l.foldlM XL a).map fun v=>(.p v,h,[])
  | _=>none
 | .new0 sh=>some (.own h.length 0 0 0,h++[.row sh [] 0],[])
 | .mrange x=>match lC h (ev x) with
  | some (id,_,c)=>some (.it h.length,h++[.iter (some id) c [] c],[])
  | none=>match ev x with
   | .nilm=>some (.it h.length,h++[.iter none 0 [] 0],[])
   | _=>none
 | .mentry i=>match ev i with
  | .it id=>match h[id]? with
   | some (.iter (some m) _ seen last)=>match lC h (.mp m),seen.getLast? with
    | some (_,es,c),some b=>if c=last then(es.find? (fun e=>e.born==b)).map fun e=>(.tup [.p e.key,e.val],h,[]) else none
    | _,_=>none
   | _=>none
  | _=>none
 | .uns k t xs=>zF k t (xs.map ev) h
 | .call _ _ | .callv _ _ | .mnext _ _=>none
def sR (h:aA):AV→Option (List (AV×aA))
 | .it id=>match h[id]? with
  | some (.iter none since _ _)=>if since=0 then some [(.tup [pbool false],h)] else none
  | some (.iter (some m) since seen last)=>match lC h (.mp m) with
   | some (_,es,c)=>if c=since∧last=since then
    match es.filter (fun e=>!seen.contains e.born) with
    | []=>some [(.tup [pbool false],h.set id (.iter none 1 [] 0))]
    | l=>some (l.map fun e=>(.tup [pbool true,.p e.key,e.val],h.set id (.iter (some m) since (seen++[e.born]) last)))
    else none
   | none=>none
  | _=>none
 | _=>none
def appq (h:aA)(sh:Sh)(s x:AV):Option (List (AV×aA)):=match rds h x with
 | some (sh',ys)=>if sh'=sh then match s with
  | .own id g off len=>match h[id]? with
   | some (.row rsh xs fz)=>if rsh=sh∧g=xs.length∧off+len=xs.length∧len+ys.length≤RA∧fz≤xs.length then
    some [(.own id (g+ys.length) off (len+ys.length),h.set id (.row sh (xs++ys) fz)),(.own h.length (len+ys.length) 0 (len+ys.length),h++[.row sh (win xs off len++ys) 0])]
    else if rsh=sh∧g=xs.length∧off+len<xs.length∧fz≤off+len∧len+ys.length≤RA then
     some [(.own id (splice xs (off+len) ys).length off (len+ys.length),h.set id (.row sh (splice xs (off+len) ys) fz)),(.own h.length (len+ys.length) 0 (len+ys.length),h++[.row sh (win xs off len++ys) 0])]
    else none
   | _=>none
  | _=>none
  else none
 | none=>none
def aI (h:aA):Option Sh→List AV→Option (List (AV×aA))
 | none,[it]=>sR h it
 | some sh,[s,x]=>appq h sh s x
 | _,_=>none
end Go.Am
end
section
/- The abstract machine,part 3: what it means that code,that a call ends well,whatever is left open (AW,bA). -/
namespace Go.Am
abbrev jA:=AV→aA→Esc→Prop
abbrev Hd:=Nat→List AV→aA→jA→Prop
structure Ctx where
 fn:Nat→Option AFun
 gl:Nat→Option PV
 ext:Nat→List PV→Option PV
 ex2:Nat→List AV→aA→Option (AV×aA×Esc):=fun _ _ _=>none
inductive Ex where
 | normal
 | exit (id:Nat)
 | ret
def put (d:Option Nat)(v:AV)(e:List (Nat × AV)):List (Nat×AV):=match d with
 | some d=>(d,v)::e
 | none=>e
def wanted (g:Option (Nat × Bool))(e:List (Nat × AV)):Option Bool:=match g with
 | none=>some true
 | some (t,b)=>match kA e t with
  | .p (.bool c)=>some (c==b)
  | .skp=>some false
  | _=>none
def UA (C:Hd)(gl:Nat→Option PV):List AOp→List (Nat×AV)→aA→Esc→(List (Nat×AV)→aA→Esc→Prop)→Prop
 | [],e,h,x,K=>K e h x
 | o::r,e,h,x,K=>match wanted o.guard e with
  | some true=>match o.op with
   | .call f args=>C f (args.map (Opd.ev gl e)) h fun v h' x'=>UA C gl r (put o.dst v e) h' (x'++x) K
   | .callv f args=>match Opd.ev gl e f with
    | .fn g caps=>C g (args.map (Opd.ev gl e)++caps) h fun v h' x'=>UA C gl r (put o.dst v e) h' (x'++x) K
    | _=>False
   | .mnext sh xs=>match aI h sh (xs.map (Opd.ev gl e)) with
    | some l=>l≠[]∧∀y∈l,UA C gl r (put o.dst y.1 e) y.2 x K
    | none=>False
   | op=>match aop op (Opd.ev gl e) h with
    | some (v,h',x')=>UA C gl r (put o.dst v e) h' (x'++x) K
    | none=>False
  | some false=>UA C gl r (put o.dst .skp e) h x K
  | none=>False
def CA (keep:Option (List Nat))(e:List (Nat × AV)):List (Nat×AV):=match keep with
 | none=>e
 | some l=>l.map fun t=>(t,kA e t)
def ADo (C:Hd)(gl:Nat→Option PV)(o:AOp)(e:List (Nat × AV))(h:aA)(v:AV)(h':aA)(x:Esc):Prop:=match wanted o.guard e with
 | some true=>match o.op with
  | .call f args=>C f (args.map (Opd.ev gl e)) h fun v1 h1 x1=>v1=v∧h1=h'∧x1=x
  | .callv f args=>match Opd.ev gl e f with
   | .fn g caps=>C g (args.map (Opd.ev gl e)++caps) h fun v1 h1 x1=>v1=v∧h1=h'∧x1=x
   | _=>False
  | .mnext _ _=>False
  | op=>aop op (Opd.ev gl e) h=some (v,h',x)
 | some false=>v = .skp∧h'=h∧x=[]
 | none=>False
abbrev FC:=List (AOp × List (Nat × AV) × AV)
def eD (C:Hd)(gl:Nat→Option PV):List DOp→FC→List aA→List (Nat×AV)→aA→Esc→(List (Nat×AV)→aA→Esc→Prop)→Prop
 | [],_,_,e,h,x,K=>K e h x
 | o::r,dn,hs,e,h,x,K=>∃v h' y,ADo C gl o.op (CA (some o.rd) e) h v h' y∧(o.eff=false→h'=h∧y=[])∧(∀k∈o.early,∃g,hs[k]?=some g∧ADo C gl o.op (CA (some o.rd) e) g v g []) ∧
  (∀j∈o.again,∃q,dn[j]?=some q∧ADo C gl q.1 q.2.1 h' q.2.2 h' [])∧eD C gl r (dn++[(o.op,CA (some o.rd) e,v)]) (hs++[h]) (put o.op.dst v e) h' (y++x) K
def vD (x:Esc)(n:Nat):Nat:=x.foldl (fun m y=>if y.1<m then max m y.2 else m) n
def IB:Nat→Esc→Nat→Nat
 | 0,_,n=>n
 | k+1,x,n=>IB k x (vD x n)
def QB (x:Esc)(n:Nat):Bool:=x.all fun y=>decide (n≤y.1)||decide (y.2≤n)
def XE (n:Nat)(e:List (Nat × AV)):List (Nat×AV):=e.map fun y=>(y.1,if y.2.top≤n then y.2 else .und)
def PD (b:Nat)(x0:Esc)(s:St):St:=
 let n:=IB s.esc.length s.esc b
 if QB s.esc n then⟨XE n s.env,s.h.take n,s.esc.filter (fun y=>decide (y.1<n))++x0⟩ else⟨s.env,s.h,s.esc++x0⟩
inductive ALoop (T:St→(Ex→St→Prop)→Prop) (K:Ex→St→Prop):St→Prop where
 | mk (s:St) (R:Ex→St→Prop) (h:T s R) (hn:∀s',R .normal s'→ALoop T K s') (he:∀i s',R (.exit i) s'→K (.exit i) s') (hr:∀s',R .ret s'→K .ret s'):ALoop T K s
def AW (C:Hd)(gl:Nat→Option PV):ACode→St→(Ex→St→Prop)→Prop
 | .skip,s,K=>K .normal s
 | .reg ops keep,s,K=>UA C gl ops s.env s.h s.esc fun e h x=>K .normal ⟨CA keep e,h,x⟩
 | .draw ds keep,s,K=>eD C gl ds [] [] s.env s.h s.esc fun e h x=>K .normal ⟨CA keep e,h,x⟩
 | .seq a b,s,K=>AW C gl a s fun e s'=>match e with
  | .normal=>AW C gl b s' K
  | .exit i=>K (.exit i) s'
  | .ret=>K .ret s'
 | .cond c a b,s,K=>match Opd.ev gl s.env c with
  | .p (.bool t)=>match t with
   | true=>AW C gl a s K
   | false=>AW C gl b s K
  | _=>False
 | .condu c a b,s,K=>match Opd.ev gl s.env c with
  | .p (.bool t)=>match t with
   | true=>AW C gl a s K
   | false=>AW C gl b s K
  | .anyb=>AW C gl a s K∧AW C gl b s K
  | _=>False
 | .det b,s,K=>AW C gl b s K
 | .block id b,s,K=>AW C gl b s fun e s'=>match e with
  | .normal=>K .normal s'
  | .exit i=>if i=id then K .normal s' else K (.exit i) s'
  | .ret=>K .ret s'
 | .loop b,s,K=>ALoop (AW C gl b) K s
 | .scope b,s,K=>AW C gl b ⟨s.env,s.h,[]⟩ fun e s'=>K e (PD s.h.length s.esc s')
 | .pr l b,s,K=>AW C gl b ⟨CA (some l) s.env,s.h,s.esc⟩ K
 | .exit id,s,K=>K (.exit id) s
 | .ret,s,K=>K .ret s
 | .bad,_,_=>False
def rd0 (b:Nat)(h:aA):AV→Option PV
 | .p v=>some v
 | .sl0 sh=>some (.sl sh [])
 | .nilp=>some .nilp
 | .own id g off len=>if b≤id then(rd h (.own id g off len)).map fun y=>.sl y.1 y.2 else none
 | _=>none
def oO (b:Nat)(h:aA):List AV→Option (List PV)
 | []=>some []
 | v::r=>match rd0 b h v with
  | some x=>(oO b h r).map (x :: ·)
  | none=>none
def rdA (b:Nat)(h:aA)(id g:Nat):Option AV:=match h[id]? with
 | some (.arow sh cs)=>if g*gA sh=cs.length then(oO b h cs).map fun vs=>.p (.sl sh (NC sh g vs)) else none
 | _=>none
mutual
def aB (b:Nat)(h:aA):AV→Option AV
 | .own id g off len=>if b≤id then(rd h (.own id g off len)).map fun y=>.p (.sl y.1 y.2) else some (.own id g off len)
 | .sl0 sh=>some (.p (.sl sh []))
 | .bt k t id g=>bif Nat.beq k 3&&decide (b≤id) then rdA b h id g else some (.bt k t id g)
 | .agg cs=>(sF b h cs).map mkA
 | .tup vs=>(sF b h vs).map .tup
 | v=>some v
def sF (b:Nat)(h:aA):List AV→Option (List AV)
 | []=>some []
 | v::r=>match aB b h v with
  | some x=>(sF b h r).map (x :: ·)
  | none=>none
end
def ares (s:St):ARes→Option AV
 | .t n=>some (kA s.env n)
 | .cell a sh=>match kA s.env a with
  | .ref id off=>match s.h[id]? with
   | some (.box cs)=>cut sh off cs
   | _=>none
  | _=>none
def gE (s:St):List ARes→Option (List AV)
 | []=>some []
 | r::rs=>match ares s r with
  | some v=>(gE s rs).map (v :: ·)
  | none=>none
def jB:List AV→AV
 | [v]=>v
 | vs=>.tup vs
def fin (F:AFun)(b:Nat)(s:St)(K:jA):Prop:=match gE s F.results with
 | some vs=>match F.keep with
  | true=>
   let n:=IB s.esc.length s.esc (max b (jB vs).top)
   if QB s.esc n then K (jB vs) (s.h.take n) (s.esc.filter fun y=>decide (y.1<n)) else K (jB vs) s.h s.esc
  | false=>match aB b s.h (jB vs) with
   | some v0=>
    let n:=IB s.esc.length s.esc (max b v0.top)
    if QB s.esc n then match aB n s.h (jB vs) with
     | some v=>v.top≤n∧K v (s.h.take n) (s.esc.filter fun y=>decide (y.1<n))
     | none=>False
    else K (jB vs) s.h s.esc
   | none=>False
 | none=>False
def oA (h:aA):List AV→Option (List AV×aA)
 | []=>some ([],h)
 | v::r=>match v with
  | .own id g off len=>match rd h (.own id g off len) with
   | some z=>(oA (frz h id (off+len)) r).map fun y=>(.p (.sl z.1 z.2)::y.1,y.2)
   | none=>none
  | .agg cs=>match pur h (.agg cs) with
   | some (x,h1)=>(oA h1 r).map fun y=>(.p x::y.1,y.2)
   | none=>none
  | .sl0 sh=>(oA h r).map fun y=>(.p (.sl sh [])::y.1,y.2)
  | v=>(oA h r).map fun y=>(v::y.1,y.2)
def enter (args:List AV):List (Nat×AV):=(args.zipIdx).map fun y=>(y.2,y.1)
def BC (C:Hd)(gl:Nat→Option PV)(F:AFun)(args:List AV)(h:aA)(K:jA):Prop:=
 match (if F.byref then some (args,h) else oA h args) with
 | some (asv,h1)=>asv.length=F.nparams∧AW C gl F.body ⟨enter asv,h1,[]⟩ fun e s=>match e with
  | .exit _=>False
  | _=>fin F h.length s K
 | none=>False
def AFun.isDet (F:AFun):Bool:=match F.body with
 | .det _=>true
 | _=>false
def KD (C:Hd)(gl:Nat→Option PV)(F:AFun)(args:List AV)(h:aA)(K:jA):Prop:=match F.isDet with
 | true=>∃v h' x,K v h' x∧BC C gl F args h fun v1 h1 x1=>v1=v∧h1=h'∧x1=x
 | false=>BC C gl F args h K
def jC (X:Ctx)(C:Hd):Hd:=fun f args h K=>match X.fn f with
 | some F=>KD C X.gl F args h K
 | none=>match X.ex2 f args h with
  | some (v,h1,x)=>K v h1 x
  | none=>match oA h args with
   | some (asv,h1)=>match unp asv with
    | some vs=>match X.ext f vs with
     | some r=>K (.p r) h1 []
     | none=>False
    | none=>False
   | none=>False
def Hd.Mono (C:Hd):Prop:=∀f a h K K',(∀v h' x,K v h' x→K' v h' x)→C f a h K→C f a h K'
def bA (X:Ctx):Hd:=fun f a h K=>∀C:Hd,C.Mono→(∀f a h K,jC X C f a h K→C f a h K)→C f a h K
theorem KH {C C':Hd}{gl:Nat→Option PV}(hC:∀ f a h K K',(∀ v h' x,K v h' x→K' v h' x)→C f a h K→C' f a h K') :
 ∀(ops:List AOp) e h x K K',(∀e h x,K e h x→K' e h x)→UA C gl ops e h x K→UA C' gl ops e h x K'
 | [],e,h,x,K,K',hK,H=>hK _ _ _ H
 | o::r,e,h,x,K,K',hK,H=>by
  unfold UA at H ⊢;split at H
  ·split at H
   ·exact hC _ _ _ _ _ (fun v h' x' H'=>KH hC r _ _ _ K K' hK H') H
   ·split at H
    ·exact hC _ _ _ _ _ (fun v h' x' H'=>KH hC r _ _ _ K K' hK H') H
    ·exact H.elim
   ·split at H
    ·exact⟨H.1,fun y hy=>KH hC r _ _ _ K K' hK (H.2 y hy)⟩
    ·exact H.elim
   ·split at H
    ·exact KH hC r _ _ _ K K' hK H
    ·exact H.elim
  ·exact KH hC r _ _ _ K K' hK H
  ·exact H.elim
theorem ST {C C':Hd}{gl:Nat→Option PV}(hC:∀ f a h K K',(∀ v h' x,K v h' x→K' v h' x)→C f a h K→C' f a h K'){o:AOp}{e:List (Nat × AV)}{h h':aA}{v:AV}{x:Esc}
 (H:ADo C gl o e h v h' x):ADo C' gl o e h v h' x:=by
 unfold ADo at H ⊢;split at H
 ·split at H
  ·exact hC _ _ _ _ _ (fun _ _ _ h=>h) H
  ·split at H
   ·exact hC _ _ _ _ _ (fun _ _ _ h=>h) H
   ·exact H.elim
  ·exact H.elim
  ·exact H
 ·exact H
 ·exact H.elim
theorem VT {C C':Hd}{gl:Nat→Option PV}(hC:∀ f a h K K',(∀ v h' x,K v h' x→K' v h' x)→C f a h K→C' f a h K') :
 ∀(ds:List DOp) dn hs e h x K K',(∀e h x,K e h x→K' e h x)→eD C gl ds dn hs e h x K→eD C' gl ds dn hs e h x K'
 | [],dn,hs,e,h,x,K,K',hK,H=>hK _ _ _ H
 | o::r,dn,hs,e,h,x,K,K',hK,H=>by
  obtain⟨v,h',y,h1,h2,h3,h4,h5⟩:=H;exact⟨v,h',y,ST hC h1,h2,fun k hk=>by obtain⟨g,q1,q2⟩:=h3 k hk;exact⟨g,q1,ST hC q2⟩,fun j hj=>by obtain⟨q,q1,q2⟩:=h4 j hj;exact⟨q,q1,ST hC q2⟩,
   VT hC r _ _ _ _ _ K K' hK h5⟩
theorem ALoop.mono {T T':St→(Ex→St→Prop)→Prop}{K K':Ex→St→Prop}(hT:∀ s R,T s R→T' s R)(hK:∀ e s,K e s→K' e s){s:St}(H:ALoop T K s):ALoop T' K' s:=by
 induction H with
 | mk s R h hn he hr ih=>exact .mk s R (hT _ _ h) ih (fun i s' h=>hK _ _ (he i s' h)) (fun s' h=>hK _ _ (hr s' h))
theorem VC {C C':Hd}{gl:Nat→Option PV}(hC:∀ f a h K K',(∀ v h' x,K v h' x→K' v h' x)→C f a h K→C' f a h K') :
 ∀(c:ACode) s K K',(∀e s,K e s→K' e s)→AW C gl c s K→AW C' gl c s K'
 | .skip,s,K,K',hK,H=>hK _ _ H
 | .reg ops keep,s,K,K',hK,H=>KH hC ops _ _ _ _ _ (fun _ _ _ h=>hK _ _ h) H
 | .draw ds keep,s,K,K',hK,H=>VT hC ds _ _ _ _ _ _ _ (fun _ _ _ h=>hK _ _ h) H
 | .seq a b,s,K,K',hK,H=>VC hC a s _ _ (fun e s' h=>by
  cases e
  ·exact VC hC b s' K K' hK h
  ·exact hK _ _ h
  ·exact hK _ _ h) H
 | .condu c a b,s,K,K',hK,H=>by
  unfold AW at H ⊢;split at H
  ·split at H
   ·exact VC hC a s K K' hK H
   ·exact VC hC b s K K' hK H
  ·exact⟨VC hC a s K K' hK H.1,VC hC b s K K' hK H.2⟩
  ·exact H.elim
 | .det b,s,K,K',hK,H=>VC hC b s K K' hK H
 | .cond c a b,s,K,K',hK,H=>by
  unfold AW at H ⊢;split at H
  ·split at H
   ·exact VC hC a s K K' hK H
   ·exact VC hC b s K K' hK H
  ·exact H.elim
 | .block id b,s,K,K',hK,H=>VC hC b s _ _ (fun e s' h=>by
  cases e
  ·exact hK _ _ h
  ·dsimp only at h ⊢;split at h
   ·rw[if_pos ‹_›];exact hK _ _ h
   ·rw[if_neg ‹_›];exact hK _ _ h
  ·exact hK _ _ h) H
 | .loop b,s,K,K',hK,H=>ALoop.mono (fun s R h=>VC hC b s R R (fun _ _ h=>h) h) hK H
 | .scope b,s,K,K',hK,H=>VC hC b _ _ _ (fun e s' h=>hK _ _ h) H
 | .pr l b,s,K,K',hK,H=>VC hC b _ K K' hK H
 | .exit id,s,K,K',hK,H=>hK _ _ H
 | .ret,s,K,K',hK,H=>hK _ _ H
 | .bad,s,K,K',hK,H=>H.elim
theorem z3F {F:AFun}{b:Nat}{s:St}{K K':jA}(hK:∀ v h x,K v h x→K' v h x)(H:fin F b s K):fin F b s K':=by
 unfold fin at H ⊢;split at H
 ·split at H
  ·dsimp only at H ⊢
   split at H
   ·rw[if_pos ‹_›];exact hK _ _ _ H
   ·rw[if_neg ‹_›];exact hK _ _ _ H
  ·split at H
   ·dsimp only at H ⊢
    split at H
    ·rw[if_pos ‹_›]
     split at H
     ·exact⟨H.1,hK _ _ _ H.2⟩
     ·exact H.elim
    ·rw[if_neg ‹_›];exact hK _ _ _ H
   ·exact H.elim
 ·exact H.elim
theorem dP {C C':Hd}{gl:Nat→Option PV}(hC:∀ f a h K K',(∀ v h' x,K v h' x→K' v h' x)→C f a h K→C' f a h K'){F:AFun}{a:List AV}{h:aA}{K K':jA}
 (hK:∀v h x,K v h x→K' v h x) (H:BC C gl F a h K):BC C' gl F a h K':=by
 unfold BC at H ⊢;split at H
 ·refine⟨H.1,VC hC _ _ _ _ (fun e s h=>?_) H.2⟩
  cases e
  ·exact z3F hK h
  ·exact h.elim
  ·exact z3F hK h
 ·exact H.elim
theorem zdW {C C':Hd}{gl:Nat→Option PV}(hC:∀ f a h K K',(∀ v h' x,K v h' x→K' v h' x)→C f a h K→C' f a h K'){F:AFun}{a:List AV}{h:aA}{K K':jA}
 (hK:∀v h x,K v h x→K' v h x) (H:KD C gl F a h K):KD C' gl F a h K':=by
 unfold KD at H ⊢;cases hd:F.isDet with
 | true=>
  rw[hd]at H;obtain⟨v,h',x,k,H⟩:=H;exact⟨v,h',x,hK _ _ _ k,dP hC (fun _ _ _ h=>h) H⟩
 | false=>
  rw[hd]at H;exact dP hC hK H
theorem bU {X:Ctx}{C C':Hd}(hC:∀ f a h K K',(∀ v h' x,K v h' x→K' v h' x)→C f a h K→C' f a h K'){f:Nat}{a:List AV}{h:aA}{K K':jA}
 (hK:∀v h x,K v h x→K' v h x) (H:jC X C f a h K):jC X C' f a h K':=by
 unfold jC at H ⊢;split at H
 ·exact zdW hC hK H
 ·split at H
  ·exact hK _ _ _ H
  ·split at H
   ·split at H
    ·split at H
     ·exact hK _ _ _ H
     ·exact H.elim
    ·exact H.elim
   ·exact H.elim
theorem bA.mono (X:Ctx):(bA X).Mono:=fun f a h K K' hK H=>by
 intro C hM hS;exact hM _ _ _ _ _ hK (H C hM hS)
theorem bA.fold {X:Ctx}{f:Nat}{a:List AV}{h:aA}{K:jA}(H:jC X (bA X) f a h K):bA X f a h K:=by
 intro C hM hS;exact hS _ _ _ _ (bU (fun f a h K K' hK H'=>hM _ _ _ _ _ hK (H' C hM hS)) (fun _ _ _ h=>h) H)
theorem zdX {C:Hd}(hC:C.Mono){gl:Nat→Option PV}{F:AFun}{a:List AV}{h:aA}{K:jA}(H:KD C gl F a h K):BC C gl F a h K:=by
 unfold KD at H;split at H
 ·obtain⟨v,h',x,k,H⟩:=H
  refine dP (C:=C) (C':=C) (fun f a h K K' hK g=>hC f a h K K' hK g) (fun v1 h1 x1 (hv:v1=v∧h1=h'∧x1=x)=>?_) H
  obtain⟨q1,q2,q3⟩:=hv;subst q1;subst q2;subst q3
  exact k
 ·exact H
theorem bA.unfold {X:Ctx}{f:Nat}{a:List AV}{h:aA}{K:jA}(H:bA X f a h K):jC X (bA X) f a h K:=by
 refine H (fun f a h K=>jC X (bA X) f a h K) ?_ ?_
 ·intro f a h K K' hK H'
  exact bU (bA.mono X) hK H'
 ·intro f a h K H'
  exact bU (C:=fun f a h K=>jC X (bA X) f a h K) (C':=bA X) (fun f a h K K' hK H''=>bA.mono X _ _ _ _ _ hK (bA.fold H'')) (fun _ _ _ h=>h) H'
theorem z0y {X:Ctx}{f:Nat}{a:List AV}{h:aA}{K:jA}:bA X f a h K↔jC X (bA X) f a h K:=⟨bA.unfold,bA.fold⟩
def cG (C D:Hd):Prop:=∀f a h K L,C f a h K→D f a h L→∃v h' x,K v h' x∧L v h' x
theorem fJ {C D:Hd}{gl:Nat→Option PV}(hC:cG C D) :
 ∀(ops:List AOp) e h x K L,UA C gl ops e h x K→UA D gl ops e h x L→∃e h x,K e h x∧L e h x
 | [],e,h,x,K,L,H,G=>⟨e,h,x,H,G⟩
 | o::r,e,h,x,K,L,H,G=>by
  obtain⟨dst,guard,op⟩:=o;unfold UA at H G;dsimp only at H G;split at H
  ·rename_i hw
   simp only[hw]at G;cases op;case call f args=>
    obtain⟨v,h',x',H',G'⟩:=hC _ _ _ _ _ H G;exact fJ hC r _ _ _ K L H' G'
   case callv f args=>
    dsimp only at H G;split at H
    ·rename_i hf
     simp only[hf]at G;obtain⟨v,h',x',H',G'⟩:=hC _ _ _ _ _ H G;exact fJ hC r _ _ _ K L H' G'
    ·exact H.elim
   case mnext sh xs=>
    dsimp only at H G;split at H
    ·rename_i l hl
     simp only[hl]at G;obtain⟨y,hy⟩:=List.exists_mem_of_ne_nil l H.1;exact fJ hC r _ _ _ K L (H.2 y hy) (G.2 y hy)
    ·exact H.elim
   all_goals
    dsimp only at H G;split at H
    ·rename_i ha
     simp only[ha]at G;exact fJ hC r _ _ _ K L H G
    ·exact H.elim
  ·rename_i hw
   simp only[hw]at G;exact fJ hC r _ _ _ K L H G
  ·exact H.elim
theorem z7p {C D:Hd}{gl:Nat→Option PV}(hC:cG C D){o:AOp}{e:List (Nat × AV)}{h h1 h2:aA}{v1 v2:AV}{x1 x2:Esc}(H:ADo C gl o e h v1 h1 x1)(G:ADo D gl o e h v2 h2 x2):v1=v2∧h1=h2∧x1=x2:=by
 obtain⟨dst,guard,op⟩:=o;unfold ADo at H G;dsimp only at H G;split at H
 ·rename_i hw
  simp only[hw]at G;cases op;case call f args=>
   obtain⟨v,h',x',⟨a1,a2,a3⟩,b1,b2,b3⟩:=hC _ _ _ _ _ H G;exact⟨a1.symm.trans b1,a2.symm.trans b2,a3.symm.trans b3⟩
  case callv f args=>
   dsimp only at H G;split at H
   ·rename_i hf
    simp only[hf]at G;obtain⟨v,h',x',⟨a1,a2,a3⟩,b1,b2,b3⟩:=hC _ _ _ _ _ H G;exact⟨a1.symm.trans b1,a2.symm.trans b2,a3.symm.trans b3⟩
   ·exact H.elim
  case mnext sh xs=>exact H.elim
  all_goals
   dsimp only at H G;rw[H]at G;injection G with G
   injection G with g1 G
   injection G with g2 g3
   exact⟨g1,g2,g3⟩
 ·rename_i hw
  simp only[hw]at G;exact⟨H.1.trans G.1.symm,H.2.1.trans G.2.1.symm,H.2.2.trans G.2.2.symm⟩
 ·exact H.elim
theorem z01 {C D:Hd}{gl:Nat→Option PV}(hC:cG C D) :
 ∀(ds:List DOp) dn hs e h x K L,eD C gl ds dn hs e h x K→eD D gl ds dn hs e h x L→∃e h x,K e h x∧L e h x
 | [],dn,hs,e,h,x,K,L,H,G=>⟨e,h,x,H,G⟩
 | o::r,dn,hs,e,h,x,K,L,H,G=>by
  obtain⟨v,h',y,h1,h2,h3,h4,h5⟩:=H;obtain⟨v',h'',y',g1,g2,g3,g4,g5⟩:=G;obtain⟨rfl,rfl,rfl⟩:=z7p hC h1 g1;exact z01 hC r _ _ _ _ _ K L h5 g5
def z0M (T U:St→(Ex→St→Prop)→Prop):Prop:=∀s K L,T s K→U s L→∃e s',K e s'∧L e s'
theorem z7s {T U:St→(Ex→St→Prop)→Prop}(hT:z0M T U){K L:Ex→St→Prop}{s:St}(H:ALoop T K s):ALoop U L s→∃e s',K e s'∧L e s':=by
 induction H with
 | mk s R h hn he hr ih=>
  intro G;cases G with
  | mk _ S h' hn' he' hr'=>
   obtain⟨e,s',hR,hS⟩:=hT _ _ _ h h';cases e with
   | normal=>exact ih s' hR (hn' s' hS)
   | exit i=>exact⟨_,_,he i s' hR,he' i s' hS⟩
   | ret=>exact⟨_,_,hr s' hR,hr' s' hS⟩
theorem dE {C D:Hd}{gl:Nat→Option PV}(hC:cG C D):∀(c:ACode),z0M (AW C gl c) (AW D gl c)
 | .skip,s,K,L,H,G=>⟨_,_,H,G⟩
 | .reg ops keep,s,K,L,H,G=>by
  obtain⟨e,h,x,h1,h2⟩:=fJ hC ops _ _ _ _ _ H G;exact⟨_,_,h1,h2⟩
 | .draw ds keep,s,K,L,H,G=>by
  obtain⟨e,h,x,h1,h2⟩:=z01 hC ds _ _ _ _ _ _ _ H G;exact⟨_,_,h1,h2⟩
 | .seq a b,s,K,L,H,G=>by
  obtain⟨e,s',h1,h2⟩:=dE hC a _ _ _ H G;cases e with
  | normal=>exact dE hC b _ _ _ h1 h2
  | exit i=>exact⟨_,_,h1,h2⟩
  | ret=>exact⟨_,_,h1,h2⟩
 | .condu c a b,s,K,L,H,G=>by
  unfold AW at H G;split at H
  ·rename_i t ht
   simp only[ht]at G;split at H
   ·exact dE hC a _ _ _ H G
   ·exact dE hC b _ _ _ H G
  ·rename_i ht
   simp only[ht]at G;exact dE hC a _ _ _ H.1 G.1
  ·exact H.elim
 | .det b,s,K,L,H,G=>dE hC b _ _ _ H G
 | .cond c a b,s,K,L,H,G=>by
  unfold AW at H G;split at H
  ·rename_i t ht
   simp only[ht]at G;split at H
   ·exact dE hC a _ _ _ H G
   ·exact dE hC b _ _ _ H G
  ·exact H.elim
 | .block id b,s,K,L,H,G=>by
  obtain⟨e,s',h1,h2⟩:=dE hC b _ _ _ H G;cases e with
  | normal=>exact⟨_,_,h1,h2⟩
  | exit i=>
   dsimp only at h1 h2;split at h1
   ·rw[if_pos ‹_›]at h2;exact⟨_,_,h1,h2⟩
   ·rw[if_neg ‹_›]at h2;exact⟨_,_,h1,h2⟩
  | ret=>exact⟨_,_,h1,h2⟩
 | .loop b,s,K,L,H,G=>z7s (dE hC b) H G
 | .scope b,s,K,L,H,G=>by
  obtain⟨e,s',h1,h2⟩:=dE hC b _ _ _ H G;exact⟨_,_,h1,h2⟩
 | .pr l b,s,K,L,H,G=>dE hC b _ K L H G
 | .exit id,s,K,L,H,G=>⟨_,_,H,G⟩
 | .ret,s,K,L,H,G=>⟨_,_,H,G⟩
 | .bad,s,K,L,H,G=>H.elim
theorem z3E {F:AFun}{b:Nat}{s:St}{K L:jA}(H:fin F b s K)(G:fin F b s L):∃v h x,K v h x∧L v h x:=by
 unfold fin at H G;split at H
 ·rename_i h1
  simp only[h1]at G;split at H
  ·rename_i h2
   simp only[h2]at G;dsimp only at H G;split at H
   ·rename_i h3;rw[if_pos h3]at G;exact⟨_,_,_,H,G⟩
   ·rename_i h3;rw[if_neg h3]at G;exact⟨_,_,_,H,G⟩
  ·rename_i h2
   simp only[h2]at G;split at H
   ·rename_i h4
    simp only[h4]at G;dsimp only at H G;split at H
    ·rename_i h3
     rw[if_pos h3]at G;split at H
     ·rename_i h5
      simp only[h5]at G;exact⟨_,_,_,H.2,G.2⟩
     ·exact H.elim
    ·rename_i h3;rw[if_neg h3]at G;exact⟨_,_,_,H,G⟩
   ·exact H.elim
 ·exact H.elim
theorem z0N {C D:Hd}{gl:Nat→Option PV}(hC:cG C D){F:AFun}{a:List AV}{h:aA}{K L:jA}(H:BC C gl F a h K)(G:BC D gl F a h L):∃v h' x,K v h' x∧L v h' x:=by
 unfold BC at H G;split at H
 ·rename_i hp
  simp only[hp]at G;obtain⟨e,s',h1,h2⟩:=dE hC _ _ _ _ H.2 G.2;cases e with
  | normal=>exact z3E h1 h2
  | exit i=>exact h1.elim
  | ret=>exact z3E h1 h2
 ·exact H.elim
theorem zdV {C D:Hd}{gl:Nat→Option PV}(hC:cG C D){F:AFun}{a:List AV}{h:aA}{K L:jA}(H:KD C gl F a h K)(G:KD D gl F a h L):∃v h' x,K v h' x∧L v h' x:=by
 unfold KD at H G;cases hd:F.isDet with
 | true=>
  rw[hd]at H G;obtain⟨v,h',x,k,H⟩:=H;obtain⟨v2,h2,x2,k2,G⟩:=G;obtain⟨v3,h3,x3,⟨q1,q2,q3⟩,q4,q5,q6⟩:=z0N hC H G;subst q1;subst q2;subst q3;subst q4;subst q5;subst q6
  exact⟨_,_,_,k,k2⟩
 | false=>
  rw[hd]at H G;exact z0N hC H G
theorem z7D {X:Ctx}{C D:Hd}(hC:cG C D):cG (jC X C) (jC X D):=by
 intro f a h K L H G;unfold jC at H G;split at H
 ·rename_i F hF
  simp only[hF]at G;exact zdV hC H G
 ·rename_i hF
  simp only[hF]at G;split at H
  ·rename_i hx2
   simp only[hx2]at G;exact⟨_,_,_,H,G⟩
  ·rename_i hx2
   simp only[hx2]at G;split at H
   ·rename_i hp
    simp only[hp]at G;split at H
    ·rename_i hu
     simp only[hu]at G;split at H
     ·rename_i hx
      simp only[hx]at G;exact⟨_,_,_,H,G⟩
     ·exact H.elim
    ·exact H.elim
   ·exact H.elim
theorem z7n (X:Ctx):cG (bA X) (bA X):=by
 intro f a h K L H;refine H (fun f a h K=>∀L,bA X f a h L→∃v h' x,K v h' x∧L v h' x) ?_ ?_ L
 ·intro f a h K K' hK H' L hL
  obtain⟨v,h',x,h1,h2⟩:=H' L hL;exact⟨v,h',x,hK _ _ _ h1,h2⟩
 ·intro f a h K H' L hL
  exact z7D (C:=fun f a h K=>∀L,bA X f a h L→∃v h' x,K v h' x∧L v h' x) (fun f a h K L H1 H2=>H1 L H2) _ _ _ _ _ H' (bA.unfold hL)
theorem bA.eq {X:Ctx}{f:Nat}{a:List AV}{h:aA}{v:AV}{h':aA}{x:Esc}(H:bA X f a h fun v1 h1 x1=>v1=v∧h1=h'∧x1=x)(K:jA) :
 bA X f a h K↔K v h' x:=by
 constructor
 ·intro G
  obtain⟨v1,h1,x1,⟨rfl,rfl,rfl⟩,hk⟩:=z7n X _ _ _ _ _ H G;exact hk
 ·intro hk
  exact bA.mono X _ _ _ _ _ (fun v1 h1 x1 ⟨e1,e2,e3⟩=>by subst e1;subst e2;subst e3;exact hk) H
end Go.Am
end
section
/- The abstract machine,part 4: how its values and heap stand tov the model's (relations),and that they outlast what comes. -/
namespace Go.Am
def zed (w:World):World:={ w with heap:=#[],drawn:=0 }
structure Mem where
 c:Nat→Nat→Option Value
 b:Nat→Option Go.Obj
 z:Option World
 s:Nat→Option TypeId
instance:CoeFun Mem fun _=>Nat→Nat→Option Value:=⟨Mem.c⟩
abbrev Mu:=List (Option (Nat × Nat))
inductive RPV (M:Mem):PV→Value→Prop
 | int (k:IntKind) (n:Int):RPV M (.int k n) (.int k n)
 | bool (b:Bool):RPV M (.bool b) (.bool b)
 | str (s:List UInt8):RPV M (.str s) (.string ⟨s.toArray⟩)
 | nilp:RPV M .nilp (.pointer none)
 | unk (k:IntKind) (n:Int):RPV M .unk (.int k n)
 | nils (sh:Sh) (a:Option Addr) (cap:Nat):RPV M (.sl sh []) (.slice a 0 cap)
 | sl (sh:Sh) (xs:List PV) (b o cap:Nat) (f:Nat→Value) (hne:xs≠[]) (hc:xs.length≤cap) (he:∀x∈xs,x.shp sh=true)
  (hm:∀(j:Nat) (y:PV),(xs.flatMap PV.cells)[j]?=some y→M b (o+j)=some (f j))
  (hr:∀(j:Nat) (y:PV),(xs.flatMap PV.cells)[j]?=some y→RPV M y (f j)):RPV M (.sl sh xs) (.slice (some ⟨b,o,none⟩) xs.length cap)
 | agg (cs:List PV) (vs:List Value) (hl:cs.length=vs.length)
  (hr:∀(j:Nat) (y:PV) (v:Value),cs[j]?=some y→vs[j]?=some v→RPV M y v):RPV M (.agg cs) (.agg vs.toArray)
def CE (m:Option (Nat × Nat))(e off:Nat)(a:Option Addr)(cap:Nat):Prop:=match m with
 | none=>cap=0
 | some (b,n)=>cap=0∨(a=some ⟨b,off*e,none⟩∧(off+cap)*e≤n)
def BufAt (M:Mem)(t:Nat)(m:Option (Nat × Nat))(a:Option Addr)(cap:Nat):Prop:=match m with
 | none=>a=none∧cap=0
 | some (b,n)=>a=some ⟨b,0,none⟩∧(0<cap∧cap≤n)∧M.s b=some t
inductive RAV (M:Mem) (h:aA) (μ:Mu):AV→Value→Prop
 | p (v:PV) (x:Value) (hv:RPV M v x):RAV M h μ (.p v) x
 | own (id g off len:Nat) (a:Option Addr) (cap:Nat) (sh:Sh) (xs:List PV) (fz:Nat) (m:Option (Nat×Nat)) (hl:len≤cap) (ho:h[id]?=some (.row sh xs fz)) (hm:μ[id]?=some m)
  (hg:g≤xs.length) (hgl:off+len≤g) (hv:g=xs.length→CE m (gA sh) off a cap):RAV M h μ (.own id g off len) (.slice a len cap)
 | sl0 (sh:Sh) (a:Option Addr):RAV M h μ (.sl0 sh) (.slice a 0 0)
 | ref (id off b n:Nat) (cs:List AV) (ho:h[id]?=some (.box cs)) (hm:μ[id]?=some (some (b,n))):RAV M h μ (.ref id off) (.pointer (some ⟨b,off,none⟩))
 | rref (id g i off:Nat) (a:Addr) (sh:Sh) (xs:List PV) (fz:Nat) (m:Option (Nat×Nat)) (ho:h[id]?=some (.row sh xs fz)) (hm:μ[id]?=some m)
  (hg:g≤xs.length) (hi:i<g) (hv:g=xs.length→∃b n,m=some (b,n)∧a=⟨b,i*gA sh+off,none⟩):RAV M h μ (.rref id g i off) (.pointer (some a))
 | vp (v:PV) (b o:Nat) (f:Nat→Value) (hm:∀(j:Nat) (y:PV),v.cells[j]?=some y→M b (o+j)=some (f j)) (hr:∀(j:Nat) (y:PV),v.cells[j]?=some y→RPV M y (f j)) :
  RAV M h μ (.vp v) (.pointer (some ⟨b,o,none⟩))
 | nilp:RAV M h μ .nilp (.pointer none)
 | nilm:RAV M h μ .nilm (.map none)
 | nilf:RAV M h μ .nilf .nilFunc
 | nili:RAV M h μ .nili .nilIface
 | ifc (t:TypeId) (v:Value):RAV M h μ .ifc (.iface t v)
 | mp (id b n:Nat) (es:List ME) (c:Nat) (ho:h[id]?=some (.amap es c)) (hm:μ[id]?=some (some (b,n))):RAV M h μ (.mp id) (.map (some b))
 | it (id b n:Nat) (m:Option Nat) (s:Nat) (seen:List Nat) (l:Nat) (ho:h[id]?=some (.iter m s seen l)) (hm:μ[id]?=some (some (b,n))):RAV M h μ (.it id) (.pointer (some ⟨b,0,none⟩))
 | fn (f:Nat) (cs:List AV) (vs:List Value) (hl:cs.length=vs.length) (hr:∀(j:Nat) (y:AV) (v:Value),cs[j]?=some y→vs[j]?=some v→RAV M h μ y v) :
  RAV M h μ (.fn f cs) (.func (.func f) #[] vs.toArray)
 | agg (cs:List AV) (vs:List Value) (hl:cs.length=vs.length) (hr:∀(j:Nat) (y:AV) (v:Value),cs[j]?=some y→vs[j]?=some v→RAV M h μ y v):RAV M h μ (.agg cs) (.agg vs.toArray)
 | tup (cs:List AV) (vs:List Value) (hl:cs.length=vs.length) (hr:∀(j:Nat) (y:AV) (v:Value),cs[j]?=some y→vs[j]?=some v→RAV M h μ y v):RAV M h μ (.tup cs) (.tuple vs.toArray)
 | anyb (b:Bool):RAV M h μ .anyb (.bool b)
 | skp:RAV M h μ .skp undef
 | und (x:Value):RAV M h μ .und x
 | anyp (a:Option Addr):RAV M h μ .anyp (.pointer a)
 | bt0 (t id g b n:Nat) (cs:List AV) (ho:h[id]?=some (.box cs)) (hm:μ[id]?=some (some (b,n))) (hs:M.s b=some t):RAV M h μ (.bt 0 t id g) (.pointer none)
 | bt1 (t id g:Nat) (a:Option Addr) (cap:Nat) (xs:List PV) (fz:Nat) (m:Option (Nat×Nat)) (hl:g≤cap) (ho:h[id]?=some (.row none xs fz)) (hm:μ[id]?=some m)
  (hg:g≤xs.length) (hv:g=xs.length→BufAt M t m a cap):RAV M h μ (.bt 1 t id g) (.slice a g cap)
 | bt2 (t id g:Nat) (a:Addr) (xs:List PV) (fz:Nat) (m:Option (Nat×Nat)) (ho:h[id]?=some (.row none xs fz)) (hm:μ[id]?=some m)
  (hg:g≤xs.length) (hv:g=xs.length→∃b n,m=some (b,n)∧a=⟨b,0,none⟩∧M.s b=some t):RAV M h μ (.bt 2 t id g) (.pointer (some a))
 | bt3 (t id g:Nat) (a:Option Addr) (cap:Nat) (o:Obj) (m:Option (Nat×Nat)) (hl:g≤cap) (ho:h[id]?=some o) (hm:μ[id]?=some m)
  (hv:∀sh cs,o = .arow sh cs→g*gA sh≤cs.length∧(g*gA sh=cs.length→CE m (gA sh) 0 a cap)):RAV M h μ (.bt 3 t id g) (.slice a g cap)
 | bt4 (off id g:Nat) (a:Addr) (o:Obj) (m:Option (Nat×Nat)) (ho:h[id]?=some o) (hm:μ[id]?=some m)
  (hv:∀sh cs,o = .arow sh cs→g*gA sh≤cs.length∧(g*gA sh=cs.length→∃b n,m=some (b,n)∧a=⟨b,off,none⟩)):RAV M h μ (.bt 4 off id g) (.pointer (some a))
structure Mem.le (M M':Mem):Prop where
 c:∀b o v,M.c b o=some v→M'.c b o=some v
 b:∀b o,M.b b=some o→M'.b b=some o
 z:M'.z=M.z
 s:∀b t,M.s b=some t→M'.s b=some t
theorem RPV.mono {M M':Mem}(hM:M.le M'){v:PV}{x:Value}(H:RPV M v x):RPV M' v x:=by
 induction H with
 | int k n=>exact .int k n
 | bool b=>exact .bool b
 | str s=>exact .str s
 | nilp=>exact .nilp
 | unk k n=>exact .unk k n
 | nils sh a cap=>exact .nils sh a cap
 | sl sh xs b o cap f hne hc he hm hr ih=>exact .sl sh xs b o cap f hne hc he (fun j y hy=>hM.c _ _ _ (hm j y hy)) ih
 | agg cs vs hl hr ih=>exact .agg cs vs hl ih
def fD (o:Obj)(m:Option (Nat × Nat))(o':Obj)(m':Option (Nat × Nat)):Prop:=match o with
 | .box _=>(∃cs',o' = .box cs')∧m'=m
 | .row sh xs _=>∃xs' fz',o' = .row sh xs' fz'∧xs.length≤xs'.length∧(xs'.length=xs.length→m'=m)
 | .amap _ _=>(∃es c,o' = .amap es c)∧m'=m
 | .iter _ _ _ _=>(∃a b c d,o' = .iter a b c d)∧m'=m
 | .arow sh cs=>(∃cs',o' = .arow sh cs'∧cs.length≤cs'.length∧(cs'.length=cs.length→m'=m))∨∃sh' xs fz,o' = .row sh' xs fz
theorem fD.refl (o:Obj)(m:Option (Nat × Nat)):fD o m o m:=by
 cases o <;> simp [fD]
theorem fD.trans {o o' o'':Obj}{m m' m'':Option (Nat × Nat)}(h:fD o m o' m')(h':fD o' m' o'' m''):fD o m o'' m'':=by
 cases o with
 | box cs=>obtain⟨⟨cs',rfl⟩,rfl⟩:=h;exact h'
 | row sh xs fz=>
  obtain⟨xs',fz',rfl,h1,h2⟩:=h;obtain⟨xs'',fz'',rfl,h3,h4⟩:=h';exact⟨xs'',fz'',rfl,by omega,fun he=>(h4 (by omega)).trans (h2 (by omega))⟩
 | amap es c=>obtain⟨⟨es',c',rfl⟩,rfl⟩:=h;exact h'
 | iter a b c d=>obtain⟨⟨a',b',c',d',rfl⟩,rfl⟩:=h;exact h'
 | arow sh cs=>
  rcases h with⟨cs',rfl,h1,h2⟩|⟨sh',xs,fz,rfl⟩
  ·rcases h' with⟨cs'',rfl,h3,h4⟩|h'
   ·exact .inl ⟨cs'',rfl,by omega,fun he=>(h4 (by omega)).trans (h2 (by omega))⟩
   ·exact .inr h'
  ·obtain⟨xs'',fz'',rfl,_⟩:=h'
   exact .inr ⟨sh',xs'',fz'',rfl⟩
theorem fD.to_arow {o:Obj}{m m':Option (Nat × Nat)}{sh:Sh}{cs':List AV}(h:fD o m (.arow sh cs') m'):∃cs,o = .arow sh cs∧cs.length≤cs'.length∧(cs'.length=cs.length→m'=m):=by
 cases o with
 | box cs=>obtain⟨⟨_,h⟩,_⟩:=h;cases h
 | row sh xs fz=>obtain⟨_,_,h,_⟩:=h;cases h
 | amap es c=>obtain⟨⟨_,_,h⟩,_⟩:=h;cases h
 | iter a b c d=>obtain⟨⟨_,_,_,_,h⟩,_⟩:=h;cases h
 | arow sh' cs=>
  rcases h with⟨cs2,h1,h2,h3⟩|⟨_,_,_,h⟩
  ·injection h1 with h1 h4;subst h1;subst h4;exact⟨cs,rfl,h2,h3⟩
  ·cases h
structure Evo (M:Mem) (h:aA) (μ:Mu) (M':Mem) (h':aA) (μ':Mu):Prop where
 le:M.le M'
 len:h.length≤h'.length
 obj:∀(id:Nat) (o:Obj) (m:Option (Nat×Nat)),h[id]?=some o→μ[id]?=some m→∃o' m',h'[id]?=some o'∧μ'[id]?=some m'∧fD o m o' m'
theorem Evo.refl (M:Mem)(h:aA)(μ:Mu):Evo M h μ M h μ:=⟨⟨fun _ _ _ h=>h,fun _ _ h=>h,rfl,fun _ _ h=>h⟩,Nat.le_refl _,fun _ o m h1 h2=>⟨o,m,h1,h2,fD.refl o m⟩⟩
theorem Evo.trans {M M' M'':Mem}{h h' h'':aA}{μ μ' μ'':Mu}(a:Evo M h μ M' h' μ')(b:Evo M' h' μ' M'' h'' μ''):Evo M h μ M'' h'' μ'':=
 ⟨⟨fun x y v h=>b.le.c x y v (a.le.c x y v h),fun x y h=>b.le.b x y (a.le.b x y h),b.le.z.trans a.le.z,fun x t h=>b.le.s x t (a.le.s x t h)⟩,Nat.le_trans a.len b.len,fun id o m h1 h2=>by
  obtain⟨o',m',h3,h4,h5⟩:=a.obj id o m h1 h2;obtain⟨o'',m'',h6,h7,h8⟩:=b.obj id o' m' h3 h4;exact⟨o'',m'',h6,h7,h5.trans h8⟩⟩
theorem RAV.evo {M M':Mem}{h h':aA}{μ μ':Mu}(E:Evo M h μ M' h' μ'){v:AV}{x:Value}(H:RAV M h μ v x):RAV M' h' μ' v x:=by
 induction H with
 | p v x hv=>exact .p v x (hv.mono E.le)
 | own id g off len a cap sh xs fz m hl ho hm hg hgl hv=>
  obtain⟨o',m',h1,h2,xs',fz',rfl,h4,h5⟩:=E.obj id _ m ho hm;refine .own id g off len a cap sh xs' fz' m' hl h1 h2 (by omega) hgl (fun he=>?_)
  rw[h5 (by omega)]
  exact hv (by omega)
 | sl0 sh a=>exact .sl0 sh a
 | ref id off b n cs ho hm=>
  obtain⟨o',m',h1,h2,⟨cs',rfl⟩,rfl⟩:=E.obj id _ _ ho hm;exact .ref id off b n cs' h1 h2
 | rref id g i off a sh xs fz m ho hm hg hi hv=>
  obtain⟨o',m',h1,h2,xs',fz',rfl,h4,h5⟩:=E.obj id _ m ho hm;refine .rref id g i off a sh xs' fz' m' h1 h2 (by omega) hi (fun he=>?_)
  rw[h5 (by omega)]
  exact hv (by omega)
 | vp v b o f hm hr=>exact .vp v b o f (fun j y hy=>E.le.c _ _ _ (hm j y hy)) (fun j y hy=>(hr j y hy).mono E.le)
 | nilp=>exact .nilp
 | nilm=>exact .nilm
 | nilf=>exact .nilf
 | nili=>exact .nili
 | ifc t v=>exact .ifc t v
 | mp id b n es c ho hm=>
  obtain⟨o',m',h1,h2,⟨es',c',rfl⟩,rfl⟩:=E.obj id _ _ ho hm;exact .mp id b n es' c' h1 h2
 | it id b n m s seen l ho hm=>
  obtain⟨o',m',h1,h2,⟨a',b',c',d',rfl⟩,rfl⟩:=E.obj id _ _ ho hm;exact .it id b n a' b' c' d' h1 h2
 | fn f cs vs hl hr ih=>exact .fn f cs vs hl ih
 | agg cs vs hl hr ih=>exact .agg cs vs hl ih
 | tup cs vs hl hr ih=>exact .tup cs vs hl ih
 | anyb b=>exact .anyb b
 | skp=>exact .skp
 | und x=>exact .und x
 | anyp a=>exact .anyp a
 | bt0 t id g b n cs ho hm hs=>
  obtain⟨o',m',h1,h2,⟨cs',rfl⟩,rfl⟩:=E.obj id _ _ ho hm;exact .bt0 t id g b n cs' h1 h2 (E.le.s _ _ hs)
 | bt1 t id g a cap xs fz m hl ho hm hg hv=>
  obtain⟨o',m',h1,h2,xs',fz',rfl,h4,h5⟩:=E.obj id _ m ho hm;refine .bt1 t id g a cap xs' fz' m' hl h1 h2 (by omega) (fun he=>?_)
  rw[h5 (by omega)]
  have q:=hv (by omega)
  cases m with
  | none=>exact q
  | some m=>exact⟨q.1,q.2.1,E.le.s _ _ q.2.2⟩
 | bt2 t id g a xs fz m ho hm hg hv=>
  obtain⟨o',m',h1,h2,xs',fz',rfl,h4,h5⟩:=E.obj id _ m ho hm;refine .bt2 t id g a xs' fz' m' h1 h2 (by omega) (fun he=>?_)
  rw[h5 (by omega)]
  obtain⟨b,n,q1,q2,q3⟩:=hv (by omega)
  exact⟨b,n,q1,q2,E.le.s _ _ q3⟩
 | bt3 t id g a cap o m hl ho hm hv=>
  obtain⟨o',m',h1,h2,h3⟩:=E.obj id _ m ho hm;refine .bt3 t id g a cap o' m' hl h1 h2 (fun sh cs' e=>?_)
  subst e;obtain⟨cs,rfl,h4,h5⟩:=fD.to_arow h3;obtain⟨q1,q2⟩:=hv sh cs rfl;exact⟨by omega,fun he=>by rw[h5 (by omega)];exact q2 (by omega)⟩
 | bt4 off id g a o m ho hm hv=>
  obtain⟨o',m',h1,h2,h3⟩:=E.obj id _ m ho hm;refine .bt4 off id g a o' m' h1 h2 (fun sh cs' e=>?_)
  subst e;obtain⟨cs,rfl,h4,h5⟩:=fD.to_arow h3;obtain⟨q1,q2⟩:=hv sh cs rfl;exact⟨by omega,fun he=>by rw[h5 (by omega)];exact q2 (by omega)⟩
theorem FH {cs:List AV}{n:Nat}(H:∀ (j:Nat) (y:AV),cs[j]?=some y→y.top≤n):AV.tops cs≤n:=by
 induction cs with
 | nil=>simp [AV.tops]
 | cons v r ih=>
  simp only[AV.tops];have h0:=H 0 v rfl
  have h1:=ih (fun j y hy=>H (j+1) y (by simpa using hy))
  omega
theorem oH {cs:List AV}{j:Nat}{y:AV}(H:cs[j]?=some y):y.top≤AV.tops cs:=by
 induction cs generalizing j with
 | nil=>simp at H
 | cons v r ih=>
  simp only[AV.tops];cases j with
  | zero=>simp at H;subst H;omega
  | succ j=>have:=ih (by simpa using H);omega
theorem xA {α:Type}{l:List α}{i:Nat}{x:α}(h:l[i]?=some x):i<l.length:=by
 rcases Nat.lt_or_ge i l.length with h'|h'
 ·exact h'
 ·rw[List.getElem?_eq_none h']at h;cases h
theorem RAV.top_le {M:Mem}{h:aA}{μ:Mu}{v:AV}{x:Value}(H:RAV M h μ v x):v.top≤h.length:=by
 induction H with
 | own id g off len a cap sh xs fz m hl ho hm hg hgl hv=>exact xA ho
 | ref id off b n cs ho hm=>exact xA ho
 | rref id g i off a sh xs fz m ho hm hg hi hv=>exact xA ho
 | mp id b n es c ho hm=>exact xA ho
 | it id b n m s seen l ho hm=>exact xA ho
 | bt0 t id g b n cs ho hm hs=>exact xA ho
 | bt1 t id g a cap xs fz m hl ho hm hg hv=>exact xA ho
 | bt2 t id g a xs fz m ho hm hg hv=>exact xA ho
 | bt3 t id g a cap o m hl ho hm hv=>exact xA ho
 | bt4 off id g a o m ho hm hv=>exact xA ho
 | fn f cs vs hl hr ih=>
  simp only[AV.top];refine FH (fun j y hy=>?_)
  have hj:j<vs.length:=by rw[←hl];exact xA hy
  exact ih j y vs[j] hy (List.getElem?_eq_getElem hj)
 | agg cs vs hl hr ih=>
  simp only[AV.top];refine FH (fun j y hy=>?_)
  have hj:j<vs.length:=by rw[←hl];exact xA hy
  exact ih j y vs[j] hy (List.getElem?_eq_getElem hj)
 | tup cs vs hl hr ih=>
  simp only[AV.top];refine FH (fun j y hy=>?_)
  have hj:j<vs.length:=by rw[←hl];exact xA hy
  exact ih j y vs[j] hy (List.getElem?_eq_getElem hj)
 | _=>simp [AV.top]
theorem RAV.take {M M':Mem}(hM:M.le M'){h:aA}{μ:Mu}{n:Nat}{v:AV}{x:Value}(H:RAV M h μ v x):v.top≤n→RAV M' (h.take n) (μ.take n) v x:=by
 have get:∀{α:Type} {l:List α} {i:Nat} {y:α},l[i]?=some y→i<n→(l.take n)[i]?=some y:=by
  intro α l i y h hi;rw[List.getElem?_take,if_pos hi,h]
 induction H with
 | p v x hv=>exact fun _=>.p v x (hv.mono hM)
 | own id g off len a cap sh xs fz m hl ho hm hg hgl hv=>exact fun ht=>.own id g off len a cap sh xs fz m hl (get ho ht) (get hm ht) hg hgl hv
 | sl0 sh a=>exact fun _=>.sl0 sh a
 | ref id off b n cs ho hm=>exact fun ht=>.ref id off b n cs (get ho ht) (get hm ht)
 | rref id g i off a sh xs fz m ho hm hg hi hv=>exact fun ht=>.rref id g i off a sh xs fz m (get ho ht) (get hm ht) hg hi hv
 | vp v b o f hm hr=>exact fun _=>.vp v b o f (fun j y hy=>hM.c _ _ _ (hm j y hy)) (fun j y hy=>(hr j y hy).mono hM)
 | nilp=>exact fun _=>.nilp
 | nilm=>exact fun _=>.nilm
 | nilf=>exact fun _=>.nilf
 | nili=>exact fun _=>.nili
 | ifc t v=>exact fun _=>.ifc t v
 | mp id b n es c ho hm=>exact fun ht=>.mp id b n es c (get ho ht) (get hm ht)
 | it id b n m s seen l ho hm=>exact fun ht=>.it id b n m s seen l (get ho ht) (get hm ht)
 | fn f cs vs hl hr ih=>exact fun ht=>.fn f cs vs hl (fun j y v h1 h2=>ih j y v h1 h2 (by have:=oH h1;simp only[AV.top]at ht;omega))
 | agg cs vs hl hr ih=>exact fun ht=>.agg cs vs hl (fun j y v h1 h2=>ih j y v h1 h2 (by have:=oH h1;simp only[AV.top]at ht;omega))
 | tup cs vs hl hr ih=>exact fun ht=>.tup cs vs hl (fun j y v h1 h2=>ih j y v h1 h2 (by have:=oH h1;simp only[AV.top]at ht;omega))
 | anyb b=>exact fun _=>.anyb b
 | skp=>exact fun _=>.skp
 | und x=>exact fun _=>.und x
 | anyp a=>exact fun _=>.anyp a
 | bt0 t id g b n cs ho hm hs=>exact fun ht=>.bt0 t id g b n cs (get ho ht) (get hm ht) (hM.s _ _ hs)
 | bt1 t id g a cap xs fz m hl ho hm hg hv=>exact fun ht=>.bt1 t id g a cap xs fz m hl (get ho ht) (get hm ht) hg (fun e=>by
  have q:=hv e
  cases m with
  | none=>exact q
  | some m=>exact⟨q.1,q.2.1,hM.s _ _ q.2.2⟩)
 | bt2 t id g a xs fz m ho hm hg hv=>exact fun ht=>.bt2 t id g a xs fz m (get ho ht) (get hm ht) hg (fun e=>by obtain⟨b,n,q1,q2,q3⟩:=hv e;exact⟨b,n,q1,q2,hM.s _ _ q3⟩)
 | bt3 t id g a cap o m hl ho hm hv=>exact fun ht=>.bt3 t id g a cap o m hl (get ho ht) (get hm ht) hv
 | bt4 off id g a o m ho hm hv=>exact fun ht=>.bt4 off id g a o m (get ho ht) (get hm ht) hv
def dG (h:aA)(μ:Mu)(b o:Nat):Prop:=∃(id n:Nat),μ[id]?=some (some (b,n))∧∀(sh:Sh) (xs:List PV) (fz:Nat),h[id]?=some (.row sh xs fz)→fz*gA sh≤o
def hJ (μ:Mu)(b:Nat):Prop:=∃(id n:Nat),μ[id]?=some (some (b,n))
def ety (w:World)(b:Nat):Option TypeId:=match w.heap[b]? with
 | some (.cells _ e _)=>some e
 | _=>none
open Classical in
noncomputable def imm (h:aA) (μ:Mu) (w:World):Mem:=⟨fun b o=>if dG h μ b o then none else w.cell? ⟨b,o,none⟩,fun b=>if hJ μ b then none else w.heap[b]?,some (zed w),ety w⟩
theorem LD {h:aA}{μ:Mu}{w:World}{b o:Nat}{v:Value}:(imm h μ w).c b o=some v↔¬dG h μ b o∧w.cell? ⟨b,o,none⟩=some v:=by
 unfold imm;by_cases hO:dG h μ b o <;> simp [hO]
theorem mH {h:aA}{μ:Mu}{w:World}{b:Nat}{o:Go.Obj}:(imm h μ w).b b=some o↔¬hJ μ b∧w.heap[b]?=some o:=by
 unfold imm;by_cases hO:hJ μ b <;> simp [hO]
def YA (w:World)(b n:Nat)(c:Array Value)(sealed:Prop:=False):Prop:=c.size=n∧∃E lo hi,w.heap[b]?=some (.cells c E (lo,hi))∧(¬sealed→lo<hi→n≤lo)
theorem YA.unsl {w:World}{b n:Nat}{c:Array Value}{s:Prop}(h:YA w b n c s)(hs:¬ s):YA w b n c:=by
 obtain⟨h1,E,lo,hi,h2,h3⟩:=h;exact⟨h1,E,lo,hi,h2,fun _=>h3 hs⟩
theorem YA.imp {w:World}{b n:Nat}{c:Array Value}{s s':Prop}(i:s→s')(h:YA w b n c s):YA w b n c s':=by
 obtain⟨h1,E,lo,hi,h2,h3⟩:=h;exact⟨h1,E,lo,hi,h2,fun q=>h3 (fun p=>q (i p))⟩
theorem YA.sealed {w:World}{b n:Nat}{c:Array Value}(s:Prop)(h:YA w b n c):YA w b n c s:=by
 obtain⟨h1,E,lo,hi,h2,h3⟩:=h;exact⟨h1,E,lo,hi,h2,fun _=>h3 (fun h=>h)⟩
def NH (M:Mem)(h:aA)(μ:Mu)(w:World)(o:Obj)(m:Option (Nat × Nat)):Prop:=match o with
 | .box cs=>∃b c,m=some (b,cs.length)∧YA w b cs.length c∧∀(j:Nat) (x:AV),cs[j]?=some x→x.sc=true∧∃v,c[j]?=some v∧RAV M h μ x v
 | .row sh xs fz=>fz≤xs.length+1∧(∀x∈xs,x.shp sh=true)∧match m with
  | none=>xs=[]
  | some (b,n)=>∃c,YA w b n c (xs.length<fz)∧xs.length*gA sh≤n∧∀(i j:Nat) (x y:PV),xs[i]?=some x→x.cells[j]?=some y→∃v,c[i*gA sh+j]?=some v∧RPV M y v
 | .amap es clk=>∃b n ces,m=some (b,n)∧w.heap[b]?=some (.map ces clk)∧ces.size=es.length∧(∀e∈es,e.born<clk) ∧
  ∀(i:Nat) (e:ME) (ce:MapEntry),es[i]?=some e→ces[i]?=some ce→RPV M e.key ce.key∧e.key.key=true∧RAV M h μ e.val ce.val∧ce.born=e.born
 | .iter mm since seen last=>∃b n,m=some (b,n)∧match mm with
  | none=>since=0→w.heap[b]?=some (.mapIter none 0 #[] 0)
  | some id=>∃bm nm es c,μ[id]?=some (some (bm,nm))∧h[id]?=some (.amap es c)∧w.heap[b]?=some (.mapIter (some bm) since seen.toArray last)
 | .arow sh cs=>(∀x∈cs,x.sc=true)∧match m with
  | none=>cs=[]
  | some (b,n)=>∃c,YA w b n c∧cs.length≤n∧∀(j:Nat) (x:AV),cs[j]?=some x→∃v,c[j]?=some v∧RAV M h μ x v
structure HeapRel (h:aA) (μ:Mu) (w:World):Prop where
 len:μ.length=h.length
 obj:∀(id:Nat) (o:Obj) (m:Option (Nat×Nat)),h[id]?=some o→μ[id]?=some m→NH (imm h μ w) h μ w o m
 distinct:∀(i j b n n':Nat),μ[i]?=some (some (b,n))→μ[j]?=some (some (b,n'))→i=j
 inside:∀(i b n:Nat),μ[i]?=some (some (b,n))→b<w.heap.size
end Go.Am
end
section
/- The abstract machine,part 5: how the relation of the heaps outlasts what operations do tov the world. -/
namespace Go.Am
variable {h h':aA} {μ μ':Mu} {w w':World}
theorem iP {b o:Nat}(e:w'.heap[b]?=w.heap[b]?):w'.cell? ⟨b,o,none⟩=w.cell? ⟨b,o,none⟩:=by
 unfold World.cell?;simp only[e]
theorem wD {b n o:Nat}{c:Array Value}{s:Prop}(hb:YA w b n c s):w.cell? ⟨b,o,none⟩=c[o]?:=by
 obtain⟨_,E,lo,hi,he,_⟩:=hb;unfold World.cell?;simp [he]
theorem kR (H:∀ (b o:Nat) (v:Value),¬ dG h μ b o→w.cell? ⟨b,o,none⟩=some v→¬ dG h' μ' b o∧w'.cell? ⟨b,o,none⟩=some v)
 (HB:∀(b:Nat) (o:Go.Obj),¬hJ μ b→w.heap[b]?=some o→¬hJ μ' b∧w'.heap[b]?=some o) (HZ:zed w'=zed w) (HS:∀b t,ety w b=some t→ety w' b=some t):(imm h μ w).le (imm h' μ' w'):=by
 refine⟨fun b o v hv=>?_,fun b o hv=>?_,congrArg some HZ,HS⟩
 ·obtain⟨h1,h2⟩:=LD.1 hv
  exact LD.2 (H b o v h1 h2)
 ·obtain⟨h1,h2⟩:=mH.1 hv
  exact mH.2 (HB b o h1 h2)
theorem mJ {b:Nat}{o:Go.Obj}(hb:w.heap[b]?=some o):b<w.heap.size:=(Array.getElem?_eq_some_iff.1 hb).1
theorem NM {b:Nat}(e:w'.heap[b]?=w.heap[b]?):ety w' b=ety w b:=by
 unfold ety;simp only[e]
theorem z24 {b:Nat}{c:Array Value}{E:TypeId}{f:Nat × Nat}(e:w.heap[b]?=some (.cells c E f)):ety w b=some E:=by
 unfold ety;simp only[e]
theorem PQ {b:Nat}{t:TypeId}(e:ety w b=some t):b<w.heap.size:=by
 unfold ety at e;rcases Nat.lt_or_ge b w.heap.size with h|h
 ·exact h
 ·rw[Array.getElem?_eq_none h]at e
  cases e
theorem YA.keep {b n:Nat}{c:Array Value}{s:Prop}(e:w'.heap[b]?=w.heap[b]?)(hb:YA w b n c s):YA w' b n c s:=by
 obtain⟨h1,E,lo,hi,he,h2⟩:=hb;exact⟨h1,E,lo,hi,by rw[e];exact he,h2⟩
theorem NH.keep {M M':Mem}{o:Obj}{m:Option (Nat × Nat)}(E:Evo M h μ M' h' μ')(hw:∀ b n,m=some (b,n)→w'.heap[b]?=w.heap[b]?)
 (H:NH M h μ w o m):NH M' h' μ' w' o m:=by
 cases o with
 | box cs=>
  obtain⟨b,c,rfl,hb,hc⟩:=H;refine⟨b,c,rfl,hb.keep (hw _ _ rfl),fun j x hx=>?_⟩
  obtain⟨h1,v,h2,h3⟩:=hc j x hx;exact⟨h1,v,h2,h3.evo E⟩
 | row sh xs fz=>
  obtain⟨h1,h2,h3⟩:=H;refine⟨h1,h2,?_⟩;cases m with
  | none=>exact h3
  | some m=>
   obtain⟨b,n⟩:=m;obtain⟨c,h4,h5,h6⟩:=h3;refine⟨c,h4.keep (hw _ _ rfl),h5,fun i j x y hx hy=>?_⟩
   obtain⟨v,h7,h8⟩:=h6 i j x y hx hy;exact⟨v,h7,h8.mono E.le⟩
 | amap es clk=>
  obtain⟨b,n,ces,rfl,h1,h2,hb,h3⟩:=H;refine⟨b,n,ces,rfl,by rw[hw _ _ rfl];exact h1,h2,hb,fun i e ce he hc=>?_⟩
  obtain⟨h4,h5,h6,h7⟩:=h3 i e ce he hc;exact⟨h4.mono E.le,h5,h6.evo E,h7⟩
 | iter mm s seen l=>
  obtain⟨b,n,rfl,h1⟩:=H;refine⟨b,n,rfl,?_⟩;cases mm with
  | none=>exact fun e=>by rw[hw _ _ rfl];exact h1 e
  | some id=>
   obtain⟨bm,nm,es,c,h2,h3,h4⟩:=h1;obtain⟨o',m',h5,h6,⟨es',c',rfl⟩,rfl⟩:=E.obj id _ _ h3 h2;exact⟨bm,nm,es',c',h6,h5,by rw[hw _ _ rfl];exact h4⟩
 | arow sh cs=>
  obtain⟨h1,h2⟩:=H;refine⟨h1,?_⟩;cases m with
  | none=>exact h2
  | some m=>
   obtain⟨b,n⟩:=m;obtain⟨c,h3,h4,h5⟩:=h2;refine⟨c,h3.keep (hw _ _ rfl),h4,fun j x hx=>?_⟩
   obtain⟨v,h6,h7⟩:=h5 j x hx;exact⟨v,h6,h7.evo E⟩
structure WExt (w w':World):Prop where
 left:w.heap.size≤w'.heap.size
 right:∀b,b<w.heap.size→w'.heap[b]?=w.heap[b]?
 zz:zed w'=zed w
theorem WExt.refl (w:World):WExt w w:=⟨Nat.le_refl _,fun _ _=>rfl,rfl⟩
theorem WExt.trans {w w' w'':World}(a:WExt w w')(b:WExt w' w''):WExt w w'':=
 ⟨Nat.le_trans a.1 b.1,fun x hx=>(b.2 x (Nat.lt_of_lt_of_le hx a.1)).trans (a.2 x hx),b.zz.trans a.zz⟩
theorem WExt.push (w:World)(o:Go.Obj):WExt w { w with heap:=w.heap.push o }:=
 ⟨by simp,fun b hb=>by simp [Array.getElem?_push,Nat.ne_of_lt hb],rfl⟩
theorem WExt.drew (w:World)(n:Nat):WExt w { w with drawn:=n }:=⟨Nat.le_refl _,fun _ _=>rfl,rfl⟩
theorem fP {b o:Nat}{v:Value}(hv:w.cell? ⟨b,o,none⟩=some v):b<w.heap.size:=by
 rcases Nat.lt_or_ge b w.heap.size with h|h
 ·exact h
 ·unfold World.cell? at hv
  simp [Array.getElem?_eq_none h]at hv
theorem HeapRel.ext (H:HeapRel h μ w)(hw:WExt w w'):HeapRel h μ w'∧Evo (imm h μ w) h μ (imm h μ w') h μ:=by
 have E:Evo (imm h μ w) h μ (imm h μ w') h μ:=
  ⟨kR (fun b o v h1 h2=>⟨h1,by rw[iP (hw.2 b (fP h2))];exact h2⟩) (fun b o h1 h2=>⟨h1,by rw[hw.2 b (mJ h2)];exact h2⟩) hw.zz (fun b t h=>by rw[NM (hw.2 b (PQ h))];exact h),Nat.le_refl _,fun _ o m h1 h2=>⟨o,m,h1,h2,fD.refl o m⟩⟩
 exact⟨⟨H.len,fun id o m h1 h2=>(H.obj id o m h1 h2).keep E fun b n e=>hw.2 b (H.inside id b n (e ▸ h2)),H.distinct,fun i b n hb=>Nat.lt_of_lt_of_le (H.inside i b n hb) hw.1⟩,E⟩
theorem RF {α:Type}{l:List α}{x y:α}{i:Nat}(hy:(l++[x])[i]?=some y):l[i]?=some y∨(i=l.length∧y=x):=by
 rcases Nat.lt_trichotomy i l.length with h|h|h
 ·left;rw[List.getElem?_append_left h]at hy;exact hy
 ·right;subst h;simp at hy;exact⟨rfl,hy.symm⟩
 ·rw[List.getElem?_append_right (by omega)]at hy
  have:1≤i-l.length:=by omega
  rw[List.getElem?_eq_none (by simpa using this)]at hy;cases hy
theorem AG {α:Type}{l r:List α}{y:α}{i:Nat}(hy:l[i]?=some y):(l++r)[i]?=some y:=by
 rw[List.getElem?_append_left (xA hy)];exact hy
theorem HeapRel.push (H:HeapRel h μ w)(hw:WExt w w')(o:Obj)(m:Option (Nat × Nat))(hm:∀ b n,m=some (b,n)→w.heap.size≤b∧b<w'.heap.size)
 (ho:∀M',Evo (imm h μ w) h μ M' (h++[o]) (μ++[m])→NH M' (h++[o]) (μ++[m]) w' o m) :
 HeapRel (h++[o]) (μ++[m]) w'∧Evo (imm h μ w) h μ (imm (h++[o]) (μ++[m]) w') (h++[o]) (μ++[m]):=by
 have hO:∀b x,b<w.heap.size→dG (h++[o]) (μ++[m]) b x→dG h μ b x:=by
  rintro b x hb ⟨id,n,h1,h2⟩
  rcases RF h1 with h1|⟨_,h1⟩
  ·refine⟨id,n,h1,fun sh xs fz h3=>h2 sh xs fz (AG h3)⟩
  ·have:=(hm b n h1.symm).1;omega
 have E:Evo (imm h μ w) h μ (imm (h++[o]) (μ++[m]) w') (h++[o]) (μ++[m]):=
  ⟨kR (fun b x v h1 h2=>⟨fun h3=>h1 (hO b x (fP h2) h3),by rw[iP (hw.2 b (fP h2))];exact h2⟩) (fun b o h1 h2=>⟨(by
   rintro⟨i,n,h3⟩
   rcases RF h3 with h3|⟨_,h3⟩
   ·exact h1 ⟨i,n,h3⟩
   ·have:=(hm b n h3.symm).1;have:=mJ h2;omega),by rw[hw.2 b (mJ h2)];exact h2⟩) hw.zz (fun b t h=>by rw[NM (hw.2 b (PQ h))];exact h),by simp,
   fun _ o m h1 h2=>⟨o,m,AG h1,AG h2,fD.refl o m⟩⟩
 refine⟨⟨by simp [H.len],fun id o' m' h1 h2=>?_,fun i j b n n' h1 h2=>?_,fun i b n h1=>?_⟩,E⟩
 ·rcases RF h1 with h1|⟨e,e'⟩
  ·rw[List.getElem?_append_left (by rw[H.len];exact xA h1)]at h2
   exact(H.obj id o' m' h1 h2).keep E fun b n e=>hw.2 b (H.inside id b n (e ▸ h2))
  ·subst e'
   rw[e,←H.len]at h2;simp at h2;subst h2;exact ho _ E
 ·rcases RF h1 with h1|⟨e1,e1'⟩
  ·rcases RF h2 with h2|⟨e2,e2'⟩
   ·exact H.distinct i j b n n' h1 h2
   ·have h3:=H.inside i b n h1;have:=(hm b n' e2'.symm).1;omega
  ·rcases RF h2 with h2|⟨e2,e2'⟩
   ·have h3:=H.inside j b n' h2;have:=(hm b n e1'.symm).1;omega
   ·rw[e1,e2]
 ·rcases RF h1 with h1|⟨_,h1⟩
  ·exact Nat.lt_of_lt_of_le (H.inside i b n h1) hw.1
  ·exact(hm b n h1.symm).2
theorem mF {α:Type}{l:List α}{x y:α}{i j:Nat}(hy:(l.set i x)[j]?=some y):(i≠j∧l[j]?=some y)∨(i=j∧y=x∧j<l.length):=by
 by_cases e:i=j
 ·subst e
  right;have hl:i<l.length:=by simpa using xA hy
  rw[List.getElem?_set_self hl]at hy;exact⟨rfl,by simpa using hy.symm,hl⟩
 ·left;rw[List.getElem?_set_ne e]at hy;exact⟨e,hy⟩
theorem EC {α:Type}{l:List α}{x y:α}{i:Nat}(hy:l[i]?=some y):(l.set i x)[i]?=some x:=List.getElem?_set_self (xA hy)
theorem HeapRel.set (H:HeapRel h μ w){id:Nat}{o o':Obj}{m m':Option (Nat × Nat)}(ho:h[id]?=some o)(hm:μ[id]?=some m)(hev:fD o m o' m')
 (hz:zed w'=zed w) (hsz:w.heap.size≤w'.heap.size) (hw:∀b,b<w.heap.size→(∀n,m≠some (b,n))→w'.heap[b]?=w.heap[b]?)
 (hm':∀b n,m'=some (b,n)→(∃n0,m=some (b,n0))∨(w.heap.size≤b∧b<w'.heap.size))
 (hfz:∀b n sh xs fz,m=some (b,n)→o = .row sh xs fz→∃xs' fz',o' = .row sh xs' fz'∧∀j,j<fz*gA sh→w'.cell? ⟨b,j,none⟩=w.cell? ⟨b,j,none⟩∧(∀n',m'=some (b,n')→j<fz'*gA sh))
 (hob:∀M',Evo (imm h μ w) h μ M' (h.set id o') (μ.set id m')→NH M' (h.set id o') (μ.set id m') w' o' m')
 (hety:∀b n t,m=some (b,n)→ety w b=some t→ety w' b=some t) :
 HeapRel (h.set id o') (μ.set id m') w'∧Evo (imm h μ w) h μ (imm (h.set id o') (μ.set id m') w') (h.set id o') (μ.set id m'):=by
 have E:Evo (imm h μ w) h μ (imm (h.set id o') (μ.set id m') w') (h.set id o') (μ.set id m'):=by
  refine⟨kR (fun b x v h1 h2=>?_) (fun b o1 h1 h2=>⟨(by
   rintro⟨i,n,h3⟩
   rcases mF h3 with⟨_,h3⟩|⟨_,h3,_⟩
   ·exact h1 ⟨i,n,h3⟩
   ·rcases hm' b n h3.symm with⟨n0,e⟩|⟨e,_⟩
    ·exact h1 ⟨id,n0,by rw[hm,e]⟩
    ·have:=mJ h2;omega),by rw[hw b (mJ h2) (fun n e=>h1 ⟨id,n,by rw[hm,e]⟩)];exact h2⟩) hz (fun b t h=>by
   by_cases hmb:∃n,m=some (b,n)
   ·obtain⟨n,hn⟩:=hmb
    exact hety b n t hn h
   ·rw[NM (hw b (PQ h) (fun n e=>hmb ⟨n,e⟩))];exact h),by simp,fun i o1 m1 h1 h2=>?_⟩
  ·have hb:=fP h2
   by_cases hmb:∃n,m=some (b,n)
   ·obtain⟨n,rfl⟩:=hmb
    have hnot:∃sh xs fz,h[id]?=some (.row sh xs fz)∧x<fz*gA sh:=by
     apply Classical.byContradiction
     intro hc;exact h1 ⟨id,n,hm,fun sh xs fz h3=>by
      rcases Nat.lt_or_ge x (fz*gA sh) with h4|h4
      ·exact absurd ⟨sh,xs,fz,h3,h4⟩ hc
      ·exact h4⟩
    obtain⟨sh,xs,fz,h3,h4⟩:=hnot;rw[ho]at h3;injection h3 with h3
    obtain⟨xs',fz',rfl,h5⟩:=hfz b n sh xs fz rfl h3;obtain⟨h6,h7⟩:=h5 x h4;refine⟨?_,by rw[h6];exact h2⟩
    rintro⟨i,n',h8,h9⟩
    rcases mF h8 with⟨hne,h8⟩|⟨rfl,h8,_⟩
    ·exact hne (H.distinct id i b n n' hm h8)
    ·have:=h9 sh xs' fz' (EC ho)
     have:=h7 n' h8.symm;omega
   ·refine⟨?_,by rw[iP (hw b hb (fun n e=>hmb ⟨n,e⟩))];exact h2⟩
    rintro⟨i,n',h8,h9⟩
    rcases mF h8 with⟨hne,h8⟩|⟨rfl,h8,_⟩
    ·exact h1 ⟨i,n',h8,fun sh xs fz h10=>h9 sh xs fz (by rw[List.getElem?_set_ne hne];exact h10)⟩
    ·rcases hm' b n' h8.symm with⟨n0,e⟩|⟨e,_⟩
     ·exact hmb ⟨n0,e⟩
     ·omega
  ·by_cases e:id=i
   ·subst e
    rw[ho]at h1;rw[hm]at h2
    injection h1 with h1;injection h2 with h2
    subst h1;subst h2
    exact⟨o',m',EC ho,EC hm,hev⟩
   ·exact⟨o1,m1,by rw[List.getElem?_set_ne e];exact h1,by rw[List.getElem?_set_ne e];exact h2,fD.refl _ _⟩
 refine⟨⟨by simp [H.len],fun i o1 m1 h1 h2=>?_,fun i j b n n' h1 h2=>?_,fun i b n h1=>?_⟩,E⟩
 ·rcases mF h1 with⟨hne,h1⟩|⟨rfl,rfl,_⟩
  ·rw[List.getElem?_set_ne hne]at h2
   refine(H.obj i o1 m1 h1 h2).keep E fun b n e=>hw b (H.inside i b n (e ▸ h2)) fun n' e'=>?_
   subst e;subst e'
   exact hne (H.distinct id i b n' n hm h2)
  ·rw[EC hm]at h2
   injection h2 with h2
   subst h2;exact hob _ E
 ·rcases mF h1 with⟨hne,h1⟩|⟨rfl,h1,_⟩
  ·rcases mF h2 with⟨hne',h2⟩|⟨rfl,h2,_⟩
   ·exact H.distinct i j b n n' h1 h2
   ·rcases hm' b n' h2.symm with⟨n0,e⟩|⟨e,_⟩
    ·subst e;exact absurd (H.distinct id i b n0 n hm h1) hne
    ·have:=H.inside i b n h1;omega
  ·rcases mF h2 with⟨hne',h2⟩|⟨rfl,h2,_⟩
   ·rcases hm' b n h1.symm with⟨n0,e⟩|⟨e,_⟩
    ·subst e;exact absurd (H.distinct id j b n0 n' hm h2) hne'
    ·have:=H.inside j b n' h2;omega
   ·rfl
 ·rcases mF h1 with⟨hne,h1⟩|⟨rfl,h1,_⟩
  ·exact Nat.lt_of_lt_of_le (H.inside i b n h1) hsz
  ·rcases hm' b n h1.symm with⟨n0,e⟩|⟨_,e⟩
   ·subst e;exact Nat.lt_of_lt_of_le (H.inside id b n0 hm) hsz
   ·exact e
theorem HeapRel.take (H:HeapRel h μ w)(n:Nat)(ht:∀ id o,h[id]?=some o→id<n→o.top≤n) :
 HeapRel (h.take n) (μ.take n) w∧(imm h μ w).le (imm (h.take n) (μ.take n) w):=by
 have get:∀{α:Type} {l:List α} {i:Nat} {y:α},(l.take n)[i]?=some y→i<n∧l[i]?=some y:=by
  intro α l i y hy;rw[List.getElem?_take]at hy;by_cases hi:i<n
  ·rw[if_pos hi]at hy;exact⟨hi,hy⟩
  ·rw[if_neg hi]at hy;cases hy
 have put:∀{α:Type} {l:List α} {i:Nat} {y:α},l[i]?=some y→i<n→(l.take n)[i]?=some y:=by
  intro α l i y hy hi;rw[List.getElem?_take,if_pos hi,hy]
 have L:(imm h μ w).le (imm (h.take n) (μ.take n) w):=kR (fun b x v h1 h2=>⟨fun⟨id,k,h3,h4⟩=>h1 ⟨id,k,(get h3).2,fun sh xs fz h5=>h4 sh xs fz (put h5 (get h3).1)⟩,h2⟩) (fun b o h1 h2=>⟨fun⟨i,k,h3⟩=>h1 ⟨i,k,(get h3).2⟩,h2⟩) rfl (fun _ _ h=>h)
 refine⟨⟨by simp [H.len],fun id o m h1 h2=>?_,fun i j b k k' h1 h2=>H.distinct i j b k k' (get h1).2 (get h2).2,fun i b k h1=>H.inside i b k (get h1).2⟩,L⟩
 obtain⟨hi,h1⟩:=get h1;obtain⟨_,h2⟩:=get h2;have hR:=H.obj id o m h1 h2
 have htop:=ht id o h1 hi
 cases o with
 | box cs=>
  obtain⟨b,c,rfl,hb,hc⟩:=hR;refine⟨b,c,rfl,hb,fun j x hx=>?_⟩
  obtain⟨h3,v,h4,h5⟩:=hc j x hx;exact⟨h3,v,h4,h5.take L (by have:=oH hx;simp only[Obj.top]at htop;omega)⟩
 | row sh xs fz=>
  obtain⟨h3,h4,h5⟩:=hR;refine⟨h3,h4,?_⟩;cases m with
  | none=>exact h5
  | some m=>
   obtain⟨b,k⟩:=m;obtain⟨c,h6,h7,h8⟩:=h5;refine⟨c,h6,h7,fun i j x y hx hy=>?_⟩
   obtain⟨v,h9,h10⟩:=h8 i j x y hx hy;exact⟨v,h9,h10.mono L⟩
 | amap es clk=>
  obtain⟨b,k,ces,rfl,h3,h4,hb,h5⟩:=hR;refine⟨b,k,ces,rfl,h3,h4,hb,fun i e ce he hc=>?_⟩
  obtain⟨h6,h7,h8,h9⟩:=h5 i e ce he hc;refine⟨h6.mono L,h7,h8.take L ?_,h9⟩;have:(es.map ME.val)[i]?=some e.val:=by simp [he]
  have:=oH this;simp only[Obj.top]at htop;omega
 | iter mm s seen l=>
  obtain⟨b,k,rfl,h3⟩:=hR;refine⟨b,k,rfl,?_⟩;cases mm with
  | none=>exact h3
  | some i=>
   obtain⟨bm,nm,es,c,h4,h5,h6⟩:=h3;simp only[Obj.top]at htop;exact⟨bm,nm,es,c,put h4 (by omega),put h5 (by omega),h6⟩
 | arow sh cs=>
  obtain⟨h3,h4⟩:=hR;refine⟨h3,?_⟩;cases m with
  | none=>exact h4
  | some m=>
   obtain⟨b,k⟩:=m;obtain⟨c,h6,h7,h8⟩:=h4;refine⟨c,h6,h7,fun j x hx=>?_⟩
   obtain⟨v,h9,h10⟩:=h8 j x hx;exact⟨v,h9,h10.take L (by have:=oH hx;simp only[Obj.top]at htop;omega)⟩
end Go.Am
end
