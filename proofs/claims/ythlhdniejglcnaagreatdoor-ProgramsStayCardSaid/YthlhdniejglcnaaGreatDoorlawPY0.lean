import Derived.Calls
import Derived.Laws.Sem
set_option linter.all false
set_option maxRecDepth 100000
set_option maxHeartbeats 0
namespace Go.Am
section
variable {α:Type}
end
section
variable {α:Type}
end
def MP (c:UInt8):Bool:=[48,49].contains c
def GA (s:List UInt8):Bool:=s.all MP
theorem vO (p:UInt8->Bool):∀l:List UInt8,l.dropWhile p=[]↔l.all p=true
 | []=>by simp
 | c::r=>by
  rw[List.dropWhile_cons,List.all_cons];cases hp:p c with
  | true=>simp only[if_true,Bool.true_and];exact vO p r
  | false=>simp
theorem zrl (s:List UInt8):decide ((s.reverse.dropWhile ([48,49].contains ·)).reverse.dropWhile ([48,49].contains ·)=[])=GA s:=by
 rw[Bool.eq_iff_iff,decide_eq_true_eq,vO,List.all_reverse];have hb:GA s=s.all ([48,49].contains ·):=rfl
 rw[hb];constructor
 ·intro h
  rw[<-vO]at h;have key:∀l:List UInt8,(l.dropWhile ([48,49].contains ·)).all ([48,49].contains ·)=true->l.all ([48,49].contains ·)=true:=by
   intro l;induction l with
   | nil=>intro _;rfl
   | cons c r ih=>
    rw[List.dropWhile_cons];split
    ·rename_i hp;intro h;rw[List.all_cons,hp,ih h];rfl
    ·exact id
  have:=key s.reverse ((vO _ _).1 h);rwa [List.all_reverse]at this
 ·intro h
  have key:∀l:List UInt8,l.all ([48,49].contains ·)=true->(l.dropWhile ([48,49].contains ·)).all ([48,49].contains ·)=true:=by
   intro l hl;rw[(vO _ l).2 hl];rfl
  exact key _ (by rwa [List.all_reverse])
structure Flt where
 kind:Int
 nets:List Int
 deriving DecidableEq
def nxtU:List (List Nat):=[[1,0],[1,2],[3,9],[4,5],[4,5],[6,8],[6,7],[4,8],[1,2],[10,0],[11,12],[11,12],[13,15],[13,14],[11,15],[1,2]]
def stp (s t:Nat):Nat:=(nxtU.getD s []).getD t 0
theorem zaX {s t:Nat}(hs:s<16)(ht:t<2):stp s t<16:=by
 have key:(List.range 16).all (λs=>(List.range 2).all λt=>decide (stp s t<16))=true:=by decide
 have:=List.all_eq_true.1 key s (List.mem_range.2 hs);exact of_decide_eq_true (List.all_eq_true.1 this t (List.mem_range.2 ht))
def stW (s:Nat)(c:UInt8):Nat:=stp s (c.toNat-48)
def dE (s:Nat):List UInt8->List Nat
 | []=>[]
 | c::r=>stW s c::dE (stW s c) r
def oB (s:Nat)(l:List UInt8):Nat:=l.foldl stW s
theorem wN:∀ (l:List UInt8) (s:Nat),(dE s l).length=l.length
 | [],s=>rfl
 | c::r,s=>by simp [dE,wN r]
theorem z4e (c:UInt8):∀(l:List UInt8) (s:Nat),dE s (l++[c])=dE s l++[stW (oB s l) c]
 | [],s=>rfl
 | d::r,s=>by simp only[List.cons_append,dE,z4e c r];rfl
theorem z64 (s:Nat)(l:List UInt8)(c:UInt8):oB s (l++[c])=stW (oB s l) c:=by simp [oB]
theorem bL (s:Nat)(l r:List UInt8):oB s (l++r)=oB (oB s l) r:=by simp [oB]
theorem zaU {s:Nat}{c:UInt8}(hs:s<16)(hc:c=48∨c=49):stW s c<16:=by
 rcases hc with rfl|rfl
 ·exact zaX hs (by decide)
 ·exact zaX hs (by decide)
theorem LY {c:UInt8}{l:List UInt8}(h:GA l=true)(hc:c∈l):c=48∨c=49:=by
 have:=List.all_eq_true.1 h c hc;simpa [MP] using this
theorem z63:∀ {l:List UInt8} {s:Nat},s<16->GA l=true->oB s l<16
 | [],s,hs,_=>hs
 | c::r,s,hs,h=>by
  have h1:=LY h (List.mem_cons_self ..)
  exact z63 (l:=r) (zaU hs h1) (List.all_eq_true.2 λx hx=>List.all_eq_true.1 h x (List.mem_cons_of_mem _ hx))
theorem zr3 (s:Nat)(l:List UInt8)(h:0<l.length):(dE s l)[l.length-1]?=some (oB s l):=by
 obtain⟨i,c,rfl⟩:∃i c,l=i++[c]:=⟨l.dropLast,l.getLast (by intro e;subst e;simp at h),(List.dropLast_concat_getLast _).symm⟩
 rw[z4e,z64];have:(dE s i).length=i.length:=wN i s
 simp [<-this]
def aB:Nat->List (List UInt8)
 | 0=>[[]]
 | k+1=>(aB k).flatMap λs=>[s++[48],s++[49]]
theorem iK:∀ k,(aB k).length=2^k
 | 0=>rfl
 | k+1=>by
  have:∀l:List (List UInt8),(l.flatMap λs=>[s++[48],s++[49]]).length=2*l.length:=by
   intro l;induction l with
   | nil=>rfl
   | cons a r ih=>simp [ih];omega
  simp only[aB,this,iK k,Nat.pow_succ];omega
theorem rW:∀ {k:Nat} {s:List UInt8},s∈aB k->GA s=true/\s.length=k
 | 0,s,h=>by simp [aB]at h;subst h;exact⟨rfl,rfl⟩
 | k+1,s,h=>by
  simp only[aB,List.mem_flatMap]at h;obtain⟨t,ht,hs⟩:=h;obtain⟨h1,h2⟩:=rW ht;have:∀c:UInt8,c=48∨c=49->GA (t++[c])=true:=λc hc=>by
   unfold GA at h1 ⊢;rw[List.all_append,h1];rcases hc with rfl|rfl <;> rfl
  simp only[List.mem_cons,List.not_mem_nil,or_false]at hs;rcases hs with rfl|rfl
  ·exact⟨this _ (.inl rfl),by simp [h2]⟩
  ·exact⟨this _ (.inr rfl),by simp [h2]⟩
def vK (a b:Nat):Nat->Nat->Option (List UInt8)
 | 0,_=>none
 | n+1,k=>match (aB k).find? λs=>oB a s==b with
  | some s=>some s
  | none=>vK a b n (k+1)
theorem zbo {a b:Nat}{w:List UInt8}:∀{n k:Nat},vK a b n k=some w->∃kw,k<=kw/\kw<k+n/\(aB kw).find? (λs=>oB a s==b)=some w/\∀j,k<=j->j<kw->(aB j).find? (λs=>oB a s==b)=none
 | 0,k,h=>by cases h
 | n+1,k,h=>by
  unfold vK at h;split at h
  ·rename_i s hs
   cases h;exact⟨k,by omega,by omega,hs,λj h1 h2=>by omega⟩
  ·rename_i hs
   obtain⟨kw,h1,h2,h3,h4⟩:=zbo h;refine⟨kw,by omega,by omega,h3,λj h5 h6=>?_⟩
   rcases Nat.lt_or_ge k j with h7|h7
   ·exact h4 j h7 h6
   ·rw[show j=k by omega];exact hs
theorem zbn {a b:Nat}{w:List UInt8}{n:Nat}(h:vK a b n 0=some w):∃kw,kw<n/\(aB kw).find? (λs=>oB a s==b)=some w/\∀j,j<kw->(aB j).find? (λs=>oB a s==b)=none:=by
 obtain⟨kw,_,h2,h3,h4⟩:=zbo h;exact⟨kw,by omega,h3,λj hj=>h4 j (by omega) hj⟩
theorem z1e {α:Type}{p:α->Bool}:∀{l:List α} {i:Nat} {s:α},(∀x∈l.take i,p x=false)->l[i]?=some s->p s=true->l.find? p=some s
 | [],i,s,_,h,_=>by simp at h
 | a::r,0,s,_,h,hp=>by
  simp only[List.getElem?_cons_zero,Option.some.injEq]at h;subst h;simp [hp]
 | a::r,i+1,s,hn,h,hp=>by
  have h1:p a=false:=hn a (by simp)
  have:=z1e (l:=r) (i:=i) (s:=s) (λx hx=>hn x (by simp [hx])) (by simpa using h) hp
  simp [h1,this]
theorem zjV {α:Type}{p:α->Bool}{l:List α}(h:∀ x∈l,p x=false):l.find? p=none:=List.find?_eq_none.2 λx hx=>by simp [h x hx]
def frS:List Nat:=[0,1,6,13,5,12]
def toS:List Nat:=[0,1,6,13,4,11]
section
structure Cmd where
 k:Int
 s:Int
 cl:Int
 b:List UInt8
 w:List UInt8
 m:List UInt8
 deriving DecidableEq
def JB (n:Int):Bool:=n==0||n==1||n==6||n==13
def IC (c:Cmd):Nat:=
 if c.b=[] then 8 else if !GA c.b then 9 else if 2000<c.b.length then 2
 else if c.w≠[]/\(c.w.length≠c.b.length∨c.m.length≠c.b.length) then 3
 else if !GA c.w || !GA c.m then 9 else if c.w=[]/\c.m≠[] then 3 else 0
def MA (c:Cmd):Nat:=
 if c.k=1∨c.k=2∨c.k=10 then(if !JB c.s then 1 else if c=⟨c.k,c.s,0,[],[],[]⟩ then 0 else 3)
 else if c.k=9 then(if c.cl<0∨20000<c.cl then 1 else if c=⟨c.k,0,c.cl,[],[],[]⟩ then 0 else 3)
 else if c.k=7∨c.k=8 then(if IC c≠0 then IC c else if c=⟨c.k,0,0,c.b,c.w,c.m⟩ then 0 else 3)
 else if 3<=c.k/\c.k<=6 then(if !GA c.b then 9 else if 2000<c.b.length then 2 else if c=⟨c.k,0,0,c.b,[],[]⟩ then 0 else 3)
 else 4
def ED:List Cmd->Nat
 | []=>0
 | c::r=>if MA c≠0 then MA c else ED r
def z1m:Cmd:=⟨0,1,0,[],[],[]⟩
def mA (l:List Cmd)(k:Int):Cmd:=(l.reverse.find? λc=>c.k==k).getD z1m
structure Part where
 tms:List UInt8
 tdi:List UInt8
 want:List UInt8
 fr:Nat
 st:Nat
def zs (n:Nat):List UInt8:=List.replicate n 48
def xsL (n:Nat):List UInt8:=List.replicate n 120
def SC (c:Cmd)(i:Nat):UInt8:=if c.m[i]?=some 49 then(c.w[i]?).getD 0 else 120
def eC (c:Cmd):List UInt8:=(List.range c.b.length).map (SC c)
def NB (p:Part):Part:={ p with tdi:=p.tdi++zs (p.tms.length-p.tdi.length),want:=p.want++xsL (p.tms.length-p.want.length) }
variable (path:Nat->Nat->List UInt8)
def nB (c:Cmd)(state sh ex:Nat)(hd tl:List UInt8)(en:Nat):Part:=
 {
  tms:=path state sh++zs ((hd++c.b++tl).length-1)++[49]++path ex en
  tdi:=zs (path state sh).length++(hd++c.b++tl)
  want:=xsL ((path state sh).length+hd.length)++eC c
  fr:=(path state sh).length+hd.length
  st:=en }
def qA (pre:List Cmd)(c:Cmd)(state:Nat):Part:=
 NB (if c.k=10 then⟨path state c.s.toNat,[],[],0,c.s.toNat⟩
  else if c.k=9 then⟨path state 1++zs c.cl.toNat,[],[],0,1⟩
  else if c.k=7 then nB path c state 11 12 (mA pre 3).b (mA pre 4).b (mA pre 1).s.toNat
  else if c.k=8 then nB path c state 4 5 (mA pre 5).b (mA pre 6).b (mA pre 2).s.toNat
  else⟨[],[],[],0,state⟩)
def vA (pre:List Cmd)(state:Nat):List Cmd->List Part
 | []=>[]
 | c::r=>qA path pre c state::vA (pre++[c]) (qA path pre c state).st r
def PA (l:List Part):List UInt8:=l.flatMap Part.tms
def KC (l:List Part):List UInt8:=l.flatMap Part.tdi
def LC (l:List Part):List UInt8:=l.flatMap Part.want
def qB (l:List Cmd):Nat:=if 1000<l.length then 2 else if ED l≠0 then ED l else if 20000<(PA (vA path [] 0 l)).length then 2 else 0
structure Sett where
 e1:Cmd
 e2:Cmd
 h1:Cmd
 t1:Cmd
 h2:Cmd
 t2:Cmd
def rF:Sett:=⟨⟨1,1,0,[],[],[]⟩,⟨2,1,0,[],[],[]⟩,⟨3,0,0,[],[],[]⟩,⟨4,0,0,[],[],[]⟩,⟨5,0,0,[],[],[]⟩,⟨6,0,0,[],[],[]⟩⟩
def Sett.put (s:Sett)(c:Cmd):Sett:=
 if c.k=1 then { s with e1:=c } else if c.k=2 then { s with e2:=c } else if c.k=3 then { s with h1:=c } else if c.k=4 then { s with t1:=c } else if c.k=5 then { s with h2:=c } else { s with t2:=c }
structure Run where
 se:Sett
 st:Nat
 ck:Nat
 ni:Nat
 nd:Nat
 sts:List Nat
 frs:List Nat
 tms:List UInt8
 tdi:List UInt8
 want:List UInt8
 wr:Bool
def Run.clk (r:Run)(l:List (UInt8 × UInt8 × UInt8)):Run:=
 if r.wr then { r with ck:=r.ck+l.length,tms:=r.tms++l.map (·.1),tdi:=r.tdi++l.map (·.2.1),want:=r.want++l.map (·.2.2) } else { r with ck:=r.ck+l.length }
def Run.go (r:Run)(tov:Nat):Run:={ r.clk ((path r.st tov).map λc=>(c,48,120)) with st:=tov }
def YA (c:Cmd)(hd al:List UInt8):List (UInt8×UInt8×UInt8):=
 (List.range al.length).map λi=>(if i=al.length-1 then 49 else 48,(al[i]?).getD 0,if hd.length<=i then(if i-hd.length<c.m.length then SC c (i-hd.length) else 120) else 120)
def Run.scn (r:Run)(c:Cmd):Run:=
 let (hd,tl,en,sh,ex):=if c.k=7 then(r.se.h1.b,r.se.t1.b,r.se.e1.s,11,12) else(r.se.h2.b,r.se.t2.b,r.se.e2.s,4,5)
 let r1:=r.go path sh
 let r2:=if c.k=7 then { r1 with ni:=r1.ni+(hd++c.b++tl).length } else { r1 with nd:=r1.nd+(hd++c.b++tl).length }
 Run.go path { r2.clk (YA c hd (hd++c.b++tl)) with st:=ex } en.toNat
def Run.scnF (r:Run)(c:Cmd):Nat:=
 if c.k=7 then(r.go path 11).ck+r.se.h1.b.length else(r.go path 4).ck+r.se.h2.b.length
def Run.step (r:Run)(c:Cmd):Run:=
 let (r',f):=if 1<=c.k/\c.k<=6 then({ r with se:=r.se.put c },0)
  else if c.k=7∨c.k=8 then(r.scn path c,r.scnF path c)
  else if c.k=9 then((r.go path 1).clk (List.replicate c.cl.toNat (48,48,120)),0)
  else(r.go path c.s.toNat,0)
 { r' with sts:=r'.sts++[r'.st],frs:=r'.frs++[f] }
def Run.play (r:Run):List Cmd->Run
 | []=>r
 | c::l=>if 20000<r.ck then r else(r.step path c).play l
def OB (wr:Bool):Run:=⟨rF,0,0,0,0,[],[],[],[],[],wr⟩
end
section
variable (path:Nat->Nat->List UInt8)
theorem JC (l:List Cmd)(c:Cmd)(k:Int):mA (l++[c]) k=if c.k=k then c else mA l k:=by
 unfold mA;rw[List.reverse_append,List.reverse_singleton,List.singleton_append,List.find?_cons];by_cases h:c.k=k
 ·simp [h]
 ·have:(c.k==k)=false:=by simpa using h
  simp [this,h]
inductive Kinds (c:Cmd):Prop where
 | set (h:c.k=1∨c.k=2) (hs:JB c.s=true) (e:c=⟨c.k,c.s,0,[],[],[]⟩)
 | go (h:c.k=10) (hs:JB c.s=true) (e:c=⟨c.k,c.s,0,[],[],[]⟩)
 | idle (h:c.k=9) (h0:0<=c.cl) (h1:c.cl<=20000) (e:c=⟨c.k,0,c.cl,[],[],[]⟩)
 | scan (h:c.k=7∨c.k=8) (hs:IC c=0) (e:c=⟨c.k,0,0,c.b,c.w,c.m⟩)
 | pad (h0:3<=c.k) (h1:c.k<=6) (hb:GA c.b=true) (hl:c.b.length<=2000) (e:c=⟨c.k,0,0,c.b,[],[]⟩)
theorem TD {c:Cmd}(h:MA c=0):Kinds c:=by
 unfold MA at h;split at h
 ·rename_i hk
  split at h
  ·cases h
  rename_i hs;split at h
  ·rename_i e
   have hs:JB c.s=true:=by simpa using hs
   rcases hk with hk|hk|hk
   ·exact .set (.inl hk) hs e
   ·exact .set (.inr hk) hs e
   ·exact .go hk hs e
  ·cases h
 split at h
 ·rename_i hk
  split at h
  ·cases h
  split at h
  ·exact .idle hk (by omega) (by omega) (by assumption)
  ·cases h
 split at h
 ·rename_i hk
  split at h
  ·rename_i h1;exact absurd h h1
  split at h
  ·rename_i h1 e;exact .scan hk (by omega) e
  ·cases h
 split at h
 ·rename_i hk
  split at h
  ·cases h
  split at h
  ·cases h
  split at h
  ·rename_i hb _ e;exact .pad hk.1 hk.2 (by simpa using hb) (by omega) e
  ·cases h
 ·cases h
theorem qF {c:Cmd}(h:IC c=0):c.b≠[]/\GA c.b=true/\c.b.length<=2000/\GA c.w=true/\GA c.m=true/\((c.w=[]/\c.m=[])∨(c.w.length=c.b.length/\c.m.length=c.b.length)):=by
 unfold IC at h;split at h
 ·cases h
 split at h
 ·cases h
 split at h
 ·cases h
 split at h
 ·cases h
 split at h
 ·cases h
 split at h
 ·cases h
 rename_i h1 h2 h3 h4 h5 h6;simp only[Bool.or_eq_true,Bool.not_eq_true',not_or,Bool.not_eq_false]at h5;refine⟨h1,by simpa using h2,by omega,h5.1,h5.2,?_⟩
 by_cases hw:c.w=[]
 ·exact .inl ⟨hw,Classical.byContradiction λhm=>h6 ⟨hw,hm⟩⟩
 ·exact .inr ⟨Classical.byContradiction λe=>h4 ⟨hw,.inl e⟩,Classical.byContradiction λe=>h4 ⟨hw,.inr e⟩⟩
def stb:List Nat:=[0,1,6,13]
theorem vC {n:Int}(h:JB n=true):n.toNat∈stb/\(n.toNat:Int)=n:=by
 unfold JB at h;simp only[Bool.or_eq_true,beq_iff_eq]at h;rcases h with((rfl|rfl)|rfl)|rfl <;> decide
structure RelV (pre:List Cmd) (r:Run) (ps:List Part) (state:Nat):Prop where
 st:r.st=state
 sb:state∈stb
 e1:r.se.e1.s=(mA pre 1).s
 e2:r.se.e2.s=(mA pre 2).s
 h1:r.se.h1.b=(mA pre 3).b
 t1:r.se.t1.b=(mA pre 4).b
 h2:r.se.h2.b=(mA pre 5).b
 t2:r.se.t2.b=(mA pre 6).b
 s1:JB (mA pre 1).s=true
 s2:JB (mA pre 2).s=true
 b1:∀k,3<=k->k<=6->GA (mA pre k).b=true/\(mA pre k).b.length<=2000
 ck:r.ck=(PA ps).length
 sts:r.sts=ps.map Part.st
 sig:r.wr=true->r.tms=PA ps/\r.tdi=KC ps/\r.want=LC ps
theorem rel0 (wr:Bool):RelV [] (OB wr) [] 0 where
 st:=rfl
 sb:=by decide
 e1:=rfl
 e2:=rfl
 h1:=rfl
 t1:=rfl
 h2:=rfl
 t2:=rfl
 s1:=rfl
 s2:=rfl
 b1:=λk _ _=>⟨rfl,Nat.zero_le _⟩
 ck:=rfl
 sts:=rfl
 sig:=λ_=>⟨rfl,rfl,rfl⟩
theorem RC (r:Run)(l:List (UInt8 × UInt8 × UInt8)):(r.clk l).se=r.se/\(r.clk l).st=r.st/\(r.clk l).sts=r.sts/\(r.clk l).frs=r.frs/\(r.clk l).wr=r.wr/\(r.clk l).ck=r.ck+l.length/\(r.clk l).ni=r.ni/\(r.clk l).nd=r.nd:=by
 unfold Run.clk;split <;> exact⟨rfl,rfl,rfl,rfl,rfl,rfl,rfl,rfl⟩
theorem gZ {r:Run}(h:r.wr=true)(l:List (UInt8 × UInt8 × UInt8)):(r.clk l).tms=r.tms++l.map (·.1)/\(r.clk l).tdi=r.tdi++l.map (·.2.1)/\(r.clk l).want=r.want++l.map (·.2.2):=by
 unfold Run.clk;rw[if_pos h];exact⟨rfl,rfl,rfl⟩
theorem zlO (l:List UInt8):(l.map λc=>((c,48,120):UInt8×UInt8×UInt8)).map (·.1)=l/\(l.map λc=>((c,48,120):UInt8×UInt8×UInt8)).map (·.2.1)=zs l.length/\(l.map λc=>((c,48,120):UInt8×UInt8×UInt8)).map (·.2.2)=xsL l.length:=by
 refine⟨by rw[List.map_map];exact List.map_id l,?_,?_⟩
 ·unfold zs;rw[List.map_map];exact List.map_const' ..
 ·unfold xsL;rw[List.map_map];exact List.map_const' ..
theorem zpX (c:Cmd)(hd al:List UInt8)(h:al≠[]):(YA c hd al).map (·.1)=zs (al.length-1)++[49]:=by
 have hpos:=List.length_pos_iff.2 h
 unfold YA zs;rw[List.map_map];apply List.ext_getElem
 ·simp;omega
 ·intro i h1 h2
  simp at h1;simp only[List.getElem_map,List.getElem_range,Function.comp];by_cases hi:i=al.length-1
  ·subst hi;simp
  ·rw[if_neg hi,List.getElem_append_left (by simp;omega)];simp
theorem zpY (c:Cmd)(hd al:List UInt8):(YA c hd al).map (·.2.1)=al:=by
 unfold YA;rw[List.map_map];apply List.ext_getElem
 ·simp
 ·intro i h1 h2
  simp [h2]
theorem zpZ (c:Cmd)(hd tl:List UInt8)(hm:c.m.length<=c.b.length):(YA c hd (hd++c.b++tl)).map (·.2.2)=xsL hd.length++eC c++xsL tl.length:=by
 unfold YA xsL eC;rw[List.map_map];apply List.ext_getElem
 ·simp <;> omega
 ·intro i h1 h2
  simp only[List.length_map,List.length_range,List.length_append]at h1;simp only[List.getElem_map,List.getElem_range,Function.comp];have hx:∀j,c.m.length<=j->SC c j=120:=λj hj=>by unfold SC;rw[List.getElem?_eq_none hj];rfl
  by_cases h3:hd.length<=i
  ·rw[if_pos h3]
   by_cases h4:i-hd.length<c.b.length
   ·rw[List.getElem_append_left (by simp;omega),List.getElem_append_right (by simp;omega)]
    simp only[List.length_replicate,List.getElem_map,List.getElem_range];split
    ·rfl
    ·rw[hx _ (by omega)]
   ·rw[List.getElem_append_right (by simp;omega)]
    simp only[List.getElem_replicate];rw[if_neg (by omega)]
  ·rw[if_neg h3,List.getElem_append_left (by simp;omega),List.getElem_append_left (by simp;omega)]
   simp
theorem yQ (c:Cmd)(hd al:List UInt8):(YA c hd al).length=al.length:=by simp [YA]
theorem YJ (c:Cmd)(state sh ex:Nat)(hd tl:List UInt8)(en:Nat)(hb:c.b≠[]) :
 NB (nB path c state sh ex hd tl en) =
  {
   tms:=path state sh++(zs ((hd++c.b++tl).length-1)++[49])++path ex en
   tdi:=zs (path state sh).length++(hd++c.b++tl)++zs (path ex en).length
   want:=xsL (path state sh).length++(xsL hd.length++eC c++xsL tl.length)++xsL (path ex en).length
   fr:=(path state sh).length+hd.length
   st:=en }:=by
 have hpos:=List.length_pos_iff.2 hb
 have hz:∀n,(zs n).length=n:=λn=>by simp [zs]
 have hx:∀n,(xsL n).length=n:=λn=>by simp [xsL]
 have hxa:∀a b,xsL a++xsL b=xsL (a+b):=λa b=>by unfold xsL;rw[List.replicate_append_replicate]
 have he:(eC c).length=c.b.length:=by simp [eC]
 unfold NB nB;simp only[Part.mk.injEq,and_true];refine⟨by simp only[List.append_assoc],?_,?_⟩
 ·congr 2
  simp only[List.length_append,hz,List.length_singleton];omega
 ·have e:(path state sh++zs ((hd++c.b++tl).length-1)++[49]++path ex en).length-(xsL ((path state sh).length+hd.length)++eC c).length=tl.length+(path ex en).length:=by
   simp only[List.length_append,hz,hx,he,List.length_singleton];omega
  rw[e,<-hxa,<-hxa];simp only[List.append_assoc]
theorem LW (ps:List Part)(p:Part):PA (ps++[p])=PA ps++p.tms/\KC (ps++[p])=KC ps++p.tdi/\LC (ps++[p])=LC ps++p.want:=by
 simp [PA,KC,LC]
theorem z3i (w:List UInt8)(n:Nat)(st:Nat):NB ⟨w++zs n,[],[],0,st⟩=⟨w++zs n,zs w.length++zs n,xsL w.length++xsL n,0,st⟩:=by
 have hz:∀n,(zs n).length=n:=λn=>by simp [zs]
 unfold NB;simp only[List.length_append,hz,List.nil_append,List.length_nil,Nat.sub_zero,Part.mk.injEq,true_and,and_true];exact⟨by unfold zs;rw[List.replicate_append_replicate],by unfold xsL;rw[List.replicate_append_replicate]⟩
theorem z9x (w:List UInt8)(st:Nat):NB ⟨w,[],[],0,st⟩=⟨w,zs w.length,xsL w.length,0,st⟩:=by
 have:=z3i w 0 st;simpa [zs,xsL] using this
theorem EB (r:Run)(tov:Nat):(r.go path tov).se=r.se/\(r.go path tov).st=tov/\(r.go path tov).sts=r.sts/\(r.go path tov).frs=r.frs/\(r.go path tov).wr=r.wr/\(r.go path tov).ck=r.ck+(path r.st tov).length/\(r.go path tov).ni=r.ni/\(r.go path tov).nd=r.nd:=by
 obtain⟨a,b,c,d,e,f,g,h⟩:=RC r ((path r.st tov).map λc=>(c,48,120))
 unfold Run.go;exact⟨a,rfl,c,d,e,by rw[show({ r.clk ((path r.st tov).map λc=>(c,48,120)) with st:=tov }:Run).ck=_ from rfl,f,List.length_map],g,h⟩
theorem OT {r:Run}(h:r.wr=true)(tov:Nat):(r.go path tov).tms=r.tms++path r.st tov/\(r.go path tov).tdi=r.tdi++zs (path r.st tov).length/\(r.go path tov).want=r.want++xsL (path r.st tov).length:=by
 obtain⟨a,b,c⟩:=gZ h ((path r.st tov).map λc=>(c,48,120))
 obtain⟨x,y,z⟩:=zlO (path r.st tov);unfold Run.go;exact⟨by rw[<-x];exact x.symm ▸ a,by rw[y]at b;exact b,by rw[z]at c;exact c⟩
end
section
variable (path:Nat->Nat->List UInt8)
theorem AH {r:Run}{c:Cmd}(h:1<=c.k/\c.k<=6):r.step path c={ r with se:=r.se.put c,sts:=r.sts++[r.st],frs:=r.frs++[0] }:=by
 unfold Run.step;simp only[if_pos h]
theorem rK {r:Run}{c:Cmd}(h:c.k=7∨c.k=8):r.step path c={ r.scn path c with sts:=(r.scn path c).sts++[(r.scn path c).st],frs:=(r.scn path c).frs++[r.scnF path c] }:=by
 unfold Run.step;rw[if_neg (by omega),if_pos h]
theorem qK {r:Run}{c:Cmd}(h:c.k=9):r.step path c={ (r.go path 1).clk (List.replicate c.cl.toNat (48,48,120)) with sts:=((r.go path 1).clk (List.replicate c.cl.toNat (48,48,120))).sts++[((r.go path 1).clk (List.replicate c.cl.toNat (48,48,120))).st],frs:=((r.go path 1).clk (List.replicate c.cl.toNat (48,48,120))).frs++[0] }:=by
 unfold Run.step;rw[if_neg (by omega),if_neg (by omega),if_pos h]
theorem pN {r:Run}{c:Cmd}(h:c.k=10):r.step path c={ r.go path c.s.toNat with sts:=(r.go path c.s.toNat).sts++[(r.go path c.s.toNat).st],frs:=(r.go path c.s.toNat).frs++[0] }:=by
 unfold Run.step;rw[if_neg (by omega),if_neg (by omega),if_neg (by omega)]
theorem kF {pre:List Cmd}{c:Cmd}{state:Nat}(h:c.k<=6):qA path pre c state=⟨[],[],[],0,state⟩:=by
 unfold qA;rw[if_neg (by omega),if_neg (by omega),if_neg (by omega),if_neg (by omega)];rfl
theorem GI {pre:List Cmd}{c:Cmd}{state:Nat}(h:c.k=10):qA path pre c state=⟨path state c.s.toNat,zs (path state c.s.toNat).length,xsL (path state c.s.toNat).length,0,c.s.toNat⟩:=by
 unfold qA;rw[if_pos h,z9x]
theorem HI {pre:List Cmd}{c:Cmd}{state:Nat}(h:c.k=9):qA path pre c state=⟨path state 1++zs c.cl.toNat,zs (path state 1).length++zs c.cl.toNat,xsL (path state 1).length++xsL c.cl.toNat,0,1⟩:=by
 unfold qA;rw[if_neg (by omega),if_pos h,z3i]
def Adds (r r':Run)(p:Part):Prop:=
 r'.ck=r.ck+p.tms.length/\(r'.wr=r.wr)/\(r.wr=true->r'.tms=r.tms++p.tms/\r'.tdi=r.tdi++p.tdi/\r'.want=r.want++p.want)/\r'.sts=r.sts++[p.st]/\r'.st=p.st
theorem z3z {pre pre':List Cmd}{r r':Run}{ps:List Part}{state:Nat}{p:Part}(H:RelV pre r ps state)(A:Adds r r' p)(hb:p.st∈stb)
 (e1:r'.se.e1.s=(mA pre' 1).s) (e2:r'.se.e2.s=(mA pre' 2).s) (h1:r'.se.h1.b=(mA pre' 3).b) (t1:r'.se.t1.b=(mA pre' 4).b) (h2:r'.se.h2.b=(mA pre' 5).b) (t2:r'.se.t2.b=(mA pre' 6).b)
 (s1:JB (mA pre' 1).s=true) (s2:JB (mA pre' 2).s=true) (b1:∀k,3<=k->k<=6->GA (mA pre' k).b=true/\(mA pre' k).b.length<=2000) :
 RelV pre' r' (ps++[p]) p.st:=by
 obtain⟨a1,a2,a3,a4,a5⟩:=A;obtain⟨q1,q2,q3⟩:=LW ps p;exact⟨a5,hb,e1,e2,h1,t1,h2,t2,s1,s2,b1,by rw[a1,q1,List.length_append,H.ck],by rw[a4,H.sts,List.map_append];rfl,λhw=>by
  rw[a2]at hw;obtain⟨x,y,z⟩:=a3 hw;obtain⟨u,v,w⟩:=H.sig hw;exact⟨by rw[x,q1,u],by rw[y,q2,v],by rw[z,q3,w]⟩⟩
theorem mW {pre:List Cmd}{r r':Run}{ps:List Part}{state:Nat}{p:Part}{c:Cmd}(H:RelV pre r ps state)(A:Adds r r' p)(hb:p.st∈stb)(hs:r'.se=r.se)(hk:¬ (1<=c.k/\c.k<=6)) :
 RelV (pre++[c]) r' (ps++[p]) p.st:=by
 have hn:∀k:Int,1<=k->k<=6->mA (pre++[c]) k=mA pre k:=λk h1 h2=>by rw[JC,if_neg (by omega)]
 refine z3z H A hb ?_ ?_ ?_ ?_ ?_ ?_ ?_ ?_ ?_
 ·rw[hs,hn 1 (by omega) (by omega),H.e1]
 ·rw[hs,hn 2 (by omega) (by omega),H.e2]
 ·rw[hs,hn 3 (by omega) (by omega),H.h1]
 ·rw[hs,hn 4 (by omega) (by omega),H.t1]
 ·rw[hs,hn 5 (by omega) (by omega),H.h2]
 ·rw[hs,hn 6 (by omega) (by omega),H.t2]
 ·rw[hn 1 (by omega) (by omega)];exact H.s1
 ·rw[hn 2 (by omega) (by omega)];exact H.s2
 ·intro k h1 h2;rw[hn k (by omega) (by omega)];exact H.b1 k h1 h2
theorem zaC {r:Run}{c:Cmd}(hb:c.b≠[])(hm:c.m.length<=c.b.length)(hd tl:List UInt8)(sh ex en n1 n2:Nat)(f:Nat)(p:Part)(hp:p=NB (nB path c r.st sh ex hd tl en))(r2:Run)
 (h2:r2={ r.go path sh with ni:=n1,nd:=n2 }) (r3:Run) (h3:r3=Run.go path { r2.clk (YA c hd (hd++c.b++tl)) with st:=ex } en) :
 Adds r { r3 with sts:=r3.sts++[r3.st],frs:=r3.frs++[f] } p/\r3.se=r.se:=by
 obtain⟨g1,g2,g3,g4,g5,g6,_,_⟩:=EB path r sh;have ne:hd++c.b++tl≠[]:=by simp [hb]
 obtain⟨k1,k2,k3,k4,k5,k6,_,_⟩:=RC r2 (YA c hd (hd++c.b++tl));obtain⟨m1,m2,m3,m4,m5,m6,_,_⟩:=EB path { r2.clk (YA c hd (hd++c.b++tl)) with st:=ex } en
 rw[<-h3]at m1 m2 m3 m4 m5 m6;have pr:=YJ path c r.st sh ex hd tl en hb
 rw[<-hp]at pr;subst pr;have hz:∀n,(zs n).length=n:=λn=>by simp [zs]
 have a1:r2.se=r.se:=by rw[h2];exact g1
 have a3:r2.sts=r.sts:=by rw[h2];exact g3
 have a5:r2.wr=r.wr:=by rw[h2];exact g5
 have a6:r2.ck=r.ck+(path r.st sh).length:=by rw[h2];exact g6
 have hpos:0<(hd++c.b++tl).length:=List.length_pos_iff.2 ne
 refine⟨⟨?_,?_,?_,?_,m2⟩,?_⟩
 ·show r3.ck=_
  rw[m6];show(r2.clk _).ck+_=_
  rw[k6,a6,yQ];simp only[List.length_append,hz,List.length_singleton];simp only[List.length_append]at hpos;omega
 ·show r3.wr=_
  rw[m5];show(r2.clk _).wr=_
  rw[k5,a5]
 ·intro hw
  have hw2:r2.wr=true:=by rw[a5];exact hw
  obtain⟨u1,u2,u3⟩:=OT path hw sh;obtain⟨v1,v2,v3⟩:=gZ hw2 (YA c hd (hd++c.b++tl));have hw3:({ r2.clk (YA c hd (hd++c.b++tl)) with st:=ex }:Run).wr=true:=by show(r2.clk _).wr=_;rw[k5];exact hw2
  obtain⟨w1,w2,w3⟩:=OT path hw3 en;rw[<-h3]at w1 w2 w3;have b1:r2.tms=r.tms++path r.st sh:=by rw[h2];exact u1
  have b2:r2.tdi=r.tdi++zs (path r.st sh).length:=by rw[h2];exact u2
  have b3:r2.want=r.want++xsL (path r.st sh).length:=by rw[h2];exact u3
  refine⟨?_,?_,?_⟩
  ·show r3.tms=_
   rw[w1];show(r2.clk _).tms++path ex en=_
   rw[v1,b1,zpX c hd _ ne];simp only[List.append_assoc]
  ·show r3.tdi=_
   rw[w2];show(r2.clk _).tdi++zs (path ex en).length=_
   rw[v2,b2,zpY];simp only[List.append_assoc]
  ·show r3.want=_
   rw[w3];show(r2.clk _).want++xsL (path ex en).length=_
   rw[v3,b3,zpZ c hd tl hm];simp only[List.append_assoc]
 ·show r3.sts++[r3.st]=_
  rw[m3,m2];show(r2.clk _).sts++_=_
  rw[k3,a3]
 ·rw[m1];show(r2.clk _).se=_
  rw[k1,a1]
theorem z3X {pre:List Cmd}{r:Run}{ps:List Part}{state:Nat}(H:RelV pre r ps state){c:Cmd}(hc:MA c=0) :
 RelV (pre++[c]) (r.step path c) (ps++[qA path pre c state]) (qA path pre c state).st:=by
 have hst:=H.st
 subst hst;have setf:∀(h:1<=c.k/\c.k<=6),Adds r (r.step path c) (qA path pre c r.st)/\(qA path pre c r.st).st∈stb:=λh=>by
  rw[AH path h,kF path h.2];exact⟨⟨rfl,rfl,λ_=>⟨(List.append_nil _).symm,(List.append_nil _).symm,(List.append_nil _).symm⟩,rfl,rfl⟩,H.sb⟩
 have hput:∀(h:1<=c.k/\c.k<=6),(r.step path c).se=r.se.put c:=λh=>by rw[AH path h]
 cases TD hc with
 | set h hs e=>
  have hr:1<=c.k/\c.k<=6:=by omega
  obtain⟨A,B⟩:=setf hr;have hp:=hput hr
  refine z3z H A B ?_ ?_ ?_ ?_ ?_ ?_ ?_ ?_ ?_;all_goals try rw[hp]
  ·rw[JC];unfold Sett.put
   rcases h with h|h
   ·rw[if_pos h,if_pos h]
   ·rw[if_neg (by omega),if_pos h,if_neg (by omega)];exact H.e1
  ·rw[JC];unfold Sett.put
   rcases h with h|h
   ·rw[if_pos h,if_neg (by omega)];exact H.e2
   ·rw[if_neg (by omega),if_pos h,if_pos h]
  ·rw[JC,if_neg (by omega)];unfold Sett.put
   rcases h with h|h
   ·rw[if_pos h];exact H.h1
   ·rw[if_neg (by omega),if_pos h];exact H.h1
  ·rw[JC,if_neg (by omega)];unfold Sett.put
   rcases h with h|h
   ·rw[if_pos h];exact H.t1
   ·rw[if_neg (by omega),if_pos h];exact H.t1
  ·rw[JC,if_neg (by omega)];unfold Sett.put
   rcases h with h|h
   ·rw[if_pos h];exact H.h2
   ·rw[if_neg (by omega),if_pos h];exact H.h2
  ·rw[JC,if_neg (by omega)];unfold Sett.put
   rcases h with h|h
   ·rw[if_pos h];exact H.t2
   ·rw[if_neg (by omega),if_pos h];exact H.t2
  ·rw[JC];split
   ·exact hs
   ·exact H.s1
  ·rw[JC];split
   ·exact hs
   ·exact H.s2
  ·intro k h1 h2;rw[JC,if_neg (by omega)];exact H.b1 k h1 h2
 | pad h0 h1 hb hl e=>
  have hr:1<=c.k/\c.k<=6:=by omega
  obtain⟨A,B⟩:=setf hr;have hp:=hput hr
  have hk:c.k=3∨c.k=4∨c.k=5∨c.k=6:=by omega
  refine z3z H A B ?_ ?_ ?_ ?_ ?_ ?_ ?_ ?_ ?_;all_goals try rw[hp]
  ·rw[JC,if_neg (by omega)];unfold Sett.put
   rcases hk with h|h|h|h <;> simp [h,H.e1]
  ·rw[JC,if_neg (by omega)];unfold Sett.put
   rcases hk with h|h|h|h <;> simp [h,H.e2]
  ·rw[JC];unfold Sett.put
   rcases hk with h|h|h|h <;> simp [h,H.h1]
  ·rw[JC];unfold Sett.put
   rcases hk with h|h|h|h <;> simp [h,H.t1]
  ·rw[JC];unfold Sett.put
   rcases hk with h|h|h|h <;> simp [h,H.h2]
  ·rw[JC];unfold Sett.put
   rcases hk with h|h|h|h <;> simp [h,H.t2]
  ·rw[JC,if_neg (by omega)];exact H.s1
  ·rw[JC,if_neg (by omega)];exact H.s2
  ·intro k h1 h2;rw[JC];split
   ·exact⟨hb,hl⟩
   ·exact H.b1 k h1 h2
 | go h hs e=>
  obtain⟨g1,g2,g3,g4,g5,g6,_,_⟩:=EB path r c.s.toNat;rw[pN path h,GI path h];refine mW H ⟨g6,g5,λhw=>OT path hw _,?_,g2⟩ (vC hs).1 g1 (by omega)
  show(r.go path c.s.toNat).sts++_=_
  rw[g3,g2]
 | idle h h0 h1 e=>
  obtain⟨g1,g2,g3,g4,g5,g6,_,_⟩:=EB path r 1;obtain⟨k1,k2,k3,k4,k5,k6,_,_⟩:=RC (r.go path 1) (List.replicate c.cl.toNat (48,48,120));rw[qK path h,HI path h];refine mW H ⟨?_,?_,?_,?_,?_⟩ (by show 1∈stb;decide) ?_ (by omega)
  ·show Run.ck (Run.clk _ _)=_
   rw[k6,g6];simp [zs];omega
  ·show Run.wr (Run.clk _ _)=_
   rw[k5,g5]
  ·intro hw
   obtain⟨u1,u2,u3⟩:=OT path hw 1;obtain⟨v1,v2,v3⟩:=gZ (r:=r.go path 1) (by rw[g5];exact hw) (List.replicate c.cl.toNat (48,48,120))
   refine⟨?_,?_,?_⟩
   ·show Run.tms (Run.clk _ _)=_
    rw[v1,u1];simp [zs]
   ·show Run.tdi (Run.clk _ _)=_
    rw[v2,u2];simp [zs]
   ·show Run.want (Run.clk _ _)=_
    rw[v3,u3];simp [xsL]
  ·show Run.sts (Run.clk _ _)++_=_
   rw[k3,k2,g3,g2]
  ·show Run.st (Run.clk _ _)=_
   rw[k2,g2]
  ·show Run.se (Run.clk _ _)=_
   rw[k1,g1]
 | scan h hs e=>
  obtain⟨q1,q2,q3,q4,q5,q6⟩:=qF hs;have hm:c.m.length<=c.b.length:=by rcases q6 with⟨_,h⟩|⟨_,h⟩ <;> simp [h]
  rw[rK path h];rcases h with h|h
  ·have hp:qA path pre c r.st=NB (nB path c r.st 11 12 r.se.h1.b r.se.t1.b r.se.e1.s.toNat):=by
    unfold qA;rw[if_neg (by omega),if_neg (by omega),if_pos h,H.h1,H.t1,H.e1]
   have hen:r.se.e1.s.toNat∈stb:=by rw[H.e1];exact(vC H.s1).1
   obtain⟨A,B⟩:=zaC path q1 hm r.se.h1.b r.se.t1.b 11 12 r.se.e1.s.toNat ((r.go path 11).ni+(r.se.h1.b++c.b++r.se.t1.b).length) (r.go path 11).nd (r.scnF path c) _ hp _ rfl (r.scn path c) (by unfold Run.scn;simp only[if_pos h])
   refine mW H A (by rw[hp];exact hen) B (by omega)
  ·have hp:qA path pre c r.st=NB (nB path c r.st 4 5 r.se.h2.b r.se.t2.b r.se.e2.s.toNat):=by
    unfold qA;rw[if_neg (by omega),if_neg (by omega),if_neg (by omega),if_pos h,H.h2,H.t2,H.e2]
   have hen:r.se.e2.s.toNat∈stb:=by rw[H.e2];exact(vC H.s2).1
   obtain⟨A,B⟩:=zaC path q1 hm r.se.h2.b r.se.t2.b 4 5 r.se.e2.s.toNat (r.go path 4).ni ((r.go path 4).nd+(r.se.h2.b++c.b++r.se.t2.b).length) (r.scnF path c) _ hp _ rfl (r.scn path c) (by
    unfold Run.scn;simp only[if_neg (show ¬c.k=7 by omega)])
   refine mW H A (by rw[hp];exact hen) B (by omega)
end
section
variable (path:Nat->Nat->List UInt8)
theorem KW (ps qs:List Part):PA (ps++qs)=PA ps++PA qs:=by simp [PA]
theorem z3p:∀ (l:List Cmd) {pre:List Cmd} {r:Run} {ps:List Part} {state:Nat},RelV pre r ps state->ED l=0 ->
 ((PA (ps++vA path pre state l)).length<=20000->∃st',RelV (pre++l) (r.play path l) (ps++vA path pre state l) st') /\
 (20000<(PA (ps++vA path pre state l)).length->20000<(r.play path l).ck)
 | [],pre,r,ps,state,H,_=>by
  simp only[vA,List.append_nil,Run.play];exact⟨λ_=>⟨state,H⟩,λh=>by rw[H.ck];exact h⟩
 | c::l,pre,r,ps,state,H,hc=>by
  unfold ED at hc;split at hc
  ·rename_i h1;exact absurd hc h1
  rename_i h1;have h0:MA c=0:=by omega
  have S:=z3X path H h0
  obtain⟨A,B⟩:=z3p l S hc;have e1:ps++[qA path pre c state]++vA path (pre++[c]) (qA path pre c state).st l=ps++vA path pre state (c::l):=by
   rw[List.append_assoc];rfl
  have e2:pre++[c]++l=pre++c::l:=by rw[List.append_assoc];rfl
  rw[e1]at A B;rw[e2]at A;unfold Run.play;have hlen:(PA ps).length<=(PA (ps++vA path pre state (c::l))).length:=by rw[KW,List.length_append];omega
  constructor
  ·intro h
   rw[if_neg (by rw[H.ck];omega)]
   exact A h
  ·intro h
   split
   ·assumption
   ·exact B h
def iC (s:Nat):List UInt8->List Nat
 | []=>[]
 | c::r=>s::iC (stW s c) r
theorem TI:∀ (l:List UInt8) (s:Nat) (r:List UInt8),iC s (l++r)=iC s l++iC (oB s l) r
 | [],s,r=>rfl
 | d::l,s,r=>by simp only[List.cons_append,iC,TI l];rfl
theorem QW {s:Nat}(h:stW s 48=s):∀n,iC s (zs n)=List.replicate n s/\oB s (zs n)=s
 | 0=>⟨rfl,rfl⟩
 | n+1=>by
  obtain⟨a,b⟩:=QW h n;have e:zs (n+1)=48::zs n:=rfl
  rw[e];constructor
  ·simp only[iC,h,a];rfl
  ·show oB (stW s 48) (zs n)=s
   rw[h,b]
structure PathOk:Prop where
 bits:∀a∈frS,∀b∈toS,GA (path a b)=true
 len:∀a∈frS,∀b∈toS,(path a b).length<=8
 ends:∀a∈frS,∀b∈toS,oB a (path a b)=b
 no11:∀a∈frS,∀b∈toS,(iC a (path a b)).count 11=0
 no4:∀a∈frS,∀b∈toS,(iC a (path a b)).count 4=0
theorem RB {a:Nat}(h:a∈stb):a∈frS:=by
 simp only[stb,List.mem_cons,List.not_mem_nil,or_false]at h;rcases h with rfl|rfl|rfl|rfl <;> decide
theorem fD {a:Nat}(h:a∈stb):a∈toS:=by
 simp only[stb,List.mem_cons,List.not_mem_nil,or_false]at h;rcases h with rfl|rfl|rfl|rfl <;> decide
structure RelN (r:Run) (ps:List Part) (state:Nat):Prop where
 en:oB 0 (PA ps)=state
 ni:r.ni=(iC 0 (PA ps)).count 11
 nd:r.nd=(iC 0 (PA ps)).count 4
variable {path}
theorem pQ {r r':Run}{ps:List Part}{state:Nat}{p:Part}(N:RelN r ps state)(he:oB state p.tms=p.st)(h1:r'.ni=r.ni+(iC state p.tms).count 11)(h2:r'.nd=r.nd+(iC state p.tms).count 4):RelN r' (ps++[p]) p.st:=by
 obtain⟨q,_,_⟩:=LW ps p;refine⟨?_,?_,?_⟩
 ·rw[q,bL,N.en,he]
 ·rw[q,TI,N.en,List.count_append,h1,N.ni]
 ·rw[q,TI,N.en,List.count_append,h2,N.nd]
theorem GW (P:PathOk path){state sh ex en:Nat}(hs:state∈stb)(hx:(sh=11/\ex=12)∨(sh=4/\ex=5))(hen:en∈stb)(n:Nat)(hn:0<n) :
 oB state (path state sh++(zs (n-1)++[49])++path ex en)=en/\(iC state (path state sh++(zs (n-1)++[49])++path ex en)).count sh=n /\
 ∀o,(o=11∨o=4)->o≠sh->(iC state (path state sh++(zs (n-1)++[49])++path ex en)).count o=0:=by
 have h1:sh∈toS:=by rcases hx with⟨rfl,rfl⟩|⟨rfl,rfl⟩ <;> decide
 have h2:ex∈frS:=by rcases hx with⟨rfl,rfl⟩|⟨rfl,rfl⟩ <;> decide
 have h3:stW sh 48=sh:=by rcases hx with⟨rfl,rfl⟩|⟨rfl,rfl⟩ <;> rfl
 have h4:stW sh 49=ex:=by rcases hx with⟨rfl,rfl⟩|⟨rfl,rfl⟩ <;> rfl
 obtain⟨v1,v2⟩:=QW h3 (n-1);have e1:=P.ends _ (RB hs) _ h1
 have e2:=P.ends _ h2 _ (fD hen)
 have ee:oB state (path state sh++(zs (n-1)++[49]))=ex:=by
  rw[bL,e1,bL,v2];exact h4
 have hv:iC state (path state sh++(zs (n-1)++[49])++path ex en)=iC state (path state sh)++(List.replicate (n-1) sh++[sh])++iC ex (path ex en):=by
  rw[TI,ee,TI,e1,TI,v1,v2];rfl
 have c0:∀o,(o=11∨o=4)->(iC state (path state sh)).count o=0/\(iC ex (path ex en)).count o=0:=by
  rintro o (rfl|rfl)
  ·exact⟨P.no11 _ (RB hs) _ h1,P.no11 _ h2 _ (fD hen)⟩
  ·exact⟨P.no4 _ (RB hs) _ h1,P.no4 _ h2 _ (fD hen)⟩
 refine⟨?_,?_,?_⟩
 ·rw[bL,ee,e2]
 ·obtain⟨a,b⟩:=c0 sh (by rcases hx with⟨rfl,rfl⟩|⟨rfl,rfl⟩ <;> simp)
  rw[hv,List.count_append,List.count_append,List.count_append,a,b,List.count_replicate_self];simp;omega
 ·intro o ho hne
  obtain⟨a,b⟩:=c0 o ho;rw[hv,List.count_append,List.count_append,List.count_append,a,b,List.count_replicate,List.count_singleton];have:(sh==o)=false:=by simpa using Ne.symm hne
  simp [this]
theorem zq1 (P:PathOk path){pre:List Cmd}{r:Run}{ps:List Part}{state:Nat}(H:RelV pre r ps state)(N:RelN r ps state){c:Cmd}(hc:MA c=0) :
 RelN (r.step path c) (ps++[qA path pre c state]) (qA path pre c state).st:=by
 have hst:=H.st
 subst hst;have hf:=RB H.sb
 have setf:(1<=c.k/\c.k<=6)->RelN (r.step path c) (ps++[qA path pre c r.st]) (qA path pre c r.st).st:=λh=>by
  rw[AH path h,kF path h.2];exact pQ N rfl rfl rfl
 cases TD hc with
 | set h hs e=>exact setf (by omega)
 | pad h0 h1 hb hl e=>exact setf (by omega)
 | go h hs e=>
  obtain⟨g1,g2,g3,g4,g5,g6,g7,g8⟩:=EB path r c.s.toNat;rw[pN path h,GI path h];have ht:=fD (vC hs).1
  refine pQ N (P.ends _ hf _ ht) ?_ ?_
  ·show(r.go path c.s.toNat).ni=_
   rw[g7,P.no11 _ hf _ ht,Nat.add_zero]
  ·show(r.go path c.s.toNat).nd=_
   rw[g8,P.no4 _ hf _ ht,Nat.add_zero]
 | idle h h0 h1 e=>
  obtain⟨g1,g2,g3,g4,g5,g6,g7,g8⟩:=EB path r 1;obtain⟨k1,k2,k3,k4,k5,k6,k7,k8⟩:=RC (r.go path 1) (List.replicate c.cl.toNat (48,48,120));have ht:(1:Nat)∈toS:=by decide
  rw[qK path h,HI path h];have e1:=P.ends _ hf _ ht
  obtain⟨v1,v2⟩:=QW (s:=1) rfl c.cl.toNat;refine pQ N (by show oB r.st (path r.st 1++zs c.cl.toNat)=1;rw[bL,e1,v2]) ?_ ?_
  ·show Run.ni (Run.clk _ _)=r.ni+(iC r.st (path r.st 1++zs c.cl.toNat)).count 11
   rw[k7,g7,TI,e1,v1,List.count_append,P.no11 _ hf _ ht,List.count_replicate];rfl
  ·show Run.nd (Run.clk _ _)=r.nd+(iC r.st (path r.st 1++zs c.cl.toNat)).count 4
   rw[k8,g8,TI,e1,v1,List.count_append,P.no4 _ hf _ ht,List.count_replicate];rfl
 | scan h hs e=>
  obtain⟨q1,q2,q3,q4,q5,q6⟩:=qF hs;rw[rK path h];rcases h with h|h
  ·have hp:qA path pre c r.st=NB (nB path c r.st 11 12 r.se.h1.b r.se.t1.b r.se.e1.s.toNat):=by
    unfold qA;rw[if_neg (by omega),if_neg (by omega),if_pos h,H.h1,H.t1,H.e1]
   have hen:r.se.e1.s.toNat∈stb:=by rw[H.e1];exact(vC H.s1).1
   have hpos:0<(r.se.h1.b++c.b++r.se.t1.b).length:=by have:=List.length_pos_iff.2 q1;simp only[List.length_append];omega
   obtain⟨w1,w2,w3⟩:=GW P H.sb (.inl ⟨rfl,rfl⟩) hen (r.se.h1.b++c.b++r.se.t1.b).length hpos;rw[hp,YJ path c r.st 11 12 _ _ _ q1];obtain⟨g1,g2,g3,g4,g5,g6,g7,g8⟩:=EB path r 11;refine pQ N w1 ?_ ?_
   ·show(r.scn path c).ni=_
    unfold Run.scn;simp only[if_pos h];rw[(EB path _ _).2.2.2.2.2.2.1];show Run.ni (Run.clk _ _)=_
    rw[(RC _ _).2.2.2.2.2.2.1,w2];show(r.go path 11).ni+_=_
    rw[g7]
   ·show(r.scn path c).nd=_
    unfold Run.scn;simp only[if_pos h];rw[(EB path _ _).2.2.2.2.2.2.2];show Run.nd (Run.clk _ _)=_
    rw[(RC _ _).2.2.2.2.2.2.2,w3 4 (.inr rfl) (by decide)]
    show(r.go path 11).nd=_
    rw[g8,Nat.add_zero]
  ·have hp:qA path pre c r.st=NB (nB path c r.st 4 5 r.se.h2.b r.se.t2.b r.se.e2.s.toNat):=by
    unfold qA;rw[if_neg (by omega),if_neg (by omega),if_neg (by omega),if_pos h,H.h2,H.t2,H.e2]
   have hen:r.se.e2.s.toNat∈stb:=by rw[H.e2];exact(vC H.s2).1
   have hpos:0<(r.se.h2.b++c.b++r.se.t2.b).length:=by have:=List.length_pos_iff.2 q1;simp only[List.length_append];omega
   have h7:¬c.k=7:=by omega
   obtain⟨w1,w2,w3⟩:=GW P H.sb (.inr ⟨rfl,rfl⟩) hen (r.se.h2.b++c.b++r.se.t2.b).length hpos;rw[hp,YJ path c r.st 4 5 _ _ _ q1];obtain⟨g1,g2,g3,g4,g5,g6,g7,g8⟩:=EB path r 4;refine pQ N w1 ?_ ?_
   ·show(r.scn path c).ni=_
    unfold Run.scn;simp only[if_neg h7];rw[(EB path _ _).2.2.2.2.2.2.1];show Run.ni (Run.clk _ _)=_
    rw[(RC _ _).2.2.2.2.2.2.1,w3 11 (.inl rfl) (by decide)]
    show(r.go path 4).ni=_
    rw[g7,Nat.add_zero]
   ·show(r.scn path c).nd=_
    unfold Run.scn;simp only[if_neg h7];rw[(EB path _ _).2.2.2.2.2.2.2];show Run.nd (Run.clk _ _)=_
    rw[(RC _ _).2.2.2.2.2.2.2,w2];show(r.go path 4).nd+_=_
    rw[g8]
theorem reln0 (wr:Bool):RelN (OB wr) [] 0:=⟨rfl,rfl,rfl⟩
theorem z94 (P:PathOk path):∀(l:List Cmd) {pre:List Cmd} {r:Run} {ps:List Part} {state:Nat},RelV pre r ps state->RelN r ps state->ED l=0 ->
 (PA (ps++vA path pre state l)).length<=20000->∃st',RelN (r.play path l) (ps++vA path pre state l) st'
 | [],pre,r,ps,state,H,N,_,_=>by
  simp only[vA,List.append_nil,Run.play];exact⟨state,N⟩
 | c::l,pre,r,ps,state,H,N,hc,h=>by
  unfold ED at hc;split at hc
  ·rename_i h1;exact absurd hc h1
  rename_i h1;have h0:MA c=0:=by omega
  have S:=z3X path H h0
  have S2:=zq1 P H N h0
  have e1:ps++[qA path pre c state]++vA path (pre++[c]) (qA path pre c state).st l=ps++vA path pre state (c::l):=by
   rw[List.append_assoc];rfl
  have A:=z94 P l S S2 hc (by rw[e1];exact h)
  rw[e1]at A;have hlen:(PA ps).length<=(PA (ps++vA path pre state (c::l))).length:=by rw[KW,List.length_append];omega
  unfold Run.play;rw[if_neg (by rw[H.ck];omega)]
  exact A
theorem z91 (P:PathOk path){l:List Cmd}(hc:ED l=0)(wr:Bool)(h:(PA (vA path [] 0 l)).length<=20000) :
 ((OB wr).play path l).ck=(PA (vA path [] 0 l)).length/\((OB wr).play path l).sts=(vA path [] 0 l).map Part.st /\
 ((OB wr).play path l).ni=(iC 0 (PA (vA path [] 0 l))).count 11/\((OB wr).play path l).nd=(iC 0 (PA (vA path [] 0 l))).count 4 /\
 (wr=true->((OB wr).play path l).tms=PA (vA path [] 0 l)/\((OB wr).play path l).tdi=KC (vA path [] 0 l)/\((OB wr).play path l).want=LC (vA path [] 0 l)):=by
 obtain⟨A,_⟩:=z3p path l (rel0 wr) hc;simp only[List.nil_append]at A;obtain⟨st',R⟩:=A h;obtain⟨_,N⟩:=z94 P l (rel0 wr) (reln0 wr) hc (by simpa using h)
 simp only[List.nil_append]at N;have hw:((OB wr).play path l).wr=wr:=by
  have:∀(l:List Cmd) (r:Run),(r.play path l).wr=r.wr:=by
   intro l;induction l with
   | nil=>intro r;rfl
   | cons c l ih=>
    intro r;unfold Run.play;split
    ·rfl
    ·rw[ih]
     by_cases h1:1<=c.k/\c.k<=6
     ·rw[AH path h1]
     by_cases h2:c.k=7∨c.k=8
     ·rw[rK path h2]
      show(r.scn path c).wr=_
      unfold Run.scn;by_cases h7:c.k=7 <;> (simp only[h7,if_true,if_false];rw[(EB path _ _).2.2.2.2.1];show Run.wr (Run.clk _ _)=_;rw[(RC _ _).2.2.2.2.1];exact(EB path _ _).2.2.2.2.1)
     by_cases h3:c.k=9
     ·rw[qK path h3]
      show Run.wr (Run.clk _ _)=_
      rw[(RC _ _).2.2.2.2.1];exact(EB path _ _).2.2.2.2.1
     ·unfold Run.step
      rw[if_neg h1,if_neg h2,if_neg h3];exact(EB path _ _).2.2.2.2.1
  exact this l _
 exact⟨R.ck,R.sts,N.ni,N.nd,λe=>R.sig (by rw[hw];exact e)⟩
end
structure TReg where
 name:List UInt8
 long:Int
 deriving DecidableEq
structure TIns where
 code:List UInt8
 reg:List UInt8
 deriving DecidableEq
structure TDev where
 name:List UInt8
 long:Int
 id:Int
 regs:List TReg
 ins:List TIns
 deriving DecidableEq
def IB:List UInt8:=[98,121,112,97,115,115]
def GB:List UInt8:=[105,100,99,111,100,101]
def XC (d:TDev)(n:List UInt8):Option TReg:=
 if n=IB then some ⟨IB,1⟩ else if n=GB/\d.id≠0 then some ⟨GB,32⟩ else d.regs.find? λr=>r.name==n
def yH (d:TDev)(code:List UInt8):List UInt8:=(d.ins.foldl (λn x=>if x.code=code then x.reg else n) IB)
def tC (d:TDev)(code:List UInt8):TReg:=
 if code=[] then(match XC d GB with|some r=>r|none=>⟨IB,1⟩) else(XC d (yH d code)).getD ⟨[],0⟩
structure DevOk (d:TDev):Prop where
 lo:2<=d.long
 hi:d.long<=32
 i0:0<=d.id
 i1:d.id<=4294967295
 code:∀x∈d.ins,x.code≠[]
 kn:∀x∈d.ins,(XC d x.reg).isSome=true
 nb:∀r∈d.regs,r.name≠IB
 ni:∀r∈d.regs,r.name≠GB
 rl:∀r∈d.regs,1<=r.long/\r.long<=1000000
 nd:(d.regs.map TReg.name).Nodup
 rn:d.regs.length<=1000
 im:d.ins.length<=1000
 nl:d.name.length<=1000
theorem zqb {d:TDev}(D:DevOk d)(code:List UInt8):(XC d (yH d code)).isSome=true:=by
 unfold yH;have:∀(l:List TIns) (n:List UInt8),(∀x∈l,(XC d x.reg).isSome=true)->(XC d n).isSome=true->(XC d (l.foldl (λn x=>if x.code=code then x.reg else n) n)).isSome=true:=by
  intro l;induction l with
  | nil=>intro n _ h;exact h
  | cons x l ih=>
   intro n h hn;rw[List.foldl_cons];refine ih _ (λy hy=>h y (List.mem_cons_of_mem _ hy)) ?_
   split
   ·exact h x List.mem_cons_self
   ·exact hn
 exact this _ _ D.kn rfl
def rD (id:Int):List UInt8:=(List.range 32).map λi=>UInt8.ofNat (48+(id.toNat >>> i)%2)
def jJ (d:TDev)(code:List UInt8):List UInt8:=
 let r:=tC d code
 if r.name=IB then [48] else if r.name=GB then rD d.id else zs r.long.toNat
abbrev aD:=List UInt8 × List UInt8
def OC (st:Nat)(d:TDev)(p:aD)(b:UInt8):aD×UInt8:=
 if st=0 then(([],p.2),b)
 else if st=3 then((p.1,jJ d p.1),b)
 else if st=4∨st=11 then((p.1,p.2.tail++[b]),p.2.headD 0)
 else if st=10 then((p.1,49::zs (d.long-1).toNat),b)
 else if st=15 then((p.2,p.2),b)
 else(p,b)
def HH (st:Nat):List TDev->List aD->UInt8->List aD×UInt8
 | d::ds,p::ps,b=>let y:=OC st d p b;let z:=HH st ds ps y.2; (y.1::z.1,z.2)
 | _,_,b=>([],b)
def rN (st:Nat)(b:UInt8):UInt8:=if st=4∨st=11 then b else 122
def IF (ds:List TDev)(st:Nat)(ps:List aD):List (UInt8×UInt8)->List UInt8
 | []=>[]
 | (t,b)::r=>rN st (HH st ds ps b).2::IF ds (stW st t) (HH st ds ps b).1 r
def OM (ds:List TDev):List aD:=ds.map λ_=>([],[48])
theorem z36 (ds:List TDev):∀(l:List (UInt8×UInt8)) (st:Nat) (ps:List aD),(IF ds st ps l).length=l.length
 | [],_,_=>rfl
 | _::l,_,_=>by simp only[IF,List.length_cons,z36 ds l]
def jD (c:UInt8):Prop:=c=48∨c=49
structure PortOk (p:aD):Prop where
 ne:p.2≠[]
 b:∀c∈p.2,jD c
 n:p.2.length<=1000000
 i:p.1.length<=1000000
theorem zby {n:Nat}:∀c∈zs n,jD c:=λc hc=>.inl (List.eq_of_mem_replicate hc)
theorem zaF {d:TDev}(D:DevOk d)(code:List UInt8):(tC d code).name=IB∨(tC d code).name=GB∨tC d code∈d.regs:=by
 unfold tC;have key:∀n r,XC d n=some r->r.name=IB∨r.name=GB∨r∈d.regs:=by
  intro n r h;unfold XC at h;split at h
  ·cases h;exact .inl rfl
  ·split at h
   ·cases h;exact .inr (.inl rfl)
   ·exact .inr (.inr (List.mem_of_find?_eq_some h))
 split
 ·cases h:XC d GB with
  | none=>exact .inl rfl
  | some r=>exact key _ _ h
 ·have:=zqb D code
  cases h:XC d (yH d code) with
  | none=>rw[h]at this;cases this
  | some r=>exact key _ _ h
theorem zfR {d:TDev}(D:DevOk d)(code:List UInt8):jJ d code≠[]/\(∀c∈jJ d code,jD c)/\(jJ d code).length<=1000000:=by
 unfold jJ;dsimp only;split
 ·exact⟨by simp,by simp [jD],by simp⟩
 ·split
  ·refine⟨λe=>by have:=congrArg List.length e;simp [rD]at this,λc hc=>?_,by simp [rD]⟩
   unfold rD at hc;obtain⟨i,_,rfl⟩:=List.mem_map.1 hc;rcases Nat.mod_two_eq_zero_or_one (d.id.toNat >>> i) with e|e <;> rw[e] <;> simp [jD]
  ·rename_i h1 h2
   rcases zaF D code with h|h|h
   ·exact absurd h h1
   ·exact absurd h h2
   ·have:=D.rl _ h
    refine⟨?_,zby,by simp [zs];omega⟩
    intro e;have:=congrArg List.length e;simp [zs]at this;omega
theorem zdl {d:TDev}(D:DevOk d){p:aD}(P:PortOk p)(st:Nat){b:UInt8}(hb:jD b):PortOk (OC st d p b).1/\jD (OC st d p b).2:=by
 unfold OC;split
 ·exact⟨⟨P.ne,P.b,P.n,by simp⟩,hb⟩
 ·split
  ·obtain⟨c1,c2,c3⟩:=zfR D p.1
   exact⟨⟨c1,c2,c3,P.i⟩,hb⟩
  ·split
   ·refine⟨⟨by simp,λc hc=>?_,?_,P.i⟩,?_⟩
    ·rcases List.mem_append.1 hc with h|h
     ·exact P.b c (List.mem_of_mem_tail h)
     ·rw[List.mem_singleton.1 h];exact hb
    ·have h1:=P.n
     have h2:=List.length_pos_iff.2 P.ne
     simp;omega
    ·have h1:=P.ne
     have h2:=P.b
     cases hp:p.2 with
     | nil=>exact absurd hp h1
     | cons x l=>rw[hp]at h2;exact h2 x List.mem_cons_self
   ·split
    ·have:=D.lo
     have:=D.hi;refine⟨⟨by simp,λc hc=>?_,by simp [zs];omega,P.i⟩,hb⟩
     rcases List.mem_cons.1 hc with h|h
     ·exact .inr h
     ·exact zby c h
    ·split
     ·exact⟨⟨P.ne,P.b,P.n,P.n⟩,hb⟩
     ·exact⟨P,hb⟩
inductive PV where
 | int (k:IntKind) (n:Int)
 | bool (b:Bool)
 | str (s:List UInt8)
 | sl (sh:Option Nat) (xs:List PV)
 | agg (cs:List PV)
 | nilp
 | unk            -- a whole number,it is not said which
 deriving Inhabited
inductive AV where
 | p (v:PV)
 | own (id g off len:Nat)
 | sl0 (sh:Option Nat)
 | ref (id off:Nat)
 | rref (id g i off:Nat)
 | vp (v:PV)
 | nilp|nilm|nilf|nili|ifc
 | mp (id:Nat)
 | it (id:Nat)
 | fn (f:Nat) (caps:List AV)
 | agg (cs:List AV)
 | tup (vs:List AV)
 | anyb           -- true or false
 | skp            -- what an operation that was passed over leaves
 | und
 | anyp           -- a pointer,it is not said where tov
 | bt (k t id g:Nat)   -- (3: a slice over a row of rows,of a shape t;4: the address of its cell t;g its elements then) of a builder: 0 its nil address (the block's type t);1 its buffer;2 the buffer's first byte
 deriving Inhabited
structure ME where
 key:PV
 val:AV
 born:Nat
 deriving Inhabited
inductive Obj where
 | box (cs:List AV)
 | row (sh:Option Nat) (xs:List PV) (fz:Nat)
 | amap (es:List ME) (clock:Nat)
 | iter (m:Option Nat) (since:Nat) (seen:List Nat) (last:Nat)
 | arow (sh:Option Nat) (cs:List AV)   -- a row whose elements may name rows: its cells
 deriving Inhabited
abbrev Esc:=List (Nat × Nat)
abbrev aA:=List Obj
abbrev Sh:=Option Nat
def PV.sc:PV->Bool
 | .agg _=>false
 | _=>true
def PV.cells:PV->List PV
 | .agg cs=>cs
 | v=>[v]
def AV.sc:AV->Bool
 | .p v=>v.sc
 | .agg _ | .tup _ | .skp | .und | .anyb=>false
 | _=>true
def AV.cells:AV->Option (List AV)
 | .p (.agg cs)=>if cs.all PV.sc then some (cs.map .p) else none
 | .p v=>some [.p v]
 | .agg cs=>if cs.all AV.sc then some cs else none
 | .tup _ | .skp | .und | .anyb=>none
 | x=>some [x]
def unp:List AV->Option (List PV)
 | []=>some []
 | .p v::r=>(unp r).map (v :: ·)
 | _::_=>none
def mkA (cs:List AV):AV:=match unp cs with
 | some vs=>.p (.agg vs)
 | none=>.agg cs
def PV.shp:Sh->PV->Bool
 | none,v=>v.sc
 | some n,.agg cs=>cs.length==n&&cs.all PV.sc
 | some _,_=>false
def cut (sh:Sh)(off:Nat)(cs:List AV):Option AV:=match sh with
 | none=>cs[off]?
 | some n=>if off+n<=cs.length then some (mkA ((cs.drop off).take n)) else none
def rB (sh:Sh)(off:Nat):PV->Option PV
 | .agg cs=>match sh with
  | none=>(cs[off]?).bind λx=>if x.sc then some x else none
  | some n=>if off+n<=cs.length then some (.agg ((cs.drop off).take n)) else none
 | v=>match sh,off with
  | none,0=>some v
  | _,_=>none
def splice {α:Type}(cs:List α)(off:Nat)(vs:List α):List α:=cs.take off++vs++cs.drop (off+vs.length)
mutual
def AV.top:AV->Nat
 | .own id _ _ _ | .ref id _ | .rref id _ _ _ | .mp id | .it id | .bt _ _ id _=>id+1
 | .fn _ cs | .agg cs | .tup cs=>AV.tops cs
 | _=>0
def AV.tops:List AV->Nat
 | []=>0
 | v::r=>max v.top (AV.tops r)
end
def Obj.top:Obj->Nat
 | .box cs=>AV.tops cs
 | .row _ _ _=>0
 | .amap es _=>AV.tops (es.map ME.val)
 | .iter m _ _ _=>match m with|some i=>i+1|none=>0
 | .arow _ cs=>AV.tops cs
def win {α:Type}(xs:List α)(off len:Nat):List α:=(xs.drop off).take len
def rd (h:aA):AV->Option (Sh×List PV)
 | .p (.sl sh xs)=>some (sh,xs)
 | .sl0 sh=>some (sh,[])
 | .own id g off len=>match h[id]? with
  | some (.row sh xs _)=>if g=xs.length/\off+len<=xs.length then some (sh,win xs off len) else none
  | _=>none
 | _=>none
def frz (h:aA)(id k:Nat):aA:=match h[id]? with
 | some (.row sh xs fz)=>h.set id (.row sh xs (max fz k))
 | _=>h
def gA:Sh->Nat
 | none=>1
 | some n=>n
def uG (n:Nat):Nat->List PV->List PV
 | 0,_=>[]
 | f+1,vs=>.agg (vs.take n)::uG n f (vs.drop n)
def QC (sh:Sh)(g:Nat)(vs:List PV):List PV:=match sh with
 | none=>vs
 | some n=>uG n g vs
def qE (h:aA):AV->Option (PV×aA)
 | .p v=>some (v,h)
 | .sl0 sh=>some (.sl sh [],h)
 | .nilp=>some (.nilp,h)
 | .own id g off len=>(rd h (.own id g off len)).map λy=>(.sl y.1 y.2,frz h id (off+len))
 | _=>none
def aE (h:aA):List AV->Option (List PV×aA)
 | []=>some ([],h)
 | v::r=>match qE h v with
  | some (x,h1)=>match aE h1 r with
   | some (xs,h2)=>some (x::xs,h2)
   | none=>none
  | none=>none
def II (h:aA)(id g:Nat):Option (PV×aA):=match h[id]? with
 | some (.arow sh cs)=>if g*gA sh=cs.length then match aE h cs with
  | some (vs,h1)=>some (.sl sh (QC sh g vs),frz (h1.set id (.row sh (QC sh g vs) 0)) id (0+g))
  | none=>none
  else none
 | _=>none
mutual
def pur (h:aA):AV->Option (PV×aA)
 | .p v=>some (v,h)
 | .sl0 sh=>some (.sl sh [],h)
 | .nilp=>some (.nilp,h)
 | .own id g off len=>(rd h (.own id g off len)).map λy=>(.sl y.1 y.2,frz h id (off+len))
 | .bt k _ id g=>bif Nat.beq k 3 then II h id g else none
 | .agg cs=>match rE h cs with
  | some (vs,h')=>some (.agg vs,h')
  | none=>none
 | _=>none
def rE (h:aA):List AV->Option (List PV×aA)
 | []=>some ([],h)
 | v::r=>match pur h v with
  | some (x,h1)=>match rE h1 r with
   | some (xs,h2)=>some (x::xs,h2)
   | none=>none
  | none=>none
end
def PV.eq1:PV->PV->Option Bool
 | .int k a,.int k' b=>if k=k' then some (decide (a=b)) else none
 | .bool a,.bool b=>some (decide (a=b))
 | .str a,.str b=>some (decide (a=b))
 | _,_=>none
def eqs:List PV->List PV->Option Bool
 | [],[]=>some true
 | a::asv,b::bs=>match PV.eq1 a b with
  | some x=>(eqs asv bs).map (x && ·)
  | none=>none
 | _,_=>none
def PV.intP:PV->Bool
 | .int _ _ | .unk=>true
 | _=>false
def PV.kind:PV->Nat
 | .int _ _=>0
 | .bool _=>1
 | .str _=>2
 | _=>3
def PV.eqv:PV->PV->Option Bool
 | .agg asv,.agg bs=>eqs asv bs
 | a,b=>PV.eq1 a b
def xI (k:IntKind)(a b:Int):Int:=k.wrap (BitVec.ofInt k.bits a &&& BitVec.ofInt k.bits b).toNat
def ior (k:IntKind)(a b:Int):Int:=k.wrap (BitVec.ofInt k.bits a ||| BitVec.ofInt k.bits b).toNat
def OP (k:IntKind)(a b:Int):Int:=k.wrap (BitVec.ofInt k.bits a ^^^ BitVec.ofInt k.bits b).toNat
def JP (k:IntKind)(a b:Int):Int:=k.wrap (BitVec.ofInt k.bits a &&& ~~~(BitVec.ofInt k.bits b)).toNat
def ishl (k:IntKind)(a b:Int):Int:=k.wrap (a*2^(min b.toNat k.bits))
def IJ (k:IntKind)(a b:Int):Int:=a.fdiv (2^(min b.toNat k.bits))
def CD (op:BinOp)(k:IntKind)(a b:Int):Option PV:=match op with
 | .add=>some (.int k (k.wrap (a+b)))
 | .sub=>some (.int k (k.wrap (a-b)))
 | .mul=>some (.int k (k.wrap (a*b)))
 | .quo=>if b=0 then none else some (.int k (k.wrap (a.tdiv b)))
 | .rem=>if b=0 then none else some (.int k (a.tmod b))
 | .and=>some (.int k (xI k a b))
 | .or=>some (.int k (ior k a b))
 | .xor=>some (.int k (OP k a b))
 | .andNot=>some (.int k (JP k a b))
 | .eql=>some (.bool (decide (a=b)))
 | .neq=>some (.bool (!decide (a=b)))
 | .lss=>some (.bool (decide (a<b)))
 | .leq=>some (.bool (decide (a<=b)))
 | .gtr=>some (.bool (decide (b<a)))
 | .geq=>some (.bool (decide (b<=a)))
 | _=>none
def QA:Nat:=2^46
def LA:Nat:=2^38
def fJ (op:BinOp)(a b:List UInt8):Option PV:=match op with
 | .add=>if a.length+b.length<=QA then some (.str (a++b)) else none
 | .eql=>some (.bool (decide (a=b)))
 | .neq=>some (.bool (!decide (a=b)))
 | .lss=>some (.bool (Op.bytesLess a b))
 | .leq=>some (.bool (Op.bytesLess a b||decide (a=b)))
 | .gtr=>some (.bool (!(Op.bytesLess a b||decide (a=b))))
 | .geq=>some (.bool (!Op.bytesLess a b))
 | _=>none
def SB (op:BinOp):PV->PV->Option PV
 | .int k a,.int k' b=>match op with
  | .shl=>if b<0 then none else some (.int k (ishl k a b))
  | .shr=>if b<0 then none else some (.int k (IJ k a b))
  | _=>if k=k' then CD op k a b else none
 | .str a,.str b=>fJ op a b
 | _,_=>none
def aun (op:UnOp):PV->Option PV
 | .int k n=>match op with
  | .neg=>some (.int k (k.wrap (0-n)))
  | .xor=>some (.int k (k.wrap (BitVec.ofInt k.bits (if k.signed then -1 else k.max) ^^^ BitVec.ofInt k.bits n).toNat))
  | _=>none
 | .bool b=>match op with
  | .not=>some (.bool !b)
  | _=>none
 | _=>none
def BN:PV->PV->Option PV
 | .int k x,.int k' y=>if k=k' then some (.int k (max x y)) else none
 | _,_=>none
def KY:PV->PV->Option PV
 | .int k x,.int k' y=>if k=k' then some (.int k (min x y)) else none
 | _,_=>none
def PV.key:PV->Bool
 | .int _ _ | .str _ | .bool _=>true
 | .agg cs=>cs.all fun | .int _ _ | .str _ | .bool _=>true|_=>false
 | _=>false
def PB (k:PV):List ME->Option (Option Nat)
 | []=>some none
 | e::es=>match PV.eqv k e.key with
  | some true=>some (some 0)
  | some false=>(PB k es).map (·.map (· + 1))
  | none=>none
section
variable (path:Nat->Nat->List UInt8)
def TC (c:Cmd):Bool:=c.k==7||c.k==8
theorem IE {c:Cmd}:TC c=true↔c.k=7∨c.k=8:=by simp [TC]
def eG:List Cmd->Nat->List Cmd->Nat->List Nat
 | _,_,[],_=>[]
 | pre,state,c::l,at_=>(if TC c=true then at_+(qA path pre c state).fr else 0)::eG (pre++[c]) (qA path pre c state).st l (at_+(qA path pre c state).tms.length)
theorem z9y {pre:List Cmd}{c:Cmd}{state:Nat}(h:c.k=7):(qA path pre c state).fr=(path state 11).length+(mA pre 3).b.length/\(qA path pre c state).fr+c.b.length<=(qA path pre c state).tms.length:=by
 unfold qA;rw[if_neg (by omega),if_neg (by omega),if_pos h]
 refine⟨rfl,?_⟩;show(path state 11).length+(mA pre 3).b.length+c.b.length<=(path state 11++zs (((mA pre 3).b++c.b++(mA pre 4).b).length-1)++[49]++_).length
 simp only[List.length_append,zs,List.length_replicate,List.length_cons,List.length_nil];omega
theorem z9z {pre:List Cmd}{c:Cmd}{state:Nat}(h:c.k=8):(qA path pre c state).fr=(path state 4).length+(mA pre 5).b.length/\(qA path pre c state).fr+c.b.length<=(qA path pre c state).tms.length:=by
 unfold qA;rw[if_neg (by omega),if_neg (by omega),if_neg (by omega),if_pos h]
 refine⟨rfl,?_⟩;show(path state 4).length+(mA pre 5).b.length+c.b.length<=(path state 4++zs (((mA pre 5).b++c.b++(mA pre 6).b).length-1)++[49]++_).length
 simp only[List.length_append,zs,List.length_replicate,List.length_cons,List.length_nil];omega
theorem HL (r:Run)(tov:Nat):(r.go path tov).frs=r.frs:=(EB path r tov).2.2.2.1
theorem zqa (r:Run)(c:Cmd):(r.scn path c).frs=r.frs:=by
 unfold Run.scn;by_cases h7:c.k=7
 ·simp only[h7,if_true]
  rw[HL];show(Run.clk _ _).frs=_
  rw[(RC _ _).2.2.2.1];exact HL path r 11
 ·simp only[h7,if_false]
  rw[HL];show(Run.clk _ _).frs=_
  rw[(RC _ _).2.2.2.1];exact HL path r 4
theorem zqz {pre:List Cmd}{r:Run}{ps:List Part}{state:Nat}(H:RelV pre r ps state){c:Cmd}(hc:MA c=0) :
 (r.step path c).frs=r.frs++[if TC c=true then r.ck+(qA path pre c state).fr else 0]:=by
 have hst:=H.st
 have hk:(1<=c.k/\c.k<=6)∨(c.k=7∨c.k=8)∨c.k=9∨c.k=10:=by
  unfold MA at hc;by_cases a:c.k=1∨c.k=2∨c.k=10
  ·omega
  ·rw[if_neg a]at hc
   by_cases b:c.k=9
   ·omega
   ·rw[if_neg b]at hc
    by_cases d:c.k=7∨c.k=8
    ·omega
    ·rw[if_neg d]at hc
     by_cases e:3<=c.k/\c.k<=6
     ·omega
     ·rw[if_neg e]at hc;cases hc
 rcases hk with h|h|h|h
 ·rw[AH path h,if_neg (by rw[IE];omega)]
 ·rw[rK path h,if_pos (IE.2 h)]
  show(r.scn path c).frs++[r.scnF path c]=_
  rw[zqa];congr 2
  unfold Run.scnF;rcases h with h|h
  ·rw[if_pos h,(z9y path h).1,(EB path r 11).2.2.2.2.2.1,hst,H.h1];omega
  ·rw[if_neg (by omega),(z9z path h).1,(EB path r 4).2.2.2.2.2.1,hst,H.h2];omega
 ·rw[qK path h,if_neg (by rw[IE];omega)]
  show(Run.clk _ _).frs++[0]=_
  rw[(RC _ _).2.2.2.1,HL]
 ·rw[pN path h,if_neg (by rw[IE];omega)]
  show(r.go path _).frs++[0]=_
  rw[HL]
theorem z92:∀ (l:List Cmd) {pre:List Cmd} {r:Run} {ps:List Part} {state:Nat},RelV pre r ps state->ED l=0 ->
 (PA (ps++vA path pre state l)).length<=20000->(r.play path l).frs=r.frs++eG path pre state l r.ck
 | [],pre,r,ps,state,H,_,_=>by simp [Run.play,eG]
 | c::l,pre,r,ps,state,H,hc,h=>by
  unfold ED at hc;split at hc
  ·rename_i h1;exact absurd hc h1
  rename_i h1;have h0:MA c=0:=by omega
  have S:=z3X path H h0
  have e1:ps++[qA path pre c state]++vA path (pre++[c]) (qA path pre c state).st l=ps++vA path pre state (c::l):=by
   rw[List.append_assoc];rfl
  have hlen:(PA ps).length<=(PA (ps++vA path pre state (c::l))).length:=by rw[KW,List.length_append];omega
  have A:=z92 l S hc (by rw[e1];exact h)
  unfold Run.play;rw[if_neg (by rw[H.ck];omega),A,zqz path H h0]
  have ck:(r.step path c).ck=r.ck+(qA path pre c state).tms.length:=by
   rw[S.ck,H.ck,KW,List.length_append];simp [PA]
  rw[ck,List.append_assoc];rfl
def lF:List Cmd->Nat->List Cmd->Nat->List UInt8->List (List UInt8)
 | _,_,[],_,_=>[]
 | pre,state,c::l,at_,R=>(if TC c=true then win R (at_+(qA path pre c state).fr) c.b.length else [])::lF (pre++[c]) (qA path pre c state).st l (at_+(qA path pre c state).tms.length) R
theorem z30:∀ (l:List Cmd) (pre:List Cmd) (state at_:Nat) (R:List UInt8),(lF path pre state l at_ R).length=l.length
 | [],_,_,_,_=>rfl
 | c::l,pre,state,at_,R=>by simp [lF,z30 l]
theorem z8b:∀ (l:List Cmd) (pre:List Cmd) (state at_:Nat),(eG path pre state l at_).length=l.length
 | [],_,_,_=>rfl
 | c::l,pre,state,at_=>by simp [eG,z8b l]
theorem z1j {R:List UInt8}:∀(l:List Cmd) {pre:List Cmd} {state at_:Nat},at_+(PA (vA path pre state l)).length<=R.length->∀k (hk:k<l.length),TC l[k]=true ->
 ∃f,(eG path pre state l at_)[k]?=some f/\f+l[k].b.length<=R.length/\(lF path pre state l at_ R)[k]?=some (win R f l[k].b.length)
 | [],pre,state,at_,h,k,hk,_=>by simp at hk
 | c::l,pre,state,at_,h,0,hk,hs=>by
  have hs:TC c=true:=hs
  have hl:(PA (vA path pre state (c::l))).length=(qA path pre c state).tms.length+(PA (vA path (pre++[c]) (qA path pre c state).st l)).length:=by
   show(PA (qA path pre c state::_)).length=_
   simp [PA]
  refine⟨at_+(qA path pre c state).fr,?_,?_,?_⟩
  ·simp [eG,hs]
  ·have:(qA path pre c state).fr+c.b.length<=(qA path pre c state).tms.length:=by
    rcases IE.1 hs with e|e
    ·exact(z9y path e).2
    ·exact(z9z path e).2
   simp only[List.getElem_cons_zero];omega
  ·simp [lF,hs]
 | c::l,pre,state,at_,h,k+1,hk,hs=>by
  have hl:(PA (vA path pre state (c::l))).length=(qA path pre c state).tms.length+(PA (vA path (pre++[c]) (qA path pre c state).st l)).length:=by
   show(PA (qA path pre c state::_)).length=_
   simp [PA]
  obtain⟨f,a1,a2,a3⟩:=z1j (R:=R) l (pre:=pre++[c]) (state:=(qA path pre c state).st) (at_:=at_+(qA path pre c state).tms.length) (by omega) k (by simpa using hk) (by simpa using hs)
  exact⟨f,by simpa [eG] using a1,by simpa using a2,by simpa [lF] using a3⟩
theorem z31 {R:List UInt8}:∀(l:List Cmd) {pre:List Cmd} {state at_:Nat} (k:Nat) (hk:k<l.length),TC l[k]=false->(lF path pre state l at_ R)[k]?=some []
 | [],pre,state,at_,k,hk,_=>by simp at hk
 | c::l,pre,state,at_,0,hk,hs=>by
  have hs:TC c=false:=hs
  simp [lF,hs]
 | c::l,pre,state,at_,k+1,hk,hs=>by
  simpa [lF] using z31 l k (by simpa using hk) (by simpa using hs)
end
abbrev GE:Nat:=129
abbrev kI:Nat:=88
abbrev z0Z:Nat:=115
abbrev z6N:Nat:=163
abbrev VD:Nat:=117
abbrev z1a:Nat:=200
abbrev kC:Nat:=103
abbrev z6O:Nat:=120
abbrev z6P:Nat:=169
abbrev z6Q:Nat:=75
abbrev zjH:Nat:=234
abbrev z6R:Nat:=229
abbrev z6S:Nat:=170
abbrev z6T:Nat:=204
abbrev zjI:Nat:=232
abbrev z6U:Nat:=249
abbrev z6V:Nat:=256
abbrev JO:Nat:=230
abbrev z6W:Nat:=205
abbrev z6X:Nat:=121
abbrev FT:Nat:=122
abbrev z6Y:Nat:=206
abbrev z6Z:Nat:=233
abbrev z7a:Nat:=250
abbrev f_q06k:Nat:=226
abbrev f_q06l:Nat:=225
abbrev f_q06m:Nat:=246
abbrev z7b:Nat:=194
abbrev z7c:Nat:=193
abbrev z7d:Nat:=112
abbrev z7e:Nat:=72
abbrev z7f:Nat:=155
abbrev z7g:Nat:=223
abbrev z7h:Nat:=156
abbrev z7i:Nat:=159
abbrev z7j:Nat:=158
abbrev z7k:Nat:=157
abbrev z6M:Nat:=153
abbrev z7l:Nat:=247
abbrev jI:Nat:=184
abbrev ztm:Nat:=239
abbrev ET:Nat:=254
abbrev KO:Nat:=217
abbrev xJ:Nat:=138
abbrev z7m:Nat:=73
abbrev z7n:Nat:=162
abbrev z7o:Nat:=114
abbrev z7p:Nat:=113
abbrev z7q:Nat:=161
abbrev GT:Nat:=7
abbrev yJ:Nat:=40
abbrev z7r:Nat:=32
abbrev mL:Nat:=30
abbrev mI:Nat:=38
abbrev z7s:Nat:=76
abbrev zJ:Nat:=78
abbrev LO:Nat:=45
abbrev nI:Nat:=8
abbrev MO:Nat:=9
abbrev lE:Nat:=36
abbrev aF:Nat:=33
abbrev oI:Nat:=87
abbrev AC:Nat:=44
abbrev fH:Nat:=10
abbrev pI:Nat:=29
abbrev HE:Nat:=35
abbrev AF:Nat:=86
abbrev WD:Nat:=149
abbrev NO:Nat:=191
abbrev OO:Nat:=147
abbrev gH:Nat:=71
abbrev nL:Nat:=16
abbrev oL:Nat:=56
abbrev PO:Nat:=55
abbrev pL:Nat:=60
abbrev qL:Nat:=97
abbrev QO:Nat:=111
abbrev AG:Nat:=102
abbrev RO:Nat:=58
abbrev rL:Nat:=98
abbrev iH:Nat:=150
abbrev sL:Nat:=96
abbrev z7t:Nat:=255
abbrev SO:Nat:=48
abbrev TO:Nat:=177
abbrev UO:Nat:=176
abbrev z7u:Nat:=171
abbrev z1b:Nat:=231
abbrev WO:Nat:=51
abbrev XO:Nat:=143
abbrev YO:Nat:=93
abbrev z7v:Nat:=160
abbrev jH:Nat:=145
abbrev z7w:Nat:=196
abbrev ZO:Nat:=43
abbrev aP:Nat:=22
abbrev bP:Nat:=42
abbrev cP:Nat:=41
abbrev z7x:Nat:=248
abbrev AJ:Nat:=79
abbrev dP:Nat:=186
abbrev tL:Nat:=139
abbrev z7y:Nat:=195
abbrev uL:Nat:=187
abbrev z7z:Nat:=224
abbrev z71:Nat:=165
abbrev z73:Nat:=164
abbrev z74:Nat:=74
abbrev zjJ:Nat:=198
abbrev z77:Nat:=167
abbrev z78:Nat:=197
abbrev z79:Nat:=116
abbrev f_q0c1:Nat:=228
abbrev f_q0c2:Nat:=202
abbrev f_q0c3:Nat:=203
abbrev f_q0c4:Nat:=201
abbrev z7A:Nat:=168
abbrev z7B:Nat:=118
abbrev z7C:Nat:=166
abbrev z7D:Nat:=199
abbrev z7E:Nat:=119
abbrev BJ:Nat:=70
abbrev BG:Nat:=68
abbrev eP:Nat:=109
abbrev z7F:Nat:=227
abbrev fP:Nat:=142
abbrev iP:Nat:=185
abbrev jP:Nat:=92
abbrev DA:Nat:=26
abbrev kP:Nat:=91
abbrev lP:Nat:=178
abbrev mP:Nat:=130
abbrev qI:Nat:=89
abbrev nP:Nat:=128
abbrev vL:Nat:=172
abbrev oP:Nat:=90
abbrev pP:Nat:=127
abbrev qP:Nat:=173
abbrev rP:Nat:=175
abbrev sP:Nat:=210
abbrev CJ:Nat:=207
abbrev BF:Nat:=179
abbrev CG:Nat:=208
abbrev tP:Nat:=212
abbrev wL:Nat:=213
abbrev DJ:Nat:=211
abbrev uP:Nat:=235
abbrev vP:Nat:=174
abbrev wP:Nat:=209
abbrev xP:Nat:=236
abbrev CF:Nat:=63
abbrev z7G:Nat:=61
abbrev yP:Nat:=13
abbrev zP:Nat:=37
abbrev xL:Nat:=80
abbrev AP:Nat:=81
abbrev BP:Nat:=39
abbrev yL:Nat:=123
abbrev bG:Nat:=49
abbrev rI:Nat:=82
abbrev zL:Nat:=104
abbrev bF:Nat:=64
abbrev CP:Nat:=47
abbrev BL:Nat:=46
abbrev kH:Nat:=126
abbrev lH:Nat:=124
abbrev EJ:Nat:=85
abbrev cG:Nat:=125
abbrev CL:Nat:=152
abbrev sI:Nat:=84
abbrev DP:Nat:=77
abbrev DL:Nat:=151
abbrev EL:Nat:=105
abbrev EP:Nat:=83
def bldT:Nat:=115
def LH:Nat:=5
inductive Opd where
 | t (n:Nat)
 | c (v:AV)
 | f (id:Nat)
 | g (n:Nat)
 deriving Inhabited
inductive Cv where
 | i (k:IntKind)
 | s2b|b2s|r2s|same
 deriving Inhabited
inductive AO where
 | mv (x:Opd)
 | pick (c a b:Opd)
 | alloc (z:List AV)
 | box (x:Opd)
 | build (z:List AV) (ps:List (Nat×Nat×Opd))
 | bsl (own:Bool) (sh:Sh) (n:Nat) (z:PV) (ps:List (Nat×Opd))
 | load (sh:Sh) (a:Opd)
 | store (sh:Sh) (a v:Opd)
 | nilchk (x:Opd)
 | bin (op:BinOp) (x y:Opd)
 | eqa (ks:List Nat) (neg:Bool) (x y:Opd)
 | isnil (k:Nat) (neg:Bool) (x:Opd)
 | mkif (x:Opd)
 | un (op:UnOp) (x:Opd)
 | conv (c:Cv) (x:Opd)
 | mkfn (f:Nat) (caps:List Opd)
 | mkmap
 | mksl (sh:Sh) (z:PV) (len cap:Opd)
 | slice (sh:Sh) (x:Opd) (lo hi mx:Option Opd)
 | slstr (x:Opd) (lo hi:Option Opd)
 | faddr (off:Nat) (sh:Sh) (x:Opd)
 | field (off:Nat) (sh:Sh) (x:Opd)
 | iaddr (sh:Sh) (x i:Opd)
 | iaddra (n:Nat) (sh:Sh) (x i:Opd)
 | idxa (n:Nat) (sh:Sh) (x i:Opd)
 | idxs (x i:Opd)
 | look (kk:Sh×List Nat) (ok:Bool) (z:AV) (x k:Opd)
 | mupd (kk:Sh×List Nat) (m k v:Opd)
 | ment (kk:Sh×List Nat) (z:AV) (m k:Opd)
 | estore (m s v:Opd)
 | mdel (kk:Sh×List Nat) (m k:Opd)
 | ext (x:Opd) (i:Nat)
 | len (x:Opd)
 | lens (x:Opd)
 | lenm (x:Opd)
 | app (sh:Sh) (s x:Opd)
 | copy (sh:Sh) (d s:Opd)
 | clr (sh:Sh) (z:PV) (x:Opd)
 | mx (xs:List Opd)
 | mn (xs:List Opd)
 | mrange (x:Opd)
 | mnext (sh:Option Sh) (xs:List Opd)   -- more ways than one: a step of a range (none);an append behind a cut (some)
 | mentry (it:Opd)
 | new0 (sh:Sh)                        -- a nil slice that will be appended tov: an empty row
 | uns (k t:Nat) (xs:List Opd)     -- of a builder (DB)
 | call (f:Nat) (args:List Opd)
 | callv (f:Opd) (args:List Opd)
 deriving Inhabited
structure AOp where
 dst:Option Nat
 guard:Option (Nat×Bool)
 op:AO
 deriving Inhabited
structure DOp where
 op:AOp
 rd:List Nat      -- the slots that it reads
 eff:Bool
 early:List Nat
 again:List Nat
 deriving Inhabited
inductive ACode where
 | skip
 | reg (ops:List AOp) (keep:Option (List Nat))
 | draw (ds:List DOp) (keep:Option (List Nat))
 | seq (a b:ACode)
 | cond (c:Opd) (a b:ACode)
 | condu (c:Opd) (a b:ACode)       -- the condition may be unknown: both ways
 | det (b:ACode)                     -- whichever way is gone,the end is one
 | block (id:Nat) (b:ACode)
 | loop (b:ACode)
 | scope (b:ACode)
 | pr (keep:List Nat) (b:ACode)     -- only these slots are kept
 | exit (id:Nat)
 | ret
 | bad
 deriving Inhabited
inductive ARes where
 | t (n:Nat)
 | o (n:Nat)                         -- a row that was made: it alone is handed back,right behind what was there
 | cell (a:Nat) (sh:Sh)
 deriving Inhabited
structure AFun where
 nparams:Nat
 results:List ARes
 body:ACode
 byref:Bool      -- slices of the caller's own come asv they are
 keep:Bool       -- rows made here and handed back stay rows
 deriving Inhabited
structure St where
 env:List (Nat×AV)
 h:aA
 esc:Esc
def eA:List (Nat × AV)->Nat->AV
 | [],_=>.und
 | (k,v)::r,n=>if k=n then v else eA r n
def Opd.ev (gl:Nat->Option PV)(e:List (Nat × AV)):Opd->AV
 | .t n=>eA e n
 | .c v=>v
 | .f id=>.fn id []
 | .g n=>match gl n with|some v=>.vp v|none=>.und
def rC (id:Nat)(v:AV):Esc:=if id<v.top then [(id,v.top)] else []
def eF:List AV->Bool
 | [_,.bt 1 _ _ _]=>true
 | _=>false
def GD (id:Nat)(cs:List AV)(v:AV):Esc:=bif eF cs&&decide (v.top<=AV.tops cs) then [] else rC id v
def DF (ev:Opd->AV):List (Nat×Nat×Opd)->List AV->Option (List AV)
 | [],cs=>some cs
 | (off,n,x)::r,cs=>match (ev x).cells with
  | some vs=>if vs.length=n/\off+n<=cs.length then DF ev r (splice cs off vs) else none
  | none=>none
def mE (ev:Opd->AV)(sh:Sh):List (Nat×Opd)->aA->List PV->Option (List PV×aA)
 | [],h,xs=>some (xs,h)
 | (i,x)::r,h,xs=>match pur h (ev x) with
  | some (v,h')=>if v.shp sh/\i<xs.length then mE ev sh r h' (xs.set i v) else none
  | none=>none
def sB:AV->Option Nat
 | .p (.int _ n)=>if 0<=n then some n.toNat else none
 | _=>none
def bnd (ev:Opd->AV)(d:Nat):Option Opd->Option Nat
 | none=>some d
 | some x=>sB (ev x)
def pint (n:Nat):AV:=.p (.int .i64 n)
def pbool (b:Bool):AV:=.p (.bool b)
def asl (sh:Sh)(ev:Opd->AV)(h:aA)(x:AV)(lo hi mx:Option Opd):Option AV:=
 match x with
 | .p (.sl sh' xs)=>match bnd ev 0 lo,bnd ev xs.length hi,bnd ev xs.length mx with
  | some l,some r,some m=>if sh'=sh/\l<=r/\r<=m/\m<=xs.length then some (if mx.isSome/\m=l then .sl0 sh else .p (.sl sh (win xs l (r-l)))) else none
  | _,_,_=>none
 | .sl0 sh'=>match bnd ev 0 lo,bnd ev 0 hi,bnd ev 0 mx with
  | some l,some r,some m=>if l=0/\r=0/\m=0 then some (.sl0 sh') else none
  | _,_,_=>none
 | .own id g off len=>match h[id]? with
  | some (.row rsh xs _)=>match bnd ev 0 lo,bnd ev len hi,bnd ev len mx with
   | some l,some r,some m=>if rsh=sh/\g=xs.length/\off+len<=xs.length/\l<=r/\r<=m/\m<=len then some (if mx.isSome/\m=l then .sl0 sh else .own id g (off+l) (r-l)) else none
   | _,_,_=>none
  | _=>none
 | _=>none
def tA (s:List UInt8):List PV:=s.map λb=>.int .u8 b.toNat
def PE:List PV->Option (List UInt8)
 | []=>some []
 | .int .u8 n::r=>if 0<=n/\n<256 then(PE r).map (UInt8.ofNat n.toNat :: ·) else none
 | _::_=>none
def rds (h:aA):AV->Option (Sh×List PV)
 | .p (.str s)=>some (none,tA s)
 | x=>rd h x
def BD (h:aA)(c:Cv)(x:AV):Option (AV×aA):=match c with
 | .i k=>match x with
  | .p (.int _ n)=>some (.p (.int k (k.wrap n)),h)
  | _=>none
 | .s2b=>match x with
  | .p (.str s)=>if s.length<=LA then some (.own h.length s.length 0 s.length,h++[.row none (tA s) 0]) else none
  | _=>none
 | .b2s=>match rd h x with
  | some y=>(PE y.2).map λb=>(.p (.str b),h)
  | none=>none
 | .r2s=>match x with
  | .p (.int _ n)=>if 0<=n/\n<128 then some (.p (.str [UInt8.ofNat n.toNat]),h) else none
  | _=>none
 | .same=>match x with
  | .p (.str s)=>some (.p (.str s),h)
  | _=>none
def WB (h:aA):AV->Option (Nat×List ME×Nat)
 | .mp id=>match h[id]? with
  | some (.amap es c)=>some (id,es,c)
  | _=>none
 | _=>none
def bD (kk:Sh × List Nat):AV->Option PV
 | .p k=>if k.key&&k.shp kk.1&&k.cells.map PV.kind==kk.2 then some k else none
 | _=>none
def GG:AV->Bool
 | .und | .skp | .tup _=>false
 | _=>true
def NJ (k:Nat)(v:AV):Option Bool:=match k with
 | 0=>match v with
  | .nilp | .p .nilp | .bt 0 _ _ _=>some true
  | .ref _ _ | .rref _ _ _ _ | .vp _=>some false
  | _=>none
 | 1=>match v with
  | .nilm=>some true
  | .mp _=>some false
  | _=>none
 | 2=>match v with
  | .nilf=>some true
  | .fn _ _=>some false
  | _=>none
 | 3=>match v with
  | .nili=>some true
  | .ifc=>some false
  | _=>none
 | _=>match v with
  | .p (.sl _ (_::_))=>some false
  | _=>none
def gG (k:Nat)(v:AV):Bool:=match v with
 | .p (.sl _ [])=>decide (4<=k)
 | _=>false
def JH (t:Nat)(h:aA)(s x:AV):Option (AV×aA×Esc):=match rds h x with
 | some (none,ys)=>match s with
  | .bt 1 t' id g=>match h[id]? with
   | some (.row none xs fz)=>if t'=t/\g=xs.length/\fz<=xs.length/\g+ys.length<=LA then some (.bt 1 t id (g+ys.length),h.set id (.row none (xs++ys) fz),[]) else none
   | _=>none
  | _=>none
 | _=>none
def BH (t:Nat)(h:aA)(p:AV)(n:Nat):Option (AV×aA×Esc):=match p with
 | .anyp=>if n=0 then some (.p (.str []),h,[]) else none
 | .bt 2 t' id g=>match h[id]? with
  | some (.row none xs _)=>if t'=t/\g=xs.length/\n=g/\1<=n/\n<=LA then(PE xs).map λs=>(.p (.str s),h.set id (.row none xs (xs.length+1)),[]) else none
  | _=>none
 | _=>none
def aI (t:Nat)(h:aA)(s:AV):Option (AV×aA×Esc):=match s with
 | .bt 1 t' id g=>match h[id]? with
  | some (.row none xs _)=>if t'=t/\g=xs.length then(if g=0 then some (.anyp,h,[]) else some (.bt 2 t id g,h,[])) else none
  | _=>none
 | _=>none
def n64:AV->Option Nat
 | .p (.int .i64 n)=>if 0<=n then some n.toNat else none
 | _=>none
def tK (t:Nat)(h:aA)(x:AV):Option (AV×aA×Esc):=match x with
 | .ref id 0=>match h[id]? with
  | some (.box [.bt 0 t' id' _,_])=>if t'=t/\id'=id then some (.ref id 0,h,[]) else none
  | _=>none
 | _=>none
def KJ (h:aA)(x y:AV):Option (AV×aA×Esc):=match x,y with
 | .ref id o,.ref id' o'=>if id=id'/\o=o' then some (pbool false,h,[]) else none
 | _,_=>none
def mK (t:Nat)(h:aA)(f x:AV):Option (AV×aA×Esc):=match f with
 | .fn g []=>if g=t then some (x,h,[]) else none
 | _=>none
def SP:AV->Option Nat
 | .bt 1 _ _ g=>some g
 | _=>none
def ldA (sh:Sh)(k off id g:Nat)(h:aA):Option AV:=bif Nat.beq k 4 then(match h[id]? with
 | some (.arow rsh cs)=>if g*gA rsh=cs.length then cut sh off cs else none
 | _=>none) else none
def stA (sh:Sh)(k off id g:Nat)(x:AV)(h:aA):Option (AV×aA×Esc):=bif Nat.beq k 4 then(match h[id]?,x.cells with
 | some (.arow rsh cs),some vs=>if g*gA rsh=cs.length/\vs.length=gA sh/\off+vs.length<=cs.length then some (.und,h.set id (.arow rsh (splice cs off vs)),rC id x) else none
 | _,_=>none) else none
def iaA (sh:Sh)(k id g i:Nat)(h:aA):Option AV:=bif Nat.beq k 3 then(match h[id]? with
 | some (.arow rsh cs)=>if rsh=sh/\g*gA rsh=cs.length/\i<g then some (.bt 4 (i*gA sh) id g) else none
 | _=>none) else none
def faA (k off o id g:Nat):Option AV:=bif Nat.beq k 4 then some (.bt 4 (o+off) id g) else none
def lnA (k g:Nat):Option AV:=bif Nat.beq k 3 then some (pint g) else none
def nlA (k:Nat)(x:AV):Option AV:=bif Nat.beq k 4 then some x else none
def apA (sh:Sh)(h:aA)(s x:AV):Option (AV×aA×Esc):=match s,x with
 | .bt k t id g,.bt k' _ id' g'=>bif Nat.beq k 3&&Nat.beq k' 3 then(match h[id]?,h[id']? with
  | some (.arow rsh cs),some (.arow rsh' ds)=>if rsh=sh/\rsh'=sh/\g*gA sh=cs.length/\g'*gA sh=ds.length/\g+g'<=LA then
   some (.bt 3 t id (g+g'),h.set id (.arow sh (cs++ds)),bif decide (id<AV.tops ds) then [(id,AV.tops ds)] else []) else none
  | _,_=>none) else none
 | _,_=>none
def aC:Nat->Sh
 | 0=>none
 | n+1=>some n
def cE:List AV->aA->List AV × aA
 | [],h=>([],h)
 | v::r,h=>match v with
  | .sl0 sh=>(.own h.length 0 0 0::(cE r (h++[.row sh [] 0])).1,(cE r (h++[.row sh [] 0])).2)
  | .bt _ t _ _=>(.bt 3 t h.length 0::(cE r (h++[.arow (aC t) []])).1,(cE r (h++[.arow (aC t) []])).2)
  | v=>(v::(cE r h).1,(cE r h).2)
def ML:Nat->Sh->Bool
 | 0,_=>false
 | e+1,sh=>sh==aC e
def dB (t:Nat):List AV->aA->List AV×aA
 | [],h=>([],h)
 | v::r,h=>match v with
  | .sl0 sh=>bif ML t sh then(.bt 3 (t-1) h.length 0::(dB t r (h++[.arow (aC (t-1)) []])).1,(dB t r (h++[.arow (aC (t-1)) []])).2) else(.own h.length 0 0 0::(dB t r (h++[.row sh [] 0])).1,(dB t r (h++[.row sh [] 0])).2)
  | v=>(v::(dB t r h).1,(dB t r h).2)
def DB (k t:Nat)(vs:List AV)(h:aA):Option (AV×aA×Esc):=match k with
 | 0=>match vs with
  | [v]=>match n64 v with
   | some te=>some (.ref h.length 0,h++[.box [.bt 0 t h.length 0,.bt 1 te (h.length+1) 0],.row none [] 0],[(h.length,h.length+2)])
   | none=>none
  | _=>none
 | 1=>match vs with
  | [x]=>tK t h x
  | _=>none
 | 2=>match vs with
  | [x,y]=>KJ h x y
  | _=>none
 | 3=>match vs with
  | [s,x]=>JH t h s x
  | _=>none
 | 4=>match vs with
  | [s]=>(SP s).map λn=>(pint n,h,[])
  | _=>none
 | 5=>match vs with
  | [s]=>aI t h s
  | _=>none
 | 6=>match vs with
  | [p,n]=>match n64 n with
   | some m=>BH t h p m
   | none=>none
  | _=>none
 | 7=>match vs with
  | [f,x]=>mK t h f x
  | _=>none
 | 8=>some (.ref (cE vs h).2.length 0,(cE vs h).2++[.box (cE vs h).1],[])
 | 9=>match vs with
  | [x]=>match x.cells with
   | some cs=>if cs.length=gA (aC t) then some (.bt 3 t h.length 1,h++[.arow (aC t) cs],[]) else none
   | none=>none
  | _=>none
 | 10=>match vs with
  | []=>some (.bt 3 t h.length 0,h++[.arow (aC t) []],[])
  | _=>none
 | 11=>match vs with
  | [s,x]=>apA (aC t) h s x
  | _=>none
 | 12=>match vs with
  | [x]=>match x.cells with
   | some cs=>some (.ref (dB t cs h).2.length 0,(dB t cs h).2++[.box (dB t cs h).1],[])
   | none=>none
  | _=>none
 | _=>none
def aop (o:AO)(ev:Opd->AV)(h:aA):Option (AV×aA×Esc):=
 match o with
 | .mv x=>some (ev x,h,[])
 | .pick c a b=>match ev c with
  | .p (.bool t)=>some (bif t then ev a else ev b,h,[])
  | _=>none
 | .alloc z=>some (.ref h.length 0,h++[.box z],[])
 | .box x=>match (ev x).cells with
  | some cs=>some (.ref h.length 0,h++[.box cs],[])
  | none=>none
 | .build z ps=>(DF ev ps z).map λcs=>(mkA cs,h,[])
 | .bsl own sh n z ps=>match mE ev sh ps h (List.replicate n z) with
  | some (xs,h')=>if !z.shp sh then none else some (bif own then(.own h'.length n 0 n,h'++[.row sh xs 0],[]) else(.p (.sl sh xs),h',[]))
  | none=>none
 | .load sh a=>match ev a with
  | .ref id off=>match h[id]? with
   | some (.box cs)=>(cut sh off cs).map λv=>(v,h,[])
   | _=>none
  | .rref id g i off=>match h[id]? with
   | some (.row _ xs _)=>if g=xs.length then((xs[i]?).bind (rB sh off)).map λv=>(.p v,h,[]) else none
   | _=>none
  | .vp v=>(rB sh 0 v).map λv=>(.p v,h,[])
  | .bt k off id g=>(ldA sh k off id g h).map λv=>(v,h,[])
  | _=>none
 | .store sh a x=>match ev a with
  | .ref id off=>match h[id]?,(ev x).cells with
   | some (.box cs),some vs=>if vs.length=gA sh/\off+vs.length<=cs.length then some (.und,h.set id (.box (splice cs off vs)),GD id cs (ev x)) else none
   | _,_=>none
  | .rref id g i off=>match pur h (ev x) with
   | some (v,h1)=>match h1[id]? with
    | some (.row rsh xs fz)=>if g=xs.length/\fz<=i/\v.cells.length=gA sh/\v.cells.all PV.sc then match xs[i]? with
     | some (.agg cs)=>if off+v.cells.length<=cs.length then some (.und,h1.set id (.row rsh (xs.set i (.agg (splice cs off v.cells))) fz),[]) else none
     | some _=>if off=0/\v.sc then some (.und,h1.set id (.row rsh (xs.set i v) fz),[]) else none
     | none=>none
     else none
    | _=>none
   | none=>none
  | .bt k off id g=>stA sh k off id g (ev x) h
  | _=>none
 | .nilchk x=>match ev x with
  | .ref _ _ | .rref _ _ _ _ | .vp _ | .fn _ _=>some (ev x,h,[])
  | .bt k _ _ _=>(nlA k (ev x)).map λv=>(v,h,[])
  | _=>none
 | .bin op x y=>match ev x,ev y with
  | .p a,.p b=>(SB op a b).map λv=>(.p v,h,[])
  | _,_=>none
 | .eqa ks neg x y=>match ev x,ev y with
  | .p (.agg asv),.p (.agg bs)=>if asv.map PV.kind=ks/\bs.map PV.kind=ks/\ks≠[] then(eqs asv bs).map λt=>(pbool (bif neg then !t else t),h,[]) else none
  | .p (.bool a),.p (.bool b)=>if ks=[] then some (pbool (bif neg then !decide (a=b) else decide (a=b)),h,[]) else none
  | _,_=>none
 | .isnil k neg x=>bif gG k (ev x) then some (.anyb,h,[]) else(NJ k (ev x)).map λr=>(pbool (bif neg then !r else r),h,[])
 | .mkif x=>if GG (ev x) then some (.ifc,h,[]) else none
 | .un op x=>match ev x with
  | .p a=>(aun op a).map λv=>(.p v,h,[])
  | _=>none
 | .conv c x=>(BD h c (ev x)).map λ(v,h')=>(v,h',[])
 | .mkfn f caps=>some (.fn f (caps.map ev),h,[])
 | .mkmap=>some (.mp h.length,h++[.amap [] 0],[])
 | .mksl sh z len cap=>match sB (ev len),sB (ev cap) with
  | some n,some m=>if n<=m/\m<=LA/\z.shp sh then some (.own h.length n 0 n,h++[.row sh (List.replicate n z) 0],[]) else none
  | _,_=>none
 | .slstr x lo hi=>match ev x with
  | .p (.str s)=>match bnd ev 0 lo,bnd ev s.length hi with
   | some l,some r=>if l<=r/\r<=s.length then some (.p (.str (win s l (r-l))),h,[]) else none
   | _,_=>none
  | _=>none
 | .slice sh x lo hi mx=>(asl sh ev h (ev x) lo hi mx).map λv=>(v,h,[])
 | .faddr off sh x=>match ev x with
  | .ref id o=>some (.ref id (o+off),h,[])
  | .rref id g i o=>some (.rref id g i (o+off),h,[])
  | .vp v=>(rB sh off v).map λu=>(.vp u,h,[])
  | .bt k o id g=>(faA k off o id g).map λu=>(u,h,[])
  | _=>none
 | .field off sh x=>match ev x with
  | .p v=>match v with
   | .agg _=>(rB sh off v).map λu=>(.p u,h,[])
   | _=>none
  | .agg cs=>(cut sh off cs).map λu=>(u,h,[])
  | _=>none
 | .iaddr sh x i=>match ev x,sB (ev i) with
  | .p (.sl sh' xs),some k=>if sh'=sh then(xs[k]?).map λv=>(.vp v,h,[]) else none
  | .own id g off len,some k=>match h[id]? with
   | some (.row rsh xs _)=>if rsh=sh/\g=xs.length/\off+len<=xs.length/\k<len then some (.rref id g (off+k) 0,h,[]) else none
   | _=>none
  | .bt kk _ id g,some k=>(iaA sh kk id g k h).map λu=>(u,h,[])
  | _,_=>none
 | .iaddra n sh x i=>match ev x,sB (ev i) with
  | .ref id o,some k=>if k<n then some (.ref id (o+k*gA sh),h,[]) else none
  | .rref id g j o,some k=>if k<n then some (.rref id g j (o+k*gA sh),h,[]) else none
  | .vp v,some k=>if k<n then(rB sh (k*gA sh) v).map λu=>(.vp u,h,[]) else none
  | _,_=>none
 | .idxa n sh x i=>match ev x,sB (ev i) with
  | .p (.agg cs),some k=>if k<n then(rB sh (k*gA sh) (.agg cs)).map λu=>(.p u,h,[]) else none
  | _,_=>none
 | .idxs x i=>match ev x,sB (ev i) with
  | .p (.str s),some k=>(s[k]?).map λb=>(.p (.int .u8 b.toNat),h,[])
  | _,_=>none
 | .look kk ok z x k=>match bD kk (ev k) with
  | some key=>match (match ev x with | .nilm=>some []|m=>(WB h m).map λy=>y.2.1) with
   | some es=>match PB key es with
    | some r=>
     let v:=((r.bind (es[·]?)).map ME.val)
     some (bif ok then .tup [v.getD z,pbool v.isSome] else v.getD z,h,[])
    | none=>none
   | none=>none
  | none=>none
 | .mupd kk m k x=>match bD kk (ev k),WB h (ev m),GG (ev x) with
  | some key,some (id,es,c),true=>match PB key es with
   | some (some i)=>some (.und,h.set id (.amap (es.modify i λe=>{ e with val:=ev x }) c),rC id (ev x))
   | some none=>some (.und,h.set id (.amap (es++[⟨key,ev x,c⟩]) (c+1)),rC id (ev x))
   | none=>none
  | _,_,_=>none
 | .ment kk z m k=>match bD kk (ev k),WB h (ev m) with
  | some key,some (id,es,c)=>match PB key es with
   | some (some i)=>(es[i]?).map λe=>(.tup [e.val,pint e.born],h,[])
   | some none=>some (.tup [z,pint c],h.set id (.amap (es++[⟨key,z,c⟩]) (c+1)),[])
   | none=>none
  | _,_=>none
 | .estore m s x=>match WB h (ev m),sB (ev s),GG (ev x) with
  | some (id,es,c),some b,true=>match es.findIdx? (λe=>e.born==b) with
   | some i=>some (.und,h.set id (.amap (es.modify i λe=>{ e with val:=ev x }) c),rC id (ev x))
   | none=>none
  | _,_,_=>none
 | .mdel kk m k=>match bD kk (ev k),WB h (ev m) with
  | some key,some (id,es,c)=>match PB key es with
   | some (some i)=>some (.und,h.set id (.amap (es.eraseIdx i) c),[])
   | some none=>some (.und,h,[])
   | none=>none
  | _,_=>none
 | .ext x i=>match ev x with
  | .tup vs=>(vs[i]?).map λv=>(v,h,[])
  | _=>none
 | .lens x=>match ev x with
  | .p (.str s)=>some (pint s.length,h,[])
  | _=>none
 | .len x=>match ev x with
  | .p (.sl _ xs)=>some (pint xs.length,h,[])
  | .sl0 _=>some (pint 0,h,[])
  | .own _ _ _ len=>some (pint len,h,[])
  | .bt k _ _ g=>(lnA k g).map λu=>(u,h,[])
  | _=>none
 | .lenm x=>match ev x with
  | .nilm=>some (pint 0,h,[])
  | .mp id=>(WB h (.mp id)).map λy=>(pint y.2.1.length,h,[])
  | _=>none
 | .app sh s x=>match rds h (ev x) with
  | some (sh',ys)=>if sh'=sh then match ev s with
   | .sl0 _=>if ys.length<=LA then some (.own h.length ys.length 0 ys.length,h++[.row sh ys 0],[]) else none
   | .own id g off len=>match h[id]? with
    | some (.row rsh xs fz)=>if rsh=sh/\g=xs.length/\off=0/\len=xs.length/\len+ys.length<=LA/\fz<=xs.length then some (.own id (g+ys.length) off (len+ys.length),h.set id (.row sh (xs++ys) fz),[])
     else if rsh=sh/\g=xs.length/\off+len+ys.length<=xs.length/\fz<=off+len/\1<=ys.length/\len+ys.length<=LA/\sh=none/\xs.all PV.intP=true/\ys.all PV.intP=true then
      some (.p (.sl sh (win xs off len++ys)),h.set id (.row sh (splice xs (off+len) (List.replicate ys.length .unk)) (off+len+ys.length)),[])
     else none
    | _=>none
   | _=>none
   else none
  | none=>none
 | .copy sh d s=>match ev d,rds h (ev s) with
  | .own id g off len,some (sh',ys)=>match h[id]? with
   | some (.row rsh xs fz)=>if rsh=sh/\sh'=sh/\g=xs.length/\off+len<=xs.length/\fz<=off then
    some (pint (min ys.length len),h.set id (.row sh (splice xs off (ys.take (min ys.length len))) fz),[])
    else none
   | _=>none
  | _,_=>none
 | .clr sh z x=>match ev x with
  | .sl0 _=>some (.tup [],h,[])
  | .own id g off len=>match h[id]? with
   | some (.row rsh xs fz)=>if rsh=sh/\g=xs.length/\off+len<=xs.length/\fz<=off then
    some (.tup [],h.set id (.row sh (splice xs off (List.replicate len z)) fz),[])
    else none
   | _=>none
  | _=>none
 | .mx xs=>match xs.map ev with
  | .p a::r=>((unp r).bind λl=>l.foldlM BN a).map λv=>(.p v,h,[])
  | _=>none
 | .mn xs=>match xs.map ev with
  | .p a::r=>((unp r).bind λl=>l.foldlM KY a).map λv=>(.p v,h,[])
  | _=>none
 | .new0 sh=>some (.own h.length 0 0 0,h++[.row sh [] 0],[])
 | .mrange x=>match WB h (ev x) with
  | some (id,_,c)=>some (.it h.length,h++[.iter (some id) c [] c],[])
  | none=>match ev x with
   | .nilm=>some (.it h.length,h++[.iter none 0 [] 0],[])
   | _=>none
 | .mentry i=>match ev i with
  | .it id=>match h[id]? with
   | some (.iter (some m) _ seen last)=>match WB h (.mp m),seen.getLast? with
    | some (_,es,c),some b=>if c=last then(es.find? (λe=>e.born==b)).map λe=>(.tup [.p e.key,e.val],h,[]) else none
    | _,_=>none
   | _=>none
  | _=>none
 | .uns k t xs=>DB k t (xs.map ev) h
 | .call _ _ | .callv _ _ | .mnext _ _=>none
def CI (h:aA):AV->Option (List (AV×aA))
 | .it id=>match h[id]? with
  | some (.iter none since _ _)=>if since=0 then some [(.tup [pbool false],h)] else none
  | some (.iter (some m) since seen last)=>match WB h (.mp m) with
   | some (_,es,c)=>if c=since/\last=since then
    match es.filter (λe=>!seen.contains e.born) with
    | []=>some [(.tup [pbool false],h.set id (.iter none 1 [] 0))]
    | l=>some (l.map λe=>(.tup [pbool true,.p e.key,e.val],h.set id (.iter (some m) since (seen++[e.born]) last)))
    else none
   | none=>none
  | _=>none
 | _=>none
def eJ (h:aA)(sh:Sh)(s x:AV):Option (List (AV×aA)):=match rds h x with
 | some (sh',ys)=>if sh'=sh then match s with
  | .own id g off len=>match h[id]? with
   | some (.row rsh xs fz)=>if rsh=sh/\g=xs.length/\off+len=xs.length/\len+ys.length<=LA/\fz<=xs.length then
    some [(.own id (g+ys.length) off (len+ys.length),h.set id (.row sh (xs++ys) fz)),(.own h.length (len+ys.length) 0 (len+ys.length),h++[.row sh (win xs off len++ys) 0])]
    else if rsh=sh/\g=xs.length/\off+len<xs.length/\fz<=off+len/\len+ys.length<=LA then
     some [(.own id (splice xs (off+len) ys).length off (len+ys.length),h.set id (.row sh (splice xs (off+len) ys) fz)),(.own h.length (len+ys.length) 0 (len+ys.length),h++[.row sh (win xs off len++ys) 0])]
    else none
   | _=>none
  | _=>none
  else none
 | none=>none
def tG (h:aA):Option Sh->List AV->Option (List (AV×aA))
 | none,[it]=>CI h it
 | some sh,[s,x]=>eJ h sh s x
 | _,_=>none
abbrev jA:=AV->aA->Esc->Prop
abbrev Hd:=Nat->List AV->aA->jA->Prop
structure Ctx where
 fn:Nat->Option AFun
 gl:Nat->Option PV
 ext:Nat->List PV->Option PV
 ex2:Nat->List AV->aA->Option (AV×aA×Esc):=λ_ _ _=>none
inductive Ex where
 | normal
 | exit (id:Nat)
 | ret
def put (d:Option Nat)(v:AV)(e:List (Nat × AV)):List (Nat×AV):=match d with
 | some d=>(d,v)::e
 | none=>e
def wanted (g:Option (Nat × Bool))(e:List (Nat × AV)):Option Bool:=match g with
 | none=>some true
 | some (t,b)=>match eA e t with
  | .p (.bool c)=>some (c==b)
  | .skp=>some false
  | _=>none
def WA (C:Hd)(gl:Nat->Option PV):List AOp->List (Nat×AV)->aA->Esc->(List (Nat×AV)->aA->Esc->Prop)->Prop
 | [],e,h,x,K=>K e h x
 | o::r,e,h,x,K=>match wanted o.guard e with
  | some true=>match o.op with
   | .call f args=>C f (args.map (Opd.ev gl e)) h λv h' x'=>WA C gl r (put o.dst v e) h' (x'++x) K
   | .callv f args=>match Opd.ev gl e f with
    | .fn g caps=>C g (args.map (Opd.ev gl e)++caps) h λv h' x'=>WA C gl r (put o.dst v e) h' (x'++x) K
    | _=>False
   | .mnext sh xs=>match tG h sh (xs.map (Opd.ev gl e)) with
    | some l=>l≠[]/\∀y∈l,WA C gl r (put o.dst y.1 e) y.2 x K
    | none=>False
   | op=>match aop op (Opd.ev gl e) h with
    | some (v,h',x')=>WA C gl r (put o.dst v e) h' (x'++x) K
    | none=>False
  | some false=>WA C gl r (put o.dst .skp e) h x K
  | none=>False
def EA (keep:Option (List Nat))(e:List (Nat × AV)):List (Nat×AV):=match keep with
 | none=>e
 | some l=>l.map λt=>(t,eA e t)
def ADo (C:Hd)(gl:Nat->Option PV)(o:AOp)(e:List (Nat × AV))(h:aA)(v:AV)(h':aA)(x:Esc):Prop:=match wanted o.guard e with
 | some true=>match o.op with
  | .call f args=>C f (args.map (Opd.ev gl e)) h λv1 h1 x1=>v1=v/\h1=h'/\x1=x
  | .callv f args=>match Opd.ev gl e f with
   | .fn g caps=>C g (args.map (Opd.ev gl e)++caps) h λv1 h1 x1=>v1=v/\h1=h'/\x1=x
   | _=>False
  | .mnext _ _=>False
  | op=>aop op (Opd.ev gl e) h=some (v,h',x)
 | some false=>v = .skp/\h'=h/\x=[]
 | none=>False
abbrev DC:=List (AOp × List (Nat × AV) × AV)
def iD (C:Hd)(gl:Nat->Option PV):List DOp->DC->List aA->List (Nat×AV)->aA->Esc->(List (Nat×AV)->aA->Esc->Prop)->Prop
 | [],_,_,e,h,x,K=>K e h x
 | o::r,dn,hs,e,h,x,K=>∃v h' y,ADo C gl o.op (EA (some o.rd) e) h v h' y/\(o.eff=false->h'=h/\y=[])/\(∀k∈o.early,∃g,hs[k]?=some g/\ADo C gl o.op (EA (some o.rd) e) g v g []) /\
  (∀j∈o.again,∃q,dn[j]?=some q/\ADo C gl q.1 q.2.1 h' q.2.2 h' [])/\iD C gl r (dn++[(o.op,EA (some o.rd) e,v)]) (hs++[h]) (put o.op.dst v e) h' (y++x) K
def PC (x:Esc)(n:Nat):Nat:=x.foldl (λm y=>if y.1<m then max m y.2 else m) n
def vB:Nat->Esc->Nat->Nat
 | 0,_,n=>n
 | k+1,x,n=>vB k x (PC x n)
def xB (x:Esc)(n:Nat):Bool:=x.all λy=>decide (n<=y.1)||decide (y.2<=n)
def yE (n:Nat)(e:List (Nat × AV)):List (Nat×AV):=e.map λy=>(y.1,if y.2.top<=n then y.2 else .und)
def mD (b:Nat)(x0:Esc)(s:St):St:=
 let n:=vB s.esc.length s.esc b
 if xB s.esc n then⟨yE n s.env,s.h.take n,s.esc.filter (λy=>decide (y.1<n))++x0⟩ else⟨s.env,s.h,s.esc++x0⟩
inductive ALoop (T:St->(Ex->St->Prop)->Prop) (K:Ex->St->Prop):St->Prop where
 | mk (s:St) (R:Ex->St->Prop) (h:T s R) (hn:∀s',R .normal s'->ALoop T K s') (he:∀i s',R (.exit i) s'->K (.exit i) s') (hr:∀s',R .ret s'->K .ret s'):ALoop T K s
def AW (C:Hd)(gl:Nat->Option PV):ACode->St->(Ex->St->Prop)->Prop
 | .skip,s,K=>K .normal s
 | .reg ops keep,s,K=>WA C gl ops s.env s.h s.esc λe h x=>K .normal ⟨EA keep e,h,x⟩
 | .draw ds keep,s,K=>iD C gl ds [] [] s.env s.h s.esc λe h x=>K .normal ⟨EA keep e,h,x⟩
 | .seq a b,s,K=>AW C gl a s λe s'=>match e with
  | .normal=>AW C gl b s' K
  | .exit i=>K (.exit i) s'
  | .ret=>K .ret s'
 | .cond c a b,s,K=>match Opd.ev gl s.env c with
  | .p (.bool t)=>match t with
   | true=>AW C gl a s K
   | false=>AW C gl b s K
  | _=>False
 | .condu c a b,s,K=>match Opd.ev gl s.env c with
  | .p (.bool t)=>match t with
   | true=>AW C gl a s K
   | false=>AW C gl b s K
  | .anyb=>AW C gl a s K/\AW C gl b s K
  | _=>False
 | .det b,s,K=>AW C gl b s K
 | .block id b,s,K=>AW C gl b s λe s'=>match e with
  | .normal=>K .normal s'
  | .exit i=>if i=id then K .normal s' else K (.exit i) s'
  | .ret=>K .ret s'
 | .loop b,s,K=>ALoop (AW C gl b) K s
 | .scope b,s,K=>AW C gl b ⟨s.env,s.h,[]⟩ λe s'=>K e (mD s.h.length s.esc s')
 | .pr l b,s,K=>AW C gl b ⟨EA (some l) s.env,s.h,s.esc⟩ K
 | .exit id,s,K=>K (.exit id) s
 | .ret,s,K=>K .ret s
 | .bad,_,_=>False
def rd0 (b:Nat)(h:aA):AV->Option PV
 | .p v=>some v
 | .sl0 sh=>some (.sl sh [])
 | .nilp=>some .nilp
 | .own id g off len=>if b<=id then(rd h (.own id g off len)).map λy=>.sl y.1 y.2 else none
 | _=>none
def uH (b:Nat)(h:aA):List AV->Option (List PV)
 | []=>some []
 | v::r=>match rd0 b h v with
  | some x=>(uH b h r).map (x :: ·)
  | none=>none
def rdA (b:Nat)(h:aA)(id g:Nat):Option AV:=match h[id]? with
 | some (.arow sh cs)=>if g*gA sh=cs.length then(uH b h cs).map λvs=>.p (.sl sh (QC sh g vs)) else none
 | _=>none
mutual
def VA (b:Nat)(h:aA):AV->Option AV
 | .own id g off len=>if b<=id then(rd h (.own id g off len)).map λy=>.p (.sl y.1 y.2) else some (.own id g off len)
 | .sl0 sh=>some (.p (.sl sh []))
 | .bt k t id g=>bif Nat.beq k 3&&decide (b<=id) then rdA b h id g else some (.bt k t id g)
 | .agg cs=>(wD b h cs).map mkA
 | .tup vs=>(wD b h vs).map .tup
 | v=>some v
def wD (b:Nat)(h:aA):List AV->Option (List AV)
 | []=>some []
 | v::r=>match VA b h v with
  | some x=>(wD b h r).map (x :: ·)
  | none=>none
end
def PF (s:St):ARes->Option AV
 | .t n=>some (eA s.env n)
 | .o n=>some (eA s.env n)
 | .cell a sh=>match eA s.env a with
  | .ref id off=>match s.h[id]? with
   | some (.box cs)=>cut sh off cs
   | _=>none
  | _=>none
def pC (s:St):List ARes->Option (List AV)
 | []=>some []
 | r::rs=>match PF s r with
  | some v=>(pC s rs).map (v :: ·)
  | none=>none
def XA:List AV->AV
 | [v]=>v
 | vs=>.tup vs
def ARes.isO:ARes->Bool
 | .o _=>true
 | _=>false
def qD:List ARes->Bool
 | []=>false
 | r::rs=>r.isO||qD rs
def tI:List ARes->List AV->AV
 | r::rs,v::vs=>match r with
  | .o _=>v
  | _=>tI rs vs
 | _,_=>.und
def mvO (id b:Nat):AV->AV
 | .own i g off len=>bif Nat.beq i id then .own b g off len else .own i g off len
 | v=>v
def okO (id b:Nat):AV->Bool
 | .own i _ _ _=>Nat.beq i id
 | v=>decide (v.top<=b)
def UF (b:Nat)(h:aA)(rs:List ARes)(vs:List AV):Option (AV×aA):=match tI rs vs with
 | .own id _ _ _=>match h[id]? with
  | some (.row sh xs fz)=>if b<=id/\vs.all (okO id b)=true then some (XA (vs.map (mvO id b)),h.take b++[.row sh xs fz]) else none
  | _=>none
 | .p _=>if(vs.all λv=>decide (v.top<=b))=true then some (XA vs,h.take b) else none
 | _=>none
def YC (b:Nat)(P:jA)(rs:List ARes)(o:Option (List AV))(h:aA)(x:Esc):Prop:=match o with
 | some vs=>match UF b h rs vs with
  | some y=>xB x b=true/\P y.1 y.2 (x.filter λy=>decide (y.1<b))
  | none=>False
 | none=>False
def fin (F:AFun)(b:Nat)(s:St)(K:jA):Prop:=match qD F.results with
 | true=>YC b K F.results (pC s F.results) s.h s.esc
 | false=>match pC s F.results with
 | some vs=>match F.keep with
  | true=>
   let n:=vB s.esc.length s.esc (max b (XA vs).top)
   if xB s.esc n then K (XA vs) (s.h.take n) (s.esc.filter λy=>decide (y.1<n)) else K (XA vs) s.h s.esc
  | false=>match VA b s.h (XA vs) with
   | some v0=>
    let n:=vB s.esc.length s.esc (max b v0.top)
    if xB s.esc n then match VA n s.h (XA vs) with
     | some v=>v.top<=n/\K v (s.h.take n) (s.esc.filter λy=>decide (y.1<n))
     | none=>False
    else K (XA vs) s.h s.esc
   | none=>False
 | none=>False
def nA (h:aA):List AV->Option (List AV×aA)
 | []=>some ([],h)
 | v::r=>match v with
  | .own id g off len=>match rd h (.own id g off len) with
   | some z=>(nA (frz h id (off+len)) r).map λy=>(.p (.sl z.1 z.2)::y.1,y.2)
   | none=>none
  | .agg cs=>match pur h (.agg cs) with
   | some (x,h1)=>(nA h1 r).map λy=>(.p x::y.1,y.2)
   | none=>none
  | .sl0 sh=>(nA h r).map λy=>(.p (.sl sh [])::y.1,y.2)
  | v=>(nA h r).map λy=>(v::y.1,y.2)
def enter (args:List AV):List (Nat×AV):=(args.zipIdx).map λy=>(y.2,y.1)
def oC (C:Hd)(gl:Nat->Option PV)(F:AFun)(args:List AV)(h:aA)(K:jA):Prop:=
 match (if F.byref then some (args,h) else nA h args) with
 | some (asv,h1)=>asv.length=F.nparams/\AW C gl F.body ⟨enter asv,h1,[]⟩ λe s=>match e with
  | .exit _=>False
  | _=>fin F h.length s K
 | none=>False
def AFun.isDet (F:AFun):Bool:=match F.body with
 | .det _=>true
 | _=>false
def pD (C:Hd)(gl:Nat->Option PV)(F:AFun)(args:List AV)(h:aA)(K:jA):Prop:=match F.isDet with
 | true=>∃v h' x,K v h' x/\oC C gl F args h λv1 h1 x1=>v1=v/\h1=h'/\x1=x
 | false=>oC C gl F args h K
def ZB (X:Ctx)(C:Hd):Hd:=λf args h K=>match X.fn f with
 | some F=>pD C X.gl F args h K
 | none=>match X.ex2 f args h with
  | some (v,h1,x)=>K v h1 x
  | none=>match nA h args with
   | some (asv,h1)=>match unp asv with
    | some vs=>match X.ext f vs with
     | some r=>K (.p r) h1 []
     | none=>False
    | none=>False
   | none=>False
def Hd.Mono (C:Hd):Prop:=∀f a h K K',(∀v h' x,K v h' x->K' v h' x)->C f a h K->C f a h K'
def bA (X:Ctx):Hd:=λf a h K=>∀C:Hd,C.Mono->(∀f a h K,ZB X C f a h K->C f a h K)->C f a h K
theorem EH {C C':Hd}{gl:Nat->Option PV}(hC:∀ f a h K K',(∀ v h' x,K v h' x->K' v h' x)->C f a h K->C' f a h K') :
 ∀(ops:List AOp) e h x K K',(∀e h x,K e h x->K' e h x)->WA C gl ops e h x K->WA C' gl ops e h x K'
 | [],e,h,x,K,K',hK,H=>hK _ _ _ H
 | o::r,e,h,x,K,K',hK,H=>by
  unfold WA at H ⊢;split at H
  ·split at H
   ·exact hC _ _ _ _ _ (λv h' x' H'=>EH hC r _ _ _ K K' hK H') H
   ·split at H
    ·exact hC _ _ _ _ _ (λv h' x' H'=>EH hC r _ _ _ K K' hK H') H
    ·exact H.elim
   ·split at H
    ·exact⟨H.1,λy hy=>EH hC r _ _ _ K K' hK (H.2 y hy)⟩
    ·exact H.elim
   ·split at H
    ·exact EH hC r _ _ _ K K' hK H
    ·exact H.elim
  ·exact EH hC r _ _ _ K K' hK H
  ·exact H.elim
theorem WW {C C':Hd}{gl:Nat->Option PV}(hC:∀ f a h K K',(∀ v h' x,K v h' x->K' v h' x)->C f a h K->C' f a h K'){o:AOp}{e:List (Nat × AV)}{h h':aA}{v:AV}{x:Esc}
 (H:ADo C gl o e h v h' x):ADo C' gl o e h v h' x:=by
 unfold ADo at H ⊢;split at H
 ·split at H
  ·exact hC _ _ _ _ _ (λ_ _ _ h=>h) H
  ·split at H
   ·exact hC _ _ _ _ _ (λ_ _ _ h=>h) H
   ·exact H.elim
  ·exact H.elim
  ·exact H
 ·exact H
 ·exact H.elim
theorem IQ {C C':Hd}{gl:Nat->Option PV}(hC:∀ f a h K K',(∀ v h' x,K v h' x->K' v h' x)->C f a h K->C' f a h K') :
 ∀(ds:List DOp) dn hs e h x K K',(∀e h x,K e h x->K' e h x)->iD C gl ds dn hs e h x K->iD C' gl ds dn hs e h x K'
 | [],dn,hs,e,h,x,K,K',hK,H=>hK _ _ _ H
 | o::r,dn,hs,e,h,x,K,K',hK,H=>by
  obtain⟨v,h',y,h1,h2,h3,h4,h5⟩:=H;exact⟨v,h',y,WW hC h1,h2,λk hk=>by obtain⟨g,q1,q2⟩:=h3 k hk;exact⟨g,q1,WW hC q2⟩,λj hj=>by obtain⟨q,q1,q2⟩:=h4 j hj;exact⟨q,q1,WW hC q2⟩,
   IQ hC r _ _ _ _ _ K K' hK h5⟩
theorem ALoop.mono {T T':St->(Ex->St->Prop)->Prop}{K K':Ex->St->Prop}(hT:∀ s R,T s R->T' s R)(hK:∀ e s,K e s->K' e s){s:St}(H:ALoop T K s):ALoop T' K' s:=by
 induction H with
 | mk s R h hn he hr ih=>exact .mk s R (hT _ _ h) ih (λi s' h=>hK _ _ (he i s' h)) (λs' h=>hK _ _ (hr s' h))
theorem CC {C C':Hd}{gl:Nat->Option PV}(hC:∀ f a h K K',(∀ v h' x,K v h' x->K' v h' x)->C f a h K->C' f a h K') :
 ∀(c:ACode) s K K',(∀e s,K e s->K' e s)->AW C gl c s K->AW C' gl c s K'
 | .skip,s,K,K',hK,H=>hK _ _ H
 | .reg ops keep,s,K,K',hK,H=>EH hC ops _ _ _ _ _ (λ_ _ _ h=>hK _ _ h) H
 | .draw ds keep,s,K,K',hK,H=>IQ hC ds _ _ _ _ _ _ _ (λ_ _ _ h=>hK _ _ h) H
 | .seq a b,s,K,K',hK,H=>CC hC a s _ _ (λe s' h=>by
  cases e
  ·exact CC hC b s' K K' hK h
  ·exact hK _ _ h
  ·exact hK _ _ h) H
 | .condu c a b,s,K,K',hK,H=>by
  unfold AW at H ⊢;split at H
  ·split at H
   ·exact CC hC a s K K' hK H
   ·exact CC hC b s K K' hK H
  ·exact⟨CC hC a s K K' hK H.1,CC hC b s K K' hK H.2⟩
  ·exact H.elim
 | .det b,s,K,K',hK,H=>CC hC b s K K' hK H
 | .cond c a b,s,K,K',hK,H=>by
  unfold AW at H ⊢;split at H
  ·split at H
   ·exact CC hC a s K K' hK H
   ·exact CC hC b s K K' hK H
  ·exact H.elim
 | .block id b,s,K,K',hK,H=>CC hC b s _ _ (λe s' h=>by
  cases e
  ·exact hK _ _ h
  ·dsimp only at h ⊢;split at h
   ·rw[if_pos ‹_›];exact hK _ _ h
   ·rw[if_neg ‹_›];exact hK _ _ h
  ·exact hK _ _ h) H
 | .loop b,s,K,K',hK,H=>ALoop.mono (λs R h=>CC hC b s R R (λ_ _ h=>h) h) hK H
 | .scope b,s,K,K',hK,H=>CC hC b _ _ _ (λe s' h=>hK _ _ h) H
 | .pr l b,s,K,K',hK,H=>CC hC b _ K K' hK H
 | .exit id,s,K,K',hK,H=>hK _ _ H
 | .ret,s,K,K',hK,H=>hK _ _ H
 | .bad,s,K,K',hK,H=>H.elim
theorem zo9 {b:Nat}{rs:List ARes}{o:Option (List AV)}{h:aA}{x:Esc}{K K':jA}(hK:∀ v h x,K v h x->K' v h x)(H:YC b K rs o h x):YC b K' rs o h x:=by
 unfold YC at H ⊢;split at H
 ·split at H
  ·exact⟨H.1,hK _ _ _ H.2⟩
  ·exact H.elim
 ·exact H.elim
theorem z7V {F:AFun}{b:Nat}{s:St}{K K':jA}(hK:∀ v h x,K v h x->K' v h x)(H:fin F b s K):fin F b s K':=by
 unfold fin at H ⊢;split at H
 ·exact zo9 hK H
 split at H
 ·split at H
  ·dsimp only at H ⊢
   split at H
   ·rw[if_pos ‹_›];exact hK _ _ _ H
   ·rw[if_neg ‹_›];exact hK _ _ _ H
  ·split at H
   ·dsimp only at H ⊢
    split at H
    ·rw[if_pos ‹_›]
     split at H
     ·exact⟨H.1,hK _ _ _ H.2⟩
     ·exact H.elim
    ·rw[if_neg ‹_›];exact hK _ _ _ H
   ·exact H.elim
 ·exact H.elim
theorem AN {C C':Hd}{gl:Nat->Option PV}(hC:∀ f a h K K',(∀ v h' x,K v h' x->K' v h' x)->C f a h K->C' f a h K'){F:AFun}{a:List AV}{h:aA}{K K':jA}
 (hK:∀v h x,K v h x->K' v h x) (H:oC C gl F a h K):oC C' gl F a h K':=by
 unfold oC at H ⊢;split at H
 ·refine⟨H.1,CC hC _ _ _ _ (λe s h=>?_) H.2⟩
  cases e
  ·exact z7V hK h
  ·exact h.elim
  ·exact z7V hK h
 ·exact H.elim
theorem zjP {C C':Hd}{gl:Nat->Option PV}(hC:∀ f a h K K',(∀ v h' x,K v h' x->K' v h' x)->C f a h K->C' f a h K'){F:AFun}{a:List AV}{h:aA}{K K':jA}
 (hK:∀v h x,K v h x->K' v h x) (H:pD C gl F a h K):pD C' gl F a h K':=by
 unfold pD at H ⊢;cases hd:F.isDet with
 | true=>
  rw[hd]at H;obtain⟨v,h',x,k,H⟩:=H;exact⟨v,h',x,hK _ _ _ k,AN hC (λ_ _ _ h=>h) H⟩
 | false=>
  rw[hd]at H;exact AN hC hK H
theorem fX {X:Ctx}{C C':Hd}(hC:∀ f a h K K',(∀ v h' x,K v h' x->K' v h' x)->C f a h K->C' f a h K'){f:Nat}{a:List AV}{h:aA}{K K':jA}
 (hK:∀v h x,K v h x->K' v h x) (H:ZB X C f a h K):ZB X C' f a h K':=by
 unfold ZB at H ⊢;split at H
 ·exact zjP hC hK H
 ·split at H
  ·exact hK _ _ _ H
  ·split at H
   ·split at H
    ·split at H
     ·exact hK _ _ _ H
     ·exact H.elim
    ·exact H.elim
   ·exact H.elim
theorem bA.mono (X:Ctx):(bA X).Mono:=λf a h K K' hK H=>by
 intro C hM hS;exact hM _ _ _ _ _ hK (H C hM hS)
theorem bA.fold {X:Ctx}{f:Nat}{a:List AV}{h:aA}{K:jA}(H:ZB X (bA X) f a h K):bA X f a h K:=by
 intro C hM hS;exact hS _ _ _ _ (fX (λf a h K K' hK H'=>hM _ _ _ _ _ hK (H' C hM hS)) (λ_ _ _ h=>h) H)
theorem zjQ {C:Hd}(hC:C.Mono){gl:Nat->Option PV}{F:AFun}{a:List AV}{h:aA}{K:jA}(H:pD C gl F a h K):oC C gl F a h K:=by
 unfold pD at H;split at H
 ·obtain⟨v,h',x,k,H⟩:=H
  refine AN (C:=C) (C':=C) (λf a h K K' hK g=>hC f a h K K' hK g) (λv1 h1 x1 (hv:v1=v/\h1=h'/\x1=x)=>?_) H
  obtain⟨q1,q2,q3⟩:=hv;subst q1;subst q2;subst q3
  exact k
 ·exact H
theorem bA.unfold {X:Ctx}{f:Nat}{a:List AV}{h:aA}{K:jA}(H:bA X f a h K):ZB X (bA X) f a h K:=by
 refine H (λf a h K=>ZB X (bA X) f a h K) ?_ ?_
 ·intro f a h K K' hK H'
  exact fX (bA.mono X) hK H'
 ·intro f a h K H'
  exact fX (C:=λf a h K=>ZB X (bA X) f a h K) (C':=bA X) (λf a h K K' hK H''=>bA.mono X _ _ _ _ _ hK (bA.fold H'')) (λ_ _ _ h=>h) H'
theorem z4l {X:Ctx}{f:Nat}{a:List AV}{h:aA}{K:jA}:bA X f a h K↔ZB X (bA X) f a h K:=⟨bA.unfold,bA.fold⟩
def eE (C D:Hd):Prop:=∀f a h K L,C f a h K->D f a h L->∃v h' x,K v h' x/\L v h' x
theorem xK {C D:Hd}{gl:Nat->Option PV}(hC:eE C D) :
 ∀(ops:List AOp) e h x K L,WA C gl ops e h x K->WA D gl ops e h x L->∃e h x,K e h x/\L e h x
 | [],e,h,x,K,L,H,G=>⟨e,h,x,H,G⟩
 | o::r,e,h,x,K,L,H,G=>by
  obtain⟨dst,guard,op⟩:=o;unfold WA at H G;dsimp only at H G;split at H
  ·rename_i hw
   simp only[hw]at G;cases op;case call f args=>
    obtain⟨v,h',x',H',G'⟩:=hC _ _ _ _ _ H G;exact xK hC r _ _ _ K L H' G'
   case callv f args=>
    dsimp only at H G;split at H
    ·rename_i hf
     simp only[hf]at G;obtain⟨v,h',x',H',G'⟩:=hC _ _ _ _ _ H G;exact xK hC r _ _ _ K L H' G'
    ·exact H.elim
   case mnext sh xs=>
    dsimp only at H G;split at H
    ·rename_i l hl
     simp only[hl]at G;obtain⟨y,hy⟩:=List.exists_mem_of_ne_nil l H.1;exact xK hC r _ _ _ K L (H.2 y hy) (G.2 y hy)
    ·exact H.elim
   all_goals
    dsimp only at H G;split at H
    ·rename_i ha
     simp only[ha]at G;exact xK hC r _ _ _ K L H G
    ·exact H.elim
  ·rename_i hw
   simp only[hw]at G;exact xK hC r _ _ _ K L H G
  ·exact H.elim
theorem zb4 {C D:Hd}{gl:Nat->Option PV}(hC:eE C D){o:AOp}{e:List (Nat × AV)}{h h1 h2:aA}{v1 v2:AV}{x1 x2:Esc}(H:ADo C gl o e h v1 h1 x1)(G:ADo D gl o e h v2 h2 x2):v1=v2/\h1=h2/\x1=x2:=by
 obtain⟨dst,guard,op⟩:=o;unfold ADo at H G;dsimp only at H G;split at H
 ·rename_i hw
  simp only[hw]at G;cases op;case call f args=>
   obtain⟨v,h',x',⟨a1,a2,a3⟩,b1,b2,b3⟩:=hC _ _ _ _ _ H G;exact⟨a1.symm.trans b1,a2.symm.trans b2,a3.symm.trans b3⟩
  case callv f args=>
   dsimp only at H G;split at H
   ·rename_i hf
    simp only[hf]at G;obtain⟨v,h',x',⟨a1,a2,a3⟩,b1,b2,b3⟩:=hC _ _ _ _ _ H G;exact⟨a1.symm.trans b1,a2.symm.trans b2,a3.symm.trans b3⟩
   ·exact H.elim
  case mnext sh xs=>exact H.elim
  all_goals
   dsimp only at H G;rw[H]at G;injection G with G
   injection G with g1 G
   injection G with g2 g3
   exact⟨g1,g2,g3⟩
 ·rename_i hw
  simp only[hw]at G;exact⟨H.1.trans G.1.symm,H.2.1.trans G.2.1.symm,H.2.2.trans G.2.2.symm⟩
 ·exact H.elim
theorem z4q {C D:Hd}{gl:Nat->Option PV}(hC:eE C D) :
 ∀(ds:List DOp) dn hs e h x K L,iD C gl ds dn hs e h x K->iD D gl ds dn hs e h x L->∃e h x,K e h x/\L e h x
 | [],dn,hs,e,h,x,K,L,H,G=>⟨e,h,x,H,G⟩
 | o::r,dn,hs,e,h,x,K,L,H,G=>by
  obtain⟨v,h',y,h1,h2,h3,h4,h5⟩:=H;obtain⟨v',h'',y',g1,g2,g3,g4,g5⟩:=G;obtain⟨rfl,rfl,rfl⟩:=zb4 hC h1 g1;exact z4q hC r _ _ _ _ _ K L h5 g5
def z4J (T U:St->(Ex->St->Prop)->Prop):Prop:=∀s K L,T s K->U s L->∃e s',K e s'/\L e s'
theorem zb8 {T U:St->(Ex->St->Prop)->Prop}(hT:z4J T U){K L:Ex->St->Prop}{s:St}(H:ALoop T K s):ALoop U L s->∃e s',K e s'/\L e s':=by
 induction H with
 | mk s R h hn he hr ih=>
  intro G;cases G with
  | mk _ S h' hn' he' hr'=>
   obtain⟨e,s',hR,hS⟩:=hT _ _ _ h h';cases e with
   | normal=>exact ih s' hR (hn' s' hS)
   | exit i=>exact⟨_,_,he i s' hR,he' i s' hS⟩
   | ret=>exact⟨_,_,hr s' hR,hr' s' hS⟩
theorem QE {C D:Hd}{gl:Nat->Option PV}(hC:eE C D):∀(c:ACode),z4J (AW C gl c) (AW D gl c)
 | .skip,s,K,L,H,G=>⟨_,_,H,G⟩
 | .reg ops keep,s,K,L,H,G=>by
  obtain⟨e,h,x,h1,h2⟩:=xK hC ops _ _ _ _ _ H G;exact⟨_,_,h1,h2⟩
 | .draw ds keep,s,K,L,H,G=>by
  obtain⟨e,h,x,h1,h2⟩:=z4q hC ds _ _ _ _ _ _ _ H G;exact⟨_,_,h1,h2⟩
 | .seq a b,s,K,L,H,G=>by
  obtain⟨e,s',h1,h2⟩:=QE hC a _ _ _ H G;cases e with
  | normal=>exact QE hC b _ _ _ h1 h2
  | exit i=>exact⟨_,_,h1,h2⟩
  | ret=>exact⟨_,_,h1,h2⟩
 | .condu c a b,s,K,L,H,G=>by
  unfold AW at H G;split at H
  ·rename_i t ht
   simp only[ht]at G;split at H
   ·exact QE hC a _ _ _ H G
   ·exact QE hC b _ _ _ H G
  ·rename_i ht
   simp only[ht]at G;exact QE hC a _ _ _ H.1 G.1
  ·exact H.elim
 | .det b,s,K,L,H,G=>QE hC b _ _ _ H G
 | .cond c a b,s,K,L,H,G=>by
  unfold AW at H G;split at H
  ·rename_i t ht
   simp only[ht]at G;split at H
   ·exact QE hC a _ _ _ H G
   ·exact QE hC b _ _ _ H G
  ·exact H.elim
 | .block id b,s,K,L,H,G=>by
  obtain⟨e,s',h1,h2⟩:=QE hC b _ _ _ H G;cases e with
  | normal=>exact⟨_,_,h1,h2⟩
  | exit i=>
   dsimp only at h1 h2;split at h1
   ·rw[if_pos ‹_›]at h2;exact⟨_,_,h1,h2⟩
   ·rw[if_neg ‹_›]at h2;exact⟨_,_,h1,h2⟩
  | ret=>exact⟨_,_,h1,h2⟩
 | .loop b,s,K,L,H,G=>zb8 (QE hC b) H G
 | .scope b,s,K,L,H,G=>by
  obtain⟨e,s',h1,h2⟩:=QE hC b _ _ _ H G;exact⟨_,_,h1,h2⟩
 | .pr l b,s,K,L,H,G=>QE hC b _ K L H G
 | .exit id,s,K,L,H,G=>⟨_,_,H,G⟩
 | .ret,s,K,L,H,G=>⟨_,_,H,G⟩
 | .bad,s,K,L,H,G=>H.elim
theorem zo8 {b:Nat}{rs:List ARes}{o:Option (List AV)}{h:aA}{x:Esc}{K L:jA}(H:YC b K rs o h x)(G:YC b L rs o h x):∃v h x,K v h x/\L v h x:=by
 unfold YC at H G;split at H
 ·rename_i vs
  simp only at G;split at H
  ·rename_i y hy
   rw[hy]at G;exact⟨_,_,_,H.2,G.2⟩
  ·exact H.elim
 ·exact H.elim
theorem z7U {F:AFun}{b:Nat}{s:St}{K L:jA}(H:fin F b s K)(G:fin F b s L):∃v h x,K v h x/\L v h x:=by
 unfold fin at H G;split at H
 ·rename_i h0
  simp only[h0]at G;exact zo8 H G
 rename_i h0;simp only[h0]at G;split at H
 ·rename_i h1
  simp only[h1]at G;split at H
  ·rename_i h2
   simp only[h2]at G;dsimp only at H G;split at H
   ·rename_i h3;rw[if_pos h3]at G;exact⟨_,_,_,H,G⟩
   ·rename_i h3;rw[if_neg h3]at G;exact⟨_,_,_,H,G⟩
  ·rename_i h2
   simp only[h2]at G;split at H
   ·rename_i h4
    simp only[h4]at G;dsimp only at H G;split at H
    ·rename_i h3
     rw[if_pos h3]at G;split at H
     ·rename_i h5
      simp only[h5]at G;exact⟨_,_,_,H.2,G.2⟩
     ·exact H.elim
    ·rename_i h3;rw[if_neg h3]at G;exact⟨_,_,_,H,G⟩
   ·exact H.elim
 ·exact H.elim
theorem IY {C D:Hd}{gl:Nat->Option PV}(hC:eE C D){F:AFun}{a:List AV}{h:aA}{K L:jA}(H:oC C gl F a h K)(G:oC D gl F a h L):∃v h' x,K v h' x/\L v h' x:=by
 unfold oC at H G;split at H
 ·rename_i hp
  simp only[hp]at G;obtain⟨e,s',h1,h2⟩:=QE hC _ _ _ _ H.2 G.2;cases e with
  | normal=>exact z7U h1 h2
  | exit i=>exact h1.elim
  | ret=>exact z7U h1 h2
 ·exact H.elim
theorem zjO {C D:Hd}{gl:Nat->Option PV}(hC:eE C D){F:AFun}{a:List AV}{h:aA}{K L:jA}(H:pD C gl F a h K)(G:pD D gl F a h L):∃v h' x,K v h' x/\L v h' x:=by
 unfold pD at H G;cases hd:F.isDet with
 | true=>
  rw[hd]at H G;obtain⟨v,h',x,k,H⟩:=H;obtain⟨v2,h2,x2,k2,G⟩:=G;obtain⟨v3,h3,x3,⟨q1,q2,q3⟩,q4,q5,q6⟩:=IY hC H G;subst q1;subst q2;subst q3;subst q4;subst q5;subst q6
  exact⟨_,_,_,k,k2⟩
 | false=>
  rw[hd]at H G;exact IY hC H G
theorem zcf {X:Ctx}{C D:Hd}(hC:eE C D):eE (ZB X C) (ZB X D):=by
 intro f a h K L H G;unfold ZB at H G;split at H
 ·rename_i F hF
  simp only[hF]at G;exact zjO hC H G
 ·rename_i hF
  simp only[hF]at G;split at H
  ·rename_i hx2
   simp only[hx2]at G;exact⟨_,_,_,H,G⟩
  ·rename_i hx2
   simp only[hx2]at G;split at H
   ·rename_i hp
    simp only[hp]at G;split at H
    ·rename_i hu
     simp only[hu]at G;split at H
     ·rename_i hx
      simp only[hx]at G;exact⟨_,_,_,H,G⟩
     ·exact H.elim
    ·exact H.elim
   ·exact H.elim
theorem z4m (X:Ctx):eE (bA X) (bA X):=by
 intro f a h K L H;refine H (λf a h K=>∀L,bA X f a h L->∃v h' x,K v h' x/\L v h' x) ?_ ?_ L
 ·intro f a h K K' hK H' L hL
  obtain⟨v,h',x,h1,h2⟩:=H' L hL;exact⟨v,h',x,hK _ _ _ h1,h2⟩
 ·intro f a h K H' L hL
  exact zcf (C:=λf a h K=>∀L,bA X f a h L->∃v h' x,K v h' x/\L v h' x) (λf a h K L H1 H2=>H1 L H2) _ _ _ _ _ H' (bA.unfold hL)
theorem bA.eq {X:Ctx}{f:Nat}{a:List AV}{h:aA}{v:AV}{h':aA}{x:Esc}(H:bA X f a h λv1 h1 x1=>v1=v/\h1=h'/\x1=x)(K:jA) :
 bA X f a h K↔K v h' x:=by
 constructor
 ·intro G
  obtain⟨v1,h1,x1,⟨rfl,rfl,rfl⟩,hk⟩:=z4m X _ _ _ _ _ H G;exact hk
 ·intro hk
  exact bA.mono X _ _ _ _ _ (λv1 h1 x1 ⟨e1,e2,e3⟩=>by subst e1;subst e2;subst e3;exact hk) H
section
def zed (w:World):World:={ w with heap:=#[],drawn:=0 }
structure Mem where
 c:Nat->Nat->Option Value
 b:Nat->Option Go.Obj
 z:Option World
 s:Nat->Option TypeId
instance:CoeFun Mem λ_=>Nat->Nat->Option Value:=⟨Mem.c⟩
abbrev Mu:=List (Option (Nat × Nat))
inductive RPV (M:Mem):PV->Value->Prop
 | int (k:IntKind) (n:Int):RPV M (.int k n) (.int k n)
 | bool (b:Bool):RPV M (.bool b) (.bool b)
 | str (s:List UInt8):RPV M (.str s) (.string ⟨s.toArray⟩)
 | nilp:RPV M .nilp (.pointer none)
 | unk (k:IntKind) (n:Int):RPV M .unk (.int k n)
 | nils (sh:Sh) (a:Option Addr) (cap:Nat):RPV M (.sl sh []) (.slice a 0 cap)
 | sl (sh:Sh) (xs:List PV) (b o cap:Nat) (f:Nat->Value) (hne:xs≠[]) (hc:xs.length<=cap) (he:∀x∈xs,x.shp sh=true)
  (hm:∀(j:Nat) (y:PV),(xs.flatMap PV.cells)[j]?=some y->M b (o+j)=some (f j))
  (hr:∀(j:Nat) (y:PV),(xs.flatMap PV.cells)[j]?=some y->RPV M y (f j)):RPV M (.sl sh xs) (.slice (some ⟨b,o,none⟩) xs.length cap)
 | agg (cs:List PV) (vs:List Value) (hl:cs.length=vs.length)
  (hr:∀(j:Nat) (y:PV) (v:Value),cs[j]?=some y->vs[j]?=some v->RPV M y v):RPV M (.agg cs) (.agg vs.toArray)
def vF (m:Option (Nat × Nat))(e off:Nat)(a:Option Addr)(cap:Nat):Prop:=match m with
 | none=>cap=0
 | some (b,n)=>cap=0∨(a=some ⟨b,off*e,none⟩/\(off+cap)*e<=n)
def BufAt (M:Mem)(t:Nat)(m:Option (Nat × Nat))(a:Option Addr)(cap:Nat):Prop:=match m with
 | none=>a=none/\cap=0
 | some (b,n)=>a=some ⟨b,0,none⟩/\(0<cap/\cap<=n)/\M.s b=some t
inductive RAV (M:Mem) (h:aA) (μ:Mu):AV->Value->Prop
 | p (v:PV) (x:Value) (hv:RPV M v x):RAV M h μ (.p v) x
 | own (id g off len:Nat) (a:Option Addr) (cap:Nat) (sh:Sh) (xs:List PV) (fz:Nat) (m:Option (Nat×Nat)) (hl:len<=cap) (ho:h[id]?=some (.row sh xs fz)) (hm:μ[id]?=some m)
  (hg:g<=xs.length) (hgl:off+len<=g) (hv:g=xs.length->vF m (gA sh) off a cap):RAV M h μ (.own id g off len) (.slice a len cap)
 | sl0 (sh:Sh) (a:Option Addr):RAV M h μ (.sl0 sh) (.slice a 0 0)
 | ref (id off b n:Nat) (cs:List AV) (ho:h[id]?=some (.box cs)) (hm:μ[id]?=some (some (b,n))):RAV M h μ (.ref id off) (.pointer (some ⟨b,off,none⟩))
 | rref (id g i off:Nat) (a:Addr) (sh:Sh) (xs:List PV) (fz:Nat) (m:Option (Nat×Nat)) (ho:h[id]?=some (.row sh xs fz)) (hm:μ[id]?=some m)
  (hg:g<=xs.length) (hi:i<g) (hv:g=xs.length->∃b n,m=some (b,n)/\a=⟨b,i*gA sh+off,none⟩):RAV M h μ (.rref id g i off) (.pointer (some a))
 | vp (v:PV) (b o:Nat) (f:Nat->Value) (hm:∀(j:Nat) (y:PV),v.cells[j]?=some y->M b (o+j)=some (f j)) (hr:∀(j:Nat) (y:PV),v.cells[j]?=some y->RPV M y (f j)) :
  RAV M h μ (.vp v) (.pointer (some ⟨b,o,none⟩))
 | nilp:RAV M h μ .nilp (.pointer none)
 | nilm:RAV M h μ .nilm (.map none)
 | nilf:RAV M h μ .nilf .nilFunc
 | nili:RAV M h μ .nili .nilIface
 | ifc (t:TypeId) (v:Value):RAV M h μ .ifc (.iface t v)
 | mp (id b n:Nat) (es:List ME) (c:Nat) (ho:h[id]?=some (.amap es c)) (hm:μ[id]?=some (some (b,n))):RAV M h μ (.mp id) (.map (some b))
 | it (id b n:Nat) (m:Option Nat) (s:Nat) (seen:List Nat) (l:Nat) (ho:h[id]?=some (.iter m s seen l)) (hm:μ[id]?=some (some (b,n))):RAV M h μ (.it id) (.pointer (some ⟨b,0,none⟩))
 | fn (f:Nat) (cs:List AV) (vs:List Value) (hl:cs.length=vs.length) (hr:∀(j:Nat) (y:AV) (v:Value),cs[j]?=some y->vs[j]?=some v->RAV M h μ y v) :
  RAV M h μ (.fn f cs) (.func (.func f) #[] vs.toArray)
 | agg (cs:List AV) (vs:List Value) (hl:cs.length=vs.length) (hr:∀(j:Nat) (y:AV) (v:Value),cs[j]?=some y->vs[j]?=some v->RAV M h μ y v):RAV M h μ (.agg cs) (.agg vs.toArray)
 | tup (cs:List AV) (vs:List Value) (hl:cs.length=vs.length) (hr:∀(j:Nat) (y:AV) (v:Value),cs[j]?=some y->vs[j]?=some v->RAV M h μ y v):RAV M h μ (.tup cs) (.tuple vs.toArray)
 | anyb (b:Bool):RAV M h μ .anyb (.bool b)
 | skp:RAV M h μ .skp undef
 | und (x:Value):RAV M h μ .und x
 | anyp (a:Option Addr):RAV M h μ .anyp (.pointer a)
 | bt0 (t id g b n:Nat) (cs:List AV) (ho:h[id]?=some (.box cs)) (hm:μ[id]?=some (some (b,n))) (hs:M.s b=some t):RAV M h μ (.bt 0 t id g) (.pointer none)
 | bt1 (t id g:Nat) (a:Option Addr) (cap:Nat) (xs:List PV) (fz:Nat) (m:Option (Nat×Nat)) (hl:g<=cap) (ho:h[id]?=some (.row none xs fz)) (hm:μ[id]?=some m)
  (hg:g<=xs.length) (hv:g=xs.length->BufAt M t m a cap):RAV M h μ (.bt 1 t id g) (.slice a g cap)
 | bt2 (t id g:Nat) (a:Addr) (xs:List PV) (fz:Nat) (m:Option (Nat×Nat)) (ho:h[id]?=some (.row none xs fz)) (hm:μ[id]?=some m)
  (hg:g<=xs.length) (hv:g=xs.length->∃b n,m=some (b,n)/\a=⟨b,0,none⟩/\M.s b=some t):RAV M h μ (.bt 2 t id g) (.pointer (some a))
 | bt3 (t id g:Nat) (a:Option Addr) (cap:Nat) (o:Obj) (m:Option (Nat×Nat)) (hl:g<=cap) (ho:h[id]?=some o) (hm:μ[id]?=some m)
  (hv:∀sh cs,o = .arow sh cs->g*gA sh<=cs.length/\(g*gA sh=cs.length->vF m (gA sh) 0 a cap)):RAV M h μ (.bt 3 t id g) (.slice a g cap)
 | bt4 (off id g:Nat) (a:Addr) (o:Obj) (m:Option (Nat×Nat)) (ho:h[id]?=some o) (hm:μ[id]?=some m)
  (hv:∀sh cs,o = .arow sh cs->g*gA sh<=cs.length/\(g*gA sh=cs.length->∃b n,m=some (b,n)/\a=⟨b,off,none⟩)):RAV M h μ (.bt 4 off id g) (.pointer (some a))
structure Mem.le (M M':Mem):Prop where
 c:∀b o v,M.c b o=some v->M'.c b o=some v
 b:∀b o,M.b b=some o->M'.b b=some o
 z:M'.z=M.z
 s:∀b t,M.s b=some t->M'.s b=some t
theorem RPV.mono {M M':Mem}(hM:M.le M'){v:PV}{x:Value}(H:RPV M v x):RPV M' v x:=by
 induction H with
 | int k n=>exact .int k n
 | bool b=>exact .bool b
 | str s=>exact .str s
 | nilp=>exact .nilp
 | unk k n=>exact .unk k n
 | nils sh a cap=>exact .nils sh a cap
 | sl sh xs b o cap f hne hc he hm hr ih=>exact .sl sh xs b o cap f hne hc he (λj y hy=>hM.c _ _ _ (hm j y hy)) ih
 | agg cs vs hl hr ih=>exact .agg cs vs hl ih
def zD (o:Obj)(m:Option (Nat × Nat))(o':Obj)(m':Option (Nat × Nat)):Prop:=match o with
 | .box _=>(∃cs',o' = .box cs')/\m'=m
 | .row sh xs _=>∃xs' fz',o' = .row sh xs' fz'/\xs.length<=xs'.length/\(xs'.length=xs.length->m'=m)
 | .amap _ _=>(∃es c,o' = .amap es c)/\m'=m
 | .iter _ _ _ _=>(∃a b c d,o' = .iter a b c d)/\m'=m
 | .arow sh cs=>(∃cs',o' = .arow sh cs'/\cs.length<=cs'.length/\(cs'.length=cs.length->m'=m))∨∃sh' xs fz,o' = .row sh' xs fz
theorem zD.refl (o:Obj)(m:Option (Nat × Nat)):zD o m o m:=by
 cases o <;> simp [zD]
theorem zD.trans {o o' o'':Obj}{m m' m'':Option (Nat × Nat)}(h:zD o m o' m')(h':zD o' m' o'' m''):zD o m o'' m'':=by
 cases o with
 | box cs=>obtain⟨⟨cs',rfl⟩,rfl⟩:=h;exact h'
 | row sh xs fz=>
  obtain⟨xs',fz',rfl,h1,h2⟩:=h;obtain⟨xs'',fz'',rfl,h3,h4⟩:=h';exact⟨xs'',fz'',rfl,by omega,λhe=>(h4 (by omega)).trans (h2 (by omega))⟩
 | amap es c=>obtain⟨⟨es',c',rfl⟩,rfl⟩:=h;exact h'
 | iter a b c d=>obtain⟨⟨a',b',c',d',rfl⟩,rfl⟩:=h;exact h'
 | arow sh cs=>
  rcases h with⟨cs',rfl,h1,h2⟩|⟨sh',xs,fz,rfl⟩
  ·rcases h' with⟨cs'',rfl,h3,h4⟩|h'
   ·exact .inl ⟨cs'',rfl,by omega,λhe=>(h4 (by omega)).trans (h2 (by omega))⟩
   ·exact .inr h'
  ·obtain⟨xs'',fz'',rfl,_⟩:=h'
   exact .inr ⟨sh',xs'',fz'',rfl⟩
theorem zD.to_arow {o:Obj}{m m':Option (Nat × Nat)}{sh:Sh}{cs':List AV}(h:zD o m (.arow sh cs') m'):∃cs,o = .arow sh cs/\cs.length<=cs'.length/\(cs'.length=cs.length->m'=m):=by
 cases o with
 | box cs=>obtain⟨⟨_,h⟩,_⟩:=h;cases h
 | row sh xs fz=>obtain⟨_,_,h,_⟩:=h;cases h
 | amap es c=>obtain⟨⟨_,_,h⟩,_⟩:=h;cases h
 | iter a b c d=>obtain⟨⟨_,_,_,_,h⟩,_⟩:=h;cases h
 | arow sh' cs=>
  rcases h with⟨cs2,h1,h2,h3⟩|⟨_,_,_,h⟩
  ·injection h1 with h1 h4;subst h1;subst h4;exact⟨cs,rfl,h2,h3⟩
  ·cases h
structure Evo (M:Mem) (h:aA) (μ:Mu) (M':Mem) (h':aA) (μ':Mu):Prop where
 le:M.le M'
 len:h.length<=h'.length
 obj:∀(id:Nat) (o:Obj) (m:Option (Nat×Nat)),h[id]?=some o->μ[id]?=some m->∃o' m',h'[id]?=some o'/\μ'[id]?=some m'/\zD o m o' m'
theorem Evo.refl (M:Mem)(h:aA)(μ:Mu):Evo M h μ M h μ:=⟨⟨λ_ _ _ h=>h,λ_ _ h=>h,rfl,λ_ _ h=>h⟩,Nat.le_refl _,λ_ o m h1 h2=>⟨o,m,h1,h2,zD.refl o m⟩⟩
theorem Evo.trans {M M' M'':Mem}{h h' h'':aA}{μ μ' μ'':Mu}(a:Evo M h μ M' h' μ')(b:Evo M' h' μ' M'' h'' μ''):Evo M h μ M'' h'' μ'':=
 ⟨⟨λx y v h=>b.le.c x y v (a.le.c x y v h),λx y h=>b.le.b x y (a.le.b x y h),b.le.z.trans a.le.z,λx t h=>b.le.s x t (a.le.s x t h)⟩,Nat.le_trans a.len b.len,λid o m h1 h2=>by
  obtain⟨o',m',h3,h4,h5⟩:=a.obj id o m h1 h2;obtain⟨o'',m'',h6,h7,h8⟩:=b.obj id o' m' h3 h4;exact⟨o'',m'',h6,h7,h5.trans h8⟩⟩
theorem RAV.evo {M M':Mem}{h h':aA}{μ μ':Mu}(E:Evo M h μ M' h' μ'){v:AV}{x:Value}(H:RAV M h μ v x):RAV M' h' μ' v x:=by
 induction H with
 | p v x hv=>exact .p v x (hv.mono E.le)
 | own id g off len a cap sh xs fz m hl ho hm hg hgl hv=>
  obtain⟨o',m',h1,h2,xs',fz',rfl,h4,h5⟩:=E.obj id _ m ho hm;refine .own id g off len a cap sh xs' fz' m' hl h1 h2 (by omega) hgl (λhe=>?_)
  rw[h5 (by omega)]
  exact hv (by omega)
 | sl0 sh a=>exact .sl0 sh a
 | ref id off b n cs ho hm=>
  obtain⟨o',m',h1,h2,⟨cs',rfl⟩,rfl⟩:=E.obj id _ _ ho hm;exact .ref id off b n cs' h1 h2
 | rref id g i off a sh xs fz m ho hm hg hi hv=>
  obtain⟨o',m',h1,h2,xs',fz',rfl,h4,h5⟩:=E.obj id _ m ho hm;refine .rref id g i off a sh xs' fz' m' h1 h2 (by omega) hi (λhe=>?_)
  rw[h5 (by omega)]
  exact hv (by omega)
 | vp v b o f hm hr=>exact .vp v b o f (λj y hy=>E.le.c _ _ _ (hm j y hy)) (λj y hy=>(hr j y hy).mono E.le)
 | nilp=>exact .nilp
 | nilm=>exact .nilm
 | nilf=>exact .nilf
 | nili=>exact .nili
 | ifc t v=>exact .ifc t v
 | mp id b n es c ho hm=>
  obtain⟨o',m',h1,h2,⟨es',c',rfl⟩,rfl⟩:=E.obj id _ _ ho hm;exact .mp id b n es' c' h1 h2
 | it id b n m s seen l ho hm=>
  obtain⟨o',m',h1,h2,⟨a',b',c',d',rfl⟩,rfl⟩:=E.obj id _ _ ho hm;exact .it id b n a' b' c' d' h1 h2
 | fn f cs vs hl hr ih=>exact .fn f cs vs hl ih
 | agg cs vs hl hr ih=>exact .agg cs vs hl ih
 | tup cs vs hl hr ih=>exact .tup cs vs hl ih
 | anyb b=>exact .anyb b
 | skp=>exact .skp
 | und x=>exact .und x
 | anyp a=>exact .anyp a
 | bt0 t id g b n cs ho hm hs=>
  obtain⟨o',m',h1,h2,⟨cs',rfl⟩,rfl⟩:=E.obj id _ _ ho hm;exact .bt0 t id g b n cs' h1 h2 (E.le.s _ _ hs)
 | bt1 t id g a cap xs fz m hl ho hm hg hv=>
  obtain⟨o',m',h1,h2,xs',fz',rfl,h4,h5⟩:=E.obj id _ m ho hm;refine .bt1 t id g a cap xs' fz' m' hl h1 h2 (by omega) (λhe=>?_)
  rw[h5 (by omega)]
  have q:=hv (by omega)
  cases m with
  | none=>exact q
  | some m=>exact⟨q.1,q.2.1,E.le.s _ _ q.2.2⟩
 | bt2 t id g a xs fz m ho hm hg hv=>
  obtain⟨o',m',h1,h2,xs',fz',rfl,h4,h5⟩:=E.obj id _ m ho hm;refine .bt2 t id g a xs' fz' m' h1 h2 (by omega) (λhe=>?_)
  rw[h5 (by omega)]
  obtain⟨b,n,q1,q2,q3⟩:=hv (by omega)
  exact⟨b,n,q1,q2,E.le.s _ _ q3⟩
 | bt3 t id g a cap o m hl ho hm hv=>
  obtain⟨o',m',h1,h2,h3⟩:=E.obj id _ m ho hm;refine .bt3 t id g a cap o' m' hl h1 h2 (λsh cs' e=>?_)
  subst e;obtain⟨cs,rfl,h4,h5⟩:=zD.to_arow h3;obtain⟨q1,q2⟩:=hv sh cs rfl;exact⟨by omega,λhe=>by rw[h5 (by omega)];exact q2 (by omega)⟩
 | bt4 off id g a o m ho hm hv=>
  obtain⟨o',m',h1,h2,h3⟩:=E.obj id _ m ho hm;refine .bt4 off id g a o' m' h1 h2 (λsh cs' e=>?_)
  subst e;obtain⟨cs,rfl,h4,h5⟩:=zD.to_arow h3;obtain⟨q1,q2⟩:=hv sh cs rfl;exact⟨by omega,λhe=>by rw[h5 (by omega)];exact q2 (by omega)⟩
theorem sK {cs:List AV}{n:Nat}(H:∀ (j:Nat) (y:AV),cs[j]?=some y->y.top<=n):AV.tops cs<=n:=by
 induction cs with
 | nil=>simp [AV.tops]
 | cons v r ih=>
  simp only[AV.tops];have h0:=H 0 v rfl
  have h1:=ih (λj y hy=>H (j+1) y (by simpa using hy))
  omega
theorem fF {cs:List AV}{j:Nat}{y:AV}(H:cs[j]?=some y):y.top<=AV.tops cs:=by
 induction cs generalizing j with
 | nil=>simp at H
 | cons v r ih=>
  simp only[AV.tops];cases j with
  | zero=>simp at H;subst H;omega
  | succ j=>have:=ih (by simpa using H);omega
theorem IA {α:Type}{l:List α}{i:Nat}{x:α}(h:l[i]?=some x):i<l.length:=by
 rcases Nat.lt_or_ge i l.length with h'|h'
 ·exact h'
 ·rw[List.getElem?_eq_none h']at h;cases h
theorem RAV.top_le {M:Mem}{h:aA}{μ:Mu}{v:AV}{x:Value}(H:RAV M h μ v x):v.top<=h.length:=by
 induction H with
 | own id g off len a cap sh xs fz m hl ho hm hg hgl hv=>exact IA ho
 | ref id off b n cs ho hm=>exact IA ho
 | rref id g i off a sh xs fz m ho hm hg hi hv=>exact IA ho
 | mp id b n es c ho hm=>exact IA ho
 | it id b n m s seen l ho hm=>exact IA ho
 | bt0 t id g b n cs ho hm hs=>exact IA ho
 | bt1 t id g a cap xs fz m hl ho hm hg hv=>exact IA ho
 | bt2 t id g a xs fz m ho hm hg hv=>exact IA ho
 | bt3 t id g a cap o m hl ho hm hv=>exact IA ho
 | bt4 off id g a o m ho hm hv=>exact IA ho
 | fn f cs vs hl hr ih=>
  simp only[AV.top];refine sK (λj y hy=>?_)
  have hj:j<vs.length:=by rw[<-hl];exact IA hy
  exact ih j y vs[j] hy (List.getElem?_eq_getElem hj)
 | agg cs vs hl hr ih=>
  simp only[AV.top];refine sK (λj y hy=>?_)
  have hj:j<vs.length:=by rw[<-hl];exact IA hy
  exact ih j y vs[j] hy (List.getElem?_eq_getElem hj)
 | tup cs vs hl hr ih=>
  simp only[AV.top];refine sK (λj y hy=>?_)
  have hj:j<vs.length:=by rw[<-hl];exact IA hy
  exact ih j y vs[j] hy (List.getElem?_eq_getElem hj)
 | _=>simp [AV.top]
theorem RAV.take {M M':Mem}(hM:M.le M'){h:aA}{μ:Mu}{n:Nat}{v:AV}{x:Value}(H:RAV M h μ v x):v.top<=n->RAV M' (h.take n) (μ.take n) v x:=by
 have get:∀{α:Type} {l:List α} {i:Nat} {y:α},l[i]?=some y->i<n->(l.take n)[i]?=some y:=by
  intro α l i y h hi;rw[List.getElem?_take,if_pos hi,h]
 induction H with
 | p v x hv=>exact λ_=>.p v x (hv.mono hM)
 | own id g off len a cap sh xs fz m hl ho hm hg hgl hv=>exact λht=>.own id g off len a cap sh xs fz m hl (get ho ht) (get hm ht) hg hgl hv
 | sl0 sh a=>exact λ_=>.sl0 sh a
 | ref id off b n cs ho hm=>exact λht=>.ref id off b n cs (get ho ht) (get hm ht)
 | rref id g i off a sh xs fz m ho hm hg hi hv=>exact λht=>.rref id g i off a sh xs fz m (get ho ht) (get hm ht) hg hi hv
 | vp v b o f hm hr=>exact λ_=>.vp v b o f (λj y hy=>hM.c _ _ _ (hm j y hy)) (λj y hy=>(hr j y hy).mono hM)
 | nilp=>exact λ_=>.nilp
 | nilm=>exact λ_=>.nilm
 | nilf=>exact λ_=>.nilf
 | nili=>exact λ_=>.nili
 | ifc t v=>exact λ_=>.ifc t v
 | mp id b n es c ho hm=>exact λht=>.mp id b n es c (get ho ht) (get hm ht)
 | it id b n m s seen l ho hm=>exact λht=>.it id b n m s seen l (get ho ht) (get hm ht)
 | fn f cs vs hl hr ih=>exact λht=>.fn f cs vs hl (λj y v h1 h2=>ih j y v h1 h2 (by have:=fF h1;simp only[AV.top]at ht;omega))
 | agg cs vs hl hr ih=>exact λht=>.agg cs vs hl (λj y v h1 h2=>ih j y v h1 h2 (by have:=fF h1;simp only[AV.top]at ht;omega))
 | tup cs vs hl hr ih=>exact λht=>.tup cs vs hl (λj y v h1 h2=>ih j y v h1 h2 (by have:=fF h1;simp only[AV.top]at ht;omega))
 | anyb b=>exact λ_=>.anyb b
 | skp=>exact λ_=>.skp
 | und x=>exact λ_=>.und x
 | anyp a=>exact λ_=>.anyp a
 | bt0 t id g b n cs ho hm hs=>exact λht=>.bt0 t id g b n cs (get ho ht) (get hm ht) (hM.s _ _ hs)
 | bt1 t id g a cap xs fz m hl ho hm hg hv=>exact λht=>.bt1 t id g a cap xs fz m hl (get ho ht) (get hm ht) hg (λe=>by
  have q:=hv e
  cases m with
  | none=>exact q
  | some m=>exact⟨q.1,q.2.1,hM.s _ _ q.2.2⟩)
 | bt2 t id g a xs fz m ho hm hg hv=>exact λht=>.bt2 t id g a xs fz m (get ho ht) (get hm ht) hg (λe=>by obtain⟨b,n,q1,q2,q3⟩:=hv e;exact⟨b,n,q1,q2,hM.s _ _ q3⟩)
 | bt3 t id g a cap o m hl ho hm hv=>exact λht=>.bt3 t id g a cap o m hl (get ho ht) (get hm ht) hv
 | bt4 off id g a o m ho hm hv=>exact λht=>.bt4 off id g a o m (get ho ht) (get hm ht) hv
def PG (h:aA)(μ:Mu)(b o:Nat):Prop:=∃(id n:Nat),μ[id]?=some (some (b,n))/\∀(sh:Sh) (xs:List PV) (fz:Nat),h[id]?=some (.row sh xs fz)->fz*gA sh<=o
def zK (μ:Mu)(b:Nat):Prop:=∃(id n:Nat),μ[id]?=some (some (b,n))
def ety (w:World)(b:Nat):Option TypeId:=match w.heap[b]? with
 | some (.cells _ e _)=>some e
 | _=>none
open Classical in
noncomputable def imm (h:aA) (μ:Mu) (w:World):Mem:=⟨λb o=>if PG h μ b o then none else w.cell? ⟨b,o,none⟩,λb=>if zK μ b then none else w.heap[b]?,some (zed w),ety w⟩
theorem nE {h:aA}{μ:Mu}{w:World}{b o:Nat}{v:Value}:(imm h μ w).c b o=some v↔¬PG h μ b o/\w.cell? ⟨b,o,none⟩=some v:=by
 unfold imm;by_cases hO:PG h μ b o <;> simp [hO]
theorem yI {h:aA}{μ:Mu}{w:World}{b:Nat}{o:Go.Obj}:(imm h μ w).b b=some o↔¬zK μ b/\w.heap[b]?=some o:=by
 unfold imm;by_cases hO:zK μ b <;> simp [hO]
def gB (w:World)(b n:Nat)(c:Array Value)(sealed:Prop:=False):Prop:=c.size=n/\∃E lo hi,w.heap[b]?=some (.cells c E (lo,hi))/\(¬sealed->lo<hi->n<=lo)
theorem gB.unsl {w:World}{b n:Nat}{c:Array Value}{s:Prop}(h:gB w b n c s)(hs:¬ s):gB w b n c:=by
 obtain⟨h1,E,lo,hi,h2,h3⟩:=h;exact⟨h1,E,lo,hi,h2,λ_=>h3 hs⟩
theorem gB.imp {w:World}{b n:Nat}{c:Array Value}{s s':Prop}(i:s->s')(h:gB w b n c s):gB w b n c s':=by
 obtain⟨h1,E,lo,hi,h2,h3⟩:=h;exact⟨h1,E,lo,hi,h2,λq=>h3 (λp=>q (i p))⟩
theorem gB.sealed {w:World}{b n:Nat}{c:Array Value}(s:Prop)(h:gB w b n c):gB w b n c s:=by
 obtain⟨h1,E,lo,hi,h2,h3⟩:=h;exact⟨h1,E,lo,hi,h2,λ_=>h3 (λh=>h)⟩
def aJ (M:Mem)(h:aA)(μ:Mu)(w:World)(o:Obj)(m:Option (Nat × Nat)):Prop:=match o with
 | .box cs=>∃b c,m=some (b,cs.length)/\gB w b cs.length c/\∀(j:Nat) (x:AV),cs[j]?=some x->x.sc=true/\∃v,c[j]?=some v/\RAV M h μ x v
 | .row sh xs fz=>fz<=xs.length+1/\(∀x∈xs,x.shp sh=true)/\match m with
  | none=>xs=[]
  | some (b,n)=>∃c,gB w b n c (xs.length<fz)/\xs.length*gA sh<=n/\∀(i j:Nat) (x y:PV),xs[i]?=some x->x.cells[j]?=some y->∃v,c[i*gA sh+j]?=some v/\RPV M y v
 | .amap es clk=>∃b n ces,m=some (b,n)/\w.heap[b]?=some (.map ces clk)/\ces.size=es.length/\(∀e∈es,e.born<clk) /\
  ∀(i:Nat) (e:ME) (ce:MapEntry),es[i]?=some e->ces[i]?=some ce->RPV M e.key ce.key/\e.key.key=true/\RAV M h μ e.val ce.val/\ce.born=e.born
 | .iter mm since seen last=>∃b n,m=some (b,n)/\match mm with
  | none=>since=0->w.heap[b]?=some (.mapIter none 0 #[] 0)
  | some id=>∃bm nm es c,μ[id]?=some (some (bm,nm))/\h[id]?=some (.amap es c)/\w.heap[b]?=some (.mapIter (some bm) since seen.toArray last)
 | .arow sh cs=>(∀x∈cs,x.sc=true)/\match m with
  | none=>cs=[]
  | some (b,n)=>∃c,gB w b n c/\cs.length<=n/\∀(j:Nat) (x:AV),cs[j]?=some x->∃v,c[j]?=some v/\RAV M h μ x v
structure HeapRel (h:aA) (μ:Mu) (w:World):Prop where
 len:μ.length=h.length
 obj:∀(id:Nat) (o:Obj) (m:Option (Nat×Nat)),h[id]?=some o->μ[id]?=some m->aJ (imm h μ w) h μ w o m
 distinct:∀(i j b n n':Nat),μ[i]?=some (some (b,n))->μ[j]?=some (some (b,n'))->i=j
 inside:∀(i b n:Nat),μ[i]?=some (some (b,n))->b<w.heap.size
end
section
variable {h h':aA} {μ μ':Mu} {w w':World}
theorem JN {b o:Nat}(e:w'.heap[b]?=w.heap[b]?):w'.cell? ⟨b,o,none⟩=w.cell? ⟨b,o,none⟩:=by
 unfold World.cell?;simp only[e]
theorem SD {b n o:Nat}{c:Array Value}{s:Prop}(hb:gB w b n c s):w.cell? ⟨b,o,none⟩=c[o]?:=by
 obtain⟨_,E,lo,hi,he,_⟩:=hb;unfold World.cell?;simp [he]
theorem LP (H:∀ (b o:Nat) (v:Value),¬ PG h μ b o->w.cell? ⟨b,o,none⟩=some v->¬ PG h' μ' b o/\w'.cell? ⟨b,o,none⟩=some v)
 (HB:∀(b:Nat) (o:Go.Obj),¬zK μ b->w.heap[b]?=some o->¬zK μ' b/\w'.heap[b]?=some o) (HZ:zed w'=zed w) (HS:∀b t,ety w b=some t->ety w' b=some t):(imm h μ w).le (imm h' μ' w'):=by
 refine⟨λb o v hv=>?_,λb o hv=>?_,congrArg some HZ,HS⟩
 ·obtain⟨h1,h2⟩:=nE.1 hv
  exact nE.2 (H b o v h1 h2)
 ·obtain⟨h1,h2⟩:=yI.1 hv
  exact yI.2 (HB b o h1 h2)
theorem iJ {b:Nat}{o:Go.Obj}(hb:w.heap[b]?=some o):b<w.heap.size:=(Array.getElem?_eq_some_iff.1 hb).1
theorem gL {b:Nat}(e:w'.heap[b]?=w.heap[b]?):ety w' b=ety w b:=by
 unfold ety;simp only[e]
theorem DO {b:Nat}{c:Array Value}{E:TypeId}{f:Nat × Nat}(e:w.heap[b]?=some (.cells c E f)):ety w b=some E:=by
 unfold ety;simp only[e]
theorem BT {b:Nat}{t:TypeId}(e:ety w b=some t):b<w.heap.size:=by
 unfold ety at e;rcases Nat.lt_or_ge b w.heap.size with h|h
 ·exact h
 ·rw[Array.getElem?_eq_none h]at e
  cases e
theorem gB.keep {b n:Nat}{c:Array Value}{s:Prop}(e:w'.heap[b]?=w.heap[b]?)(hb:gB w b n c s):gB w' b n c s:=by
 obtain⟨h1,E,lo,hi,he,h2⟩:=hb;exact⟨h1,E,lo,hi,by rw[e];exact he,h2⟩
theorem aJ.keep {M M':Mem}{o:Obj}{m:Option (Nat × Nat)}(E:Evo M h μ M' h' μ')(hw:∀ b n,m=some (b,n)->w'.heap[b]?=w.heap[b]?)
 (H:aJ M h μ w o m):aJ M' h' μ' w' o m:=by
 cases o with
 | box cs=>
  obtain⟨b,c,rfl,hb,hc⟩:=H;refine⟨b,c,rfl,hb.keep (hw _ _ rfl),λj x hx=>?_⟩
  obtain⟨h1,v,h2,h3⟩:=hc j x hx;exact⟨h1,v,h2,h3.evo E⟩
 | row sh xs fz=>
  obtain⟨h1,h2,h3⟩:=H;refine⟨h1,h2,?_⟩;cases m with
  | none=>exact h3
  | some m=>
   obtain⟨b,n⟩:=m;obtain⟨c,h4,h5,h6⟩:=h3;refine⟨c,h4.keep (hw _ _ rfl),h5,λi j x y hx hy=>?_⟩
   obtain⟨v,h7,h8⟩:=h6 i j x y hx hy;exact⟨v,h7,h8.mono E.le⟩
 | amap es clk=>
  obtain⟨b,n,ces,rfl,h1,h2,hb,h3⟩:=H;refine⟨b,n,ces,rfl,by rw[hw _ _ rfl];exact h1,h2,hb,λi e ce he hc=>?_⟩
  obtain⟨h4,h5,h6,h7⟩:=h3 i e ce he hc;exact⟨h4.mono E.le,h5,h6.evo E,h7⟩
 | iter mm s seen l=>
  obtain⟨b,n,rfl,h1⟩:=H;refine⟨b,n,rfl,?_⟩;cases mm with
  | none=>exact λe=>by rw[hw _ _ rfl];exact h1 e
  | some id=>
   obtain⟨bm,nm,es,c,h2,h3,h4⟩:=h1;obtain⟨o',m',h5,h6,⟨es',c',rfl⟩,rfl⟩:=E.obj id _ _ h3 h2;exact⟨bm,nm,es',c',h6,h5,by rw[hw _ _ rfl];exact h4⟩
 | arow sh cs=>
  obtain⟨h1,h2⟩:=H;refine⟨h1,?_⟩;cases m with
  | none=>exact h2
  | some m=>
   obtain⟨b,n⟩:=m;obtain⟨c,h3,h4,h5⟩:=h2;refine⟨c,h3.keep (hw _ _ rfl),h4,λj x hx=>?_⟩
   obtain⟨v,h6,h7⟩:=h5 j x hx;exact⟨v,h6,h7.evo E⟩
structure WExt (w w':World):Prop where
 left:w.heap.size<=w'.heap.size
 right:∀b,b<w.heap.size->w'.heap[b]?=w.heap[b]?
 zz:zed w'=zed w
theorem WExt.refl (w:World):WExt w w:=⟨Nat.le_refl _,λ_ _=>rfl,rfl⟩
theorem WExt.trans {w w' w'':World}(a:WExt w w')(b:WExt w' w''):WExt w w'':=
 ⟨Nat.le_trans a.1 b.1,λx hx=>(b.2 x (Nat.lt_of_lt_of_le hx a.1)).trans (a.2 x hx),b.zz.trans a.zz⟩
theorem WExt.push (w:World)(o:Go.Obj):WExt w { w with heap:=w.heap.push o }:=
 ⟨by simp,λb hb=>by simp [Array.getElem?_push,Nat.ne_of_lt hb],rfl⟩
theorem WExt.drew (w:World)(n:Nat):WExt w { w with drawn:=n }:=⟨Nat.le_refl _,λ_ _=>rfl,rfl⟩
theorem IN {b o:Nat}{v:Value}(hv:w.cell? ⟨b,o,none⟩=some v):b<w.heap.size:=by
 rcases Nat.lt_or_ge b w.heap.size with h|h
 ·exact h
 ·unfold World.cell? at hv
  simp [Array.getElem?_eq_none h]at hv
theorem HeapRel.ext (H:HeapRel h μ w)(hw:WExt w w'):HeapRel h μ w'/\Evo (imm h μ w) h μ (imm h μ w') h μ:=by
 have E:Evo (imm h μ w) h μ (imm h μ w') h μ:=
  ⟨LP (λb o v h1 h2=>⟨h1,by rw[JN (hw.2 b (IN h2))];exact h2⟩) (λb o h1 h2=>⟨h1,by rw[hw.2 b (iJ h2)];exact h2⟩) hw.zz (λb t h=>by rw[gL (hw.2 b (BT h))];exact h),Nat.le_refl _,λ_ o m h1 h2=>⟨o,m,h1,h2,zD.refl o m⟩⟩
 exact⟨⟨H.len,λid o m h1 h2=>(H.obj id o m h1 h2).keep E λb n e=>hw.2 b (H.inside id b n (e ▸ h2)),H.distinct,λi b n hb=>Nat.lt_of_lt_of_le (H.inside i b n hb) hw.1⟩,E⟩
theorem EG {α:Type}{l:List α}{x y:α}{i:Nat}(hy:(l++[x])[i]?=some y):l[i]?=some y∨(i=l.length/\y=x):=by
 rcases Nat.lt_trichotomy i l.length with h|h|h
 ·left;rw[List.getElem?_append_left h]at hy;exact hy
 ·right;subst h;simp at hy;exact⟨rfl,hy.symm⟩
 ·rw[List.getElem?_append_right (by omega)]at hy
  have:1<=i-l.length:=by omega
  rw[List.getElem?_eq_none (by simpa using this)]at hy;cases hy
theorem nH {α:Type}{l r:List α}{y:α}{i:Nat}(hy:l[i]?=some y):(l++r)[i]?=some y:=by
 rw[List.getElem?_append_left (IA hy)];exact hy
theorem HeapRel.push (H:HeapRel h μ w)(hw:WExt w w')(o:Obj)(m:Option (Nat × Nat))(hm:∀ b n,m=some (b,n)->w.heap.size<=b/\b<w'.heap.size)
 (ho:∀M',Evo (imm h μ w) h μ M' (h++[o]) (μ++[m])->aJ M' (h++[o]) (μ++[m]) w' o m) :
 HeapRel (h++[o]) (μ++[m]) w'/\Evo (imm h μ w) h μ (imm (h++[o]) (μ++[m]) w') (h++[o]) (μ++[m]):=by
 have hO:∀b x,b<w.heap.size->PG (h++[o]) (μ++[m]) b x->PG h μ b x:=by
  rintro b x hb ⟨id,n,h1,h2⟩
  rcases EG h1 with h1|⟨_,h1⟩
  ·refine⟨id,n,h1,λsh xs fz h3=>h2 sh xs fz (nH h3)⟩
  ·have:=(hm b n h1.symm).1;omega
 have E:Evo (imm h μ w) h μ (imm (h++[o]) (μ++[m]) w') (h++[o]) (μ++[m]):=
  ⟨LP (λb x v h1 h2=>⟨λh3=>h1 (hO b x (IN h2) h3),by rw[JN (hw.2 b (IN h2))];exact h2⟩) (λb o h1 h2=>⟨(by
   rintro⟨i,n,h3⟩
   rcases EG h3 with h3|⟨_,h3⟩
   ·exact h1 ⟨i,n,h3⟩
   ·have:=(hm b n h3.symm).1;have:=iJ h2;omega),by rw[hw.2 b (iJ h2)];exact h2⟩) hw.zz (λb t h=>by rw[gL (hw.2 b (BT h))];exact h),by simp,
   λ_ o m h1 h2=>⟨o,m,nH h1,nH h2,zD.refl o m⟩⟩
 refine⟨⟨by simp [H.len],λid o' m' h1 h2=>?_,λi j b n n' h1 h2=>?_,λi b n h1=>?_⟩,E⟩
 ·rcases EG h1 with h1|⟨e,e'⟩
  ·rw[List.getElem?_append_left (by rw[H.len];exact IA h1)]at h2
   exact(H.obj id o' m' h1 h2).keep E λb n e=>hw.2 b (H.inside id b n (e ▸ h2))
  ·subst e'
   rw[e,<-H.len]at h2;simp at h2;subst h2;exact ho _ E
 ·rcases EG h1 with h1|⟨e1,e1'⟩
  ·rcases EG h2 with h2|⟨e2,e2'⟩
   ·exact H.distinct i j b n n' h1 h2
   ·have h3:=H.inside i b n h1;have:=(hm b n' e2'.symm).1;omega
  ·rcases EG h2 with h2|⟨e2,e2'⟩
   ·have h3:=H.inside j b n' h2;have:=(hm b n e1'.symm).1;omega
   ·rw[e1,e2]
 ·rcases EG h1 with h1|⟨_,h1⟩
  ·exact Nat.lt_of_lt_of_le (H.inside i b n h1) hw.1
  ·exact(hm b n h1.symm).2
theorem fG {α:Type}{l:List α}{x y:α}{i j:Nat}(hy:(l.set i x)[j]?=some y):(i≠j/\l[j]?=some y)∨(i=j/\y=x/\j<l.length):=by
 by_cases e:i=j
 ·subst e
  right;have hl:i<l.length:=by simpa using IA hy
  rw[List.getElem?_set_self hl]at hy;exact⟨rfl,by simpa using hy.symm,hl⟩
 ·left;rw[List.getElem?_set_ne e]at hy;exact⟨e,hy⟩
theorem YB {α:Type}{l:List α}{x y:α}{i:Nat}(hy:l[i]?=some y):(l.set i x)[i]?=some x:=List.getElem?_set_self (IA hy)
theorem HeapRel.set (H:HeapRel h μ w){id:Nat}{o o':Obj}{m m':Option (Nat × Nat)}(ho:h[id]?=some o)(hm:μ[id]?=some m)(hev:zD o m o' m')
 (hz:zed w'=zed w) (hsz:w.heap.size<=w'.heap.size) (hw:∀b,b<w.heap.size->(∀n,m≠some (b,n))->w'.heap[b]?=w.heap[b]?)
 (hm':∀b n,m'=some (b,n)->(∃n0,m=some (b,n0))∨(w.heap.size<=b/\b<w'.heap.size))
 (hfz:∀b n sh xs fz,m=some (b,n)->o = .row sh xs fz->∃xs' fz',o' = .row sh xs' fz'/\∀j,j<fz*gA sh->w'.cell? ⟨b,j,none⟩=w.cell? ⟨b,j,none⟩/\(∀n',m'=some (b,n')->j<fz'*gA sh))
 (hob:∀M',Evo (imm h μ w) h μ M' (h.set id o') (μ.set id m')->aJ M' (h.set id o') (μ.set id m') w' o' m')
 (hety:∀b n t,m=some (b,n)->ety w b=some t->ety w' b=some t) :
 HeapRel (h.set id o') (μ.set id m') w'/\Evo (imm h μ w) h μ (imm (h.set id o') (μ.set id m') w') (h.set id o') (μ.set id m'):=by
 have E:Evo (imm h μ w) h μ (imm (h.set id o') (μ.set id m') w') (h.set id o') (μ.set id m'):=by
  refine⟨LP (λb x v h1 h2=>?_) (λb o1 h1 h2=>⟨(by
   rintro⟨i,n,h3⟩
   rcases fG h3 with⟨_,h3⟩|⟨_,h3,_⟩
   ·exact h1 ⟨i,n,h3⟩
   ·rcases hm' b n h3.symm with⟨n0,e⟩|⟨e,_⟩
    ·exact h1 ⟨id,n0,by rw[hm,e]⟩
    ·have:=iJ h2;omega),by rw[hw b (iJ h2) (λn e=>h1 ⟨id,n,by rw[hm,e]⟩)];exact h2⟩) hz (λb t h=>by
   by_cases hmb:∃n,m=some (b,n)
   ·obtain⟨n,hn⟩:=hmb
    exact hety b n t hn h
   ·rw[gL (hw b (BT h) (λn e=>hmb ⟨n,e⟩))];exact h),by simp,λi o1 m1 h1 h2=>?_⟩
  ·have hb:=IN h2
   by_cases hmb:∃n,m=some (b,n)
   ·obtain⟨n,rfl⟩:=hmb
    have hnot:∃sh xs fz,h[id]?=some (.row sh xs fz)/\x<fz*gA sh:=by
     apply Classical.byContradiction
     intro hc;exact h1 ⟨id,n,hm,λsh xs fz h3=>by
      rcases Nat.lt_or_ge x (fz*gA sh) with h4|h4
      ·exact absurd ⟨sh,xs,fz,h3,h4⟩ hc
      ·exact h4⟩
    obtain⟨sh,xs,fz,h3,h4⟩:=hnot;rw[ho]at h3;injection h3 with h3
    obtain⟨xs',fz',rfl,h5⟩:=hfz b n sh xs fz rfl h3;obtain⟨h6,h7⟩:=h5 x h4;refine⟨?_,by rw[h6];exact h2⟩
    rintro⟨i,n',h8,h9⟩
    rcases fG h8 with⟨hne,h8⟩|⟨rfl,h8,_⟩
    ·exact hne (H.distinct id i b n n' hm h8)
    ·have:=h9 sh xs' fz' (YB ho)
     have:=h7 n' h8.symm;omega
   ·refine⟨?_,by rw[JN (hw b hb (λn e=>hmb ⟨n,e⟩))];exact h2⟩
    rintro⟨i,n',h8,h9⟩
    rcases fG h8 with⟨hne,h8⟩|⟨rfl,h8,_⟩
    ·exact h1 ⟨i,n',h8,λsh xs fz h10=>h9 sh xs fz (by rw[List.getElem?_set_ne hne];exact h10)⟩
    ·rcases hm' b n' h8.symm with⟨n0,e⟩|⟨e,_⟩
     ·exact hmb ⟨n0,e⟩
     ·omega
  ·by_cases e:id=i
   ·subst e
    rw[ho]at h1;rw[hm]at h2
    injection h1 with h1;injection h2 with h2
    subst h1;subst h2
    exact⟨o',m',YB ho,YB hm,hev⟩
   ·exact⟨o1,m1,by rw[List.getElem?_set_ne e];exact h1,by rw[List.getElem?_set_ne e];exact h2,zD.refl _ _⟩
 refine⟨⟨by simp [H.len],λi o1 m1 h1 h2=>?_,λi j b n n' h1 h2=>?_,λi b n h1=>?_⟩,E⟩
 ·rcases fG h1 with⟨hne,h1⟩|⟨rfl,rfl,_⟩
  ·rw[List.getElem?_set_ne hne]at h2
   refine(H.obj i o1 m1 h1 h2).keep E λb n e=>hw b (H.inside i b n (e ▸ h2)) λn' e'=>?_
   subst e;subst e'
   exact hne (H.distinct id i b n' n hm h2)
  ·rw[YB hm]at h2
   injection h2 with h2
   subst h2;exact hob _ E
 ·rcases fG h1 with⟨hne,h1⟩|⟨rfl,h1,_⟩
  ·rcases fG h2 with⟨hne',h2⟩|⟨rfl,h2,_⟩
   ·exact H.distinct i j b n n' h1 h2
   ·rcases hm' b n' h2.symm with⟨n0,e⟩|⟨e,_⟩
    ·subst e;exact absurd (H.distinct id i b n0 n hm h1) hne
    ·have:=H.inside i b n h1;omega
  ·rcases fG h2 with⟨hne',h2⟩|⟨rfl,h2,_⟩
   ·rcases hm' b n h1.symm with⟨n0,e⟩|⟨e,_⟩
    ·subst e;exact absurd (H.distinct id j b n0 n' hm h2) hne'
    ·have:=H.inside j b n' h2;omega
   ·rfl
 ·rcases fG h1 with⟨hne,h1⟩|⟨rfl,h1,_⟩
  ·exact Nat.lt_of_lt_of_le (H.inside i b n h1) hsz
  ·rcases hm' b n h1.symm with⟨n0,e⟩|⟨_,e⟩
   ·subst e;exact Nat.lt_of_lt_of_le (H.inside id b n0 hm) hsz
   ·exact e
theorem HeapRel.take (H:HeapRel h μ w)(n:Nat)(ht:∀ id o,h[id]?=some o->id<n->o.top<=n) :
 HeapRel (h.take n) (μ.take n) w/\(imm h μ w).le (imm (h.take n) (μ.take n) w):=by
 have get:∀{α:Type} {l:List α} {i:Nat} {y:α},(l.take n)[i]?=some y->i<n/\l[i]?=some y:=by
  intro α l i y hy;rw[List.getElem?_take]at hy;by_cases hi:i<n
  ·rw[if_pos hi]at hy;exact⟨hi,hy⟩
  ·rw[if_neg hi]at hy;cases hy
 have put:∀{α:Type} {l:List α} {i:Nat} {y:α},l[i]?=some y->i<n->(l.take n)[i]?=some y:=by
  intro α l i y hy hi;rw[List.getElem?_take,if_pos hi,hy]
 have L:(imm h μ w).le (imm (h.take n) (μ.take n) w):=LP (λb x v h1 h2=>⟨λ⟨id,k,h3,h4⟩=>h1 ⟨id,k,(get h3).2,λsh xs fz h5=>h4 sh xs fz (put h5 (get h3).1)⟩,h2⟩) (λb o h1 h2=>⟨λ⟨i,k,h3⟩=>h1 ⟨i,k,(get h3).2⟩,h2⟩) rfl (λ_ _ h=>h)
 refine⟨⟨by simp [H.len],λid o m h1 h2=>?_,λi j b k k' h1 h2=>H.distinct i j b k k' (get h1).2 (get h2).2,λi b k h1=>H.inside i b k (get h1).2⟩,L⟩
 obtain⟨hi,h1⟩:=get h1;obtain⟨_,h2⟩:=get h2;have hR:=H.obj id o m h1 h2
 have htop:=ht id o h1 hi
 cases o with
 | box cs=>
  obtain⟨b,c,rfl,hb,hc⟩:=hR;refine⟨b,c,rfl,hb,λj x hx=>?_⟩
  obtain⟨h3,v,h4,h5⟩:=hc j x hx;exact⟨h3,v,h4,h5.take L (by have:=fF hx;simp only[Obj.top]at htop;omega)⟩
 | row sh xs fz=>
  obtain⟨h3,h4,h5⟩:=hR;refine⟨h3,h4,?_⟩;cases m with
  | none=>exact h5
  | some m=>
   obtain⟨b,k⟩:=m;obtain⟨c,h6,h7,h8⟩:=h5;refine⟨c,h6,h7,λi j x y hx hy=>?_⟩
   obtain⟨v,h9,h10⟩:=h8 i j x y hx hy;exact⟨v,h9,h10.mono L⟩
 | amap es clk=>
  obtain⟨b,k,ces,rfl,h3,h4,hb,h5⟩:=hR;refine⟨b,k,ces,rfl,h3,h4,hb,λi e ce he hc=>?_⟩
  obtain⟨h6,h7,h8,h9⟩:=h5 i e ce he hc;refine⟨h6.mono L,h7,h8.take L ?_,h9⟩;have:(es.map ME.val)[i]?=some e.val:=by simp [he]
  have:=fF this;simp only[Obj.top]at htop;omega
 | iter mm s seen l=>
  obtain⟨b,k,rfl,h3⟩:=hR;refine⟨b,k,rfl,?_⟩;cases mm with
  | none=>exact h3
  | some i=>
   obtain⟨bm,nm,es,c,h4,h5,h6⟩:=h3;simp only[Obj.top]at htop;exact⟨bm,nm,es,c,put h4 (by omega),put h5 (by omega),h6⟩
 | arow sh cs=>
  obtain⟨h3,h4⟩:=hR;refine⟨h3,?_⟩;cases m with
  | none=>exact h4
  | some m=>
   obtain⟨b,k⟩:=m;obtain⟨c,h6,h7,h8⟩:=h4;refine⟨c,h6,h7,λj x hx=>?_⟩
   obtain⟨v,h9,h10⟩:=h8 j x hx;exact⟨v,h9,h10.take L (by have:=fF hx;simp only[Obj.top]at htop;omega)⟩
end
end Go.Am
