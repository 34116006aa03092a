/- Texts of the proof, laid together: PWalk, PVec, PVec2, PVec3, PVec4, MathFrac, SpBase, SpList, SpShp, SpStr, SpWalk, SpLen, SpStrs, SpFind, SpLimD, SpLim, SpLotA, SpRecD, SpGenA, SpSome, SpGenL, SpRec, SpSortRec, SpCompact, SpGenR, PMerge, SpMrgA, SpSort, SpMrgB, SpMrgC, SpMrgD, PFin, SpTxt, SpFlt1, SpFlt2, SpVec1, SpVec2, SpBld, SpVec12, SpVec13, SpVec14, SpVec15, SpVec3, SpFlt3, SpFlt4, SpFlt5, SpArg, SpFlt6, SpSortO, SpGenF. -/
import Derived.Test.YtojjldhoodnjiaaGreatDoorlawWS7
set_option linter.all false
section
/- Walks over the states of a test access port,plainly. -/
namespace Go.Am
def nxtU : List (List Nat):=[[1,0],[1,2],[3,9],[4,5],[4,5],[6,8],[6,7],[4,8],[1,2],[10,0],[11,12],[11,12],[13,15],[13,14],[11,15],[1,2]]
def stp (s t : Nat) : Nat:=(nxtU.getD s []).getD t 0
theorem zu2 {s t : Nat} (hs : s < 16) (ht : t < 2) : stp s t < 16:=by
 have key : (List.range 16).all (fun s=>(List.range 2).all fun t=>decide (stp s t < 16)) = true:=by decide
 have:=List.all_eq_true.1 key s (List.mem_range.2 hs)
 exact of_decide_eq_true (List.all_eq_true.1 this t (List.mem_range.2 ht))
def stW (s : Nat) (c : UInt8) : Nat:=stp s (c.toNat - 48)
def z4K (s : Nat) : List UInt8 → List Nat
 | []=>[]
 | c :: r=>stW s c :: z4K (stW s c) r
def endL (s : Nat) (l : List UInt8) : Nat:=l.foldl stW s
theorem z1B : ∀ (l : List UInt8) (s : Nat),(z4K s l).length = l.length
 | [],s=>rfl
 | c :: r,s=>by simp [z4K,z1B r]
theorem z68 (c : UInt8) : ∀ (l : List UInt8) (s : Nat),z4K s (l ++ [c]) = z4K s l ++ [stW (endL s l) c]
 | [],s=>rfl
 | d :: r,s=>by simp only [List.cons_append,z4K,z68 c r]; rfl
theorem zcA (s : Nat) (l : List UInt8) (c : UInt8) : endL s (l ++ [c]) = stW (endL s l) c:=by simp [endL]
theorem z2o (s : Nat) (l r : List UInt8) : endL s (l ++ r) = endL (endL s l) r:=by simp [endL]
theorem stW_lt {s : Nat} {c : UInt8} (hs : s < 16) (hc : c = 48 ∨ c = 49) : stW s c < 16:=by
 rcases hc with rfl | rfl
 ·exact zu2 hs (by decide)
 ·exact zu2 hs (by decide)
theorem zhb {c : UInt8} {l : List UInt8} (h : z0O l = true) (hc : c ∈ l) : c = 48 ∨ c = 49:=by
 have:=List.all_eq_true.1 h c hc
 simpa [zv8] using this
theorem zlY : ∀ {l : List UInt8} {s : Nat},s < 16 → z0O l = true → endL s l < 16
 | [],s,hs,_=>hs
 | c :: r,s,hs,h=>by
  have h1:=zhb h (List.mem_cons_self ..)
  exact zlY (l:=r) (stW_lt hs h1) (List.all_eq_true.2 fun x hx=>List.all_eq_true.1 h x (List.mem_cons_of_mem _ hx))
theorem zhU (s : Nat) (l : List UInt8) (h : 0 < l.length) : (z4K s l)[l.length - 1]? = some (endL s l):=by
 obtain ⟨i,c,rfl⟩ : ∃ i c,l = i ++ [c]:=⟨l.dropLast,l.getLast (by intro e; subst e; simp at h),(List.dropLast_concat_getLast _).symm⟩
 rw [z68,zcA]
 have : (z4K s i).length = i.length:=z1B i s
 simp [← this]
def rowS : Nat → List (List UInt8)
 | 0=>[[]]
 | k + 1=>(rowS k).flatMap fun s=>[s ++ [48],s ++ [49]]
theorem z19 : ∀ k,(rowS k).length = 2 ^ k
 | 0=>rfl
 | k + 1=>by
  have : ∀ l : List (List UInt8),(l.flatMap fun s=>[s ++ [48],s ++ [49]]).length = 2 * l.length:=by
   intro l
   induction l with
   | nil=>rfl
   | cons a r ih=>simp [ih]; omega
  simp only [rowS,this,z19 k,Nat.pow_succ]
  omega
theorem z7g : ∀ {k : Nat} {s : List UInt8},s ∈ rowS k → z0O s = true ∧ s.length = k
 | 0,s,h=>by simp [rowS] at h; subst h; exact ⟨rfl,rfl⟩
 | k + 1,s,h=>by
  simp only [rowS,List.mem_flatMap] at h
  obtain ⟨t,ht,hs⟩:=h
  obtain ⟨h1,h2⟩:=z7g ht
  have : ∀ c : UInt8,c = 48 ∨ c = 49 → z0O (t ++ [c]) = true:=fun c hc=>by
   unfold z0O at h1 ⊢
   rw [List.all_append,h1]
   rcases hc with rfl | rfl <;> rfl
  simp only [List.mem_cons,List.not_mem_nil,or_false] at hs
  rcases hs with rfl | rfl
  ·exact ⟨this _ (.inl rfl),by simp [h2]⟩
  ·exact ⟨this _ (.inr rfl),by simp [h2]⟩
def wayF (a b : Nat) : Nat → Nat → Option (List UInt8)
 | 0,_=>none
 | n + 1,k=>match (rowS k).find? fun s=>endL a s == b with
  | some s=>some s
  | none=>wayF a b n (k + 1)
theorem zae {a b : Nat} {w : List UInt8} : ∀ {n k : Nat},wayF a b n k = some w → ∃ kw,k ≤ kw ∧ kw < k + n ∧ (rowS kw).find? (fun s=>endL a s == b) = some w ∧ ∀ j,k ≤ j → j < kw → (rowS j).find? (fun s=>endL a s == b) = none
 | 0,k,h=>by cases h
 | n + 1,k,h=>by
  unfold wayF at h
  split at h
  ·rename_i s hs
   cases h
   exact ⟨k,by omega,by omega,hs,fun j h1 h2=>by omega⟩
  ·rename_i hs
   obtain ⟨kw,h1,h2,h3,h4⟩:=zae h
   refine ⟨kw,by omega,by omega,h3,fun j h5 h6=>?_⟩
   rcases Nat.lt_or_ge k j with h7 | h7
   ·exact h4 j h7 h6
   ·rw [show j = k by omega]; exact hs
theorem zd5 {a b : Nat} {w : List UInt8} {n : Nat} (h : wayF a b n 0 = some w) : ∃ kw,kw < n ∧ (rowS kw).find? (fun s=>endL a s == b) = some w ∧ ∀ j,j < kw → (rowS j).find? (fun s=>endL a s == b) = none:=by
 obtain ⟨kw,_,h2,h3,h4⟩:=zae h
 exact ⟨kw,by omega,h3,fun j hj=>h4 j (by omega) hj⟩
theorem z98 {α : Type} {p : α → Bool} : ∀ {l : List α} {i : Nat} {s : α},(∀ x ∈ l.take i,p x = false) → l[i]? = some s → p s = true → l.find? p = some s
 | [],i,s,_,h,_=>by simp at h
 | a :: r,0,s,_,h,hp=>by
  simp only [List.getElem?_cons_zero,Option.some.injEq] at h
  subst h
  simp [hp]
 | a :: r,i + 1,s,hn,h,hp=>by
  have h1 : p a = false:=hn a (by simp)
  have:=z98 (l:=r) (i:=i) (s:=s) (fun x hx=>hn x (by simp [hx])) (by simpa using h) hp
  simp [h1,this]
theorem zcK {α : Type} {p : α → Bool} {l : List α} (h : ∀ x ∈ l,p x = false) : l.find? p = none:=List.find?_eq_none.2 fun x hx=>by simp [h x hx]
def frS : List Nat:=[0,1,6,13,5,12]
def toS : List Nat:=[0,1,6,13,4,11]
end Go.Am
end
section
/- Programs of vectors,plainly: what is wrong with commands; what the reference makes of them,and what the program does. -/
namespace Go.Am
structure Cmd where
 k : Int
 s : Int
 cl : Int
 b : List UInt8
 w : List UInt8
 m : List UInt8
 deriving DecidableEq
def z05 (n : Int) : Bool:=n == 0 || n == 1 || n == 6 || n == 13
def z28 (c : Cmd) : Nat:=
 if c.b = [] then 8 else if !z0O c.b then 9 else if 2000 < c.b.length then 2
 else if c.w ≠ [] ∧ (c.w.length ≠ c.b.length ∨ c.m.length ≠ c.b.length) then 3
 else if !z0O c.w || !z0O c.m then 9 else if c.w = [] ∧ c.m ≠ [] then 3 else 0
def cmdF (c : Cmd) : Nat:=
 if c.k = 1 ∨ c.k = 2 ∨ c.k = 10 then (if !z05 c.s then 1 else if c = ⟨c.k,c.s,0,[],[],[]⟩ then 0 else 3)
 else if c.k = 9 then (if c.cl < 0 ∨ 20000 < c.cl then 1 else if c = ⟨c.k,0,c.cl,[],[],[]⟩ then 0 else 3)
 else if c.k = 7 ∨ c.k = 8 then (if z28 c ≠ 0 then z28 c else if c = ⟨c.k,0,0,c.b,c.w,c.m⟩ then 0 else 3)
 else if 3 ≤ c.k ∧ c.k ≤ 6 then (if !z0O c.b then 9 else if 2000 < c.b.length then 2 else if c = ⟨c.k,0,0,c.b,[],[]⟩ then 0 else 3)
 else 4
def z5b : List Cmd → Nat
 | []=>0
 | c :: r=>if cmdF c ≠ 0 then cmdF c else z5b r
def idleC : Cmd:=⟨0,1,0,[],[],[]⟩
def setC (l : List Cmd) (k : Int) : Cmd:=(l.reverse.find? fun c=>c.k == k).getD idleC
structure Part where
 tms : List UInt8
 tdi : List UInt8
 want : List UInt8
 fr : Nat
 st : Nat
def zs (n : Nat) : List UInt8:=List.replicate n 48
def xsL (n : Nat) : List UInt8:=List.replicate n 120
def z32 (c : Cmd) (i : Nat) : UInt8:=if c.m[i]? = some 49 then (c.w[i]?).getD 0 else 120
def expC (c : Cmd) : List UInt8:=(List.range c.b.length).map (z32 c)
def padP (p : Part) : Part:={ p with tdi:=p.tdi ++ zs (p.tms.length - p.tdi.length),want:=p.want ++ xsL (p.tms.length - p.want.length) }
variable (path : Nat → Nat → List UInt8)
def z1k (c : Cmd) (state sh ex : Nat) (hd tl : List UInt8) (en : Nat) : Part:=
 {
  tms:=path state sh ++ zs ((hd ++ c.b ++ tl).length - 1) ++ [49] ++ path ex en
  tdi:=zs (path state sh).length ++ (hd ++ c.b ++ tl)
  want:=xsL ((path state sh).length + hd.length) ++ expC c
  fr:=(path state sh).length + hd.length
  st:=en }
def z0K (pre : List Cmd) (c : Cmd) (state : Nat) : Part:=
 padP (if c.k = 10 then ⟨path state c.s.toNat,[],[],0,c.s.toNat⟩
  else if c.k = 9 then ⟨path state 1 ++ zs c.cl.toNat,[],[],0,1⟩
  else if c.k = 7 then z1k path c state 11 12 (setC pre 3).b (setC pre 4).b (setC pre 1).s.toNat
  else if c.k = 8 then z1k path c state 4 5 (setC pre 5).b (setC pre 6).b (setC pre 2).s.toNat
  else ⟨[],[],[],0,state⟩)
def z0o (pre : List Cmd) (state : Nat) : List Cmd → List Part
 | []=>[]
 | c :: r=>z0K path pre c state :: z0o (pre ++ [c]) (z0K path pre c state).st r
def sigT (l : List Part) : List UInt8:=l.flatMap Part.tms
def sigI (l : List Part) : List UInt8:=l.flatMap Part.tdi
def sigW (l : List Part) : List UInt8:=l.flatMap Part.want
def z1K (l : List Cmd) : Nat:=if 1000 < l.length then 2 else if z5b l ≠ 0 then z5b l else if 20000 < (sigT (z0o path [] 0 l)).length then 2 else 0
structure Sett where
 e1 : Cmd
 e2 : Cmd
 h1 : Cmd
 t1 : Cmd
 h2 : Cmd
 t2 : Cmd
def z22 : Sett:=⟨⟨1,1,0,[],[],[]⟩,⟨2,1,0,[],[],[]⟩,⟨3,0,0,[],[],[]⟩,⟨4,0,0,[],[],[]⟩,⟨5,0,0,[],[],[]⟩,⟨6,0,0,[],[],[]⟩⟩
def Sett.put (s : Sett) (c : Cmd) : Sett:=
 if c.k = 1 then { s with e1:=c } else if c.k = 2 then { s with e2:=c } else if c.k = 3 then { s with h1:=c } else if c.k = 4 then { s with t1:=c } else if c.k = 5 then { s with h2:=c } else { s with t2:=c }
structure Run where
 se : Sett
 st : Nat
 ck : Nat
 ni : Nat
 nd : Nat
 sts : List Nat
 frs : List Nat
 tms : List UInt8
 tdi : List UInt8
 want : List UInt8
 wr : Bool
def Run.clk (r : Run) (l : List (UInt8 × UInt8 × UInt8)) : Run:=
 if r.wr then { r with ck:=r.ck + l.length,tms:=r.tms ++ l.map (·.1),tdi:=r.tdi ++ l.map (·.2.1),want:=r.want ++ l.map (·.2.2) } else { r with ck:=r.ck + l.length }
def Run.go (r : Run) (tov : Nat) : Run:={ r.clk ((path r.st tov).map fun c=>(c,48,120)) with st:=tov }
def z0L (c : Cmd) (hd al : List UInt8) : List (UInt8 × UInt8 × UInt8):=
 (List.range al.length).map fun i=>(if i = al.length - 1 then 49 else 48,(al[i]?).getD 0,if hd.length ≤ i then (if i - hd.length < c.m.length then z32 c (i - hd.length) else 120) else 120)
def Run.scn (r : Run) (c : Cmd) : Run:=
 let (hd,tl,en,sh,ex):=if c.k = 7 then (r.se.h1.b,r.se.t1.b,r.se.e1.s,11,12) else (r.se.h2.b,r.se.t2.b,r.se.e2.s,4,5)
 let r1:=r.go path sh
 let r2:=if c.k = 7 then { r1 with ni:=r1.ni + (hd ++ c.b ++ tl).length } else { r1 with nd:=r1.nd + (hd ++ c.b ++ tl).length }
 Run.go path { r2.clk (z0L c hd (hd ++ c.b ++ tl)) with st:=ex } en.toNat
def Run.scnF (r : Run) (c : Cmd) : Nat:=
 if c.k = 7 then (r.go path 11).ck + r.se.h1.b.length else (r.go path 4).ck + r.se.h2.b.length
def Run.step (r : Run) (c : Cmd) : Run:=
 let (r',f):=if 1 ≤ c.k ∧ c.k ≤ 6 then ({ r with se:=r.se.put c },0)
  else if c.k = 7 ∨ c.k = 8 then (r.scn path c,r.scnF path c)
  else if c.k = 9 then ((r.go path 1).clk (List.replicate c.cl.toNat (48,48,120)),0)
  else (r.go path c.s.toNat,0)
 { r' with sts:=r'.sts ++ [r'.st],frs:=r'.frs ++ [f] }
def Run.play (r : Run) : List Cmd → Run
 | []=>r
 | c :: l=>if 20000 < r.ck then r else (r.step path c).play l
def run0 (wr : Bool) : Run:=⟨z22,0,0,0,0,[],[],[],[],[],wr⟩
end Go.Am
end
section
/- The program and the reference agree on the signals of right commands. -/
namespace Go.Am
variable (path : Nat → Nat → List UInt8)
theorem z07 (l : List Cmd) (c : Cmd) (k : Int) : setC (l ++ [c]) k = if c.k = k then c else setC l k:=by
 unfold setC
 rw [List.reverse_append,List.reverse_singleton,List.singleton_append,List.find?_cons]
 by_cases h : c.k = k
 ·simp [h]
 ·have : (c.k == k) = false:=by simpa using h
  simp [this,h]
inductive Kinds (c : Cmd) : Prop where
 | set (h : c.k = 1 ∨ c.k = 2) (hs : z05 c.s = true) (e : c = ⟨c.k,c.s,0,[],[],[]⟩)
 | go (h : c.k = 10) (hs : z05 c.s = true) (e : c = ⟨c.k,c.s,0,[],[],[]⟩)
 | idle (h : c.k = 9) (h0 : 0 ≤ c.cl) (h1 : c.cl ≤ 20000) (e : c = ⟨c.k,0,c.cl,[],[],[]⟩)
 | scan (h : c.k = 7 ∨ c.k = 8) (hs : z28 c = 0) (e : c = ⟨c.k,0,0,c.b,c.w,c.m⟩)
 | pad (h0 : 3 ≤ c.k) (h1 : c.k ≤ 6) (hb : z0O c.b = true) (hl : c.b.length ≤ 2000) (e : c = ⟨c.k,0,0,c.b,[],[]⟩)
theorem z0M {c : Cmd} (h : cmdF c = 0) : Kinds c:=by
 unfold cmdF at h
 split at h
 ·rename_i hk
  split at h
  ·cases h
  rename_i hs
  split at h
  ·rename_i e
   have hs : z05 c.s = true:=by simpa using hs
   rcases hk with hk | hk | hk
   ·exact .set (.inl hk) hs e
   ·exact .set (.inr hk) hs e
   ·exact .go hk hs e
  ·cases h
 split at h
 ·rename_i hk
  split at h
  ·cases h
  split at h
  ·exact .idle hk (by omega) (by omega) (by assumption)
  ·cases h
 split at h
 ·rename_i hk
  split at h
  ·rename_i h1; exact absurd h h1
  split at h
  ·rename_i h1 e; exact .scan hk (by omega) e
  ·cases h
 split at h
 ·rename_i hk
  split at h
  ·cases h
  split at h
  ·cases h
  split at h
  ·rename_i hb _ e; exact .pad hk.1 hk.2 (by simpa using hb) (by omega) e
  ·cases h
 ·cases h
theorem z2i {c : Cmd} (h : z28 c = 0) : c.b ≠ [] ∧ z0O c.b = true ∧ c.b.length ≤ 2000 ∧ z0O c.w = true ∧ z0O c.m = true ∧ ((c.w = [] ∧ c.m = []) ∨ (c.w.length = c.b.length ∧ c.m.length = c.b.length)):=by
 unfold z28 at h
 split at h
 ·cases h
 split at h
 ·cases h
 split at h
 ·cases h
 split at h
 ·cases h
 split at h
 ·cases h
 split at h
 ·cases h
 rename_i h1 h2 h3 h4 h5 h6
 simp only [Bool.or_eq_true,Bool.not_eq_true',not_or,Bool.not_eq_false] at h5
 refine ⟨h1,by simpa using h2,by omega,h5.1,h5.2,?_⟩
 by_cases hw : c.w = []
 ·exact .inl ⟨hw,Classical.byContradiction fun hm=>h6 ⟨hw,hm⟩⟩
 ·exact .inr ⟨Classical.byContradiction fun e=>h4 ⟨hw,.inl e⟩,Classical.byContradiction fun e=>h4 ⟨hw,.inr e⟩⟩
def stb : List Nat:=[0,1,6,13]
theorem z0v {n : Int} (h : z05 n = true) : n.toNat ∈ stb ∧ (n.toNat : Int) = n:=by
 unfold z05 at h
 simp only [Bool.or_eq_true,beq_iff_eq] at h
 rcases h with ((rfl | rfl) | rfl) | rfl <;> decide
structure RelV (pre : List Cmd) (r : Run) (ps : List Part) (state : Nat) : Prop where
 st : r.st = state
 sb : state ∈ stb
 e1 : r.se.e1.s = (setC pre 1).s
 e2 : r.se.e2.s = (setC pre 2).s
 h1 : r.se.h1.b = (setC pre 3).b
 t1 : r.se.t1.b = (setC pre 4).b
 h2 : r.se.h2.b = (setC pre 5).b
 t2 : r.se.t2.b = (setC pre 6).b
 s1 : z05 (setC pre 1).s = true
 s2 : z05 (setC pre 2).s = true
 b1 : ∀ k,3 ≤ k → k ≤ 6 → z0O (setC pre k).b = true ∧ (setC pre k).b.length ≤ 2000
 ck : r.ck = (sigT ps).length
 sts : r.sts = ps.map Part.st
 sig : r.wr = true → r.tms = sigT ps ∧ r.tdi = sigI ps ∧ r.want = sigW ps
theorem rel0 (wr : Bool) : RelV [] (run0 wr) [] 0 where
 st:=rfl
 sb:=by decide
 e1:=rfl
 e2:=rfl
 h1:=rfl
 t1:=rfl
 h2:=rfl
 t2:=rfl
 s1:=rfl
 s2:=rfl
 b1:=fun k _ _=>⟨rfl,Nat.zero_le _⟩
 ck:=rfl
 sts:=rfl
 sig:=fun _=>⟨rfl,rfl,rfl⟩
theorem z1L (r : Run) (l : List (UInt8 × UInt8 × UInt8)) : (r.clk l).se = r.se ∧ (r.clk l).st = r.st ∧ (r.clk l).sts = r.sts ∧ (r.clk l).frs = r.frs ∧ (r.clk l).wr = r.wr ∧ (r.clk l).ck = r.ck + l.length ∧ (r.clk l).ni = r.ni ∧ (r.clk l).nd = r.nd:=by
 unfold Run.clk; split <;> exact ⟨rfl,rfl,rfl,rfl,rfl,rfl,rfl,rfl⟩
theorem zdR {r : Run} (h : r.wr = true) (l : List (UInt8 × UInt8 × UInt8)) : (r.clk l).tms = r.tms ++ l.map (·.1) ∧ (r.clk l).tdi = r.tdi ++ l.map (·.2.1) ∧ (r.clk l).want = r.want ++ l.map (·.2.2):=by
 unfold Run.clk; rw [if_pos h]; exact ⟨rfl,rfl,rfl⟩
theorem zh3 (l : List UInt8) : (l.map fun c=>((c,48,120) : UInt8 × UInt8 × UInt8)).map (·.1) = l ∧ (l.map fun c=>((c,48,120) : UInt8 × UInt8 × UInt8)).map (·.2.1) = zs l.length ∧ (l.map fun c=>((c,48,120) : UInt8 × UInt8 × UInt8)).map (·.2.2) = xsL l.length:=by
 refine ⟨by rw [List.map_map]; exact List.map_id l,?_,?_⟩
 ·unfold zs; rw [List.map_map]; exact List.map_const' ..
 ·unfold xsL; rw [List.map_map]; exact List.map_const' ..
theorem zw0 (c : Cmd) (hd al : List UInt8) (h : al ≠ []) : (z0L c hd al).map (·.1) = zs (al.length - 1) ++ [49]:=by
 have hpos:=List.length_pos_iff.2 h
 unfold z0L zs
 rw [List.map_map]
 apply List.ext_getElem
 ·simp; omega
 ·intro i h1 h2
  simp at h1
  simp only [List.getElem_map,List.getElem_range,Function.comp]
  by_cases hi : i = al.length - 1
  ·subst hi; simp
  ·rw [if_neg hi,List.getElem_append_left (by simp; omega)]; simp
theorem zw1 (c : Cmd) (hd al : List UInt8) : (z0L c hd al).map (·.2.1) = al:=by
 unfold z0L
 rw [List.map_map]
 apply List.ext_getElem
 ·simp
 ·intro i h1 h2
  simp [h2]
theorem zw2 (c : Cmd) (hd tl : List UInt8) (hm : c.m.length ≤ c.b.length) : (z0L c hd (hd ++ c.b ++ tl)).map (·.2.2) = xsL hd.length ++ expC c ++ xsL tl.length:=by
 unfold z0L xsL expC
 rw [List.map_map]
 apply List.ext_getElem
 ·simp <;> omega
 ·intro i h1 h2
  simp only [List.length_map,List.length_range,List.length_append] at h1
  simp only [List.getElem_map,List.getElem_range,Function.comp]
  have hx : ∀ j,c.m.length ≤ j → z32 c j = 120:=fun j hj=>by unfold z32; rw [List.getElem?_eq_none hj]; rfl
  by_cases h3 : hd.length ≤ i
  ·rw [if_pos h3]
   by_cases h4 : i - hd.length < c.b.length
   ·rw [List.getElem_append_left (by simp; omega),List.getElem_append_right (by simp; omega)]
    simp only [List.length_replicate,List.getElem_map,List.getElem_range]
    split
    ·rfl
    ·rw [hx _ (by omega)]
   ·rw [List.getElem_append_right (by simp; omega)]
    simp only [List.getElem_replicate]
    rw [if_neg (by omega)]
  ·rw [if_neg h3,List.getElem_append_left (by simp; omega),List.getElem_append_left (by simp; omega)]
   simp
theorem z1X (c : Cmd) (hd al : List UInt8) : (z0L c hd al).length = al.length:=by simp [z0L]
theorem z6b (c : Cmd) (state sh ex : Nat) (hd tl : List UInt8) (en : Nat) (hb : c.b ≠ []) :
 padP (z1k path c state sh ex hd tl en) =
  {
   tms:=path state sh ++ (zs ((hd ++ c.b ++ tl).length - 1) ++ [49]) ++ path ex en
   tdi:=zs (path state sh).length ++ (hd ++ c.b ++ tl) ++ zs (path ex en).length
   want:=xsL (path state sh).length ++ (xsL hd.length ++ expC c ++ xsL tl.length) ++ xsL (path ex en).length
   fr:=(path state sh).length + hd.length
   st:=en }:=by
 have hpos:=List.length_pos_iff.2 hb
 have hz : ∀ n,(zs n).length = n:=fun n=>by simp [zs]
 have hx : ∀ n,(xsL n).length = n:=fun n=>by simp [xsL]
 have hxa : ∀ a b,xsL a ++ xsL b = xsL (a + b):=fun a b=>by unfold xsL; rw [List.replicate_append_replicate]
 have he : (expC c).length = c.b.length:=by simp [expC]
 unfold padP z1k
 simp only [Part.mk.injEq,and_true]
 refine ⟨by simp only [List.append_assoc],?_,?_⟩
 ·congr 2
  simp only [List.length_append,hz,List.length_singleton]
  omega
 ·have e : (path state sh ++ zs ((hd ++ c.b ++ tl).length - 1) ++ [49] ++ path ex en).length - (xsL ((path state sh).length + hd.length) ++ expC c).length = tl.length + (path ex en).length:=by
   simp only [List.length_append,hz,hx,he,List.length_singleton]
   omega
  rw [e,← hxa,← hxa]
  simp only [List.append_assoc]
theorem z7i (ps : List Part) (p : Part) : sigT (ps ++ [p]) = sigT ps ++ p.tms ∧ sigI (ps ++ [p]) = sigI ps ++ p.tdi ∧ sigW (ps ++ [p]) = sigW ps ++ p.want:=by
 simp [sigT,sigI,sigW]
theorem zeg (w : List UInt8) (n : Nat) (st : Nat) : padP ⟨w ++ zs n,[],[],0,st⟩ = ⟨w ++ zs n,zs w.length ++ zs n,xsL w.length ++ xsL n,0,st⟩:=by
 have hz : ∀ n,(zs n).length = n:=fun n=>by simp [zs]
 unfold padP
 simp only [List.length_append,hz,List.nil_append,List.length_nil,Nat.sub_zero,Part.mk.injEq,true_and,and_true]
 exact ⟨by unfold zs; rw [List.replicate_append_replicate],by unfold xsL; rw [List.replicate_append_replicate]⟩
theorem zfX (w : List UInt8) (st : Nat) : padP ⟨w,[],[],0,st⟩ = ⟨w,zs w.length,xsL w.length,0,st⟩:=by
 have:=zeg w 0 st
 simpa [zs,xsL] using this
theorem z0x (r : Run) (tov : Nat) : (r.go path tov).se = r.se ∧ (r.go path tov).st = tov ∧ (r.go path tov).sts = r.sts ∧ (r.go path tov).frs = r.frs ∧ (r.go path tov).wr = r.wr ∧ (r.go path tov).ck = r.ck + (path r.st tov).length ∧ (r.go path tov).ni = r.ni ∧ (r.go path tov).nd = r.nd:=by
 obtain ⟨a,b,c,d,e,f,g,h⟩:=z1L r ((path r.st tov).map fun c=>(c,48,120))
 unfold Run.go
 exact ⟨a,rfl,c,d,e,by rw [show ({ r.clk ((path r.st tov).map fun c=>(c,48,120)) with st:=tov } : Run).ck = _ from rfl,f,List.length_map],g,h⟩
theorem zfG {r : Run} (h : r.wr = true) (tov : Nat) : (r.go path tov).tms = r.tms ++ path r.st tov ∧ (r.go path tov).tdi = r.tdi ++ zs (path r.st tov).length ∧ (r.go path tov).want = r.want ++ xsL (path r.st tov).length:=by
 obtain ⟨a,b,c⟩:=zdR h ((path r.st tov).map fun c=>(c,48,120))
 obtain ⟨x,y,z⟩:=zh3 (path r.st tov)
 unfold Run.go
 exact ⟨by rw [← x]; exact x.symm ▸ a,by rw [y] at b; exact b,by rw [z] at c; exact c⟩
end Go.Am
end
section
/- One command: both sides keep agreeing; a whole program. -/
namespace Go.Am
variable (path : Nat → Nat → List UInt8)
theorem z13 {r : Run} {c : Cmd} (h : 1 ≤ c.k ∧ c.k ≤ 6) : r.step path c = { r with se:=r.se.put c,sts:=r.sts ++ [r.st],frs:=r.frs ++ [0] }:=by
 unfold Run.step; simp only [if_pos h]
theorem z2a {r : Run} {c : Cmd} (h : c.k = 7 ∨ c.k = 8) : r.step path c = { r.scn path c with sts:=(r.scn path c).sts ++ [(r.scn path c).st],frs:=(r.scn path c).frs ++ [r.scnF path c] }:=by
 unfold Run.step; rw [if_neg (by omega),if_pos h]
theorem z1I {r : Run} {c : Cmd} (h : c.k = 9) : r.step path c = { (r.go path 1).clk (List.replicate c.cl.toNat (48,48,120)) with sts:=((r.go path 1).clk (List.replicate c.cl.toNat (48,48,120))).sts ++ [((r.go path 1).clk (List.replicate c.cl.toNat (48,48,120))).st],frs:=((r.go path 1).clk (List.replicate c.cl.toNat (48,48,120))).frs ++ [0] }:=by
 unfold Run.step; rw [if_neg (by omega),if_neg (by omega),if_pos h]
theorem z4t {r : Run} {c : Cmd} (h : c.k = 10) : r.step path c = { r.go path c.s.toNat with sts:=(r.go path c.s.toNat).sts ++ [(r.go path c.s.toNat).st],frs:=(r.go path c.s.toNat).frs ++ [0] }:=by
 unfold Run.step; rw [if_neg (by omega),if_neg (by omega),if_neg (by omega)]
theorem z2w {pre : List Cmd} {c : Cmd} {state : Nat} (h : c.k ≤ 6) : z0K path pre c state = ⟨[],[],[],0,state⟩:=by
 unfold z0K
 rw [if_neg (by omega),if_neg (by omega),if_neg (by omega),if_neg (by omega)]; rfl
theorem z81 {pre : List Cmd} {c : Cmd} {state : Nat} (h : c.k = 10) : z0K path pre c state = ⟨path state c.s.toNat,zs (path state c.s.toNat).length,xsL (path state c.s.toNat).length,0,c.s.toNat⟩:=by
 unfold z0K
 rw [if_pos h,zfX]
theorem z4m {pre : List Cmd} {c : Cmd} {state : Nat} (h : c.k = 9) : z0K path pre c state = ⟨path state 1 ++ zs c.cl.toNat,zs (path state 1).length ++ zs c.cl.toNat,xsL (path state 1).length ++ xsL c.cl.toNat,0,1⟩:=by
 unfold z0K
 rw [if_neg (by omega),if_pos h,zeg]
def Adds (r r' : Run) (p : Part) : Prop:=
 r'.ck = r.ck + p.tms.length ∧ (r'.wr = r.wr) ∧ (r.wr = true → r'.tms = r.tms ++ p.tms ∧ r'.tdi = r.tdi ++ p.tdi ∧ r'.want = r.want ++ p.want) ∧ r'.sts = r.sts ++ [p.st] ∧ r'.st = p.st
theorem zaI {pre pre' : List Cmd} {r r' : Run} {ps : List Part} {state : Nat} {p : Part} (H : RelV pre r ps state) (A : Adds r r' p) (hb : p.st ∈ stb)
 (e1 : r'.se.e1.s = (setC pre' 1).s) (e2 : r'.se.e2.s = (setC pre' 2).s) (h1 : r'.se.h1.b = (setC pre' 3).b) (t1 : r'.se.t1.b = (setC pre' 4).b) (h2 : r'.se.h2.b = (setC pre' 5).b) (t2 : r'.se.t2.b = (setC pre' 6).b)
 (s1 : z05 (setC pre' 1).s = true) (s2 : z05 (setC pre' 2).s = true) (b1 : ∀ k,3 ≤ k → k ≤ 6 → z0O (setC pre' k).b = true ∧ (setC pre' k).b.length ≤ 2000) :
 RelV pre' r' (ps ++ [p]) p.st:=by
 obtain ⟨a1,a2,a3,a4,a5⟩:=A
 obtain ⟨q1,q2,q3⟩:=z7i ps p
 exact ⟨a5,hb,e1,e2,h1,t1,h2,t2,s1,s2,b1,by rw [a1,q1,List.length_append,H.ck],by rw [a4,H.sts,List.map_append]; rfl,fun hw=>by
  rw [a2] at hw
  obtain ⟨x,y,z⟩:=a3 hw
  obtain ⟨u,v,w⟩:=H.sig hw
  exact ⟨by rw [x,q1,u],by rw [y,q2,v],by rw [z,q3,w]⟩⟩
theorem z7f {pre : List Cmd} {r r' : Run} {ps : List Part} {state : Nat} {p : Part} {c : Cmd} (H : RelV pre r ps state) (A : Adds r r' p) (hb : p.st ∈ stb) (hs : r'.se = r.se) (hk : ¬ (1 ≤ c.k ∧ c.k ≤ 6)) :
 RelV (pre ++ [c]) r' (ps ++ [p]) p.st:=by
 have hn : ∀ k : Int,1 ≤ k → k ≤ 6 → setC (pre ++ [c]) k = setC pre k:=fun k h1 h2=>by rw [z07,if_neg (by omega)]
 refine zaI H A hb ?_ ?_ ?_ ?_ ?_ ?_ ?_ ?_ ?_
 ·rw [hs,hn 1 (by omega) (by omega),H.e1]
 ·rw [hs,hn 2 (by omega) (by omega),H.e2]
 ·rw [hs,hn 3 (by omega) (by omega),H.h1]
 ·rw [hs,hn 4 (by omega) (by omega),H.t1]
 ·rw [hs,hn 5 (by omega) (by omega),H.h2]
 ·rw [hs,hn 6 (by omega) (by omega),H.t2]
 ·rw [hn 1 (by omega) (by omega)]; exact H.s1
 ·rw [hn 2 (by omega) (by omega)]; exact H.s2
 ·intro k h1 h2; rw [hn k (by omega) (by omega)]; exact H.b1 k h1 h2
theorem zgx {r : Run} {c : Cmd} (hb : c.b ≠ []) (hm : c.m.length ≤ c.b.length) (hd tl : List UInt8) (sh ex en n1 n2 : Nat) (f : Nat) (p : Part) (hp : p = padP (z1k path c r.st sh ex hd tl en)) (r2 : Run)
 (h2 : r2 = { r.go path sh with ni:=n1,nd:=n2 }) (r3 : Run) (h3 : r3 = Run.go path { r2.clk (z0L c hd (hd ++ c.b ++ tl)) with st:=ex } en) :
 Adds r { r3 with sts:=r3.sts ++ [r3.st],frs:=r3.frs ++ [f] } p ∧ r3.se = r.se:=by
 obtain ⟨g1,g2,g3,g4,g5,g6,_,_⟩:=z0x path r sh
 have ne : hd ++ c.b ++ tl ≠ []:=by simp [hb]
 obtain ⟨k1,k2,k3,k4,k5,k6,_,_⟩:=z1L r2 (z0L c hd (hd ++ c.b ++ tl))
 obtain ⟨m1,m2,m3,m4,m5,m6,_,_⟩:=z0x path { r2.clk (z0L c hd (hd ++ c.b ++ tl)) with st:=ex } en
 rw [← h3] at m1 m2 m3 m4 m5 m6
 have pr:=z6b path c r.st sh ex hd tl en hb
 rw [← hp] at pr
 subst pr
 have hz : ∀ n,(zs n).length = n:=fun n=>by simp [zs]
 have a1 : r2.se = r.se:=by rw [h2]; exact g1
 have a3 : r2.sts = r.sts:=by rw [h2]; exact g3
 have a5 : r2.wr = r.wr:=by rw [h2]; exact g5
 have a6 : r2.ck = r.ck + (path r.st sh).length:=by rw [h2]; exact g6
 have hpos : 0 < (hd ++ c.b ++ tl).length:=List.length_pos_iff.2 ne
 refine ⟨⟨?_,?_,?_,?_,m2⟩,?_⟩
 ·show r3.ck = _
  rw [m6]
  show (r2.clk _).ck + _ = _
  rw [k6,a6,z1X]
  simp only [List.length_append,hz,List.length_singleton]
  simp only [List.length_append] at hpos
  omega
 ·show r3.wr = _
  rw [m5]
  show (r2.clk _).wr = _
  rw [k5,a5]
 ·intro hw
  have hw2 : r2.wr = true:=by rw [a5]; exact hw
  obtain ⟨u1,u2,u3⟩:=zfG path hw sh
  obtain ⟨v1,v2,v3⟩:=zdR hw2 (z0L c hd (hd ++ c.b ++ tl))
  have hw3 : ({ r2.clk (z0L c hd (hd ++ c.b ++ tl)) with st:=ex } : Run).wr = true:=by show (r2.clk _).wr = _; rw [k5]; exact hw2
  obtain ⟨w1,w2,w3⟩:=zfG path hw3 en
  rw [← h3] at w1 w2 w3
  have b1 : r2.tms = r.tms ++ path r.st sh:=by rw [h2]; exact u1
  have b2 : r2.tdi = r.tdi ++ zs (path r.st sh).length:=by rw [h2]; exact u2
  have b3 : r2.want = r.want ++ xsL (path r.st sh).length:=by rw [h2]; exact u3
  refine ⟨?_,?_,?_⟩
  ·show r3.tms = _
   rw [w1]; show (r2.clk _).tms ++ path ex en = _
   rw [v1,b1,zw0 c hd _ ne]; simp only [List.append_assoc]
  ·show r3.tdi = _
   rw [w2]; show (r2.clk _).tdi ++ zs (path ex en).length = _
   rw [v2,b2,zw1]; simp only [List.append_assoc]
  ·show r3.want = _
   rw [w3]; show (r2.clk _).want ++ xsL (path ex en).length = _
   rw [v3,b3,zw2 c hd tl hm]; simp only [List.append_assoc]
 ·show r3.sts ++ [r3.st] = _
  rw [m3,m2]; show (r2.clk _).sts ++ _ = _
  rw [k3,a3]
 ·rw [m1]; show (r2.clk _).se = _
  rw [k1,a1]
theorem zg0 {pre : List Cmd} {r : Run} {ps : List Part} {state : Nat} (H : RelV pre r ps state) {c : Cmd} (hc : cmdF c = 0) :
 RelV (pre ++ [c]) (r.step path c) (ps ++ [z0K path pre c state]) (z0K path pre c state).st:=by
 have hst:=H.st
 subst hst
 have setf : ∀ (h : 1 ≤ c.k ∧ c.k ≤ 6),Adds r (r.step path c) (z0K path pre c r.st) ∧ (z0K path pre c r.st).st ∈ stb:=fun h=>by
  rw [z13 path h,z2w path h.2]
  exact ⟨⟨rfl,rfl,fun _=>⟨(List.append_nil _).symm,(List.append_nil _).symm,(List.append_nil _).symm⟩,rfl,rfl⟩,H.sb⟩
 have hput : ∀ (h : 1 ≤ c.k ∧ c.k ≤ 6),(r.step path c).se = r.se.put c:=fun h=>by rw [z13 path h]
 cases z0M hc with
 | set h hs e=>
  have hr : 1 ≤ c.k ∧ c.k ≤ 6:=by omega
  obtain ⟨A,B⟩:=setf hr
  have hp:=hput hr
  refine zaI H A B ?_ ?_ ?_ ?_ ?_ ?_ ?_ ?_ ?_
  all_goals try rw [hp]
  ·rw [z07]; unfold Sett.put
   rcases h with h | h
   ·rw [if_pos h,if_pos h]
   ·rw [if_neg (by omega),if_pos h,if_neg (by omega)]; exact H.e1
  ·rw [z07]; unfold Sett.put
   rcases h with h | h
   ·rw [if_pos h,if_neg (by omega)]; exact H.e2
   ·rw [if_neg (by omega),if_pos h,if_pos h]
  ·rw [z07,if_neg (by omega)]; unfold Sett.put
   rcases h with h | h
   ·rw [if_pos h]; exact H.h1
   ·rw [if_neg (by omega),if_pos h]; exact H.h1
  ·rw [z07,if_neg (by omega)]; unfold Sett.put
   rcases h with h | h
   ·rw [if_pos h]; exact H.t1
   ·rw [if_neg (by omega),if_pos h]; exact H.t1
  ·rw [z07,if_neg (by omega)]; unfold Sett.put
   rcases h with h | h
   ·rw [if_pos h]; exact H.h2
   ·rw [if_neg (by omega),if_pos h]; exact H.h2
  ·rw [z07,if_neg (by omega)]; unfold Sett.put
   rcases h with h | h
   ·rw [if_pos h]; exact H.t2
   ·rw [if_neg (by omega),if_pos h]; exact H.t2
  ·rw [z07]; split
   ·exact hs
   ·exact H.s1
  ·rw [z07]; split
   ·exact hs
   ·exact H.s2
  ·intro k h1 h2; rw [z07,if_neg (by omega)]; exact H.b1 k h1 h2
 | pad h0 h1 hb hl e=>
  have hr : 1 ≤ c.k ∧ c.k ≤ 6:=by omega
  obtain ⟨A,B⟩:=setf hr
  have hp:=hput hr
  have hk : c.k = 3 ∨ c.k = 4 ∨ c.k = 5 ∨ c.k = 6:=by omega
  refine zaI H A B ?_ ?_ ?_ ?_ ?_ ?_ ?_ ?_ ?_
  all_goals try rw [hp]
  ·rw [z07,if_neg (by omega)]; unfold Sett.put
   rcases hk with h | h | h | h <;> simp [h,H.e1]
  ·rw [z07,if_neg (by omega)]; unfold Sett.put
   rcases hk with h | h | h | h <;> simp [h,H.e2]
  ·rw [z07]; unfold Sett.put
   rcases hk with h | h | h | h <;> simp [h,H.h1]
  ·rw [z07]; unfold Sett.put
   rcases hk with h | h | h | h <;> simp [h,H.t1]
  ·rw [z07]; unfold Sett.put
   rcases hk with h | h | h | h <;> simp [h,H.h2]
  ·rw [z07]; unfold Sett.put
   rcases hk with h | h | h | h <;> simp [h,H.t2]
  ·rw [z07,if_neg (by omega)]; exact H.s1
  ·rw [z07,if_neg (by omega)]; exact H.s2
  ·intro k h1 h2; rw [z07]; split
   ·exact ⟨hb,hl⟩
   ·exact H.b1 k h1 h2
 | go h hs e=>
  obtain ⟨g1,g2,g3,g4,g5,g6,_,_⟩:=z0x path r c.s.toNat
  rw [z4t path h,z81 path h]
  refine z7f H ⟨g6,g5,fun hw=>zfG path hw _,?_,g2⟩ (z0v hs).1 g1 (by omega)
  show (r.go path c.s.toNat).sts ++ _ = _
  rw [g3,g2]
 | idle h h0 h1 e=>
  obtain ⟨g1,g2,g3,g4,g5,g6,_,_⟩:=z0x path r 1
  obtain ⟨k1,k2,k3,k4,k5,k6,_,_⟩:=z1L (r.go path 1) (List.replicate c.cl.toNat (48,48,120))
  rw [z1I path h,z4m path h]
  refine z7f H ⟨?_,?_,?_,?_,?_⟩ (by show 1 ∈ stb; decide) ?_ (by omega)
  ·show Run.ck (Run.clk _ _) = _
   rw [k6,g6]; simp [zs]; omega
  ·show Run.wr (Run.clk _ _) = _
   rw [k5,g5]
  ·intro hw
   obtain ⟨u1,u2,u3⟩:=zfG path hw 1
   obtain ⟨v1,v2,v3⟩:=zdR (r:=r.go path 1) (by rw [g5]; exact hw) (List.replicate c.cl.toNat (48,48,120))
   refine ⟨?_,?_,?_⟩
   ·show Run.tms (Run.clk _ _) = _
    rw [v1,u1]; simp [zs]
   ·show Run.tdi (Run.clk _ _) = _
    rw [v2,u2]; simp [zs]
   ·show Run.want (Run.clk _ _) = _
    rw [v3,u3]; simp [xsL]
  ·show Run.sts (Run.clk _ _) ++ _ = _
   rw [k3,k2,g3,g2]
  ·show Run.st (Run.clk _ _) = _
   rw [k2,g2]
  ·show Run.se (Run.clk _ _) = _
   rw [k1,g1]
 | scan h hs e=>
  obtain ⟨q1,q2,q3,q4,q5,q6⟩:=z2i hs
  have hm : c.m.length ≤ c.b.length:=by rcases q6 with ⟨_,h⟩ | ⟨_,h⟩ <;> simp [h]
  rw [z2a path h]
  rcases h with h | h
  ·have hp : z0K path pre c r.st = padP (z1k path c r.st 11 12 r.se.h1.b r.se.t1.b r.se.e1.s.toNat):=by
    unfold z0K
    rw [if_neg (by omega),if_neg (by omega),if_pos h,H.h1,H.t1,H.e1]
   have hen : r.se.e1.s.toNat ∈ stb:=by rw [H.e1]; exact (z0v H.s1).1
   obtain ⟨A,B⟩:=zgx path q1 hm r.se.h1.b r.se.t1.b 11 12 r.se.e1.s.toNat ((r.go path 11).ni + (r.se.h1.b ++ c.b ++ r.se.t1.b).length) (r.go path 11).nd (r.scnF path c) _ hp _ rfl (r.scn path c) (by unfold Run.scn; simp only [if_pos h])
   refine z7f H A (by rw [hp]; exact hen) B (by omega)
  ·have hp : z0K path pre c r.st = padP (z1k path c r.st 4 5 r.se.h2.b r.se.t2.b r.se.e2.s.toNat):=by
    unfold z0K
    rw [if_neg (by omega),if_neg (by omega),if_neg (by omega),if_pos h,H.h2,H.t2,H.e2]
   have hen : r.se.e2.s.toNat ∈ stb:=by rw [H.e2]; exact (z0v H.s2).1
   obtain ⟨A,B⟩:=zgx path q1 hm r.se.h2.b r.se.t2.b 4 5 r.se.e2.s.toNat (r.go path 4).ni ((r.go path 4).nd + (r.se.h2.b ++ c.b ++ r.se.t2.b).length) (r.scnF path c) _ hp _ rfl (r.scn path c) (by
    unfold Run.scn
    simp only [if_neg (show ¬ c.k = 7 by omega)])
   refine z7f H A (by rw [hp]; exact hen) B (by omega)
end Go.Am
end
section
/- A whole program; the bits that are shifted. -/
namespace Go.Am
variable (path : Nat → Nat → List UInt8)
theorem zab (ps qs : List Part) : sigT (ps ++ qs) = sigT ps ++ sigT qs:=by simp [sigT]
theorem zaD : ∀ (l : List Cmd) {pre : List Cmd} {r : Run} {ps : List Part} {state : Nat},RelV pre r ps state → z5b l = 0 →
 ((sigT (ps ++ z0o path pre state l)).length ≤ 20000 → ∃ st',RelV (pre ++ l) (r.play path l) (ps ++ z0o path pre state l) st') ∧
 (20000 < (sigT (ps ++ z0o path pre state l)).length → 20000 < (r.play path l).ck)
 | [],pre,r,ps,state,H,_=>by
  simp only [z0o,List.append_nil,Run.play]
  exact ⟨fun _=>⟨state,H⟩,fun h=>by rw [H.ck]; exact h⟩
 | c :: l,pre,r,ps,state,H,hc=>by
  unfold z5b at hc
  split at hc
  ·rename_i h1; exact absurd hc h1
  rename_i h1
  have h0 : cmdF c = 0:=by omega
  have S:=zg0 path H h0
  obtain ⟨A,B⟩:=zaD l S hc
  have e1 : ps ++ [z0K path pre c state] ++ z0o path (pre ++ [c]) (z0K path pre c state).st l = ps ++ z0o path pre state (c :: l):=by
   rw [List.append_assoc]; rfl
  have e2 : pre ++ [c] ++ l = pre ++ c :: l:=by rw [List.append_assoc]; rfl
  rw [e1] at A B
  rw [e2] at A
  unfold Run.play
  have hlen : (sigT ps).length ≤ (sigT (ps ++ z0o path pre state (c :: l))).length:=by rw [zab,List.length_append]; omega
  constructor
  ·intro h
   rw [if_neg (by rw [H.ck]; omega)]
   exact A h
  ·intro h
   split
   ·assumption
   ·exact B h
def visL (s : Nat) : List UInt8 → List Nat
 | []=>[]
 | c :: r=>s :: visL (stW s c) r
theorem z1y : ∀ (l : List UInt8) (s : Nat) (r : List UInt8),visL s (l ++ r) = visL s l ++ visL (endL s l) r
 | [],s,r=>rfl
 | d :: l,s,r=>by simp only [List.cons_append,visL,z1y l]; rfl
theorem zaU {s : Nat} (h : stW s 48 = s) : ∀ n,visL s (zs n) = List.replicate n s ∧ endL s (zs n) = s
 | 0=>⟨rfl,rfl⟩
 | n + 1=>by
  obtain ⟨a,b⟩:=zaU h n
  have e : zs (n + 1) = 48 :: zs n:=rfl
  rw [e]
  constructor
  ·simp only [visL,h,a]; rfl
  ·show endL (stW s 48) (zs n) = s
   rw [h,b]
structure PathOk : Prop where
 bits : ∀ a ∈ frS,∀ b ∈ toS,z0O (path a b) = true
 len : ∀ a ∈ frS,∀ b ∈ toS,(path a b).length ≤ 8
 ends : ∀ a ∈ frS,∀ b ∈ toS,endL a (path a b) = b
 no11 : ∀ a ∈ frS,∀ b ∈ toS,(visL a (path a b)).count 11 = 0
 no4 : ∀ a ∈ frS,∀ b ∈ toS,(visL a (path a b)).count 4 = 0
theorem z1m {a : Nat} (h : a ∈ stb) : a ∈ frS:=by
 simp only [stb,List.mem_cons,List.not_mem_nil,or_false] at h
 rcases h with rfl | rfl | rfl | rfl <;> decide
theorem z1Z {a : Nat} (h : a ∈ stb) : a ∈ toS:=by
 simp only [stb,List.mem_cons,List.not_mem_nil,or_false] at h
 rcases h with rfl | rfl | rfl | rfl <;> decide
structure RelN (r : Run) (ps : List Part) (state : Nat) : Prop where
 en : endL 0 (sigT ps) = state
 ni : r.ni = (visL 0 (sigT ps)).count 11
 nd : r.nd = (visL 0 (sigT ps)).count 4
variable {path}
theorem z4n {r r' : Run} {ps : List Part} {state : Nat} {p : Part} (N : RelN r ps state) (he : endL state p.tms = p.st) (h1 : r'.ni = r.ni + (visL state p.tms).count 11) (h2 : r'.nd = r.nd + (visL state p.tms).count 4) : RelN r' (ps ++ [p]) p.st:=by
 obtain ⟨q,_,_⟩:=z7i ps p
 refine ⟨?_,?_,?_⟩
 ·rw [q,z2o,N.en,he]
 ·rw [q,z1y,N.en,List.count_append,h1,N.ni]
 ·rw [q,z1y,N.en,List.count_append,h2,N.nd]
theorem zgw (P : PathOk path) {state sh ex en : Nat} (hs : state ∈ stb) (hx : (sh = 11 ∧ ex = 12) ∨ (sh = 4 ∧ ex = 5)) (hen : en ∈ stb) (n : Nat) (hn : 0 < n) :
 endL state (path state sh ++ (zs (n - 1) ++ [49]) ++ path ex en) = en ∧ (visL state (path state sh ++ (zs (n - 1) ++ [49]) ++ path ex en)).count sh = n ∧
 ∀ o,(o = 11 ∨ o = 4) → o ≠ sh → (visL state (path state sh ++ (zs (n - 1) ++ [49]) ++ path ex en)).count o = 0:=by
 have h1 : sh ∈ toS:=by rcases hx with ⟨rfl,rfl⟩ | ⟨rfl,rfl⟩ <;> decide
 have h2 : ex ∈ frS:=by rcases hx with ⟨rfl,rfl⟩ | ⟨rfl,rfl⟩ <;> decide
 have h3 : stW sh 48 = sh:=by rcases hx with ⟨rfl,rfl⟩ | ⟨rfl,rfl⟩ <;> rfl
 have h4 : stW sh 49 = ex:=by rcases hx with ⟨rfl,rfl⟩ | ⟨rfl,rfl⟩ <;> rfl
 obtain ⟨v1,v2⟩:=zaU h3 (n - 1)
 have e1:=P.ends _ (z1m hs) _ h1
 have e2:=P.ends _ h2 _ (z1Z hen)
 have ee : endL state (path state sh ++ (zs (n - 1) ++ [49])) = ex:=by
  rw [z2o,e1,z2o,v2]; exact h4
 have hv : visL state (path state sh ++ (zs (n - 1) ++ [49]) ++ path ex en) = visL state (path state sh) ++ (List.replicate (n - 1) sh ++ [sh]) ++ visL ex (path ex en):=by
  rw [z1y,ee,z1y,e1,z1y,v1,v2]; rfl
 have c0 : ∀ o,(o = 11 ∨ o = 4) → (visL state (path state sh)).count o = 0 ∧ (visL ex (path ex en)).count o = 0:=by
  rintro o (rfl | rfl)
  ·exact ⟨P.no11 _ (z1m hs) _ h1,P.no11 _ h2 _ (z1Z hen)⟩
  ·exact ⟨P.no4 _ (z1m hs) _ h1,P.no4 _ h2 _ (z1Z hen)⟩
 refine ⟨?_,?_,?_⟩
 ·rw [z2o,ee,e2]
 ·obtain ⟨a,b⟩:=c0 sh (by rcases hx with ⟨rfl,rfl⟩ | ⟨rfl,rfl⟩ <;> simp)
  rw [hv,List.count_append,List.count_append,List.count_append,a,b,List.count_replicate_self]
  simp; omega
 ·intro o ho hne
  obtain ⟨a,b⟩:=c0 o ho
  rw [hv,List.count_append,List.count_append,List.count_append,a,b,List.count_replicate,List.count_singleton]
  have : (sh == o) = false:=by simpa using Ne.symm hne
  simp [this]
theorem zpQ (P : PathOk path) {pre : List Cmd} {r : Run} {ps : List Part} {state : Nat} (H : RelV pre r ps state) (N : RelN r ps state) {c : Cmd} (hc : cmdF c = 0) :
 RelN (r.step path c) (ps ++ [z0K path pre c state]) (z0K path pre c state).st:=by
 have hst:=H.st
 subst hst
 have hf:=z1m H.sb
 have setf : (1 ≤ c.k ∧ c.k ≤ 6) → RelN (r.step path c) (ps ++ [z0K path pre c r.st]) (z0K path pre c r.st).st:=fun h=>by
  rw [z13 path h,z2w path h.2]
  exact z4n N rfl rfl rfl
 cases z0M hc with
 | set h hs e=>exact setf (by omega)
 | pad h0 h1 hb hl e=>exact setf (by omega)
 | go h hs e=>
  obtain ⟨g1,g2,g3,g4,g5,g6,g7,g8⟩:=z0x path r c.s.toNat
  rw [z4t path h,z81 path h]
  have ht:=z1Z (z0v hs).1
  refine z4n N (P.ends _ hf _ ht) ?_ ?_
  ·show (r.go path c.s.toNat).ni = _
   rw [g7,P.no11 _ hf _ ht,Nat.add_zero]
  ·show (r.go path c.s.toNat).nd = _
   rw [g8,P.no4 _ hf _ ht,Nat.add_zero]
 | idle h h0 h1 e=>
  obtain ⟨g1,g2,g3,g4,g5,g6,g7,g8⟩:=z0x path r 1
  obtain ⟨k1,k2,k3,k4,k5,k6,k7,k8⟩:=z1L (r.go path 1) (List.replicate c.cl.toNat (48,48,120))
  have ht : (1 : Nat) ∈ toS:=by decide
  rw [z1I path h,z4m path h]
  have e1:=P.ends _ hf _ ht
  obtain ⟨v1,v2⟩:=zaU (s:=1) rfl c.cl.toNat
  refine z4n N (by show endL r.st (path r.st 1 ++ zs c.cl.toNat) = 1; rw [z2o,e1,v2]) ?_ ?_
  ·show Run.ni (Run.clk _ _) = r.ni + (visL r.st (path r.st 1 ++ zs c.cl.toNat)).count 11
   rw [k7,g7,z1y,e1,v1,List.count_append,P.no11 _ hf _ ht,List.count_replicate]; rfl
  ·show Run.nd (Run.clk _ _) = r.nd + (visL r.st (path r.st 1 ++ zs c.cl.toNat)).count 4
   rw [k8,g8,z1y,e1,v1,List.count_append,P.no4 _ hf _ ht,List.count_replicate]; rfl
 | scan h hs e=>
  obtain ⟨q1,q2,q3,q4,q5,q6⟩:=z2i hs
  rw [z2a path h]
  rcases h with h | h
  ·have hp : z0K path pre c r.st = padP (z1k path c r.st 11 12 r.se.h1.b r.se.t1.b r.se.e1.s.toNat):=by
    unfold z0K
    rw [if_neg (by omega),if_neg (by omega),if_pos h,H.h1,H.t1,H.e1]
   have hen : r.se.e1.s.toNat ∈ stb:=by rw [H.e1]; exact (z0v H.s1).1
   have hpos : 0 < (r.se.h1.b ++ c.b ++ r.se.t1.b).length:=by have:=List.length_pos_iff.2 q1; simp only [List.length_append]; omega
   obtain ⟨w1,w2,w3⟩:=zgw P H.sb (.inl ⟨rfl,rfl⟩) hen (r.se.h1.b ++ c.b ++ r.se.t1.b).length hpos
   rw [hp,z6b path c r.st 11 12 _ _ _ q1]
   obtain ⟨g1,g2,g3,g4,g5,g6,g7,g8⟩:=z0x path r 11
   refine z4n N w1 ?_ ?_
   ·show (r.scn path c).ni = _
    unfold Run.scn
    simp only [if_pos h]
    rw [(z0x path _ _).2.2.2.2.2.2.1]
    show Run.ni (Run.clk _ _) = _
    rw [(z1L _ _).2.2.2.2.2.2.1,w2]
    show (r.go path 11).ni + _ = _
    rw [g7]
   ·show (r.scn path c).nd = _
    unfold Run.scn
    simp only [if_pos h]
    rw [(z0x path _ _).2.2.2.2.2.2.2]
    show Run.nd (Run.clk _ _) = _
    rw [(z1L _ _).2.2.2.2.2.2.2,w3 4 (.inr rfl) (by decide)]
    show (r.go path 11).nd = _
    rw [g8,Nat.add_zero]
  ·have hp : z0K path pre c r.st = padP (z1k path c r.st 4 5 r.se.h2.b r.se.t2.b r.se.e2.s.toNat):=by
    unfold z0K
    rw [if_neg (by omega),if_neg (by omega),if_neg (by omega),if_pos h,H.h2,H.t2,H.e2]
   have hen : r.se.e2.s.toNat ∈ stb:=by rw [H.e2]; exact (z0v H.s2).1
   have hpos : 0 < (r.se.h2.b ++ c.b ++ r.se.t2.b).length:=by have:=List.length_pos_iff.2 q1; simp only [List.length_append]; omega
   have h7 : ¬ c.k = 7:=by omega
   obtain ⟨w1,w2,w3⟩:=zgw P H.sb (.inr ⟨rfl,rfl⟩) hen (r.se.h2.b ++ c.b ++ r.se.t2.b).length hpos
   rw [hp,z6b path c r.st 4 5 _ _ _ q1]
   obtain ⟨g1,g2,g3,g4,g5,g6,g7,g8⟩:=z0x path r 4
   refine z4n N w1 ?_ ?_
   ·show (r.scn path c).ni = _
    unfold Run.scn
    simp only [if_neg h7]
    rw [(z0x path _ _).2.2.2.2.2.2.1]
    show Run.ni (Run.clk _ _) = _
    rw [(z1L _ _).2.2.2.2.2.2.1,w3 11 (.inl rfl) (by decide)]
    show (r.go path 4).ni = _
    rw [g7,Nat.add_zero]
   ·show (r.scn path c).nd = _
    unfold Run.scn
    simp only [if_neg h7]
    rw [(z0x path _ _).2.2.2.2.2.2.2]
    show Run.nd (Run.clk _ _) = _
    rw [(z1L _ _).2.2.2.2.2.2.2,w2]
    show (r.go path 4).nd + _ = _
    rw [g8]
theorem reln0 (wr : Bool) : RelN (run0 wr) [] 0:=⟨rfl,rfl,rfl⟩
theorem zcZ (P : PathOk path) : ∀ (l : List Cmd) {pre : List Cmd} {r : Run} {ps : List Part} {state : Nat},RelV pre r ps state → RelN r ps state → z5b l = 0 →
 (sigT (ps ++ z0o path pre state l)).length ≤ 20000 → ∃ st',RelN (r.play path l) (ps ++ z0o path pre state l) st'
 | [],pre,r,ps,state,H,N,_,_=>by
  simp only [z0o,List.append_nil,Run.play]
  exact ⟨state,N⟩
 | c :: l,pre,r,ps,state,H,N,hc,h=>by
  unfold z5b at hc
  split at hc
  ·rename_i h1; exact absurd hc h1
  rename_i h1
  have h0 : cmdF c = 0:=by omega
  have S:=zg0 path H h0
  have S2:=zpQ P H N h0
  have e1 : ps ++ [z0K path pre c state] ++ z0o path (pre ++ [c]) (z0K path pre c state).st l = ps ++ z0o path pre state (c :: l):=by
   rw [List.append_assoc]; rfl
  have A:=zcZ P l S S2 hc (by rw [e1]; exact h)
  rw [e1] at A
  have hlen : (sigT ps).length ≤ (sigT (ps ++ z0o path pre state (c :: l))).length:=by rw [zab,List.length_append]; omega
  unfold Run.play
  rw [if_neg (by rw [H.ck]; omega)]
  exact A
theorem z6e (P : PathOk path) {l : List Cmd} (hc : z5b l = 0) (wr : Bool) (h : (sigT (z0o path [] 0 l)).length ≤ 20000) :
 ((run0 wr).play path l).ck = (sigT (z0o path [] 0 l)).length ∧ ((run0 wr).play path l).sts = (z0o path [] 0 l).map Part.st ∧
 ((run0 wr).play path l).ni = (visL 0 (sigT (z0o path [] 0 l))).count 11 ∧ ((run0 wr).play path l).nd = (visL 0 (sigT (z0o path [] 0 l))).count 4 ∧
 (wr = true → ((run0 wr).play path l).tms = sigT (z0o path [] 0 l) ∧ ((run0 wr).play path l).tdi = sigI (z0o path [] 0 l) ∧ ((run0 wr).play path l).want = sigW (z0o path [] 0 l)):=by
 obtain ⟨A,_⟩:=zaD path l (rel0 wr) hc
 simp only [List.nil_append] at A
 obtain ⟨st',R⟩:=A h
 obtain ⟨_,N⟩:=zcZ P l (rel0 wr) (reln0 wr) hc (by simpa using h)
 simp only [List.nil_append] at N
 have hw : ((run0 wr).play path l).wr = wr:=by
  have : ∀ (l : List Cmd) (r : Run),(r.play path l).wr = r.wr:=by
   intro l
   induction l with
   | nil=>intro r; rfl
   | cons c l ih=>
    intro r
    unfold Run.play
    split
    ·rfl
    ·rw [ih]
     by_cases h1 : 1 ≤ c.k ∧ c.k ≤ 6
     ·rw [z13 path h1]
     by_cases h2 : c.k = 7 ∨ c.k = 8
     ·rw [z2a path h2]
      show (r.scn path c).wr = _
      unfold Run.scn
      by_cases h7 : c.k = 7 <;> (simp only [h7,if_true,if_false]; rw [(z0x path _ _).2.2.2.2.1]; show Run.wr (Run.clk _ _) = _; rw [(z1L _ _).2.2.2.2.1]; exact (z0x path _ _).2.2.2.2.1)
     by_cases h3 : c.k = 9
     ·rw [z1I path h3]
      show Run.wr (Run.clk _ _) = _
      rw [(z1L _ _).2.2.2.2.1]; exact (z0x path _ _).2.2.2.2.1
     ·unfold Run.step
      rw [if_neg h1,if_neg h2,if_neg h3]
      exact (z0x path _ _).2.2.2.2.1
  exact this l _
 exact ⟨R.ck,R.sts,N.ni,N.nd,fun e=>R.sig (by rw [hw]; exact e)⟩
end Go.Am
end
section
/- Plain laws of fractions in lowest terms. -/
namespace Go.Am
def low (a b : Int) : Int × Int:=(a.tdiv (Int.gcd a b),b.tdiv (Int.gcd a b))
end Go.Am
end
section
/- Small functions of numbers and of lists of numbers. -/
open Go
namespace Go.Am
variable {h : Heap} {K : Post}
theorem z6Y (n a b : Int) : z0c X z1d [AI n,AI a,AI b] h K = K (AB (decide (n < a) || decide (b < n))) h []:=by
 refine rule ?_
 rw [c_q009 rfl]
 by_cases h1 : n < a <;> simp only [zkn,go_sem,h1]
theorem s_in (n a b : Int) : z0c X z9x [AI n,AI a,AI b] h K = K (AB (decide (a ≤ n) && decide (n ≤ b))) h []:=by
 refine rule ?_
 rw [c_q03i rfl]
 by_cases h1 : a ≤ n <;> simp only [zkw,go_sem,h1]
end Go.Am
end
section
/- Functions of lists. -/
open Go
namespace Go.Am
variable {h : Heap} {K : Post}
def z45 : List Int → Int
 | []=>0
 | e :: r=>if e = 0 then z45 r else e
end Go.Am
end
section
/- Values of a shape: loads and stores in rows. -/
open Go
namespace Go.Am
variable {h : Heap} {K : Post}
theorem zw3 {sh : Sh} {x : PV} (hx : x.shp sh = true) : cutP sh 0 x = some x:=by
 cases sh with
 | none=>exact zvm hx
 | some n=>
  cases x with
  | agg cs=>
   simp only [PV.shp,Bool.and_eq_true,beq_iff_eq] at hx
   simp [cutP,hx.1]
   exact List.take_of_length_le (by omega)
  | _=>cases hx
theorem shp_st {sh : Sh} {x y : PV} (hx : x.shp sh = true) (hy : y.shp sh = true) (id i fz : Nat) (xs : List PV) (h1 : Heap) : stE sh id i 0 fz sh xs x h1 (some y) = some (.und,h1.set id (.row sh (xs.set i x) fz),[]):=by
 cases sh with
 | none=>
  cases y with
  | agg cs=>cases hy
  | _=>simp only [PV.shp] at hx; simp [stE,hx]
 | some n=>
  cases y with
  | agg cs=>
   cases x with
   | agg ds=>
    simp only [PV.shp,Bool.and_eq_true,beq_iff_eq] at hx hy
    simp [stE,PV.cells,splice,hx.1,hy.1,show cs.drop n = [] from List.drop_of_length_le (by omega)]
   | _=>cases hx
  | _=>cases hy
def shps (sh : Sh) (xs : List PV) : Prop:=∀ x ∈ xs,x.shp sh = true
theorem zsp {sh : Sh} {xs : List PV} (hx : shps sh xs) {i : Nat} (hi : i < xs.length) : xs[i].shp sh = true:=hx _ (List.getElem_mem hi)
theorem zsn {h : Heap} {id : Nat} {o : Obj} (hh : h[id]? = some o) : h.set id o = h:=by
 apply List.ext_getElem?
 intro i
 rw [List.getElem?_set]
 split
 ·rename_i e; subst e; rw [hh]; simp [z56 hh]
 ·rfl
structure Shows (sh : Sh) (v : AV) (xs : List PV) (h : Heap) : Prop where
 len : oLen v = some (AI xs.length)
 get : ∀ (k : Nat) (hk : k < xs.length),∃ a,z0E sh v (AI k) h = some a ∧ z0g sh a h = some (.p xs[k])
theorem zso {sh : Sh} {xs : List PV} (hs : shps sh xs) : Shows sh (.p (.sl sh xs)) xs h:=by
 refine ⟨rfl,fun k hk=>⟨.vp xs[k],?_,?_⟩⟩
 ·simp [z0E,z1f,hk]
 ·simp only [znl,zw3 (zsp hs hk)]; rfl
end Go.Am
end
section
/- Strings: keys,the library's functions without text. -/
open Go
set_option linter.unusedSimpArgs false
namespace Go.Am
variable {h : Heap} {K : Post}
abbrev AS (s : List UInt8) : AV:=.p (.str s)
theorem X_ext : X.ext = extF z0j z0q:=rfl
theorem zsc (s : List UInt8) (c : UInt8) : z0c X z0j [AS s,.p (.int .u8 c.toNat)] h K = K (AI (idxB s c)) h []:=by
 have:=zrf (X:=X) (f:=z0j) (asv:=[AS s,.p (.int .u8 c.toNat)]) (vs:=[.str s,.int .u8 c.toNat]) (h:=h) (h1:=h) (r:=.int .i64 (idxB s c)) (K:=K) (by kernel_rfl) rfl rfl rfl ?_
 ·exact this
 ·rw [X_ext]
  unfold extF
  rw [show Nat.beq z0j z0j = true from by kernel_rfl]
  simp
theorem z8E (s : List UInt8) (c : UInt8) : z0c X z95 [AS s,.p (.int .u8 c.toNat)] h K = K (AI (idxB s c)) h []:=by
 have key : ∀ (h : Heap) (K : Post),z0c X z9p [AS s,.p (.int .u8 c.toNat)] h K = K (AI (idxB s c)) h []:=by
  intro h K
  refine rule ?_
  rw [c_q01w rfl]
  simp only [zko,go_sem,zsc]
 refine rule ?_
 rw [c_q058 rfl]
 simp only [zk0,go_sem,key]
theorem zrw (s : List UInt8) (c : UInt8) : decide (idxB s c < 0) = !s.contains c:=by
 unfold idxB
 rw [Bool.eq_iff_iff]
 by_cases hf : s.findIdx (· == c) < s.length
 ·rw [if_pos hf]
  have:=List.findIdx_getElem (w:=hf)
  simp only [beq_iff_eq] at this
  have hm : c ∈ s:=by rw [← this]; exact List.getElem_mem hf
  simp [hm]
 ·rw [if_neg hf]
  have hm : ¬ c ∈ s:=fun hm=>hf (List.findIdx_lt_length_of_exists ⟨c,hm,by simp⟩)
  simp [hm]
theorem s_only (s t : List UInt8) (hl : s.length ≤ 1000000000) : z0c X z9y [AS s,AS t] h K = K (AB (s.all fun c=>t.contains c)) h []:=by
 refine rule ?_
 rw [c_q03k rfl]
 simp only [zfm,go_sem]
 refine z0Z (fun k : Nat=>⟨[(0,AS s),(1,AS t),(7,AI s.length),(8,AI k)],h,[]⟩) (fun k=>k ≤ s.length ∧ (s.take k).all (fun c=>t.contains c) = true) (fun k=>s.length - k) 0 rfl ⟨by omega,rfl⟩ ?_
 rintro k ⟨hk,hp⟩
 rcases Nat.lt_or_ge k s.length with hlt | hge
 ·have hg : s[k]? = some s[k]:=List.getElem?_eq_getElem hlt
  have w2 : IntKind.i64.wrap ((k : Int) + 1) = ((k + 1 : Nat) : Int):=z0m _ (by omega) (by omega)
  have hi:=zrw t s[k]
  by_cases hc : idxB t s[k] < 0
  ·have : s.all (fun c=>t.contains c) = false:=by
    rw [List.all_eq_false]
    refine ⟨_,List.getElem_mem hlt,?_⟩
    rw [decide_eq_true hc] at hi
    cases hq : t.contains s[k] with
    | true=>rw [hq] at hi; cases hi
    | false=>simp
   simp only [go_sem,hlt,hg,z8E,hc,this]
  ·rw [decide_eq_false hc] at hi
   have hq : t.contains s[k] = true:=by cases hq : t.contains s[k] with | true=>rfl | false=>rw [hq] at hi; cases hi
   simp only [go_sem,hlt,hg,z8E,hc,w2]
   exact ⟨k + 1,rfl,⟨by omega,by rw [List.take_succ_eq_append_getElem hlt,List.all_append,hp]; simp only [List.all_cons,List.all_nil,hq]; rfl⟩,by omega⟩
 ·have ek : k = s.length:=by omega
  subst ek
  rw [List.take_length] at hp
  simp only [go_sem,Nat.lt_irrefl,hp]
end Go.Am
end
section
/- Walks over the states,and the ways that the reference looks for. -/
open Go
set_option linter.all false
namespace Go.Am
variable {h : Heap} {K : Post}
attribute [-go_sem] z6U za9 za7 za8
attribute [-go_sem] zcU
def aftL : List PV:=[eI 1,eI 0,eI 1,eI 2,eI 3,eI 9,eI 4,eI 5,eI 4,eI 5,eI 6,eI 8,eI 6,eI 7,eI 4,eI 8,eI 1,eI 2,eI 10,eI 0,eI 11,eI 12,eI 11,eI 12,eI 13,eI 15,eI 13,eI 14,eI 11,eI 15,eI 1,eI 2]
theorem zv5 {s : Nat} (hs : s < 16) : zcU 16 (some 2) (.p (.agg aftL)) (AI s) = some (.p (.agg [eI (stp s 0),eI (stp s 1)])):=by
 have hs' : s = 0 ∨ s = 1 ∨ s = 2 ∨ s = 3 ∨ s = 4 ∨ s = 5 ∨ s = 6 ∨ s = 7 ∨ s = 8 ∨ s = 9 ∨ s = 10 ∨ s = 11 ∨ s = 12 ∨ s = 13 ∨ s = 14 ∨ s = 15:=by omega
 rcases hs' with rfl | rfl | rfl | rfl | rfl | rfl | rfl | rfl | rfl | rfl | rfl | rfl | rfl | rfl | rfl | rfl <;> rfl
theorem zv4 {s t : Nat} (ht : t < 2) : zcU 2 none (.p (.agg [eI (stp s 0),eI (stp s 1)])) (AI t) = some (AI (stp s t)):=by
 have ht' : t = 0 ∨ t = 1:=by omega
 rcases ht' with rfl | rfl <;> rfl
theorem zwt (s t : Nat) (hs : s < 16) (ht : t < 2) : z0c X z9u [AI s,AI t] h K = K (AI (stp s t)) h []:=by
 refine rule ?_
 rw [c_q030 rfl]
 have g:=zv5 hs
 have g2:=zv4 (s:=s) ht
 unfold aftL at g
 simp only [zku,go_sem,g,g2]
abbrev AIs (l : List Nat) : AV:=.p (.sl none (l.map fun n : Nat=>eI n))
theorem z7h (s : Nat) (l : List UInt8) (hs : s < 16) (hb : z0O l = true) (hl : l.length ≤ 1000000) : z0c X z9t [AI s,AS l] h K = K (AIs (z4K s l)) h []:=by
 refine rule ?_
 rw [c_q02z rfl]
 have hmx : l.length ≤ z0F:=by unfold z0F; omega
 simp only [zfj,go_sem,hmx]
 refine z0Z (fun k : Nat=>⟨[(0,AI (endL s (l.take k))),(5,.own h.length k 0 k),(9,.own (h.length + 1) l.length 0 l.length),(10,AI l.length),(11,AI k)],h ++ [.row none ((z4K s (l.take k)).map fun n : Nat=>eI n) 0,.row none (z0k l) 0],[]⟩) (fun k=>k ≤ l.length) (fun k=>l.length - k) 0 rfl (by omega) ?_
 intro k hk
 rcases Nat.lt_or_ge k l.length with hlt | hge
 ·have g : (z0k l)[k]? = some (.int .u8 (l[k].toNat : Int)):=by unfold z0k; rw [List.getElem?_map,List.getElem?_eq_getElem hlt]; rfl
  have w2 : IntKind.i64.wrap ((k : Int) + 1) = ((k + 1 : Nat) : Int):=z0m _ (by omega) (by omega)
  have bt:=bit_at hlt hb
  have e1 : IntKind.u8.wrap ((l[k].toNat : Int) - 48) = ((l[k].toNat - 48 : Nat) : Int):=by
   rcases bt with e | e <;> rw [e] <;> rfl
  have hsm : l[k].toNat - 48 < 2:=by rcases bt with e | e <;> rw [e] <;> decide
  have e2 : IntKind.i64.wrap ((l[k].toNat - 48 : Nat) : Int) = ((l[k].toNat - 48 : Nat) : Int):=z0m _ (by omega) (by omega)
  have he:=zlY hs (zha k hb)
  have hlen : ((z4K s (l.take k)).map fun n : Nat=>eI n).length = k:=by simp [z1B]; omega
  have hmx2 : k + 1 ≤ z0F:=by unfold z0F; omega
  have hbl : (z0k l).length = l.length:=by simp [z0k]
  simp only [go_sem,hlt,g,e1,e2,zwt _ _ he hsm,w2,hlen,hmx2,hbl]
  refine ⟨k + 1,?_,by omega,by omega⟩
  rw [List.take_succ_eq_append_getElem hlt,z68,zcA]
  simp [stW]
 ·have ek : k = l.length:=by omega
  subst ek
  have hlen : ((z4K s l).map fun n : Nat=>eI n).length = l.length:=by simp [z1B]
  simp only [go_sem,Nat.lt_irrefl,List.take_length,hlen]
  exact congrArg (fun l=>AV.p (.sl none l)) (List.take_of_length_le (by simp [z1B]))
def z4q (h : Heap) : Nat → Heap
 | 0=>h
 | k + 1=>z4q h k ++ [.row none ((rowS (k + 1)).map PV.str) 0]
theorem z62 (h : Heap) : ∀ k,(z4q h k).take h.length = h
 | 0=>List.take_length
 | k + 1=>by
  have : h.length ≤ (z4q h k).length:=by have:=congrArg List.length (z62 h k); simp at this; omega
  rw [z4q,List.take_append_of_le_length this,z62 h k]
theorem z87 (h : Heap) : ∀ k,(z4q h k).length = h.length + k
 | 0=>rfl
 | k + 1=>by rw [z4q,List.length_append,z87 h k]; rfl
def flS (l : List (List UInt8)) : List (List UInt8):=l.flatMap fun s=>[s ++ [48],s ++ [49]]
theorem zht (l : List (List UInt8)) : (flS l).length = 2 * l.length:=by
 unfold flS
 induction l with
 | nil=>rfl
 | cons a r ih=>simp [ih]; omega
theorem zrm (l : List (List UInt8)) (s : List UInt8) : flS (l ++ [s]) = flS l ++ [s ++ [48],s ++ [49]]:=by simp [flS]
theorem zp0 (k : Nat) : rowS (k + 1) = flS (rowS k):=rfl
def rowV (h : Heap) : Nat → AV
 | 0=>.p (.sl none [.str []])
 | k + 1=>.own (h.length + k) (2 ^ (k + 1)) 0 (2 ^ (k + 1))
set_option maxHeartbeats 1000000 in
theorem zsa (a b : Nat) (ha : a < 16) (w : List UInt8) (hw : wayF a b 9 0 = some w) : z0c X z2e [AI a,AI b] h K = K (AS w) h []:=by
 obtain ⟨kw,hk8,hfw,hno⟩:=zd5 hw
 have hit : ∀ {k i : Nat} {s : List UInt8},k ≤ kw → (∀ x ∈ (rowS k).take i,(endL a x == b) = false) → (rowS k)[i]? = some s → (endL a s == b) = true → s = w:=by
  intro k i s hk h1 h2 h3
  have:=z98 (p:=fun s=>endL a s == b) h1 h2 h3
  rcases Nat.lt_or_ge k kw with h4 | h4
  ·rw [hno k h4] at this; cases this
  ·obtain rfl : k = kw:=by omega
   rw [hfw] at this; exact (Option.some.inj this).symm
 have miss : ∀ {k i : Nat},k ≤ kw → (∀ x ∈ (rowS k).take i,(endL a x == b) = false) → (rowS k).length ≤ i → k + 1 ≤ kw:=by
  intro k i hk h1 h2
  rcases Nat.lt_or_ge k kw with h4 | h4
  ·omega
  ·obtain rfl : k = kw:=by omega
   rw [List.take_of_length_le h2] at h1
   rw [zcK (p:=fun s=>endL a s == b) h1] at hfw; cases hfw
 refine rule ?_
 rw [c_q02y rfl]
 simp only [zfi,go_sem]
 refine z0Z (fun k : Nat=>⟨[(0,AI a),(1,AI b),(5,rowV h k)],z4q h k,[]⟩) (fun k=>k ≤ kw) (fun k=>kw - k) 0 rfl (by omega) ?_
 intro k hk
 have hp2 : (2 : Nat) ^ k ≤ 2 ^ 8:=Nat.pow_le_pow_right (by omega) (by omega)
 have hp3 : (2 : Nat) ^ 8 = 256:=rfl
 cases k with
 | zero=>
  dsimp only [rowV,z4q]
  simp only [go_sem]
  refine z0Z (fun i : Nat=>⟨[(0,AI a),(1,AI b),(6,.own (h.length + 0) (2 * i) 0 (2 * i)),(12,.p (.sl none [.str []])),(13,AI (2 ^ 0 : Nat)),(14,AI i)],h ++ [.row none ((flS ((rowS 0).take i)).map PV.str) 0],[]⟩) (fun i=>i ≤ 2 ^ 0 ∧ ∀ x ∈ (rowS 0).take i,(endL a x == b) = false) (fun i=>2 ^ 0 - i) 0 rfl ⟨Nat.zero_le _,by simp⟩ ?_
  rintro i ⟨hi,hn⟩
  rcases Nat.lt_or_ge i (2 ^ 0) with hlt | hge
  ·have hlt' : i < (rowS 0).length:=by rw [z19]; exact hlt
   have hg:=z18 PV.str hlt'
   obtain ⟨hbs,hls⟩:=z7g (List.getElem_mem hlt')
   have hgs : (rowS 0)[i]? = some (rowS 0)[i]:=List.getElem?_eq_getElem hlt'
   have cx : cutP none 0 (PV.str (rowS 0)[i]) = some (PV.str (rowS 0)[i]):=rfl
   have w2 : IntKind.i64.wrap ((i : Int) + 1) = ((i + 1 : Nat) : Int):=z0m _ (by omega) (by omega)
   have htk : (rowS 0).take (i + 1) = (rowS 0).take i ++ [(rowS 0)[i]]:=List.take_succ_eq_append_getElem hlt'
   generalize hse : (rowS 0)[i] = s at *
   have hcond : (endL a s == b) = decide ((endL a s : Int) = (b : Int)):=by
    rw [Bool.eq_iff_iff,beq_iff_eq,decide_eq_true_iff]; omega
   obtain rfl : s = []:=List.eq_nil_of_length_eq_zero hls
   obtain rfl : i = 0:=by simpa using hlt
   have hmx : (2 * 0) + 2 ≤ z0F:=by unfold z0F; omega
   have hfl : ((flS ((rowS 0).take 0)).map PV.str).length = 2 * 0:=rfl
   have hgz : [PV.str []][0]? = some (PV.str []):=rfl
   rcases hb : decide ((a : Int) = (b : Int)) with _ | _
   ·have hne : ¬ ((a : Int) = (b : Int)):=of_decide_eq_false hb
    have h01 : (0 : Int) < ((2 ^ 0 : Nat) : Int):=by decide
    have w1 : IntKind.i64.wrap 1 = ((1 : Nat) : Int):=rfl
    have hst : 1 ≤ z00:=by decide
    have hmx2 : 2 ≤ z0F:=by decide
    have hf0 : (flS []).length = 0:=rfl
    simp only [go_sem,hgz,cx,w1,z7h a [] ha rfl (Nat.zero_le _),z4K,hne,h01,hst,hf0,hmx2]
    refine ⟨1,rfl,⟨Nat.le_refl _,?_⟩,by decide⟩
    intro x hx
    obtain rfl : x = []:=by simpa [rowS] using hx
    exact decide_eq_false (fun e=>hne (congrArg Nat.cast e))
   ·have heq : (a : Int) = (b : Int):=of_decide_eq_true hb
    have h01 : (0 : Int) < ((2 ^ 0 : Nat) : Int):=by decide
    simp only [go_sem,hgz,cx,z7h a [] ha rfl (Nat.zero_le _),z4K,eq_true heq,h01]
    exact congrArg AS (hit (k:=0) (i:=0) (s:=[]) hk hn rfl (by rw [hcond]; exact hb))
  ·obtain rfl : i = 1:=by omega
   have h11 : ¬ ((1 : Int) < ((2 ^ 0 : Nat) : Int)):=by decide
   have c1 : ((1 : Nat) : Int) = 1:=rfl
   simp only [go_sem,c1,h11]
   exact ⟨1,rfl,miss (k:=0) (i:=1) hk hn (by simp [rowS]),by have:=miss (k:=0) (i:=1) hk hn (by simp [rowS]); omega⟩
 | succ k=>
  dsimp only [rowV,z4q]
  have hlen : (z4q h k).length = h.length + k:=z87 h k
  rw [← hlen]
  simp only [go_sem]
  refine z0Z (fun i : Nat=>⟨[(0,AI a),(1,AI b),(6,.own ((z4q h k).length + 1) (2 * i) 0 (2 * i)),(12,.own (z4q h k).length (2 ^ (k + 1)) 0 (2 ^ (k + 1))),(13,AI (2 ^ (k + 1) : Nat)),(14,AI i)],(z4q h k) ++ [.row none ((rowS (k + 1)).map PV.str) 0,.row none ((flS ((rowS (k + 1)).take i)).map PV.str) 0],[]⟩) (fun i=>i ≤ 2 ^ (k + 1) ∧ ∀ x ∈ (rowS (k + 1)).take i,(endL a x == b) = false) (fun i=>2 ^ (k + 1) - i) 0 rfl ⟨Nat.zero_le _,by simp⟩ ?_
  rintro i ⟨hi,hn⟩
  rcases Nat.lt_or_ge i (2 ^ (k + 1)) with hlt | hge
  ·have hlt' : i < (rowS (k + 1)).length:=by rw [z19]; exact hlt
   have hg:=z18 PV.str hlt'
   obtain ⟨hbs,hls⟩:=z7g (List.getElem_mem hlt')
   have hgs : (rowS (k + 1))[i]? = some (rowS (k + 1))[i]:=List.getElem?_eq_getElem hlt'
   have cx : cutP none 0 (PV.str (rowS (k + 1))[i]) = some (PV.str (rowS (k + 1))[i]):=rfl
   have w2 : IntKind.i64.wrap ((i : Int) + 1) = ((i + 1 : Nat) : Int):=z0m _ (by omega) (by omega)
   have htk : (rowS (k + 1)).take (i + 1) = (rowS (k + 1)).take i ++ [(rowS (k + 1))[i]]:=List.take_succ_eq_append_getElem hlt'
   generalize hse : (rowS (k + 1))[i] = s at *
   have hcond : (endL a s == b) = decide ((endL a s : Int) = (b : Int)):=by
    rw [Bool.eq_iff_iff,beq_iff_eq,decide_eq_true_iff]; omega
   have hwl : ((z4K a s).map fun n : Nat=>eI n).length = k + 1:=by simp [z1B,hls]
   have hwg : ((z4K a s).map fun n : Nat=>eI n)[k]? = some (eI (endL a s)):=by
    have:=zhU a s (by omega)
    rw [hls,Nat.add_sub_cancel] at this
    rw [List.getElem?_map,this]; rfl
   have hpos : (0 : Int) < ((k + 1 : Nat) : Int):=by omega
   have w3 : IntKind.i64.wrap (((k + 1 : Nat) : Int) - 1) = (k : Int):=by
    rw [show ((k + 1 : Nat) : Int) - 1 = (k : Int) by omega]; exact z0m _ (by omega) (by omega)
   have hmx : (2 * i) + 2 ≤ z0F:=by unfold z0F; omega
   have hfl : ((flS ((rowS (k + 1)).take i)).map PV.str).length = 2 * i:=by simp [zht,List.length_take,z19]; omega
   have hrl : (rowS (k + 1)).length = 2 ^ (k + 1):=z19 _
   have hst : s.length + 1 ≤ z00:=by rw [hls]; unfold z00; omega
   rcases hb : decide ((endL a s : Int) = (b : Int)) with _ | _
   ·have hne : ¬ ((endL a s : Int) = (b : Int)):=of_decide_eq_false hb
    simp only [go_sem,hlt,hg,cx,w2,z7h a s ha hbs (by omega),hwl,hwg,hpos,w3,hfl,hmx,hne,hrl,hst]
    refine ⟨i + 1,?_,⟨by omega,?_⟩,by omega⟩
    ·rw [htk,zrm,List.map_append]; rfl
    ·intro x hx
     rw [htk] at hx
     rcases List.mem_append.1 hx with hx | hx
     ·exact hn x hx
     ·obtain rfl : x = s:=by simpa using hx
      rw [hcond]; exact hb
   ·have heq : (endL a s : Int) = (b : Int):=of_decide_eq_true hb
    simp only [go_sem,hlt,hg,cx,w2,z7h a s ha hbs (by omega),hwl,hwg,hpos,w3,eq_true heq,hrl]
    exact ⟨congrArg AS (hit hk hn hgs (by rw [hcond]; exact hb)),by rw [List.take_append_of_le_length (by rw [z87]; omega),z62]⟩
  ·obtain rfl : i = 2 ^ (k + 1):=by omega
   have hm:=miss hk hn (by rw [z19]; exact Nat.le_refl _)
   simp only [go_sem,Int.lt_irrefl]
   have e1 : 2 * 2 ^ (k + 1) = 2 ^ (k + 1 + 1):=by rw [Nat.pow_succ 2 (k + 1)]; omega
   have e2 : (rowS (k + 1)).take (2 ^ (k + 1)) = rowS (k + 1):=List.take_of_length_le (by rw [z19]; exact Nat.le_refl _)
   have e3 : z4q h k ++ [Obj.row none ((rowS (k + 1)).map PV.str) 0,Obj.row none ((flS (rowS (k + 1))).map PV.str) 0] = z4q h (k + 1 + 1):=by
    rw [← zp0,z4q,z4q,List.append_assoc]; rfl
   refine ⟨k + 2,?_,hm,by omega⟩
   rw [e1,e2,e3,hlen]
   rfl
theorem zsB : (frS.all fun a=>toS.all fun b=>decide (wayF a b 9 0 = some (z0d a b))) = true:=by kernel_rfl
theorem zg8 {a b : Nat} (ha : a ∈ frS) (hb : b ∈ toS) : wayF a b 9 0 = some (z0d a b):=
 of_decide_eq_true (List.all_eq_true.1 (List.all_eq_true.1 zsB a ha) b hb)
theorem fr_lt {a : Nat} (ha : a ∈ frS) : a < 16:=of_decide_eq_true (List.all_eq_true.1 (show (frS.all fun a=>decide (a < 16)) = true from rfl) a ha)
theorem z01 {a b : Nat} (ha : a ∈ frS) (hb : b ∈ toS) : z0O (z0d a b) = true ∧ (z0d a b).length ≤ 8 ∧ endL a (z0d a b) = b:=by
 obtain ⟨kw,h1,h2,_⟩:=zd5 (zg8 ha hb)
 have hm:=z7g (List.mem_of_find?_eq_some h2)
 have he:=List.find?_some h2
 exact ⟨hm.1,by omega,by simpa using he⟩
theorem zsb {a b : Nat} (ha : a ∈ frS) (hb : b ∈ toS) : z0c X z2e [AI a,AI b] h K = K (AS (z0d a b)) h []:=zsa a b (fr_lt ha) _ (zg8 ha hb)
theorem zdn {n : Nat} (hn : n < 16) : z0c X z5x [AI n] h K = K (AB true) h []:=by
 refine rule ?_
 have h1 : (0 : Int) ≤ n:=by omega
 have h2 : (n : Int) ≤ 15:=by omega
 have h3 : ¬ ((n : Int) < 0):=by omega
 have h4 : ¬ ((n : Int) > 15):=by omega
 rw [c_q05q rfl]
 simp only [zk2,go_sem,z6Y,h3,h4]
theorem s_Path {a b : Nat} (ha : a < 16) (hb : b < 16) : z0c X z7T [AI a,AI b] h K = K (.tup [AS (z0d a b),AI 0]) h []:=by
 refine rule ?_
 rw [c_q05p rfl]
 simp only [zk1,go_sem,zdn ha,zdn hb,zuq zu7 zu6 a b ha hb]
theorem zqc : (frS.all fun a=>toS.all fun b=>decide ((visL a (z0d a b)).count 11 = 0) && decide ((visL a (z0d a b)).count 4 = 0)) = true:=by kernel_rfl
theorem zcY : PathOk z0d where
 bits a ha b hb:=(z01 ha hb).1
 len a ha b hb:=(z01 ha hb).2.1
 ends a ha b hb:=(z01 ha hb).2.2
 no11 a ha b hb:=by
  have:=List.all_eq_true.1 (List.all_eq_true.1 zqc a ha) b hb
  simp only [Bool.and_eq_true,decide_eq_true_eq] at this
  exact this.1
 no4 a ha b hb:=by
  have:=List.all_eq_true.1 (List.all_eq_true.1 zqc a ha) b hb
  simp only [Bool.and_eq_true,decide_eq_true_eq] at this
  exact this.2
end Go.Am
end
section
/- Lengths of numbers in bits,and comparisons of plain values. -/
open Go
namespace Go.Am
variable {h : Heap} {K : Post}
set_option maxRecDepth 20000
theorem zw4 {l : List Int} : shps none (l.map eI):=fun x hx=>by obtain ⟨n,_,rfl⟩:=List.mem_map.1 hx; rfl
end Go.Am
end
section
/- Lists of strings sorted,left out: printed by program. -/
open Go
set_option linter.unusedSimpArgs false
namespace Go.Am
attribute [-go_sem] PV.cells splice
variable {h : Heap} {K : Post}
end Go.Am
end
section
/- Finding values in lists: printed by program. -/
open Go
set_option linter.unusedSimpArgs false
namespace Go.Am
attribute [-go_sem] PV.cells
variable {h : Heap} {K : Post}
end Go.Am
end
section
/- Limits: what they are,what is wrong with them. -/
open Go
namespace Go.Am
variable {h : Heap} {K : Post}
end Go.Am
end
section
/- What is wrong with limits,both ways: printed by program. -/
open Go
set_option linter.unusedSimpArgs false
namespace Go.Am
variable {h : Heap} {K : Post}
end Go.Am
end
section
/- Package lot on measured values,and what the reference says of them. -/
open Go
namespace Go.Am
variable {h : Heap} {K : Post}
end Go.Am
end
section
/- Records: what they are,what is wrong with them. -/
open Go
set_option linter.unusedSimpArgs false
namespace Go.Am
variable {h : Heap} {K : Post}
theorem zpz {b : Nat} {P : Post} {vs : List AV} {h : Heap} : retK true b P (some vs) h [] = P (z0U vs) (h.take (max b (z0U vs).top)) []:=by
 simp [retK,z27,z1s]
attribute [go_sem] zpz
structure Rec where
 unit : List UInt8
 time : Int
 site : List UInt8
 res : List Int
end Go.Am
end
section
/- What is drawn: numbers,measured values. -/
open Go
namespace Go.Am
variable {L : List Int} {a : Int}
theorem g_Odd (hp : posN 14 a) (u v : Int) (huv : u ≤ v) (hu : -1000000000000 ≤ u) (hv : v ≤ 1000000000000) : ∃ k a2 : Int,a ≤ a2 ∧ a2 ≤ a + 2 ∧ -1099511627776 ≤ k ∧ k ≤ 1099511627776 ∧
 Gen z6L [AI u,AI v] L a a2 (AI k):=by
 have w1 : IntKind.i64.wrap (u - 1) = u - 1:=z0m _ (by omega) (by omega)
 have w2 : IntKind.i64.wrap (v + 1) = v + 1:=z0m _ (by omega) (by omega)
 by_cases hf : z1C L a 12 = 0
 ·have hm:=z82 (L:=L) (a:=a + 1) (l:=[u - 1,v + 1,u,v,-1099511627776,1099511627776]) (by simp) (by simp)
  simp only [List.mem_cons,List.not_mem_nil,or_false] at hm
  refine ⟨z3L [u - 1,v + 1,u,v,-1099511627776,1099511627776] L (a + 1),a + 1 + 1,by omega,by omega,by omega,by omega,Gen.of fun h id hid=>?_⟩
  rw [ztk rfl]
  simp only [zff,go_sem,hid,zga hp,hf,w1,w2]
 ·have hm:=z85 L (a + 1) huv (by omega)
  refine ⟨z2H u v L (a + 1),a + 1 + 1,by omega,by omega,by omega,by omega,Gen.of fun h id hid=>?_⟩
  rw [ztk rfl]
  simp only [zff,go_sem,hid,zga hp,hf,w1,w2,huv,show -1152921504606846976 ≤ u by omega,show v ≤ 1152921504606846976 by omega]
end Go.Am
end
section
/- Strings that are drawn. -/
open Go
set_option linter.unusedSimpArgs false
namespace Go.Am
variable {L : List Int} {a : Int} {h l : Heap} {id : Nat} {K : Post}
def isS : PV → Bool
 | .str _=>true
 | _=>false
def unS : PV → List UInt8
 | .str s=>s
 | _=>[]
def z4J (l : List (List UInt8)) (L : List Int) (a : Int) : List UInt8:=l.getD (z1C L a l.length).toNat []
theorem z6c {l : List (List UInt8)} {L : List Int} {a : Int} (hl : 0 < l.length) (hl2 : l.length < 4611686018427387904) : z4J l L a ∈ l:=by
 obtain ⟨b1,b2⟩:=z4A L a l.length (by omega) (by omega)
 unfold z4J
 have : (z1C L a l.length).toNat < l.length:=by omega
 simp only [List.getD,List.getElem?_eq_getElem this,Option.getD_some]
 exact List.getElem_mem _
theorem zwU {xs : List PV} (h : xs.all isS = true) : xs = (xs.map unS).map PV.str:=by
 induction xs with
 | nil=>rfl
 | cons x r ih=>
  simp only [List.all_cons,Bool.and_eq_true] at h
  simp only [List.map_cons]
  rw [← ih h.2]
  cases x <;> first | rfl | cases h.1
theorem zm4 (hp : posN 0 a) (xs : List PV) (hx : xs.all isS = true) (hl : 0 < xs.length) (hl2 : xs.length < 4611686018427387904) :
 Gen z2r [.p (.sl none xs)] L a (a + 1) (AS (z4J (xs.map unS) L a)):=by
 refine Gen.of fun h id hid=>?_
 rw [c_q02w rfl]
 obtain ⟨b1,b2⟩:=z4A L a xs.length (by omega) (by omega)
 have e4:=z8g (k:=.i64) b1
 have e5 : xs[(z1C L a xs.length).toNat]? = some (.str (z4J (xs.map unS) L a)):=by
  have hm:=zwU hx
  generalize hq : xs.map unS = q at *
  subst hm
  simp only [List.length_map] at *
  rw [z18 PV.str (show (z1C L a q.length).toNat < q.length by omega)]
  simp [z4J,List.getD,show (z1C L a q.length).toNat < q.length by omega]
 simp only [zkt,go_sem,z2j hid hp,e4,e5]
theorem z9U (hid : id < h.length) (hp : posN 0 a) {xs : List PV} (hx : xs.all isS = true) (hl : 0 < xs.length) (hl2 : xs.length < 4611686018427387904) :
 z0c X z2r [.ref id 0,.p (.sl none xs)] (h.set id (strm L a)) K = K (AS (z4J (xs.map unS) L a)) (h.set id (strm L (a + 1))) []:=(zm4 hp xs hx hl hl2).set hid
theorem z9T (hid : id < h.length) (hp : posN 0 a) {xs : List PV} (hx : xs.all isS = true) (hl : 0 < xs.length) (hl2 : xs.length < 4611686018427387904) :
 z0c X z2r [.ref id 0,.p (.sl none xs)] (h.set id (strm L a) ++ l) K = K (AS (z4J (xs.map unS) L a)) (h.set id (strm L (a + 1)) ++ l) []:=(zm4 hp xs hx hl hl2).app hid
theorem zdl (hp : posN 0 a) {xs : List PV} (hx : xs.all isS = true) (hl : 0 < xs.length) (hl2 : xs.length < 4611686018427387904) :
 z0c X z2r [.ref 0 0,.p (.sl none xs)] (strm L a :: l) K = K (AS (z4J (xs.map unS) L a)) (strm L (a + 1) :: l) []:=(zm4 hp xs hx hl hl2).hd
attribute [go_sem ↓] z9U z9T zdl
attribute [go_sem] z9U z9T zdl isS unS
end Go.Am
end
section
/- What is drawn: strings,limits. -/
open Go
set_option linter.unusedSimpArgs false
namespace Go.Am
variable {L : List Int} {a : Int} {h l : Heap} {id : Nat} {K : Post}
end Go.Am
end
section
/- Records: what is wrong with them,both ways. -/
open Go
set_option linter.unusedSimpArgs false
namespace Go.Am
variable {h : Heap} {K : Post}
def orL : List Int → Int
 | []=>0
 | x :: r=>if x ≠ 0 then x else orL r
end Go.Am
end
section
/- Sorting records: printed by program. -/
open Go
set_option linter.unusedSimpArgs false
namespace Go.Am
attribute [-go_sem] PV.cells splice
variable {h : Heap} {K : Post}
end Go.Am
end
section
/- Leaving out what is alike: printed by program. -/
open Go
set_option linter.unusedSimpArgs false
namespace Go.Am
attribute [-go_sem] PV.cells splice
variable {h : Heap} {K : Post}
end Go.Am
end
section
/- What is drawn: records. -/
open Go
set_option linter.unusedSimpArgs false
namespace Go.Am
variable {L : List Int} {a : Int} {h l : Heap} {id : Nat} {K : Post}
end Go.Am
end
section
/- Merging two ordered lists: by sorting and leaving out what is alike,and by looking each one up. Plain lists. -/
namespace Go.Am
variable {α : Type}
structure Ordr (c : α → α → Int) : Prop where
 neg : ∀ a b,c b a = - c a b
 trans : ∀ a b d,c a b ≤ 0 → c b d ≤ 0 → c a d ≤ 0
theorem Ordr.refl {c : α → α → Int} (o : Ordr c) (a : α) : c a a = 0:=by have:=o.neg a a; omega
variable {c : α → α → Int} {q : α → α → Bool} {a b : List α}
end Go.Am
end
section
/- Records alike; copies; bins. -/
open Go
set_option linter.unusedSimpArgs false
namespace Go.Am
variable {h : Heap} {K : Post}
def zwz (a b : Rec) : Bool:=decide (a.unit = b.unit) && (decide (a.time = b.time) && (decide (a.site = b.site) && decide (a.res = b.res)))
theorem zpG (a b : Rec) : zwz a b = true ↔ a = b:=by
 cases a; cases b
 simp [zwz]
theorem zws (l : List Int) (hl : l.length ≤ 1000) : z0c X z6J [AL l] h K = K (AI (orL l)) h []:=by
 refine rule ?_
 rw [c_q002 rfl]
 simp only [zfa,go_sem]
 refine z0Z (fun k : Nat=>⟨[(5,AL l),(6,AI l.length),(7,AI k)],h,[]⟩) (fun k=>k ≤ l.length ∧ orL (l.drop k) = orL l) (fun k=>l.length - k) 0 rfl ⟨by omega,rfl⟩ ?_
 rintro k ⟨hk,hp⟩
 rcases Nat.lt_or_ge k l.length with hlt | hge
 ·have g2:=z18 eI hlt
  have w2 : IntKind.i64.wrap ((k : Int) + 1) = ((k + 1 : Nat) : Int):=z0m _ (by omega) (by omega)
  rw [List.drop_eq_getElem_cons hlt,orL] at hp
  by_cases hz : l[k] = 0
  ·rw [if_neg (by simp [hz])] at hp
   simp only [go_sem,hlt,g2,hz,w2]
   exact ⟨k + 1,rfl,⟨by omega,hp⟩,by omega⟩
  ·rw [if_pos hz] at hp
   simp only [go_sem,hlt,g2,hz]
   rw [hp]
 ·have ek : k = l.length:=by omega
  subst ek
  rw [List.drop_length] at hp
  simp only [go_sem,Nat.lt_irrefl]
  rw [← hp]; rfl
end Go.Am
end
section
/- Sorting numbers: printed by program. -/
open Go
set_option linter.unusedSimpArgs false
namespace Go.Am
attribute [-go_sem] PV.cells splice
variable {h : Heap} {K : Post}
end Go.Am
end
section
/- Bins,both ways; lists joined; records sorted. -/
open Go
set_option linter.unusedSimpArgs false
namespace Go.Am
variable {h : Heap} {K : Post}
end Go.Am
end
section
/- Lists of records joined,compared,merged. -/
open Go
set_option linter.unusedSimpArgs false
namespace Go.Am
variable {h : Heap} {K : Post}
instance : DecidableEq Rec:=fun a b=>decidable_of_iff (zwz a b = true) (zpG a b)
end Go.Am
end
section
/- Records merged asv the reference does it. -/
open Go
set_option linter.unusedSimpArgs false
namespace Go.Am
variable {h : Heap} {K : Post}
end Go.Am
end
section
/- Retests: which record of a unit counts. Plain lists; both ways yield the same. -/
set_option linter.all false
namespace Go.Am
end Go.Am
end
section
/- Lists of strings. -/
open Go
set_option linter.all false
namespace Go.Am
variable {h : Heap} {K : Post}
theorem zuH : X.ex2 = libF GRL PRL:=rfl
end Go.Am
end
section
/- Tests and faults: what is wrong with them,both ways. -/
open Go
set_option linter.all false
namespace Go.Am
variable {h : Heap} {K : Post}
theorem s_Trim (s cs : List UInt8) (hs : s.length ≤ 1000000) (hc : cs.length ≤ 1000) (ha : cs.all (fun b=>decide (b.toNat < 128)) = true) : z0c X zcJ [AS s,AS cs] h K = K (AS (zs8 s cs)) h []:=by
 refine z7c (X:=X) (by kernel_rfl) ?_
 rw [zuH]
 exact z8d (vs:=[.str s,.str cs]) (by kernel_rfl) (s:=trimS) (by kernel_rfl) rfl (by simp only [trimS]; rw [if_pos ⟨hs,hc,ha⟩])
theorem zaL (s : List UInt8) (hs : s.length ≤ 1000000) : z0c X z2p [AS s] h K = K (AB (z0O s)) h []:=by
 refine rule ?_
 rw [c_q000 rfl]
 have e:=fun h K=>s_Trim (h:=h) (K:=K) s [48,49] hs (by simp) (by decide)
 have b : decide (zs8 s [48,49] = []) = z0O s:=zpX s
 simp only [zkm,go_sem,e,b]
theorem zaM (s : List UInt8) (hs : s.length ≤ 1000000) : z0c X z3H [AS s] h K = K (AB (z0O s)) h []:=by
 refine rule ?_
 rw [c_q031 rfl]
 have e:=fun h K=>s_only (h:=h) (K:=K) s [48,49] (by omega)
 have b : (s.all fun c=>[48,49].contains c) = z0O s:=rfl
 simp only [zkv,go_sem,e,b]
end Go.Am
end
section
/- Faults: what is wrong with them,both ways. -/
open Go
set_option linter.all false
namespace Go.Am
variable {h : Heap} {K : Post}
theorem IndexI {v : AV} (l : List Int) (hv : Shows none v (l.map eI) h) (x : Int) (hl : l.length ≤ 1000000) : z0c X z7S [v,AI x] h K = K (AI (if l.findIdx (fun y=>decide (y = x)) < l.length then (l.findIdx (fun y=>decide (y = x)) : Int) else -1)) h []:=by
 refine rule ?_
 rw [c_q044]
 have vl:=hv.len
 rw [List.length_map] at vl
 simp only [zfo,go_sem,vl]
 refine z0Z (fun k : Nat=>⟨[(0,v),(1,AI x),(7,AI l.length),(8,AI k)],h,[]⟩) (fun k=>k ≤ l.length ∧ ∀ y ∈ l.take k,decide (y = x) = false) (fun k=>l.length - k) 0 rfl (by simp) ?_
 rintro k ⟨hk,hn⟩
 rcases Nat.lt_or_ge k l.length with hlt | hge
 ·obtain ⟨a,ha,hb⟩:=hv.get k (by simpa using hlt)
  rw [List.getElem_map] at hb
  have w2 : IntKind.i64.wrap ((k : Int) + 1) = ((k + 1 : Nat) : Int):=z0m _ (by omega) (by omega)
  by_cases hpk : x = l[k]
  ·have hf : l.findIdx (fun y=>decide (y = x)) = k:=by
    rw [List.findIdx_eq hlt]
    refine ⟨by simp [hpk],fun j hj=>?_⟩
    have:=hn l[j] (by rw [List.mem_take_iff_getElem]; exact ⟨j,by omega,rfl⟩)
    simpa using this
   simp only [go_sem,hlt,ha,hb,hpk.symm,w2]
   simp only [hf,hlt,if_true]
  ·simp only [go_sem,hlt,ha,hb,hpk,w2]
   refine ⟨k + 1,rfl,⟨by omega,fun y hy=>?_⟩,by omega⟩
   rw [List.take_succ_eq_append_getElem hlt,List.mem_append,List.mem_singleton] at hy
   rcases hy with hy | hy
   ·exact hn y hy
   ·rw [hy]; simp; exact fun e=>hpk e.symm
 ·have e1 : k = l.length:=by omega
  subst e1
  simp only [go_sem,Nat.lt_irrefl]
  rw [List.take_length] at hn
  have : ¬ l.findIdx (fun y=>decide (y = x)) < l.length:=by
   rw [Nat.not_lt,Nat.le_iff_lt_or_eq]; right
   exact (List.findIdx_eq_length.2 (fun y hy=>by simp [hn y hy])).symm
  rw [if_neg this]
theorem ziv {v : AV} (l : List Int) (hv : ∀ h' : Heap,h' = h → Shows none v (l.map eI) h') (x : Int) (hl : l.length ≤ 1000000) : z0c X z4Q [v,AI x] h K = K (AB (l.contains x)) h []:=by
 refine rule ?_
 rw [c_q03x]
 have e:=fun K=>IndexI (h:=h) (K:=K) l (hv h rfl) x hl
 have hd : decide (0 ≤ (if l.findIdx (fun y=>decide (y = x)) < l.length then (l.findIdx (fun y=>decide (y = x)) : Int) else -1)) = l.contains x:=by
  rw [Bool.eq_iff_iff,decide_eq_true_eq,List.contains_iff_mem]
  constructor
  ·intro hq
   split at hq
   ·rename_i hlt
    have:=List.findIdx_getElem (w:=hlt)
    simp only [decide_eq_true_eq] at this
    exact this ▸ List.getElem_mem hlt
   ·omega
  ·intro hm
   rw [if_pos (List.findIdx_lt_length_of_exists ⟨x,hm,by simp⟩)]; omega
 simp only [zky,go_sem,e,hd]
theorem zel (l : List Int) (x : Int) (hl : l.length ≤ 1000000) : z0c X z4Q [AL l,AI x] h K = K (AB (l.contains x)) h []:=ziv l (fun h' _=>zso zw4) x hl
end Go.Am
end
section
/- Commands: what is wrong with them,on both sides. -/
open Go
set_option linter.all false
namespace Go.Am
variable {h : Heap} {K : Post}
abbrev cmdP (c : Cmd) : PV:=.agg [.int .i64 c.k,.int .i64 c.s,.int .i64 c.cl,.str c.b,.str c.w,.str c.m]
abbrev ACm (c : Cmd) : AV:=.p (cmdP c)
structure CmdOk (c : Cmd) : Prop where
 b : c.b.length ≤ 100000
 w : c.w.length ≤ 100000
 m : c.m.length ≤ 100000
theorem zaP (n : Int) : z0c X z7W [AI n] h K = K (AB (z05 n)) h []:=by
 refine rule ?_
 rw [c_q06q rfl]
 unfold z05
 by_cases h0 : n = 0
 ·subst h0; simp only [z7N,go_sem]
 by_cases h1 : n = 1
 ·subst h1; simp only [z7N,go_sem]
 by_cases h2 : n = 6
 ·subst h2; simp only [z7N,go_sem]
 by_cases h3 : n = 13
 ·subst h3; simp only [z7N,go_sem]
 have e : (n == 0 || n == 1 || n == 6 || n == 13) = false:=by simp [h0,h1,h2,h3]
 rw [e]
 simp only [z7N,go_sem,h0,h1,h2,h3]
theorem zdp (n : Int) : z0c X z91 [AI n] h K = K (AB (z05 n)) h []:=by
 refine rule ?_
 rw [c_q03p rfl]
 have e : ([0,1,6,13] : List Int).contains n = z05 n:=by
  unfold z05
  simp only [List.contains_cons,List.contains_nil,Bool.or_false,Bool.or_assoc]
 have k : ∀ (h' : Heap) (K' : Post),z0c X z4Q [.p (.sl none [eI 0,eI 1,eI 6,eI 13]),AI n] h' K' = K' (AB (([0,1,6,13] : List Int).contains n)) h' []:=fun h' K'=>zel (h:=h') (K:=K') [0,1,6,13] n (by decide)
 simp only [zkx,go_sem,k,e]
theorem z2h (n : Int) : z0c X z3X [AI n] h K = K (AB (decide (n = 7) || decide (n = 8))) h []:=by
 refine rule ?_
 rw [c_q06c rfl]
 by_cases h0 : n = 7
 ·subst h0; simp only [zcs,go_sem]
 by_cases h1 : n = 8
 ·subst h1; simp only [zcs,go_sem]
 simp only [zcs,go_sem,h0,h1]
theorem z0Y (n : Int) : z0c X z5y [AI n] h K = K (AB (decide (1 ≤ n) && decide (n ≤ 6))) h []:=by
 refine rule ?_
 rw [c_q06d rfl]
 by_cases h0 : n < 1
 ·have : ¬ (1 ≤ n):=by omega
  simp only [zct,go_sem,z6Y,h0,this]
 ·have : 1 ≤ n:=by omega
  by_cases h1 : 6 < n
  ·have h2 : ¬ (n ≤ 6):=by omega
   simp only [zct,go_sem,z6Y,h0,this,h1,h2]
  ·have h2 : n ≤ 6:=by omega
   simp only [zct,go_sem,z6Y,h0,this,h1,h2]
theorem zww (c : Cmd) (hc : CmdOk c) : z0c X z7V [ACm c] h K = K (AI (z28 c : Nat)) h []:=by
 refine rule ?_
 rw [c_q06n rfl]
 have b1:=hc.b; have b2:=hc.w; have b3:=hc.m
 have k1:=fun (h' : Heap) (K' : Post)=>zaL (h:=h') (K:=K') c.b (show c.b.length ≤ 1000000 by omega)
 have k2:=fun (h' : Heap) (K' : Post)=>zaL (h:=h') (K:=K') c.w (show c.w.length ≤ 1000000 by omega)
 have k3:=fun (h' : Heap) (K' : Post)=>zaL (h:=h') (K:=K') c.m (show c.m.length ≤ 1000000 by omega)
 obtain ⟨k,s,cl,b,w,m⟩:=c
 simp only at b1 b2 b3 k1 k2 k3
 have h0:=k1; have h0':=k2; have h0'':=k3
 unfold z28
 by_cases h1 : b = []
 ·simp only [z2U,go_sem,h1]
 rcases hb : z0O b with _ | _
 ·simp only [z2U,go_sem,h1,k1,hb]
 by_cases h2 : 2000 < b.length
 ·have h2' : (2000 : Int) < (b.length : Int):=by omega
  simp only [z2U,go_sem,h1,k1,hb,h2,h2']
 have h2' : ¬ (2000 : Int) < (b.length : Int):=by omega
 by_cases h3 : w = []
 ·subst h3
  have hbn : z0O [] = true:=rfl
  rcases hm : z0O m with _ | _
  ·simp only [z2U,go_sem,h1,k1,hb,h2,h2',k2,hbn,k3,hm]
  ·by_cases h4 : m = []
   ·subst h4
    simp only [z2U,go_sem,h1,k1,hb,h2,h2',k2,hbn]
   ·simp only [z2U,go_sem,h1,k1,hb,h2,h2',k2,hbn,k3,hm,h4]
 by_cases h4 : w.length = b.length
 ·have h4' : (w.length : Int) = (b.length : Int):=by omega
  by_cases h5 : m.length = b.length
  ·have h5' : (m.length : Int) = (b.length : Int):=by omega
   rcases hw : z0O w with _ | _
   ·simp only [z2U,go_sem,h1,k1,hb,h2',h3,h4',h5',k2,hw]
    simp [h1,hb,h2,h3,h4,h5,hw]
   ·rcases hm : z0O m with _ | _
    ·simp only [z2U,go_sem,h1,k1,hb,h2',h3,h4',h5',k2,hw,k3,hm]
     simp [h1,hb,h2,h3,h4,h5,hw,hm]
    ·simp only [z2U,go_sem,h1,k1,hb,h2',h3,h4',h5',k2,hw,k3,hm]
     simp [h1,hb,h2,h3,h4,h5,hw,hm]
  ·have h5' : ¬ (m.length : Int) = (b.length : Int):=by omega
   simp only [z2U,go_sem,h1,k1,hb,h2',h3,h4',h5']
   simp [h1,hb,h2,h3,h4,h5]
 ·have h4' : ¬ (w.length : Int) = (b.length : Int):=by omega
  simp only [z2U,go_sem,h1,k1,hb,h2',h3,h4']
  simp [h1,hb,h2,h3,h4]
theorem zsi (c : Cmd) (hc : CmdOk c) : z0c X z90 [ACm c] h K = K (AI (z28 c : Nat)) h []:=by
 refine rule ?_
 rw [c_q03n rfl]
 have b1:=hc.b; have b2:=hc.w; have b3:=hc.m
 have k1:=fun (h' : Heap) (K' : Post)=>zaM (h:=h') (K:=K') c.b (show c.b.length ≤ 1000000 by omega)
 have k2:=fun (h' : Heap) (K' : Post)=>zaM (h:=h') (K:=K') c.w (show c.w.length ≤ 1000000 by omega)
 have k3:=fun (h' : Heap) (K' : Post)=>zaM (h:=h') (K:=K') c.m (show c.m.length ≤ 1000000 by omega)
 obtain ⟨k,s,cl,b,w,m⟩:=c
 simp only at b1 b2 b3 k1 k2 k3
 have h0:=k1; have h0':=k2; have h0'':=k3
 unfold z28
 by_cases h1 : b = []
 ·simp only [z2S,go_sem,h1]
 rcases hb : z0O b with _ | _
 ·simp only [z2S,go_sem,h1,k1,hb]
 by_cases h2 : 2000 < b.length
 ·have h2' : (2000 : Int) < (b.length : Int):=by omega
  simp only [z2S,go_sem,h1,k1,hb,h2,h2']
 have h2' : ¬ (2000 : Int) < (b.length : Int):=by omega
 by_cases h3 : w = []
 ·subst h3
  have hbn : z0O [] = true:=rfl
  rcases hm : z0O m with _ | _
  ·simp only [z2S,go_sem,h1,k1,hb,h2,h2',k2,hbn,k3,hm]
  ·by_cases h4 : m = []
   ·subst h4
    simp only [z2S,go_sem,h1,k1,hb,h2,h2',k2,hbn]
   ·simp only [z2S,go_sem,h1,k1,hb,h2,h2',k2,hbn,k3,hm,h4]
 by_cases h4 : w.length = b.length
 ·have h4' : (w.length : Int) = (b.length : Int):=by omega
  by_cases h5 : m.length = b.length
  ·have h5' : (m.length : Int) = (b.length : Int):=by omega
   rcases hw : z0O w with _ | _
   ·simp only [z2S,go_sem,h1,k1,hb,h2',h3,h4',h5',k2,hw]
    simp [h1,hb,h2,h3,h4,h5,hw]
   ·rcases hm : z0O m with _ | _
    ·simp only [z2S,go_sem,h1,k1,hb,h2',h3,h4',h5',k2,hw,k3,hm]
     simp [h1,hb,h2,h3,h4,h5,hw,hm]
    ·simp only [z2S,go_sem,h1,k1,hb,h2',h3,h4',h5',k2,hw,k3,hm]
     simp [h1,hb,h2,h3,h4,h5,hw,hm]
  ·have h5' : ¬ (m.length : Int) = (b.length : Int):=by omega
   simp only [z2S,go_sem,h1,k1,hb,h2',h3,h4',h5']
   simp [h1,hb,h2,h3,h4,h5]
 ·have h4' : ¬ (w.length : Int) = (b.length : Int):=by omega
  simp only [z2S,go_sem,h1,k1,hb,h2',h3,h4']
  simp [h1,hb,h2,h3,h4]
end Go.Am
end
section
/- A command's fault on both sides. -/
open Go
set_option linter.all false
namespace Go.Am
variable {h : Heap} {K : Post}
theorem eqs6 {k s cl k' s' cl' : Int} {b w m b' w' m' : List UInt8} : eqs [.int .i64 k,.int .i64 s,.int .i64 cl,.str b,.str w,.str m] [.int .i64 k',.int .i64 s',.int .i64 cl',.str b',.str w',.str m'] = some (decide ((⟨k,s,cl,b,w,m⟩ : Cmd) = ⟨k',s',cl',b',w',m'⟩)):=by
 by_cases e1 : k = k' <;> by_cases e2 : s = s' <;> by_cases e3 : cl = cl' <;> by_cases e4 : b = b' <;> by_cases e5 : w = w' <;> by_cases e6 : m = m' <;> simp [eqs,PV.eq1,e1,e2,e3,e4,e5,e6]
def zh1 (c : Cmd) : Nat:=
 if c.k = 1 ∨ c.k = 2 ∨ c.k = 10 then (if !z05 c.s then 1 else 0)
 else if c.k = 9 then (if c.cl < 0 ∨ 20000 < c.cl then 1 else 0)
 else if c.k = 7 ∨ c.k = 8 then z28 c
 else (if !z0O c.b then 9 else if 2000 < c.b.length then 2 else 0)
def zjN (c : Cmd) : Cmd:=
 if c.k = 1 ∨ c.k = 2 ∨ c.k = 10 then { c with s:=0 }
 else if c.k = 9 then { c with cl:=0 }
 else if c.k = 7 ∨ c.k = 8 then { c with b:=[],w:=[],m:=[] }
 else { c with b:=[] }
theorem zkd {c : Cmd} (h : 1 ≤ c.k ∧ c.k ≤ 10) : cmdF c = if zh1 c ≠ 0 then zh1 c else if zjN c = ⟨c.k,0,0,[],[],[]⟩ then 0 else 3:=by
 obtain ⟨k,s,cl,b,w,m⟩:=c
 unfold cmdF zh1 zjN
 dsimp only at h ⊢
 by_cases h1 : k = 1 ∨ k = 2 ∨ k = 10
 ·simp only [if_pos h1]
  rcases z05 s with _ | _ <;> simp [Cmd.mk.injEq]
 simp only [if_neg h1]
 by_cases h2 : k = 9
 ·simp only [if_pos h2]
  by_cases h3 : cl < 0 ∨ 20000 < cl <;> simp [h3,Cmd.mk.injEq]
 simp only [if_neg h2]
 by_cases h3 : k = 7 ∨ k = 8
 ·simp only [if_pos h3]
  by_cases h4 : z28 ⟨k,s,cl,b,w,m⟩ = 0 <;> simp [h4,Cmd.mk.injEq]
 simp only [if_neg h3]
 rw [if_pos (by omega)]
 rcases z0O b with _ | _
 ·simp
 ·by_cases h4 : 2000 < b.length <;> simp [h4,Cmd.mk.injEq]
theorem zb4 {c : Cmd} (h : ¬ (1 ≤ c.k ∧ c.k ≤ 10)) : cmdF c = 4:=by
 unfold cmdF
 rw [if_neg (by omega),if_neg (by omega),if_neg (by omega),if_neg (by omega)]
theorem len2 (n : Nat) : n + 1 + 1 = n + 2:=rfl
set_option maxHeartbeats 4000000 in
theorem zeo (c : Cmd) (hc : CmdOk c) : z0c X z7U [ACm c] h K = K (.tup [ACm (zjN c),AI (zh1 c : Nat)]) h []:=by
 refine rule ?_
 rw [c_q06e rfl]
 have b1:=hc.b; have b2:=hc.w; have b3:=hc.m
 have k1:=fun (h' : Heap) (K' : Post)=>zaL (h:=h') (K:=K') c.b (show c.b.length ≤ 1000000 by omega)
 have k2:=fun (h' : Heap) (K' : Post)=>zww (h:=h') (K:=K') c hc
 obtain ⟨k,s,cl,b,w,m⟩:=c
 simp only at b1 b2 b3 k1 k2
 unfold zh1 zjN
 dsimp only
 by_cases h1 : k = 1
 ·rcases hs : z05 s with _ | _ <;> (simp only [z2A,go_sem,len2,h1,zaP,hs]; simp [h1,hs])
 by_cases h2 : k = 2
 ·rcases hs : z05 s with _ | _ <;> (simp only [z2A,go_sem,len2,h1,h2,zaP,hs]; simp [h1,h2,hs])
 by_cases h3 : k = 10
 ·rcases hs : z05 s with _ | _ <;> (simp only [z2A,go_sem,len2,h1,h2,h3,zaP,hs]; simp [h1,h2,h3,hs])
 by_cases h4 : k = 9
 ·by_cases g1 : cl < 0
  ·(simp only [z2A,go_sem,len2,h1,h2,h3,h4,z6Y,g1]; simp [h1,h2,h3,h4,g1])
  ·by_cases g2 : 20000 < cl
   ·(simp only [z2A,go_sem,len2,h1,h2,h3,h4,z6Y,g1,g2]; simp [h1,h2,h3,h4,g1,g2])
   ·(simp only [z2A,go_sem,len2,h1,h2,h3,h4,z6Y,g1,g2]; simp [h1,h2,h3,h4,g1,g2])
 by_cases h5 : k = 7
 ·subst h5
  (simp only [z2A,go_sem,len2,z2h,k2]; simp [len2])
 by_cases h6 : k = 8
 ·subst h6
  (simp only [z2A,go_sem,len2,z2h,k2]; simp [len2])
 rcases hb : z0O b with _ | _
 ·(simp only [z2A,go_sem,len2,h1,h2,h3,h4,h5,h6,z2h,k1,hb]; simp [h1,h2,h3,h4,h5,h6,hb])
 ·by_cases h7 : 2000 < b.length
  ·have h7' : (2000 : Int) < (b.length : Int):=by omega
   (simp only [z2A,go_sem,len2,h1,h2,h3,h4,h5,h6,z2h,k1,hb,h7,h7']; simp [h1,h2,h3,h4,h5,h6,hb,h7])
  ·have h7' : ¬ (2000 : Int) < (b.length : Int):=by omega
   (simp only [z2A,go_sem,len2,h1,h2,h3,h4,h5,h6,z2h,k1,hb,h7,h7']; simp [h1,h2,h3,h4,h5,h6,hb,h7])
end Go.Am
end
section
/- A builder of strings. -/
open Go
set_option linter.all false
namespace Go.Am
variable {h : Heap} {K : Post}
theorem zpv {b : Nat} : reif b h .nili = some .nili:=by simp only [reif]
attribute [local go_sem] zpv
def bldB (u : Bool) (id n : Nat) : Obj:=.box [bif u then .ref id 0 else .bt 0 bldT id 0,.bt 1 bldE (id + 1) n]
theorem zjQ (id n : Nat) : bldB true id n = .box [.ref id 0,.bt 1 bldE (id + 1) n]:=rfl
theorem bldB_f (id n : Nat) : bldB false id n = .box [.bt 0 bldT id 0,.bt 1 bldE (id + 1) n]:=rfl
theorem set_id {o : Obj} {id : Nat} (hh : h[id]? = some o) : h.set id o = h:=by
 apply List.ext_getElem?
 intro j
 by_cases e : id = j
 ·subst e; rw [List.getElem?_set_self (z56 hh),hh]
 ·rw [List.getElem?_set_ne e]
theorem zen (u : Bool) (id n : Nat) (hh : h[id]? = some (bldB u id n)) : z0c X z93 [.ref id 0] h K = K (.tup []) (h.set id (bldB true id n)) []:=by
 refine rule ?_
 rw [c_q04z rfl]
 cases u with
 | true=>
  rw [set_id hh]
  rw [zjQ] at hh
  simp only [zfq,go_sem,hh]
 | false=>
  rw [bldB_f] at hh
  rw [zjQ]
  simp only [bldT] at hh
  simp only [zfq,go_sem,hh]
theorem zpO {h : Heap} {i j : Nat} {a b : Obj} (e : i ≠ j) : (h.set i a).set j b = (h.set j b).set i a:=List.set_comm a b e
def zdE (h : Heap) (u : Bool) (id : Nat) (s : List UInt8) : Prop:=h[id]? = some (bldB u id s.length) ∧ h[id + 1]? = some (.row none (z0k s) 0)
def held (h : Heap) (id : Nat) (s : List UInt8) : Heap:=(h.set id (bldB true id s.length)).set (id + 1) (.row none (z0k s) 0)
theorem z1c (s : List UInt8) : (z0k s).length = s.length:=by simp [z0k]
theorem zhd (s t : List UInt8) : z0k s ++ z0k t = z0k (s ++ t):=by simp [z0k]
theorem z3B {u : Bool} {id : Nat} {s t : List UInt8} (H : zdE h u id s) (hm : s.length + t.length ≤ 200000000000) : z0c X z2W [.ref id 0,AS t] h K = K (.tup [AI t.length,.nili]) (held h id (s ++ t)) []:=by
 refine rule ?_
 rw [c_q04y rfl]
 have l:=z56 H.1
 have l2:=z56 H.2
 have e:=fun K=>zen (K:=K) u id s.length H.1
 have g1 : (h.set id (bldB true id s.length))[id]? = some (.box [.ref id 0,.bt 1 bldE (id + 1) s.length]):=by rw [List.getElem?_set_self l,zjQ]
 have g2 : (h.set id (bldB true id s.length))[id + 1]? = some (.row none (z0k s) 0):=by rw [List.getElem?_set_ne (by omega)]; exact H.2
 have g3 : ∀ o,((h.set id (bldB true id s.length)).set (id + 1) o)[id]? = some (.box [.ref id 0,.bt 1 bldE (id + 1) s.length]):=fun o=>by rw [List.getElem?_set_ne (by omega)]; exact g1
 have hl : s.length + t.length ≤ z0F:=by unfold z0F; omega
 simp only [bldE] at g1 g3
 simp only [zkz,go_sem,e,g1,g2,g3,z1c,hl]
 rw [List.take_of_length_le (by simp)]
 unfold held
 rw [zpO (i:=id + 1) (j:=id) (by omega),List.set_set,zhd,List.length_append]
 rfl
def z2M (h : Heap) (id : Nat) (s : List UInt8) : Heap:=if s = [] then h else h.set (id + 1) (.row none (z0k s) (s.length + 1))
theorem z4V (s : List UInt8) : z3D (z0k s) = some s:=by
 induction s with
 | nil=>rfl
 | cons a r ih=>
  have h1 : (0 : Int) ≤ (a.toNat : Int) ∧ (a.toNat : Int) < 256:=⟨by omega,by have:=a.toNat_lt; omega⟩
  have e : z0k (a :: r) = .int .u8 a.toNat :: z0k r:=rfl
  rw [e]
  unfold z3D
  rw [if_pos h1,ih]
  simp
theorem z8C {u : Bool} {id : Nat} {s : List UInt8} (H : zdE h u id s) (hm : s.length ≤ 200000000000) : z0c X z4R [.ref id 0] h K = K (AS s) (z2M h id s) []:=by
 refine rule ?_
 rw [c_q04x rfl]
 have l:=z56 H.1
 have l2:=z56 H.2
 have g1:=H.1
 have g2:=H.2
 unfold bldB at g1
 have hl : s.length ≤ z0F:=by unfold z0F; omega
 unfold z2M
 by_cases h0 : s = []
 ·subst h0
  simp only [bldE,List.length_nil] at g1
  simp only [zfp,go_sem,g1,g2,z1c,hl]
  exact if_pos rfl ▸ trivial
 ·have h0' : ¬ s.length = 0:=by simpa using h0
  have h1 : 1 ≤ s.length:=by omega
  simp only [bldE] at g1
  have e0 : (0 : Int) ≤ (s.length : Int):=by omega
  simp only [zfp,go_sem,g1,g2,z1c,hl,h0',h1,z4V,e0,Int.toNat_natCast,h0]
end Go.Am
end
section
/- The program: a run in the heap; a clock. -/
open Go
set_option linter.all false
namespace Go.Am
variable {h l : Heap} {K : Post} {r : Run}
attribute [-go_sem] oEqa splice
def rc (s : Sett) (st ck ni nd : Int) (a b c d e : AV) (w : Bool) : List AV:=
 [AI s.e1.k,AI s.e1.s,AI s.e1.cl,AS s.e1.b,AS s.e1.w,AS s.e1.m,AI s.e2.k,AI s.e2.s,AI s.e2.cl,AS s.e2.b,AS s.e2.w,AS s.e2.m,
  AI s.h1.k,AI s.h1.s,AI s.h1.cl,AS s.h1.b,AS s.h1.w,AS s.h1.m,AI s.t1.k,AI s.t1.s,AI s.t1.cl,AS s.t1.b,AS s.t1.w,AS s.t1.m,
  AI s.h2.k,AI s.h2.s,AI s.h2.cl,AS s.h2.b,AS s.h2.w,AS s.h2.m,AI s.t2.k,AI s.t2.s,AI s.t2.cl,AS s.t2.b,AS s.t2.w,AS s.t2.m,
  AI st,AI ck,AI ni,AI nd,a,b,c,d,e,AB w]
section
variable {s : Sett} {st ck ni nd x : Int} {a b c d e o : AV} {w : Bool}
theorem zgd : (rc s st ck ni nd a b c d e w).length = 46:=(rfl)
theorem zgc : z60 (rc s st ck ni nd a b c d e w) = false:=(rfl)
theorem rc_1 : (rc s st ck ni nd a b c d e w)[1]? = some (AI s.e1.s):=(rfl)
theorem rc_7 : (rc s st ck ni nd a b c d e w)[7]? = some (AI s.e2.s):=(rfl)
theorem zrI : (rc s st ck ni nd a b c d e w)[15]? = some (AS s.h1.b):=(rfl)
theorem zrJ : (rc s st ck ni nd a b c d e w)[21]? = some (AS s.t1.b):=(rfl)
theorem zrK : (rc s st ck ni nd a b c d e w)[27]? = some (AS s.h2.b):=(rfl)
theorem zrL : (rc s st ck ni nd a b c d e w)[33]? = some (AS s.t2.b):=(rfl)
theorem z86 : (rc s st ck ni nd a b c d e w)[36]? = some (AI st):=(rfl)
theorem zei : (rc s st ck ni nd a b c d e w)[37]? = some (AI ck):=(rfl)
theorem zpp : (rc s st ck ni nd a b c d e w)[38]? = some (AI ni):=(rfl)
theorem zpq : (rc s st ck ni nd a b c d e w)[39]? = some (AI nd):=(rfl)
theorem zpr : (rc s st ck ni nd a b c d e w)[40]? = some a:=(rfl)
theorem zps : (rc s st ck ni nd a b c d e w)[41]? = some b:=(rfl)
theorem zhA : (rc s st ck ni nd a b c d e w)[42]? = some c:=(rfl)
theorem zhB : (rc s st ck ni nd a b c d e w)[43]? = some d:=(rfl)
theorem zhC : (rc s st ck ni nd a b c d e w)[44]? = some e:=(rfl)
theorem zrM : (rc s st ck ni nd a b c d e w)[45]? = some (AB w):=(rfl)
theorem zge : splice (rc s st ck ni nd a b c d e w) 36 [AI x] = rc s x ck ni nd a b c d e w:=(rfl)
theorem zgf : splice (rc s st ck ni nd a b c d e w) 37 [AI x] = rc s st x ni nd a b c d e w:=(rfl)
theorem zgg : splice (rc s st ck ni nd a b c d e w) 38 [AI x] = rc s st ck x nd a b c d e w:=(rfl)
theorem zgh : splice (rc s st ck ni nd a b c d e w) 39 [AI x] = rc s st ck ni x a b c d e w:=(rfl)
theorem zgi : splice (rc s st ck ni nd a b c d e w) 40 [o] = rc s st ck ni nd o b c d e w:=(rfl)
theorem zgj : splice (rc s st ck ni nd a b c d e w) 41 [o] = rc s st ck ni nd a o c d e w:=(rfl)
theorem zgk : splice (rc s st ck ni nd a b c d e w) 42 [o] = rc s st ck ni nd a b o d e w:=(rfl)
theorem zgl : splice (rc s st ck ni nd a b c d e w) 43 [o] = rc s st ck ni nd a b c o e w:=(rfl)
theorem zgm : splice (rc s st ck ni nd a b c d e w) 44 [o] = rc s st ck ni nd a b c d o w:=(rfl)
variable {q : Cmd}
theorem rcs_0 : splice (rc s st ck ni nd a b c d e w) 0 [AI q.k,AI q.s,AI q.cl,AS q.b,AS q.w,AS q.m] = rc { s with e1:=q } st ck ni nd a b c d e w:=(rfl)
theorem rcs_6 : splice (rc s st ck ni nd a b c d e w) 6 [AI q.k,AI q.s,AI q.cl,AS q.b,AS q.w,AS q.m] = rc { s with e2:=q } st ck ni nd a b c d e w:=(rfl)
theorem zuv : splice (rc s st ck ni nd a b c d e w) 12 [AI q.k,AI q.s,AI q.cl,AS q.b,AS q.w,AS q.m] = rc { s with h1:=q } st ck ni nd a b c d e w:=(rfl)
theorem zuw : splice (rc s st ck ni nd a b c d e w) 18 [AI q.k,AI q.s,AI q.cl,AS q.b,AS q.w,AS q.m] = rc { s with t1:=q } st ck ni nd a b c d e w:=(rfl)
theorem zux : splice (rc s st ck ni nd a b c d e w) 24 [AI q.k,AI q.s,AI q.cl,AS q.b,AS q.w,AS q.m] = rc { s with h2:=q } st ck ni nd a b c d e w:=(rfl)
theorem zuy : splice (rc s st ck ni nd a b c d e w) 30 [AI q.k,AI q.s,AI q.cl,AS q.b,AS q.w,AS q.m] = rc { s with t2:=q } st ck ni nd a b c d e w:=(rfl)
end
abbrev eN (n : Nat) : PV:=eI n
def rh (h : Heap) (r : Run) (l : Heap) : Heap:=h ++ .row none (r.sts.map eN) 0 :: .row none (r.frs.map eN) 0 :: .row none (z0k r.tms) 0 :: .row none (z0k r.tdi) 0 :: .row none (z0k r.want) 0 ::
 .box (rc r.se r.st r.ck r.ni r.nd (.own h.length r.sts.length 0 r.sts.length) (.own (h.length + 1) r.frs.length 0 r.frs.length) (.own (h.length + 2) r.tms.length 0 r.tms.length) (.own (h.length + 3) r.tdi.length 0 r.tdi.length) (.own (h.length + 4) r.want.length 0 r.want.length) r.wr) :: l
structure RunOk (r : Run) : Prop where
 t : r.tms.length ≤ r.ck
 i : r.tdi.length ≤ r.ck
 w : r.want.length ≤ r.ck
theorem z2y {L : List (UInt8 × UInt8 × UInt8)} (R : RunOk r) : RunOk (r.clk L):=by
 unfold Run.clk
 have:=R.t; have:=R.i; have:=R.w
 split <;> (refine ⟨?_,?_,?_⟩ <;> simp <;> omega)
attribute [local go_sem] zgd zgc rc_1 rc_7 zrI zrJ zrK zrL z86 zei zpp zpq zpr zps zhA zhB zhC zrM zge zgf zgg zgh zgi zgj zgk zgl zgm
set_option maxHeartbeats 2000000 in
theorem zaO (R : RunOk r) (hck : r.ck ≤ 1000000000) (a b c : UInt8) : z0c X z3Y [.ref (h.length + 5) 0,.p (.int .u8 a.toNat),.p (.int .u8 b.toNat),.p (.int .u8 c.toNat)] (rh h r l) K = K (.tup []) (rh h (r.clk [(a,b,c)]) l) []:=by
 refine rule ?_
 rw [c_q06j rfl]
 have hr:=R.t; have:=R.i; have:=R.w
 have w1 : IntKind.i64.wrap ((r.ck : Int) + 1) = ((r.ck + 1 : Nat) : Int):=z0m _ (by omega) (by omega)
 obtain ⟨se,st,ck,ni,nd,sts,frs,tms,tdi,want,wr⟩:=r
 dsimp only at *
 unfold rh Run.clk
 have m1 : tms.length + 1 ≤ z0F:=by unfold z0F; omega
 have m2 : tdi.length + 1 ≤ z0F:=by unfold z0F; omega
 have m3 : want.length + 1 ≤ z0F:=by unfold z0F; omega
 have e2 : ∀ k n o m,k < 5 → z2V (h.length + 5) (.own (h.length + k) n o m) = []:=fun k n o m hk=>by unfold z2V; rw [zex,if_neg (by omega)]
 have e3:=fun n o m=>e2 2 n o m (by decide)
 have e4:=fun n o m=>e2 3 n o m (by decide)
 have e5:=fun n o m=>e2 4 n o m (by decide)
 cases wr with
 | false=>simp only [zft,go_sem,w1]
 | true=>
  simp only [zft,go_sem,w1,z1c,m1,m2,m3,e3,e4,e5,List.take_length]
  simp [z0k]
end Go.Am
end
section
/- The program: a walk. -/
open Go
set_option linter.all false
namespace Go.Am
variable {h l l2 : Heap} {K : Post} {r : Run} {n : Nat} {o : Obj}
attribute [-go_sem] oEqa splice
attribute [local go_sem] zgd zgc rc_1 rc_7 zrI zrJ zrK zrL z86 zei zpp zpq zpr zps zhA zhB zhC zrM zge zgf zgg zgh zgi zgj zgk zgl zgm rcs_0 rcs_6 zuv zuw zux zuy
theorem z4U : (rh h r l).length = h.length + (l.length + 6):=by unfold rh; simp
theorem z9I : rh h r l ++ l2 = rh h r (l ++ l2):=by unfold rh; simp
theorem z6R : (rh h r l)[h.length + (n + 6)]? = l[n]?:=by unfold rh; rw [z3y]; rfl
theorem z6S : (rh h r l).set (h.length + (n + 6)) o = rh h r (l.set n o):=by unfold rh; rw [z7p]; rfl
theorem z4p : (rh h r l).take (h.length + (n + 6)) = rh h r (l.take n):=by unfold rh; rw [zaj]; rfl
theorem z4C : (rh h r l).take h.length = h:=by unfold rh; rw [z5n]
theorem z2I : (rh h r l)[h.length + 5]? = some (.box (rc r.se r.st r.ck r.ni r.nd (.own h.length r.sts.length 0 r.sts.length) (.own (h.length + 1) r.frs.length 0 r.frs.length) (.own (h.length + 2) r.tms.length 0 r.tms.length) (.own (h.length + 3) r.tdi.length 0 r.tdi.length) (.own (h.length + 4) r.want.length 0 r.want.length) r.wr)):=by unfold rh; rw [z3y]; rfl
section
variable {s : Sett} {x y z : Nat}
theorem zde : (rh h r l).set (h.length + 5) (.box (rc s x r.ck y z (.own h.length r.sts.length 0 r.sts.length) (.own (h.length + 1) r.frs.length 0 r.frs.length) (.own (h.length + 2) r.tms.length 0 r.tms.length) (.own (h.length + 3) r.tdi.length 0 r.tdi.length) (.own (h.length + 4) r.want.length 0 r.want.length) r.wr)) = rh h { r with se:=s,st:=x,ni:=y,nd:=z } l:=by unfold rh; rw [z7p]; rfl
end
attribute [local go_sem] z4U z9I z6R z6S z4p z4C z2I zde
theorem z6u : r.clk [] = r:=by unfold Run.clk; split <;> simp
theorem z6Z {L : List (UInt8 × UInt8 × UInt8)} {x : UInt8 × UInt8 × UInt8} : (r.clk L).clk [x] = r.clk (L ++ [x]):=by
 unfold Run.clk
 cases hw : r.wr <;> simp [hw,Nat.add_assoc]
theorem zb2 {L : List (UInt8 × UInt8 × UInt8)} : (r.clk L).ck = r.ck + L.length:=(z1L r L).2.2.2.2.2.1
theorem z38 {tov : Nat} (R : RunOk r) : RunOk (r.go z0d tov):=by
 have Q:=z2y (L:=(z0d r.st tov).map fun c=>(c,48,120)) R
 exact ⟨Q.t,Q.i,Q.w⟩
theorem zdX {tov : Nat} : (r.go z0d tov).ck = r.ck + (z0d r.st tov).length:=(z0x z0d r tov).2.2.2.2.2.1
set_option maxHeartbeats 2000000 in
theorem z9X (R : RunOk r) (hck : r.ck ≤ 900000000) (hf : r.st ∈ frS) {tov : Nat} (ht : tov ∈ toS) : z0c X z2Y [.ref (h.length + 5) 0,AI tov] (rh h r l) K = K (.tup []) (rh h (r.go z0d tov) l) []:=by
 refine rule ?_
 rw [c_q06m rfl]
 have to16 : tov < 16:=by simp only [toS,List.mem_cons,List.not_mem_nil,or_false] at ht; omega
 have hp:=fun (h' : Heap) (K' : Post)=>s_Path (h:=h') (K:=K') (fr_lt hf) to16
 obtain ⟨pb,pl,_⟩:=z01 hf ht
 have hgo : r.go z0d tov = { r.clk ((z0d r.st tov).map fun c=>(c,48,120)) with st:=tov }:=rfl
 rw [hgo]
 simp only [zfu,go_sem,hp]
 generalize z0d r.st tov = w at pl ⊢
 refine z0Z (fun k : Nat=>⟨[(0,.ref (h.length + 5) 0),(1,AI tov),(4,AS w),(17,AI w.length),(18,AI k)],rh h (r.clk ((w.take k).map fun c=>(c,48,120))) l,[]⟩) (fun k=>k ≤ w.length) (fun k=>w.length - k) 0 (by rw [List.take_zero,List.map_nil,z6u]; rfl) (by omega) ?_
 intro k hk
 have hc:=fun (a : UInt8) (K' : Post)=>zaO (h:=h) (l:=l) (K:=K') (z2y (L:=(w.take k).map fun c=>(c,48,120)) R) (by rw [zb2]; simp; omega) a 48 120
 rcases Nat.lt_or_ge k w.length with hlt | hge
 ·have w2 : IntKind.i64.wrap ((k : Int) + 1) = ((k + 1 : Nat) : Int):=z0m _ (by omega) (by omega)
  have hg : w[k]? = some w[k]:=List.getElem?_eq_getElem hlt
  have hlt' : (k : Int) < (w.length : Int):=by omega
  have hc':=fun (K' : Post)=>hc w[k] K'
  simp only [show (((48 : UInt8).toNat : Nat) : Int) = 48 from rfl,show (((120 : UInt8).toNat : Nat) : Int) = 120 from rfl] at hc'
  simp only [go_sem,hlt,hlt',hg,w2,hc']
  refine ⟨k + 1,?_,by omega,by omega⟩
  rw [z6Z,List.take_succ_eq_append_getElem hlt,List.map_append]; rfl
 ·obtain rfl : k = w.length:=by omega
  have hs:=(z1L r ((w.map fun c=>((c,48,120) : UInt8 × UInt8 × UInt8)))).1
  simp only [go_sem,Nat.lt_irrefl,Int.lt_irrefl,List.take_length]
end Go.Am
end
section
/- The program: a scan. -/
open Go
set_option linter.all false
namespace Go.Am
variable {h l l2 : Heap} {K : Post} {r : Run} {n : Nat} {o : Obj}
attribute [-go_sem] oEqa splice
attribute [local go_sem] zgd zgc rc_1 rc_7 zrI zrJ zrK zrL z86 zei zpp zpq zpr zps zhA zhB zhC zrM zge zgf zgg zgh zgi zgj zgk zgl zgm rcs_0 rcs_6 zuv zuw zux zuy
attribute [local go_sem] z4U z9I z6R z6S z4p z4C z2I zde
def RunN (r : Run) : Prop:=r.ni ≤ r.ck ∧ r.nd ≤ r.ck
theorem z63 {tov : Nat} (N : RunN r) : RunN (r.go z0d tov):=by
 obtain ⟨_,_,_,_,_,c,a,b⟩:=z0x z0d r tov
 obtain ⟨x,y⟩:=N
 exact ⟨by rw [a,c]; omega,by rw [b,c]; omega⟩
structure SetR (s : Sett) : Prop where
 s1 : z05 s.e1.s = true
 s2 : z05 s.e2.s = true
 h1 : s.h1.b.length ≤ 2000
 t1 : s.t1.b.length ≤ 2000
 h2 : s.h2.b.length ≤ 2000
 t2 : s.t2.b.length ≤ 2000
theorem zds {c : Cmd} {hd al : List UInt8} {k : Nat} (hk : k < al.length) : (z0L c hd al)[k]? = some (if k = al.length - 1 then 49 else 48,al[k],if hd.length ≤ k then (if k - hd.length < c.m.length then z32 c (k - hd.length) else 120) else 120):=by
 unfold z0L
 rw [List.getElem?_map,List.getElem?_range hk,Option.map_some,List.getElem?_eq_getElem hk]; rfl
theorem zaa {c : Cmd} (h7 : c.k = 7) : r.scn z0d c = Run.go z0d { Run.clk { r.go z0d 11 with ni:=(r.go z0d 11).ni + (r.se.h1.b ++ c.b ++ r.se.t1.b).length } (z0L c r.se.h1.b (r.se.h1.b ++ c.b ++ r.se.t1.b)) with st:=12 } r.se.e1.s.toNat ∧ r.scnF z0d c = (r.go z0d 11).ck + r.se.h1.b.length:=by
 unfold Run.scn Run.scnF
 simp [h7]
set_option maxHeartbeats 4000000 in
theorem zsj (R : RunOk r) (N : RunN r) (hck : r.ck ≤ 800000000) (hst : r.st ∈ stb) (S : SetR r.se) (c : Cmd) (h7 : c.k = 7) (hs : z28 c = 0) : z0c X z5z [.ref (h.length + 5) 0,ACm c] (rh h r l) K = K (AI (r.scnF z0d c : Nat)) (rh h (r.scn z0d c) l) []:=by
 refine rule ?_
 rw [ztm rfl,(zaa h7).1,(zaa h7).2]
 have hw1:=fun (l : Heap) (K' : Post)=>z9X (h:=h) (l:=l) (K:=K') R (by omega) (z1m hst) (show 11 ∈ toS by decide)
 simp only [show (((11 : Nat)) : Int) = 11 from rfl] at hw1
 have R1:=z38 (tov:=11) R
 have c1 : (r.go z0d 11).ck ≤ 800000008:=by have:=(z01 (z1m hst) (show 11 ∈ toS by decide)).2.1; rw [zdX]; omega
 have N1:=z63 (tov:=11) N
 generalize r.go z0d 11 = r1 at *
 obtain ⟨q1,q2,q3,q4,q5,q6⟩:=z2i hs
 obtain ⟨n1,n2⟩:=z0v S.s1
 have hh:=S.h1; have ht:=S.t1
 generalize hhd : r.se.h1.b = hd at *
 generalize htl : r.se.t1.b = tl at *
 generalize hen : r.se.e1.s = en at *
 obtain ⟨en',rfl⟩ : ∃ n : Nat,en = n:=⟨en.toNat,n2.symm⟩
 simp only [Int.toNat_natCast] at n1 n2 ⊢
 obtain ⟨k,s,cl,b,w,m⟩:=c
 dsimp only at h7 q1 q3 q6 ⊢
 subst h7
 have hbp:=List.length_pos_iff.2 q1
 have x1 : hd.length + b.length ≤ z00:=by unfold z00; omega
 have x2 : hd.length + (b.length + tl.length) ≤ z00:=by unfold z00; omega
 have x3 : hd.length + b.length + tl.length ≤ z00:=by unfold z00; omega
 obtain ⟨hn,hd'⟩:=N1
 obtain ⟨al,hal⟩ : ∃ al,al = hd ++ b ++ tl:=⟨_,rfl⟩
 have hall : al.length = hd.length + b.length + tl.length:=by rw [hal]; simp; omega
 have hal2:=hal
 rw [List.append_assoc] at hal2
 have w1 : IntKind.i64.wrap ((r1.ni : Int) + (al.length : Int)) = ((r1.ni + al.length : Nat) : Int):=z0m _ (by omega) (by omega)
 have w2 : IntKind.i64.wrap ((r1.ck : Int) + (hd.length : Int)) = ((r1.ck + hd.length : Nat) : Int):=z0m _ (by omega) (by omega)
 simp only [zcy,go_sem,hw1,hhd,htl,hen,x1,x2,x3,← hal,← hal2,w1,w2]
 have R2 : RunOk { r1 with ni:=r1.ni + al.length }:=⟨R1.t,R1.i,R1.w⟩
 have c2 : { r1 with ni:=r1.ni + al.length : Run }.ck = r1.ck:=rfl
 show z1z (z0c X) X.gl _ _ _ (rh h { r1 with ni:=r1.ni + al.length } _) []
 generalize { r1 with ni:=r1.ni + al.length : Run } = r2 at R2 c2 ⊢
 generalize hq : (⟨7,s,cl,b,w,m⟩ : Cmd) = c at *
 have hcm : c.m = m:=by rw [← hq]
 have hcw : c.w = w:=by rw [← hq]
 have hml : m.length ≤ b.length ∧ m.length ≤ w.length:=by
  rcases q6 with ⟨e1,e2⟩ | ⟨e1,e2⟩
  ·rw [e2]; exact ⟨Nat.zero_le _,Nat.zero_le _⟩
  ·omega
 have hal0 : 0 < al.length:=by omega
 refine z0Z (fun k : Nat=>⟨[(0,.ref (h.length + 5) 0),(3,.ref (h.length + (l.length + 6)) 0),(5,AS hd),(7,AI en'),(9,AI 12),(10,AS al),(11,AI (r1.ck + hd.length : Nat)),(93,AI al.length),(94,AI k)],
  rh h (r2.clk ((z0L c hd al).take k)) (l ++ [.box [AI 7,AI s,AI cl,AS b,AS w,AS m]]),[]⟩) (fun k=>k ≤ al.length) (fun k=>al.length - k) 0 (by rw [List.take_zero,z6u]; rfl) (by omega) ?_
 intro k hk
 have hlen : (z0L c hd al).length = al.length:=z1X c hd al
 have R3:=z2y (L:=(z0L c hd al).take k) R2
 have c3 : (r2.clk ((z0L c hd al).take k)).ck ≤ 900000000:=by rw [zb2,c2,List.length_take]; omega
 rcases Nat.lt_or_ge k al.length with hlt | hge
 ·have w3 : IntKind.i64.wrap ((k : Int) + 1) = ((k + 1 : Nat) : Int):=z0m _ (by omega) (by omega)
  have w4 : IntKind.i64.wrap ((al.length : Int) - 1) = ((al.length - 1 : Nat) : Int):=by
   rw [show (al.length : Int) - 1 = ((al.length - 1 : Nat) : Int) by omega]; exact z0m _ (by omega) (by omega)
  have hlt' : (k : Int) < (al.length : Int):=by omega
  have hg : al[k]? = some al[k]:=List.getElem?_eq_getElem hlt
  have hcl:=fun (t v : UInt8) (K' : Post)=>zaO (h:=h) (l:=l ++ [.box [AI 7,AI s,AI cl,AS b,AS w,AS m]]) (K:=K') R3 (by omega) t al[k] v
  have hsg:=zds (c:=c) (hd:=hd) hlt
  have hstep : ∀ t v : UInt8,(z0L c hd al)[k]? = some (t,al[k],v) → (r2.clk ((z0L c hd al).take k)).clk [(t,al[k],v)] = r2.clk ((z0L c hd al).take (k + 1)):=fun t v e=>by
   rw [z6Z,List.take_succ,e]; rfl
  have e48 : (((48 : UInt8).toNat : Nat) : Int) = 48:=rfl
  have e49 : (((49 : UInt8).toNat : Nat) : Int) = 49:=rfl
  have e120 : (((120 : UInt8).toNat : Nat) : Int) = 120:=rfl
  generalize r2.clk ((z0L c hd al).take k) = r3 at R3 c3 hcl hstep ⊢
  -- what is expected
  by_cases hk0 : hd.length ≤ k
  ·have w5 : IntKind.i64.wrap ((k : Int) - (hd.length : Int)) = ((k - hd.length : Nat) : Int):=by
    rw [show (k : Int) - (hd.length : Int) = ((k - hd.length : Nat) : Int) by omega]; exact z0m _ (by omega) (by omega)
   have z0 : (0 : Int) ≤ ((k - hd.length : Nat) : Int):=by omega
   rw [if_pos hk0] at hsg
   by_cases hm : k - hd.length < m.length
   ·have hm' : ((k - hd.length : Nat) : Int) < (m.length : Int):=by omega
    rw [hcm,if_pos hm] at hsg
    have hgm : m[k - hd.length]? = some m[k - hd.length]:=List.getElem?_eq_getElem hm
    have hgw : w[k - hd.length]? = some (w[k - hd.length]'(by omega)):=List.getElem?_eq_getElem (by omega)
    by_cases h49 : m[k - hd.length] = 49
    ·have hx : z32 c (k - hd.length) = w[k - hd.length]'(by omega):=by unfold z32; rw [hcm,hgm,h49,if_pos rfl,hcw,hgw]; rfl
     rw [hx] at hsg
     by_cases hl1 : k = al.length - 1
     ·have hl2 : ((k : Int) = ((al.length - 1 : Nat) : Int)) = True:=eq_true (by omega)
      have hcl1:=fun K'=>hcl 49 (w[k - hd.length]'(by omega)) K'
      rw [if_pos hl1] at hsg
      rw [e49] at hcl1
      simp only [go_sem,hlt,hlt',hg,w3,w4,w5,z0,hm,hm',hgm,hgw,h49,e49,hl2,hcl1]
      exact ⟨k + 1,by rw [hstep _ _ hsg],by omega,by omega⟩
     ·have hl2 : ((k : Int) = ((al.length - 1 : Nat) : Int)) = False:=eq_false (by omega)
      have hcl1:=fun K'=>hcl 48 (w[k - hd.length]'(by omega)) K'
      rw [if_neg hl1] at hsg
      rw [e48] at hcl1
      simp only [go_sem,hlt,hlt',hg,w3,w4,w5,z0,hm,hm',hgm,hgw,h49,e49,hl2,hcl1]
      exact ⟨k + 1,by rw [hstep _ _ hsg],by omega,by omega⟩
    ·have hx : z32 c (k - hd.length) = 120:=by unfold z32; rw [hcm,hgm,if_neg (fun e=>h49 (Option.some.inj e))]
     rw [hx] at hsg
     have h49' : ¬ ((m[k - hd.length].toNat : Int) = 49):=fun e=>h49 (UInt8.toNat_inj.1 (by rw [show (49 : UInt8).toNat = 49 from rfl]; omega))
     by_cases hl1 : k = al.length - 1
     ·have hl2 : ((k : Int) = ((al.length - 1 : Nat) : Int)) = True:=eq_true (by omega)
      have hcl1:=fun K'=>hcl 49 120 K'
      rw [if_pos hl1] at hsg
      rw [e49] at hcl1
      rw [e120] at hcl1
      simp only [go_sem,hlt,hlt',hg,w3,w4,w5,z0,hm,hm',hgm,h49',hl2,hcl1]
      exact ⟨k + 1,by rw [hstep _ _ hsg],by omega,by omega⟩
     ·have hl2 : ((k : Int) = ((al.length - 1 : Nat) : Int)) = False:=eq_false (by omega)
      have hcl1:=fun K'=>hcl 48 120 K'
      rw [if_neg hl1] at hsg
      rw [e48] at hcl1
      rw [e120] at hcl1
      simp only [go_sem,hlt,hlt',hg,w3,w4,w5,z0,hm,hm',hgm,h49',hl2,hcl1]
      exact ⟨k + 1,by rw [hstep _ _ hsg],by omega,by omega⟩
   ·have hm' : ¬ ((k - hd.length : Nat) : Int) < (m.length : Int):=by omega
    rw [hcm,if_neg hm] at hsg
    by_cases hl1 : k = al.length - 1
    ·have hl2 : ((k : Int) = ((al.length - 1 : Nat) : Int)) = True:=eq_true (by omega)
     have hcl1:=fun K'=>hcl 49 120 K'
     rw [if_pos hl1] at hsg
     rw [e49] at hcl1
     rw [e120] at hcl1
     simp only [go_sem,hlt,hlt',hg,w3,w4,w5,z0,hm,hm',hl2,hcl1]
     exact ⟨k + 1,by rw [hstep _ _ hsg],by omega,by omega⟩
    ·have hl2 : ((k : Int) = ((al.length - 1 : Nat) : Int)) = False:=eq_false (by omega)
     have hcl1:=fun K'=>hcl 48 120 K'
     rw [if_neg hl1] at hsg
     rw [e48] at hcl1
     rw [e120] at hcl1
     simp only [go_sem,hlt,hlt',hg,w3,w4,w5,z0,hm,hm',hl2,hcl1]
     exact ⟨k + 1,by rw [hstep _ _ hsg],by omega,by omega⟩
  ·have w5 : IntKind.i64.wrap ((k : Int) - (hd.length : Int)) = (k : Int) - (hd.length : Int):=z0m _ (by omega) (by omega)
   have z0 : ¬ (0 : Int) ≤ (k : Int) - (hd.length : Int):=by omega
   rw [if_neg hk0] at hsg
   by_cases hl1 : k = al.length - 1
   ·have hl2 : ((k : Int) = ((al.length - 1 : Nat) : Int)) = True:=eq_true (by omega)
    have hcl1:=fun K'=>hcl 49 120 K'
    rw [if_pos hl1] at hsg
    rw [e49] at hcl1
    rw [e120] at hcl1
    simp only [go_sem,hlt,hlt',hg,w3,w4,w5,z0,hl2,hcl1]
    exact ⟨k + 1,by rw [hstep _ _ hsg],by omega,by omega⟩
   ·have hl2 : ((k : Int) = ((al.length - 1 : Nat) : Int)) = False:=eq_false (by omega)
    have hcl1:=fun K'=>hcl 48 120 K'
    rw [if_neg hl1] at hsg
    rw [e48] at hcl1
    rw [e120] at hcl1
    simp only [go_sem,hlt,hlt',hg,w3,w4,w5,z0,hl2,hcl1]
    exact ⟨k + 1,by rw [hstep _ _ hsg],by omega,by omega⟩
 ·obtain rfl : k = al.length:=by omega
  have e1 : (z0L c hd al).take al.length = z0L c hd al:=by rw [← hlen]; exact List.take_length
  rw [e1] at R3 c3
  simp only [go_sem,Nat.lt_irrefl,Int.lt_irrefl,e1]
  generalize r2.clk (z0L c hd al) = r3 at R3 c3 ⊢
  have hw2:=fun (l : Heap) (K' : Post)=>z9X (h:=h) (l:=l) (K:=K') (r:={ r3 with st:=12 }) ⟨R3.t,R3.i,R3.w⟩ c3 (show 12 ∈ frS by decide) (z1Z n1)
  have hp:=fun l=>zde (h:=h) (l:=l) (r:=r3) (s:=r3.se) (x:=12) (y:=r3.ni) (z:=r3.nd)
  simp only [show ((12 : Nat) : Int) = 12 from rfl] at hp
  simp only [go_sem,hp,hw2]
theorem z9Z {c : Cmd} (h7 : c.k = 8) : r.scn z0d c = Run.go z0d { Run.clk { r.go z0d 4 with nd:=(r.go z0d 4).nd + (r.se.h2.b ++ c.b ++ r.se.t2.b).length } (z0L c r.se.h2.b (r.se.h2.b ++ c.b ++ r.se.t2.b)) with st:=5 } r.se.e2.s.toNat ∧ r.scnF z0d c = (r.go z0d 4).ck + r.se.h2.b.length:=by
 unfold Run.scn Run.scnF
 simp [h7]
set_option maxHeartbeats 4000000 in
theorem zsh (R : RunOk r) (N : RunN r) (hck : r.ck ≤ 800000000) (hst : r.st ∈ stb) (S : SetR r.se) (c : Cmd) (h7 : c.k = 8) (hs : z28 c = 0) : z0c X z5z [.ref (h.length + 5) 0,ACm c] (rh h r l) K = K (AI (r.scnF z0d c : Nat)) (rh h (r.scn z0d c) l) []:=by
 refine rule ?_
 rw [ztm rfl,(z9Z h7).1,(z9Z h7).2]
 have hw1:=fun (l : Heap) (K' : Post)=>z9X (h:=h) (l:=l) (K:=K') R (by omega) (z1m hst) (show 4 ∈ toS by decide)
 simp only [show (((4 : Nat)) : Int) = 4 from rfl] at hw1
 have R1:=z38 (tov:=4) R
 have c1 : (r.go z0d 4).ck ≤ 800000008:=by have:=(z01 (z1m hst) (show 4 ∈ toS by decide)).2.1; rw [zdX]; omega
 have N1:=z63 (tov:=4) N
 generalize r.go z0d 4 = r1 at *
 obtain ⟨q1,q2,q3,q4,q5,q6⟩:=z2i hs
 obtain ⟨n1,n2⟩:=z0v S.s2
 have hh:=S.h2; have ht:=S.t2
 generalize hhd : r.se.h2.b = hd at *
 generalize htl : r.se.t2.b = tl at *
 generalize hen : r.se.e2.s = en at *
 obtain ⟨en',rfl⟩ : ∃ n : Nat,en = n:=⟨en.toNat,n2.symm⟩
 simp only [Int.toNat_natCast] at n1 n2 ⊢
 obtain ⟨k,s,cl,b,w,m⟩:=c
 dsimp only at h7 q1 q3 q6 ⊢
 subst h7
 have hbp:=List.length_pos_iff.2 q1
 have x1 : hd.length + b.length ≤ z00:=by unfold z00; omega
 have x2 : hd.length + (b.length + tl.length) ≤ z00:=by unfold z00; omega
 have x3 : hd.length + b.length + tl.length ≤ z00:=by unfold z00; omega
 obtain ⟨hn,hd'⟩:=N1
 obtain ⟨al,hal⟩ : ∃ al,al = hd ++ b ++ tl:=⟨_,rfl⟩
 have hall : al.length = hd.length + b.length + tl.length:=by rw [hal]; simp; omega
 have hal2:=hal
 rw [List.append_assoc] at hal2
 have w1 : IntKind.i64.wrap ((r1.nd : Int) + (al.length : Int)) = ((r1.nd + al.length : Nat) : Int):=z0m _ (by omega) (by omega)
 have w2 : IntKind.i64.wrap ((r1.ck : Int) + (hd.length : Int)) = ((r1.ck + hd.length : Nat) : Int):=z0m _ (by omega) (by omega)
 simp only [zcy,go_sem,hw1,hhd,htl,hen,x1,x2,x3,← hal,← hal2,w1,w2]
 have R2 : RunOk { r1 with nd:=r1.nd + al.length }:=⟨R1.t,R1.i,R1.w⟩
 have c2 : { r1 with nd:=r1.nd + al.length : Run }.ck = r1.ck:=rfl
 show z1z (z0c X) X.gl _ _ _ (rh h { r1 with nd:=r1.nd + al.length } _) []
 generalize { r1 with nd:=r1.nd + al.length : Run } = r2 at R2 c2 ⊢
 generalize hq : (⟨8,s,cl,b,w,m⟩ : Cmd) = c at *
 have hcm : c.m = m:=by rw [← hq]
 have hcw : c.w = w:=by rw [← hq]
 have hml : m.length ≤ b.length ∧ m.length ≤ w.length:=by
  rcases q6 with ⟨e1,e2⟩ | ⟨e1,e2⟩
  ·rw [e2]; exact ⟨Nat.zero_le _,Nat.zero_le _⟩
  ·omega
 have hal0 : 0 < al.length:=by omega
 refine z0Z (fun k : Nat=>⟨[(0,.ref (h.length + 5) 0),(3,.ref (h.length + (l.length + 6)) 0),(5,AS hd),(7,AI en'),(9,AI 5),(10,AS al),(11,AI (r1.ck + hd.length : Nat)),(93,AI al.length),(94,AI k)],
  rh h (r2.clk ((z0L c hd al).take k)) (l ++ [.box [AI 8,AI s,AI cl,AS b,AS w,AS m]]),[]⟩) (fun k=>k ≤ al.length) (fun k=>al.length - k) 0 (by rw [List.take_zero,z6u]; rfl) (by omega) ?_
 intro k hk
 have hlen : (z0L c hd al).length = al.length:=z1X c hd al
 have R3:=z2y (L:=(z0L c hd al).take k) R2
 have c3 : (r2.clk ((z0L c hd al).take k)).ck ≤ 900000000:=by rw [zb2,c2,List.length_take]; omega
 rcases Nat.lt_or_ge k al.length with hlt | hge
 ·have w3 : IntKind.i64.wrap ((k : Int) + 1) = ((k + 1 : Nat) : Int):=z0m _ (by omega) (by omega)
  have w4 : IntKind.i64.wrap ((al.length : Int) - 1) = ((al.length - 1 : Nat) : Int):=by
   rw [show (al.length : Int) - 1 = ((al.length - 1 : Nat) : Int) by omega]; exact z0m _ (by omega) (by omega)
  have hlt' : (k : Int) < (al.length : Int):=by omega
  have hg : al[k]? = some al[k]:=List.getElem?_eq_getElem hlt
  have hcl:=fun (t v : UInt8) (K' : Post)=>zaO (h:=h) (l:=l ++ [.box [AI 8,AI s,AI cl,AS b,AS w,AS m]]) (K:=K') R3 (by omega) t al[k] v
  have hsg:=zds (c:=c) (hd:=hd) hlt
  have hstep : ∀ t v : UInt8,(z0L c hd al)[k]? = some (t,al[k],v) → (r2.clk ((z0L c hd al).take k)).clk [(t,al[k],v)] = r2.clk ((z0L c hd al).take (k + 1)):=fun t v e=>by
   rw [z6Z,List.take_succ,e]; rfl
  have e48 : (((48 : UInt8).toNat : Nat) : Int) = 48:=rfl
  have e49 : (((49 : UInt8).toNat : Nat) : Int) = 49:=rfl
  have e120 : (((120 : UInt8).toNat : Nat) : Int) = 120:=rfl
  generalize r2.clk ((z0L c hd al).take k) = r3 at R3 c3 hcl hstep ⊢
  -- what is expected
  by_cases hk0 : hd.length ≤ k
  ·have w5 : IntKind.i64.wrap ((k : Int) - (hd.length : Int)) = ((k - hd.length : Nat) : Int):=by
    rw [show (k : Int) - (hd.length : Int) = ((k - hd.length : Nat) : Int) by omega]; exact z0m _ (by omega) (by omega)
   have z0 : (0 : Int) ≤ ((k - hd.length : Nat) : Int):=by omega
   rw [if_pos hk0] at hsg
   by_cases hm : k - hd.length < m.length
   ·have hm' : ((k - hd.length : Nat) : Int) < (m.length : Int):=by omega
    rw [hcm,if_pos hm] at hsg
    have hgm : m[k - hd.length]? = some m[k - hd.length]:=List.getElem?_eq_getElem hm
    have hgw : w[k - hd.length]? = some (w[k - hd.length]'(by omega)):=List.getElem?_eq_getElem (by omega)
    by_cases h49 : m[k - hd.length] = 49
    ·have hx : z32 c (k - hd.length) = w[k - hd.length]'(by omega):=by unfold z32; rw [hcm,hgm,h49,if_pos rfl,hcw,hgw]; rfl
     rw [hx] at hsg
     by_cases hl1 : k = al.length - 1
     ·have hl2 : ((k : Int) = ((al.length - 1 : Nat) : Int)) = True:=eq_true (by omega)
      have hcl1:=fun K'=>hcl 49 (w[k - hd.length]'(by omega)) K'
      rw [if_pos hl1] at hsg
      rw [e49] at hcl1
      simp only [go_sem,hlt,hlt',hg,w3,w4,w5,z0,hm,hm',hgm,hgw,h49,e49,hl2,hcl1]
      exact ⟨k + 1,by rw [hstep _ _ hsg],by omega,by omega⟩
     ·have hl2 : ((k : Int) = ((al.length - 1 : Nat) : Int)) = False:=eq_false (by omega)
      have hcl1:=fun K'=>hcl 48 (w[k - hd.length]'(by omega)) K'
      rw [if_neg hl1] at hsg
      rw [e48] at hcl1
      simp only [go_sem,hlt,hlt',hg,w3,w4,w5,z0,hm,hm',hgm,hgw,h49,e49,hl2,hcl1]
      exact ⟨k + 1,by rw [hstep _ _ hsg],by omega,by omega⟩
    ·have hx : z32 c (k - hd.length) = 120:=by unfold z32; rw [hcm,hgm,if_neg (fun e=>h49 (Option.some.inj e))]
     rw [hx] at hsg
     have h49' : ¬ ((m[k - hd.length].toNat : Int) = 49):=fun e=>h49 (UInt8.toNat_inj.1 (by rw [show (49 : UInt8).toNat = 49 from rfl]; omega))
     by_cases hl1 : k = al.length - 1
     ·have hl2 : ((k : Int) = ((al.length - 1 : Nat) : Int)) = True:=eq_true (by omega)
      have hcl1:=fun K'=>hcl 49 120 K'
      rw [if_pos hl1] at hsg
      rw [e49] at hcl1
      rw [e120] at hcl1
      simp only [go_sem,hlt,hlt',hg,w3,w4,w5,z0,hm,hm',hgm,h49',hl2,hcl1]
      exact ⟨k + 1,by rw [hstep _ _ hsg],by omega,by omega⟩
     ·have hl2 : ((k : Int) = ((al.length - 1 : Nat) : Int)) = False:=eq_false (by omega)
      have hcl1:=fun K'=>hcl 48 120 K'
      rw [if_neg hl1] at hsg
      rw [e48] at hcl1
      rw [e120] at hcl1
      simp only [go_sem,hlt,hlt',hg,w3,w4,w5,z0,hm,hm',hgm,h49',hl2,hcl1]
      exact ⟨k + 1,by rw [hstep _ _ hsg],by omega,by omega⟩
   ·have hm' : ¬ ((k - hd.length : Nat) : Int) < (m.length : Int):=by omega
    rw [hcm,if_neg hm] at hsg
    by_cases hl1 : k = al.length - 1
    ·have hl2 : ((k : Int) = ((al.length - 1 : Nat) : Int)) = True:=eq_true (by omega)
     have hcl1:=fun K'=>hcl 49 120 K'
     rw [if_pos hl1] at hsg
     rw [e49] at hcl1
     rw [e120] at hcl1
     simp only [go_sem,hlt,hlt',hg,w3,w4,w5,z0,hm,hm',hl2,hcl1]
     exact ⟨k + 1,by rw [hstep _ _ hsg],by omega,by omega⟩
    ·have hl2 : ((k : Int) = ((al.length - 1 : Nat) : Int)) = False:=eq_false (by omega)
     have hcl1:=fun K'=>hcl 48 120 K'
     rw [if_neg hl1] at hsg
     rw [e48] at hcl1
     rw [e120] at hcl1
     simp only [go_sem,hlt,hlt',hg,w3,w4,w5,z0,hm,hm',hl2,hcl1]
     exact ⟨k + 1,by rw [hstep _ _ hsg],by omega,by omega⟩
  ·have w5 : IntKind.i64.wrap ((k : Int) - (hd.length : Int)) = (k : Int) - (hd.length : Int):=z0m _ (by omega) (by omega)
   have z0 : ¬ (0 : Int) ≤ (k : Int) - (hd.length : Int):=by omega
   rw [if_neg hk0] at hsg
   by_cases hl1 : k = al.length - 1
   ·have hl2 : ((k : Int) = ((al.length - 1 : Nat) : Int)) = True:=eq_true (by omega)
    have hcl1:=fun K'=>hcl 49 120 K'
    rw [if_pos hl1] at hsg
    rw [e49] at hcl1
    rw [e120] at hcl1
    simp only [go_sem,hlt,hlt',hg,w3,w4,w5,z0,hl2,hcl1]
    exact ⟨k + 1,by rw [hstep _ _ hsg],by omega,by omega⟩
   ·have hl2 : ((k : Int) = ((al.length - 1 : Nat) : Int)) = False:=eq_false (by omega)
    have hcl1:=fun K'=>hcl 48 120 K'
    rw [if_neg hl1] at hsg
    rw [e48] at hcl1
    rw [e120] at hcl1
    simp only [go_sem,hlt,hlt',hg,w3,w4,w5,z0,hl2,hcl1]
    exact ⟨k + 1,by rw [hstep _ _ hsg],by omega,by omega⟩
 ·obtain rfl : k = al.length:=by omega
  have e1 : (z0L c hd al).take al.length = z0L c hd al:=by rw [← hlen]; exact List.take_length
  rw [e1] at R3 c3
  simp only [go_sem,Nat.lt_irrefl,Int.lt_irrefl,e1]
  generalize r2.clk (z0L c hd al) = r3 at R3 c3 ⊢
  have hw2:=fun (l : Heap) (K' : Post)=>z9X (h:=h) (l:=l) (K:=K') (r:={ r3 with st:=5 }) ⟨R3.t,R3.i,R3.w⟩ c3 (show 5 ∈ frS by decide) (z1Z n1)
  have hp:=fun l=>zde (h:=h) (l:=l) (r:=r3) (s:=r3.se) (x:=5) (y:=r3.ni) (z:=r3.nd)
  simp only [show ((5 : Nat) : Int) = 5 from rfl] at hp
  simp only [go_sem,hp,hw2]
end Go.Am
end
section
/- The program: a step. -/
open Go
set_option linter.all false
namespace Go.Am
variable {h l l2 : Heap} {K : Post} {r : Run} {n : Nat} {o : Obj} {x : Esc}
attribute [-go_sem] oEqa splice z3R
attribute [local go_sem] zgd zgc rc_1 rc_7 zrI zrJ zrK zrL z86 zei zpp zpq zpr zps zhA zhB zhC zrM zge zgf zgg zgh zgi zgj zgk zgl zgm
section
variable {s : Sett} {st ck ni nd : Int} {a b c d e : AV} {w : Bool} {q1 q2 q3 : Int} {q4 q5 q6 : List UInt8}
theorem rct_0 : splice (rc s st ck ni nd a b c d e w) 0 [AI q1,AI q2,AI q3,AS q4,AS q5,AS q6] = rc { s with e1:=⟨q1,q2,q3,q4,q5,q6⟩ } st ck ni nd a b c d e w:=(rfl)
theorem rct_6 : splice (rc s st ck ni nd a b c d e w) 6 [AI q1,AI q2,AI q3,AS q4,AS q5,AS q6] = rc { s with e2:=⟨q1,q2,q3,q4,q5,q6⟩ } st ck ni nd a b c d e w:=(rfl)
theorem rct_12 : splice (rc s st ck ni nd a b c d e w) 12 [AI q1,AI q2,AI q3,AS q4,AS q5,AS q6] = rc { s with h1:=⟨q1,q2,q3,q4,q5,q6⟩ } st ck ni nd a b c d e w:=(rfl)
theorem rct_18 : splice (rc s st ck ni nd a b c d e w) 18 [AI q1,AI q2,AI q3,AS q4,AS q5,AS q6] = rc { s with t1:=⟨q1,q2,q3,q4,q5,q6⟩ } st ck ni nd a b c d e w:=(rfl)
theorem rct_24 : splice (rc s st ck ni nd a b c d e w) 24 [AI q1,AI q2,AI q3,AS q4,AS q5,AS q6] = rc { s with h2:=⟨q1,q2,q3,q4,q5,q6⟩ } st ck ni nd a b c d e w:=(rfl)
theorem rct_30 : splice (rc s st ck ni nd a b c d e w) 30 [AI q1,AI q2,AI q3,AS q4,AS q5,AS q6] = rc { s with t2:=⟨q1,q2,q3,q4,q5,q6⟩ } st ck ni nd a b c d e w:=(rfl)
end
attribute [local go_sem] rct_0 rct_6 rct_12 rct_18 rct_24 rct_30
def ofsK (k : Int) : Nat:=if k = 1 then 0 else if k = 2 then 6 else if k = 3 then 12 else if k = 4 then 18 else if k = 5 then 24 else 30
theorem s_ofK {id : Nat} (hid : id < h.length) (k : Int) : z0c X z52 [.ref id 0,AI k] h K = K (.ref id (ofsK k)) h []:=by
 refine rule ?_
 rw [c_q06o rfl]
 have e1 : max h.length (id + 1) = h.length:=by omega
 have e2 : id + 1 ≤ h.length:=by omega
 unfold ofsK
 by_cases h1 : k = 1
 ·simp only [z6G,go_sem,h1,e1,e2]
 by_cases h2 : k = 2
 ·simp only [z6G,go_sem,h1,h2,e1,e2]
 by_cases h3 : k = 3
 ·simp only [z6G,go_sem,h1,h2,h3,e1,e2]
 by_cases h4 : k = 4
 ·simp only [z6G,go_sem,h1,h2,h3,h4,e1,e2]
 by_cases h5 : k = 5
 ·simp only [z6G,go_sem,h1,h2,h3,h4,h5,e1,e2]
 simp only [z6G,go_sem,h1,h2,h3,h4,h5,e1,e2]
set_option maxHeartbeats 2000000 in
theorem z5t {Kx : Ex → St → Prop} (hs : r.sts.length ≤ 100000) (hf : r.frs.length ≤ 100000) (f : Nat) : z3R (z0c X) X.gl (.ref (h.length + 5) 0) (AI f) (rh h r l) x Kx = Kx .normal ⟨[],rh h { r with sts:=r.sts ++ [r.st],frs:=r.frs ++ [f] } l,x⟩:=by
 obtain ⟨se,st,ck,ni,nd,sts,frs,tms,tdi,want,wr⟩:=r
 dsimp only at *
 unfold rh
 have m1 : sts.length + 1 ≤ z0F:=by unfold z0F; omega
 have m2 : frs.length + 1 ≤ z0F:=by unfold z0F; omega
 have e2 : ∀ k n o m,k < 5 → z2V (h.length + 5) (.own (h.length + k) n o m) = []:=fun k n o m hk=>by unfold z2V; rw [zex,if_neg (by omega)]
 have e3:=fun n o m=>e2 0 n o m (by decide)
 have e4:=fun n o m=>e2 1 n o m (by decide)
 simp only [Nat.add_zero] at e3
 simp only [z3R,go_sem,m1,m2,e3,e4,List.length_map]
 simp
attribute [local go_sem] z4U z9I z6R z6S z4p z4C z2I zde
theorem zaQ (c : Cmd) : (r.scn z0d c).sts = r.sts ∧ (r.scn z0d c).frs = r.frs ∧ (r.scn z0d c).se = r.se:=by
 unfold Run.scn
 by_cases h7 : c.k = 7
 ·simp only [h7,if_true]
  obtain ⟨a1,a2,a3,a4,_⟩:=z0x z0d ({ Run.clk { r.go z0d 11 with ni:=(r.go z0d 11).ni + (r.se.h1.b ++ c.b ++ r.se.t1.b).length } (z0L c r.se.h1.b (r.se.h1.b ++ c.b ++ r.se.t1.b)) with st:=12 }) r.se.e1.s.toNat
  obtain ⟨b1,b2,b3,b4,_⟩:=z1L { r.go z0d 11 with ni:=(r.go z0d 11).ni + (r.se.h1.b ++ c.b ++ r.se.t1.b).length } (z0L c r.se.h1.b (r.se.h1.b ++ c.b ++ r.se.t1.b))
  obtain ⟨d1,d2,d3,d4,_⟩:=z0x z0d r 11
  exact ⟨a3.trans (b3.trans d3),a4.trans (b4.trans d4),a1.trans (b1.trans d1)⟩
 ·simp only [h7,if_false]
  obtain ⟨a1,a2,a3,a4,_⟩:=z0x z0d ({ Run.clk { r.go z0d 4 with nd:=(r.go z0d 4).nd + (r.se.h2.b ++ c.b ++ r.se.t2.b).length } (z0L c r.se.h2.b (r.se.h2.b ++ c.b ++ r.se.t2.b)) with st:=5 }) r.se.e2.s.toNat
  obtain ⟨b1,b2,b3,b4,_⟩:=z1L { r.go z0d 4 with nd:=(r.go z0d 4).nd + (r.se.h2.b ++ c.b ++ r.se.t2.b).length } (z0L c r.se.h2.b (r.se.h2.b ++ c.b ++ r.se.t2.b))
  obtain ⟨d1,d2,d3,d4,_⟩:=z0x z0d r 4
  exact ⟨a3.trans (b3.trans d3),a4.trans (b4.trans d4),a1.trans (b1.trans d1)⟩
set_option maxHeartbeats 4000000 in
theorem zu0 (R : RunOk r) (N : RunN r) (hck : r.ck ≤ 700000000) (hst : r.st ∈ stb) (S : SetR r.se) (hl1 : r.sts.length ≤ 100000) (hl2 : r.frs.length ≤ 100000) (c : Cmd) (hc : cmdF c = 0) :
 z0c X z50 [.ref (h.length + 5) 0,ACm c] (rh h r l) K = K (.tup []) (rh h (r.step z0d c) l) []:=by
 refine rule ?_
 rw [c_q06l rfl]
 have e0 : (AI ((0 : Nat) : Int)) = AI 0:=rfl
 have setf : ∀ h1 : 1 ≤ c.k ∧ c.k ≤ 6,z2T (z0c X) X.gl z2v z4l (.ref (h.length + 5) 0) (ACm c) (rh h r l) [] (finR [] false (rh h r l).length fun v1 h1 x1=>v1 = .tup [] ∧ h1 = rh h (r.step z0d c) l ∧ x1 = []):=by
  intro h1
  rw [z13 z0d h1]
  have k2:=fun (l : Heap) (x : Esc) (Kx : Ex → St → Prop)=>z5t (h:=h) (l:=l) (x:=x) (Kx:=Kx) (r:={ r with se:=r.se.put c }) hl1 hl2 0
  rw [e0] at k2
  have ho:=fun (l : Heap) (k : Int) (K' : Post)=>s_ofK (h:=rh h r l) (K:=K') (id:=h.length + 5) (by rw [z4U]; omega) k
  obtain ⟨k,s,cl,b,w,m⟩:=c
  dsimp only at h1
  have : k = 1 ∨ k = 2 ∨ k = 3 ∨ k = 4 ∨ k = 5 ∨ k = 6:=by omega
  rcases this with rfl | rfl | rfl | rfl | rfl | rfl
  ·have ep : r.se.put ⟨1,s,cl,b,w,m⟩ = { r.se with e1:=⟨1,s,cl,b,w,m⟩ }:=rfl
   rw [ep]
   simp only [ep] at k2
   simp only [z2T,go_sem,z0Y,ho,ofsK,k2]
  ·have ep : r.se.put ⟨2,s,cl,b,w,m⟩ = { r.se with e2:=⟨2,s,cl,b,w,m⟩ }:=rfl
   rw [ep]
   simp only [ep] at k2
   simp only [z2T,go_sem,z0Y,ho,ofsK,k2]
  ·have ep : r.se.put ⟨3,s,cl,b,w,m⟩ = { r.se with h1:=⟨3,s,cl,b,w,m⟩ }:=rfl
   rw [ep]
   simp only [ep] at k2
   simp only [z2T,go_sem,z0Y,ho,ofsK,k2]
  ·have ep : r.se.put ⟨4,s,cl,b,w,m⟩ = { r.se with t1:=⟨4,s,cl,b,w,m⟩ }:=rfl
   rw [ep]
   simp only [ep] at k2
   simp only [z2T,go_sem,z0Y,ho,ofsK,k2]
  ·have ep : r.se.put ⟨5,s,cl,b,w,m⟩ = { r.se with h2:=⟨5,s,cl,b,w,m⟩ }:=rfl
   rw [ep]
   simp only [ep] at k2
   simp only [z2T,go_sem,z0Y,ho,ofsK,k2]
  ·have ep : r.se.put ⟨6,s,cl,b,w,m⟩ = { r.se with t2:=⟨6,s,cl,b,w,m⟩ }:=rfl
   rw [ep]
   simp only [ep] at k2
   simp only [z2T,go_sem,z0Y,ho,ofsK,k2]
 cases z0M hc with
 | set h hs e=>exact setf (by omega)
 | pad h0 h1 hb hl e=>exact setf ⟨by omega,h1⟩
 | go hk hs e=>
  rw [z4t z0d hk]
  obtain ⟨g1,g2,g3,g4,g5,g6,_,_⟩:=z0x z0d r c.s.toNat
  obtain ⟨n1,n2⟩:=z0v hs
  have k2:=fun (l : Heap) (x : Esc) (Kx : Ex → St → Prop)=>z5t (h:=h) (l:=l) (x:=x) (Kx:=Kx) (r:=r.go z0d c.s.toNat) (by rw [g3]; exact hl1) (by rw [g4]; exact hl2) 0
  rw [e0] at k2
  have hw:=fun (l : Heap) (K' : Post)=>z9X (h:=h) (l:=l) (K:=K') R (by omega) (z1m hst) (z1Z n1)
  obtain ⟨k,s,cl,b,w,m⟩:=c
  dsimp only at hk n2 hw k2 ⊢
  subst hk
  rw [n2] at hw
  simp only [z2T,go_sem,z0Y,z2h,hw,k2]
 | idle hk h0 h1 e=>
  rw [z1I z0d hk]
  obtain ⟨g1,g2,g3,g4,g5,g6,_,_⟩:=z0x z0d r 1
  have hw:=fun (l : Heap) (K' : Post)=>z9X (h:=h) (l:=l) (K:=K') R (by omega) (z1m hst) (show 1 ∈ toS by decide)
  have R1:=z38 (tov:=1) R
  have c1 : (r.go z0d 1).ck ≤ 700000008:=by have:=(z01 (z1m hst) (show 1 ∈ toS by decide)).2.1; rw [zdX]; omega
  simp only [show ((1 : Nat) : Int) = 1 from rfl] at hw
  obtain ⟨k,s,cl,b,w,m⟩:=c
  dsimp only at hk h0 h1 ⊢
  subst hk
  obtain ⟨n,rfl⟩ : ∃ n : Nat,cl = n:=⟨cl.toNat,by omega⟩
  simp only [Int.toNat_natCast]
  generalize r.go z0d 1 = r1 at *
  simp only [z2T,go_sem,z0Y,z2h,hw]
  refine z0Z (fun k : Nat=>⟨[(0,.ref (h.length + 5) 0),(4,AI 0),(35,AI n),(36,AI k)],rh h (r1.clk (List.replicate k (48,48,120))) (l ++ [.box [AI 9,AI s,AI n,AS b,AS w,AS m]]),[]⟩) (fun k=>k ≤ n) (fun k=>n - k) 0 (by rw [List.replicate_zero,z6u]; rfl) (by omega) ?_
  intro k hk
  have R2:=z2y (L:=List.replicate k (48,48,120)) R1
  rcases Nat.lt_or_ge k n with hlt | hge
  ·have w2 : IntKind.i64.wrap ((k : Int) + 1) = ((k + 1 : Nat) : Int):=z0m _ (by omega) (by omega)
   have hc:=fun (l : Heap) (K' : Post)=>zaO (h:=h) (l:=l) (K:=K') R2 (by rw [zb2,List.length_replicate]; omega) 48 48 120
   simp only [show (((48 : UInt8).toNat : Nat) : Int) = 48 from rfl,show (((120 : UInt8).toNat : Nat) : Int) = 120 from rfl] at hc
   simp only [go_sem,hlt,w2,hc]
   exact ⟨k + 1,by rw [z6Z,← List.replicate_succ'],by omega,by omega⟩
  ·obtain rfl : k = n:=by omega
   have q:=z1L r1 (List.replicate k (48,48,120))
   have k2:=fun (l : Heap) (x : Esc) (Kx : Ex → St → Prop)=>z5t (h:=h) (l:=l) (x:=x) (Kx:=Kx) (r:=r1.clk (List.replicate k (48,48,120))) (by rw [q.2.2.1,g3]; exact hl1) (by rw [q.2.2.2.1,g4]; exact hl2) 0
   rw [e0] at k2
   simp only [go_sem,Nat.lt_irrefl,k2]
 | scan hk hs e=>
  rw [z2a z0d hk]
  obtain ⟨g3,g4,_⟩:=zaQ (r:=r) c
  have k2:=fun (l : Heap) (x : Esc) (Kx : Ex → St → Prop)=>z5t (h:=h) (l:=l) (x:=x) (Kx:=Kx) (r:=r.scn z0d c) (by rw [g3]; exact hl1) (by rw [g4]; exact hl2) (r.scnF z0d c)
  have hscan : ∀ (l : Heap) (K' : Post),z0c X z5z [.ref (h.length + 5) 0,ACm c] (rh h r l) K' = K' (AI (r.scnF z0d c : Nat)) (rh h (r.scn z0d c) l) []:=fun l K'=>by
   rcases hk with h7 | h8
   ·exact zsj R N (by omega) hst S c h7 hs
   ·exact zsh R N (by omega) hst S c h8 hs
  have f1 : ¬ c.k ≤ 6:=by omega
  have f2 : 1 ≤ c.k:=by omega
  have f3 : (decide (c.k = 7) || decide (c.k = 8)) = true:=by simpa using hk
  generalize r.scn z0d c = r9 at k2 hscan ⊢
  generalize r.scnF z0d c = f9 at k2 hscan ⊢
  simp only [z2T,go_sem,z0Y,z2h,f1,f2,f3,hscan,k2]
end Go.Am
end
section
/- A command's fault,the reference. -/
open Go
set_option linter.all false
namespace Go.Am
variable {h : Heap} {K : Post} {Kx : Ex → St → Prop} {q q2 : ACode} {k s cl k' s' cl' v9 : Int} {b w m b' w' m' : List UInt8} {x : Esc}
theorem eqa6 {k s cl k' s' cl' : Int} {b w m b' w' m' : List UInt8} : oEqa [0,0,0,2,2,2] true (.p (.agg [.int .i64 k,.int .i64 s,.int .i64 cl,.str b,.str w,.str m])) (.p (.agg [.int .i64 k',.int .i64 s',.int .i64 cl',.str b',.str w',.str m'])) = some (AB (!decide ((⟨k,s,cl,b,w,m⟩ : Cmd) = ⟨k',s',cl',b',w',m'⟩))):=by
 unfold oEqa
 dsimp only
 rw [if_pos ⟨rfl,rfl,by simp⟩,eqs6]
 rfl
attribute [-go_sem] oEqa z2m z1u z0J z2R
abbrev cfH (h : Heap) (k s cl : Int) (b w m : List UInt8) (k' s' cl' : Int) (b' w' m' : List UInt8) : Heap:=h ++ [.box [AI k,AI s,AI cl,AS b,AS w,AS m],.box [AI k',AI s',AI cl',AS b',AS w',AS m']]
theorem z6s : z2R (z0c X) X.gl (.ref h.length 0) (.ref (h.length + 1) 0) (cfH h k s cl b w m k' s' cl' b' w' m') x Kx = Kx .ret ⟨[(2,AI (if (⟨k,s,cl,b,w,m⟩ : Cmd) = ⟨k',s',cl',b',w',m'⟩ then 0 else 3 : Nat))],cfH h k s cl b w m k' s' cl' b' w' m',x⟩:=by
 by_cases he : (⟨k,s,cl,b,w,m⟩ : Cmd) = ⟨k',s',cl',b',w',m'⟩
 ·simp only [z2R,go_sem,eqa6,he]
 ·simp only [z2R,go_sem,eqa6,he]
theorem zvh : z0J (z0c X) X.gl q2 (.ref h.length 0) (.ref (h.length + 1) 0) (AI v9) (AB true) (cfH h k s cl b w m k 0 0 [] [] []) [] Kx =
 if z05 s = true then Kx .normal ⟨[(1,.ref h.length 0),(3,.ref (h.length + 1) 0),(20,AB false)],cfH h k s cl b w m k s 0 [] [] [],[]⟩ else Kx .ret ⟨[(2,AI 1)],cfH h k s cl b w m k s 0 [] [] [],[]⟩:=by
 rcases hs : z05 s with _ | _
 ·simp only [z0J,go_sem,zdp,hs,splice]
 ·simp only [z0J,go_sem,zdp,hs,splice]
theorem zqA (hb : b.length ≤ 100000) : z1u (z0c X) X.gl q (.ref h.length 0) (.ref (h.length + 1) 0) (AI v9) (AB true) (cfH h k s cl b w m k 0 0 [] [] []) [] Kx =
 if z0O b = true then (if 2000 < b.length then Kx .ret ⟨[(2,AI 2)],cfH h k s cl b w m k 0 0 b [] [],[]⟩ else Kx .normal ⟨[(1,.ref h.length 0),(3,.ref (h.length + 1) 0),(43,AB false)],cfH h k s cl b w m k 0 0 b [] [],[]⟩) else Kx .ret ⟨[(2,AI 9)],cfH h k s cl b w m k 0 0 b [] [],[]⟩:=by
 have k1:=fun (h' : Heap) (K' : Post)=>zaM (h:=h') (K:=K') b (by omega)
 rcases hs : z0O b with _ | _
 ·simp only [z1u,go_sem,k1,hs,splice]
 ·by_cases g1 : 2000 < b.length
  ·have g2 : (2000 : Int) < (b.length : Int):=by omega
   simp only [z1u,go_sem,k1,hs,g1,g2,splice]
  ·have g2 : ¬ (2000 : Int) < (b.length : Int):=by omega
   simp only [z1u,go_sem,k1,hs,g1,g2,splice]
theorem cf_k1 (hc : CmdOk ⟨k,s,cl,b,w,m⟩) : z2m (z0c X) X.gl (.ref h.length 0) (.ref (h.length + 1) 0) (AB true) (cfH h k s cl b w m k 0 0 [] [] []) [] Kx =
 if z28 ⟨k,s,cl,b,w,m⟩ = 0 then Kx .normal ⟨[(1,.ref h.length 0),(3,.ref (h.length + 1) 0),(4,AI 0),(63,AB false)],cfH h k s cl b w m k 0 0 b w m,[]⟩ else Kx .ret ⟨[(2,AI (z28 ⟨k,s,cl,b,w,m⟩ : Nat))],cfH h k s cl b w m k 0 0 b w m,[]⟩:=by
 have k2:=fun (h' : Heap) (K' : Post)=>zsi (h:=h') (K:=K') ⟨k,s,cl,b,w,m⟩ hc
 by_cases g1 : z28 ⟨k,s,cl,b,w,m⟩ = 0
 ·simp only [z2m,go_sem,k2,g1,splice]
 ·have g2 : ¬ ((z28 ⟨k,s,cl,b,w,m⟩ : Nat) : Int) = 0:=by omega
  simp only [z2m,go_sem,k2,g1,g2,splice]
set_option maxHeartbeats 4000000 in
theorem z8V (c : Cmd) (hc : CmdOk c) : z0c X z9v [ACm c] h K = K (AI (cmdF c : Nat)) h []:=by
 refine rule ?_
 rw [c_q03d rfl]
 have b1:=hc.b
 obtain ⟨k,s,cl,b,w,m⟩:=c
 simp only at b1
 have st : ∀ k,(k = 1 ∨ k = 2 ∨ k = 10) → cmdF ⟨k,s,cl,b,w,m⟩ = if z05 s = true then (if (⟨k,s,cl,b,w,m⟩ : Cmd) = ⟨k,s,0,[],[],[]⟩ then 0 else 3) else 1:=fun k hk=>by
  unfold cmdF; dsimp only; rw [if_pos hk]; cases z05 s <;> simp
 have sc : ∀ k,(k = 7 ∨ k = 8) → cmdF ⟨k,s,cl,b,w,m⟩ = if z28 ⟨k,s,cl,b,w,m⟩ = 0 then (if (⟨k,s,cl,b,w,m⟩ : Cmd) = ⟨k,0,0,b,w,m⟩ then 0 else 3) else z28 ⟨k,s,cl,b,w,m⟩:=fun k hk=>by
  unfold cmdF; dsimp only; rw [if_neg (by omega),if_neg (by omega),if_pos hk]; split <;> simp_all
 have pd : ∀ k,3 ≤ k ∧ k ≤ 6 → cmdF ⟨k,s,cl,b,w,m⟩ = if z0O b = true then (if 2000 < b.length then 2 else if (⟨k,s,cl,b,w,m⟩ : Cmd) = ⟨k,0,0,b,[],[]⟩ then 0 else 3) else 9:=fun k hk=>by
  unfold cmdF; dsimp only; rw [if_neg (by omega),if_neg (by omega),if_neg (by omega),if_pos hk]; cases z0O b <;> simp
 by_cases h1 : k = 1
 ·subst h1
  rw [st 1 (by omega)]
  simp only [z2d,go_sem,zvh,z6s,splice]
  split <;> simp only [go_sem,z6s] <;> rfl
 by_cases h2 : k = 2
 ·subst h2
  rw [st 2 (by omega)]
  simp only [z2d,go_sem,zvh,z6s,splice]
  split <;> simp only [go_sem,z6s] <;> rfl
 by_cases h10 : k = 10
 ·subst h10
  rw [st 10 (by omega)]
  simp only [z2d,go_sem,zvh,z6s,splice]
  split <;> simp only [go_sem,z6s] <;> rfl
 by_cases h9 : k = 9
 ·subst h9
  by_cases g1 : 0 ≤ cl
  ·by_cases g2 : cl ≤ 20000
   ·have g3 : ¬ (cl < 0 ∨ 20000 < cl):=by omega
    rw [show cmdF ⟨9,s,cl,b,w,m⟩ = if (⟨9,s,cl,b,w,m⟩ : Cmd) = ⟨9,0,cl,[],[],[]⟩ then 0 else 3 by simp only [cmdF,g3]; simp]
    simp only [z2d,z0J,go_sem,s_in,g1,g2,z6s,splice]
   ·have g3 : cl < 0 ∨ 20000 < cl:=by omega
    rw [show cmdF ⟨9,s,cl,b,w,m⟩ = 1 by simp [cmdF,g3]]
    simp only [z2d,z0J,go_sem,s_in,g1,g2,splice]
  ·have g3 : cl < 0 ∨ 20000 < cl:=by omega
   rw [show cmdF ⟨9,s,cl,b,w,m⟩ = 1 by simp [cmdF,g3]]
   simp only [z2d,z0J,go_sem,s_in,g1,splice]
 by_cases h3 : k = 3
 ·subst h3
  rw [pd 3 (by omega)]
  simp only [z2d,z0J,go_sem,zqA (show b.length ≤ 100000 by omega),splice]
  split
  ·split <;> simp only [go_sem,z6s] <;> rfl
  ·simp only [go_sem] <;> rfl
 by_cases h4 : k = 4
 ·subst h4
  rw [pd 4 (by omega)]
  simp only [z2d,z0J,go_sem,zqA (show b.length ≤ 100000 by omega),splice]
  split
  ·split <;> simp only [go_sem,z6s] <;> rfl
  ·simp only [go_sem] <;> rfl
 by_cases h5 : k = 5
 ·subst h5
  rw [pd 5 (by omega)]
  simp only [z2d,z0J,go_sem,zqA (show b.length ≤ 100000 by omega),splice]
  split
  ·split <;> simp only [go_sem,z6s] <;> rfl
  ·simp only [go_sem] <;> rfl
 by_cases h6 : k = 6
 ·subst h6
  rw [pd 6 (by omega)]
  simp only [z2d,z0J,go_sem,zqA (show b.length ≤ 100000 by omega),splice]
  split
  ·split <;> simp only [go_sem,z6s] <;> rfl
  ·simp only [go_sem] <;> rfl
 by_cases h7 : k = 7
 ·subst h7
  rw [sc 7 (by omega)]
  simp only [z2d,z0J,z1u,go_sem,cf_k1 hc,splice]
  split <;> simp only [go_sem,z6s] <;> rfl
 by_cases h8 : k = 8
 ·subst h8
  rw [sc 8 (by omega)]
  simp only [z2d,z0J,z1u,go_sem,cf_k1 hc,splice]
  split <;> simp only [go_sem,z6s] <;> rfl
 rw [show cmdF ⟨k,s,cl,b,w,m⟩ = 4 from zb4 (by dsimp only; omega)]
 simp only [z2d,z0J,z1u,z2m,go_sem,h1,h2,h3,h4,h5,h6,h7,h8,h9,h10,splice]
end Go.Am
end
section
/- Lists of faults: what is wrong with them,both ways. -/
open Go
set_option linter.all false
namespace Go.Am
variable {h : Heap} {K : Post}
end Go.Am
end
section
/- Rows of a test asv numbers. -/
open Go
set_option linter.all false
namespace Go.Am
variable {h : Heap} {K : Post}
end Go.Am
end
section
/- Faults on rows: what the program makes of them. -/
open Go
set_option linter.all false
namespace Go.Am
variable {h : Heap} {K : Post}
end Go.Am
end
section
/- Rows that are handed tov a function: it sees their values. -/
open Go
namespace Go.Am
theorem zuL {X : Ctx} {f : Nat} {F : AFun} {a : List AV} {vs : List PV} {h h1 : Heap} {P : Post} (hf : X.fn f = some F) (hr : F.byref = false) (hp : z0s h a = some (vs.map .p,h1)) (hq : z0s h1 (vs.map .p) = some (vs.map .p,h1)) (hl : vs.length = F.nparams) (hlen : h1.length = h.length) : z0c X f a h P = z0c X f (vs.map .p) h1 P:=by
 cases hd : F.isDet with
 | false=>rw [z0i hf hr hp (by simpa using hl) hd,z0i hf hr hq (by simpa using hl) hd,hlen]
 | true=>rw [z29 hf hr hp (by simpa using hl) hd,z29 hf hr hq (by simpa using hl) hd,hlen]
theorem zmz {h : Heap} {id k : Nat} : (frz h id k).length = h.length:=by
 unfold frz
 split <;> simp
end Go.Am
end
section
/- Responses,asv the program computes them. -/
open Go
set_option linter.all false
namespace Go.Am
variable {h : Heap} {K : Post}
end Go.Am
end
section
/- Sorting the middle of a row: printed by program. -/
open Go
set_option linter.unusedSimpArgs false
namespace Go.Am
attribute [-go_sem] PV.cells splice
variable {h : Heap} {K : Post}
end Go.Am
end
section
/- What is drawn: orders,tests. -/
open Go
set_option linter.all false
namespace Go.Am
variable {L : List Int} {a : Int} {h l : Heap} {id : Nat} {K : Post}
def GenK (f : Nat) (args : List AV) (L : List Int) (a : Int) (sh : Sh) (Q : List PV → Int → Prop) : Prop:=∀ (h : Heap) (id : Nat),h[id]? = some (strm L a) → ∃ xs a2,Q xs a2 ∧ ∀ K : Post,z0c X f (.ref id 0 :: args) h K = K (.own h.length xs.length 0 xs.length) (h.set id (strm L a2) ++ [.row sh xs 0]) []
theorem GenK.of {f : Nat} {args : List AV} {L : List Int} {a : Int} {sh : Sh} {Q : List PV → Int → Prop} (H : ∀ (h : Heap) (id : Nat),id < h.length → z0c X f (.ref id 0 :: args) (h.set id (strm L a)) fun v1 h1 x1=>∃ xs a2,Q xs a2 ∧ v1 = .own h.length xs.length 0 xs.length ∧ h1 = h.set id (strm L a2) ++ [.row sh xs 0] ∧ x1 = []) : GenK f args L a sh Q:=by
 intro h id hh
 have hid:=z56 hh
 have k:=H h id hid
 rw [zsn hh] at k
 obtain ⟨v,h',x,⟨xs,a2,q,e0,e1,e2⟩,r⟩:=z0c.one ze5 k
 subst e0; subst e1; subst e2
 exact ⟨xs,a2,q,r⟩
theorem zaN (s : List UInt8) (c : Int) (h0 : 0 ≤ c) (hc : s.length * c.toNat ≤ 1000000) (h1 : c ≤ 1000000) : z0c X z1g [AS s,AI c] h K = K (AS (repL s c.toNat)) h []:=by
 refine z7c (X:=X) (by kernel_rfl) ?_
 rw [zuH]
 exact z8d (vs:=[.str s,.int .i64 c]) (by kernel_rfl) (s:=z61) (by kernel_rfl) rfl (by simp only [z61]; rw [if_pos ⟨h0,hc,h1⟩])
end Go.Am
end
