/- Texts of the proof, laid together: PVec, PVec2, PVec3, PVec4, MathFrac, SpBase, SpList, SpShp, SpStr, SpWalk, SpLen, SpStrs, SpFind, SpLimD, SpLim, SpLotA, SpRecD, SpGenA, SpSome, SpGenL, SpRec, SpSortRec, SpCompact, SpGenR, PMerge, SpMrgA, SpSort, SpMrgB, SpMrgC, SpMrgD, PFin, SpTxt, SpFlt1, SpFlt2, SpVec1, SpVec2, SpFlt3, SpFlt4, SpFlt5, SpArg, SpFlt6, SpSortO, SpGenF, SpBld, SpVec4, SpVec19, SpVec20, SpVec3, SpVec4b, SpVec4c, SpVec4d, SpVec4e, SpVec5, SpVec6, SpVec7. -/
import Derived.Test.YtojjldhoodnjiaaGreatDoorlawSF7
set_option linter.all false
section
/- Programs of vectors,plainly: what is wrong with commands; what the reference makes of them,and what the program does. -/
namespace Go.Am
structure Cmd where
 k : Int
 s : Int
 cl : Int
 b : List UInt8
 w : List UInt8
 m : List UInt8
 deriving DecidableEq
def z0C (n : Int) : Bool:=n == 0 || n == 1 || n == 6 || n == 13
def z29 (c : Cmd) : Nat:=
 if c.b = [] then 8 else if !z0F c.b then 9 else if 2000 < c.b.length then 2
 else if c.w ≠ [] ∧ (c.w.length ≠ c.b.length ∨ c.m.length ≠ c.b.length) then 3
 else if !z0F c.w || !z0F c.m then 9 else if c.w = [] ∧ c.m ≠ [] then 3 else 0
def cmdF (c : Cmd) : Nat:=
 if c.k = 1 ∨ c.k = 2 ∨ c.k = 10 then (if !z0C c.s then 1 else if c = ⟨c.k,c.s,0,[],[],[]⟩ then 0 else 3)
 else if c.k = 9 then (if c.cl < 0 ∨ 20000 < c.cl then 1 else if c = ⟨c.k,0,c.cl,[],[],[]⟩ then 0 else 3)
 else if c.k = 7 ∨ c.k = 8 then (if z29 c ≠ 0 then z29 c else if c = ⟨c.k,0,0,c.b,c.w,c.m⟩ then 0 else 3)
 else if 3 ≤ c.k ∧ c.k ≤ 6 then (if !z0F c.b then 9 else if 2000 < c.b.length then 2 else if c = ⟨c.k,0,0,c.b,[],[]⟩ then 0 else 3)
 else 4
def z4N : List Cmd → Nat
 | []=>0
 | c :: r=>if cmdF c ≠ 0 then cmdF c else z4N r
def idleC : Cmd:=⟨0,1,0,[],[],[]⟩
def setC (l : List Cmd) (k : Int) : Cmd:=(l.reverse.find? fun c=>c.k == k).getD idleC
structure Part where
 tms : List UInt8
 tdi : List UInt8
 want : List UInt8
 fr : Nat
 st : Nat
def zs (n : Nat) : List UInt8:=List.replicate n 48
def xsL (n : Nat) : List UInt8:=List.replicate n 120
def z2L (c : Cmd) (i : Nat) : UInt8:=if c.m[i]? = some 49 then (c.w[i]?).getD 0 else 120
def expC (c : Cmd) : List UInt8:=(List.range c.b.length).map (z2L c)
def padP (p : Part) : Part:={ p with tdi:=p.tdi ++ zs (p.tms.length - p.tdi.length),want:=p.want ++ xsL (p.tms.length - p.want.length) }
variable (path : Nat → Nat → List UInt8)
def z1c (c : Cmd) (state sh ex : Nat) (hd tl : List UInt8) (en : Nat) : Part:=
 {
  tms:=path state sh ++ zs ((hd ++ c.b ++ tl).length - 1) ++ [49] ++ path ex en
  tdi:=zs (path state sh).length ++ (hd ++ c.b ++ tl)
  want:=xsL ((path state sh).length + hd.length) ++ expC c
  fr:=(path state sh).length + hd.length
  st:=en }
def z01 (pre : List Cmd) (c : Cmd) (state : Nat) : Part:=
 padP (if c.k = 10 then ⟨path state c.s.toNat,[],[],0,c.s.toNat⟩
  else if c.k = 9 then ⟨path state 1 ++ zs c.cl.toNat,[],[],0,1⟩
  else if c.k = 7 then z1c path c state 11 12 (setC pre 3).b (setC pre 4).b (setC pre 1).s.toNat
  else if c.k = 8 then z1c path c state 4 5 (setC pre 5).b (setC pre 6).b (setC pre 2).s.toNat
  else ⟨[],[],[],0,state⟩)
def z0j (pre : List Cmd) (state : Nat) : List Cmd → List Part
 | []=>[]
 | c :: r=>z01 path pre c state :: z0j (pre ++ [c]) (z01 path pre c state).st r
def sigT (l : List Part) : List UInt8:=l.flatMap Part.tms
def sigI (l : List Part) : List UInt8:=l.flatMap Part.tdi
def sigW (l : List Part) : List UInt8:=l.flatMap Part.want
def z1e (l : List Cmd) : Nat:=if 1000 < l.length then 2 else if z4N l ≠ 0 then z4N l else if 20000 < (sigT (z0j path [] 0 l)).length then 2 else 0
structure Sett where
 e1 : Cmd
 e2 : Cmd
 h1 : Cmd
 t1 : Cmd
 h2 : Cmd
 t2 : Cmd
def sett0 : Sett:=⟨⟨1,1,0,[],[],[]⟩,⟨2,1,0,[],[],[]⟩,⟨3,0,0,[],[],[]⟩,⟨4,0,0,[],[],[]⟩,⟨5,0,0,[],[],[]⟩,⟨6,0,0,[],[],[]⟩⟩
def Sett.put (s : Sett) (c : Cmd) : Sett:=
 if c.k = 1 then { s with e1:=c } else if c.k = 2 then { s with e2:=c } else if c.k = 3 then { s with h1:=c } else if c.k = 4 then { s with t1:=c } else if c.k = 5 then { s with h2:=c } else { s with t2:=c }
structure Run where
 se : Sett
 st : Nat
 ck : Nat
 ni : Nat
 nd : Nat
 sts : List Nat
 frs : List Nat
 tms : List UInt8
 tdi : List UInt8
 want : List UInt8
 wr : Bool
def Run.clk (r : Run) (l : List (UInt8 × UInt8 × UInt8)) : Run:=
 if r.wr then { r with ck:=r.ck + l.length,tms:=r.tms ++ l.map (·.1),tdi:=r.tdi ++ l.map (·.2.1),want:=r.want ++ l.map (·.2.2) } else { r with ck:=r.ck + l.length }
def Run.go (r : Run) (tov : Nat) : Run:={ r.clk ((path r.st tov).map fun c=>(c,48,120)) with st:=tov }
def z0L (c : Cmd) (hd al : List UInt8) : List (UInt8 × UInt8 × UInt8):=
 (List.range al.length).map fun i=>(if i = al.length - 1 then 49 else 48,(al[i]?).getD 0,if hd.length ≤ i then (if i - hd.length < c.m.length then z2L c (i - hd.length) else 120) else 120)
def Run.scn (r : Run) (c : Cmd) : Run:=
 let (hd,tl,en,sh,ex):=if c.k = 7 then (r.se.h1.b,r.se.t1.b,r.se.e1.s,11,12) else (r.se.h2.b,r.se.t2.b,r.se.e2.s,4,5)
 let r1:=r.go path sh
 let r2:=if c.k = 7 then { r1 with ni:=r1.ni + (hd ++ c.b ++ tl).length } else { r1 with nd:=r1.nd + (hd ++ c.b ++ tl).length }
 Run.go path { r2.clk (z0L c hd (hd ++ c.b ++ tl)) with st:=ex } en.toNat
def Run.scnF (r : Run) (c : Cmd) : Nat:=
 if c.k = 7 then (r.go path 11).ck + r.se.h1.b.length else (r.go path 4).ck + r.se.h2.b.length
def Run.step (r : Run) (c : Cmd) : Run:=
 let (r',f):=if 1 ≤ c.k ∧ c.k ≤ 6 then ({ r with se:=r.se.put c },0)
  else if c.k = 7 ∨ c.k = 8 then (r.scn path c,r.scnF path c)
  else if c.k = 9 then ((r.go path 1).clk (List.replicate c.cl.toNat (48,48,120)),0)
  else (r.go path c.s.toNat,0)
 { r' with sts:=r'.sts ++ [r'.st],frs:=r'.frs ++ [f] }
def Run.play (r : Run) : List Cmd → Run
 | []=>r
 | c :: l=>if 20000 < r.ck then r else (r.step path c).play l
def run0 (wr : Bool) : Run:=⟨sett0,0,0,0,0,[],[],[],[],[],wr⟩
end Go.Am
end
section
/- The program and the reference agree on the signals of right commands. -/
namespace Go.Am
variable (path : Nat → Nat → List UInt8)
theorem z07 (l : List Cmd) (c : Cmd) (k : Int) : setC (l ++ [c]) k = if c.k = k then c else setC l k:=by
 unfold setC
 rw [List.reverse_append,List.reverse_singleton,List.singleton_append,List.find?_cons]
 by_cases h : c.k = k
 ·simp [h]
 ·have : (c.k == k) = false:=by simpa using h
  simp [this,h]
inductive Kinds (c : Cmd) : Prop where
 | set (h : c.k = 1 ∨ c.k = 2) (hs : z0C c.s = true) (e : c = ⟨c.k,c.s,0,[],[],[]⟩)
 | go (h : c.k = 10) (hs : z0C c.s = true) (e : c = ⟨c.k,c.s,0,[],[],[]⟩)
 | idle (h : c.k = 9) (h0 : 0 ≤ c.cl) (h1 : c.cl ≤ 20000) (e : c = ⟨c.k,0,c.cl,[],[],[]⟩)
 | scan (h : c.k = 7 ∨ c.k = 8) (hs : z29 c = 0) (e : c = ⟨c.k,0,0,c.b,c.w,c.m⟩)
 | pad (h0 : 3 ≤ c.k) (h1 : c.k ≤ 6) (hb : z0F c.b = true) (hl : c.b.length ≤ 2000) (e : c = ⟨c.k,0,0,c.b,[],[]⟩)
theorem z0U {c : Cmd} (h : cmdF c = 0) : Kinds c:=by
 unfold cmdF at h
 split at h
 ·rename_i hk
  split at h
  ·cases h
  rename_i hs
  split at h
  ·rename_i e
   have hs : z0C c.s = true:=by simpa using hs
   rcases hk with hk | hk | hk
   ·exact .set (.inl hk) hs e
   ·exact .set (.inr hk) hs e
   ·exact .go hk hs e
  ·cases h
 split at h
 ·rename_i hk
  split at h
  ·cases h
  split at h
  ·exact .idle hk (by omega) (by omega) (by assumption)
  ·cases h
 split at h
 ·rename_i hk
  split at h
  ·rename_i h1; exact absurd h h1
  split at h
  ·rename_i h1 e; exact .scan hk (by omega) e
  ·cases h
 split at h
 ·rename_i hk
  split at h
  ·cases h
  split at h
  ·cases h
  split at h
  ·rename_i hb _ e; exact .pad hk.1 hk.2 (by simpa using hb) (by omega) e
  ·cases h
 ·cases h
theorem z1H {c : Cmd} (h : z29 c = 0) : c.b ≠ [] ∧ z0F c.b = true ∧ c.b.length ≤ 2000 ∧ z0F c.w = true ∧ z0F c.m = true ∧ ((c.w = [] ∧ c.m = []) ∨ (c.w.length = c.b.length ∧ c.m.length = c.b.length)):=by
 unfold z29 at h
 split at h
 ·cases h
 split at h
 ·cases h
 split at h
 ·cases h
 split at h
 ·cases h
 split at h
 ·cases h
 split at h
 ·cases h
 rename_i h1 h2 h3 h4 h5 h6
 simp only [Bool.or_eq_true,Bool.not_eq_true',not_or,Bool.not_eq_false] at h5
 refine ⟨h1,by simpa using h2,by omega,h5.1,h5.2,?_⟩
 by_cases hw : c.w = []
 ·exact .inl ⟨hw,Classical.byContradiction fun hm=>h6 ⟨hw,hm⟩⟩
 ·exact .inr ⟨Classical.byContradiction fun e=>h4 ⟨hw,.inl e⟩,Classical.byContradiction fun e=>h4 ⟨hw,.inr e⟩⟩
def stb : List Nat:=[0,1,6,13]
theorem z0v {n : Int} (h : z0C n = true) : n.toNat ∈ stb ∧ (n.toNat : Int) = n:=by
 unfold z0C at h
 simp only [Bool.or_eq_true,beq_iff_eq] at h
 rcases h with ((rfl | rfl) | rfl) | rfl <;> decide
structure RelV (pre : List Cmd) (r : Run) (ps : List Part) (state : Nat) : Prop where
 st : r.st = state
 sb : state ∈ stb
 e1 : r.se.e1.s = (setC pre 1).s
 e2 : r.se.e2.s = (setC pre 2).s
 h1 : r.se.h1.b = (setC pre 3).b
 t1 : r.se.t1.b = (setC pre 4).b
 h2 : r.se.h2.b = (setC pre 5).b
 t2 : r.se.t2.b = (setC pre 6).b
 s1 : z0C (setC pre 1).s = true
 s2 : z0C (setC pre 2).s = true
 b1 : ∀ k,3 ≤ k → k ≤ 6 → z0F (setC pre k).b = true ∧ (setC pre k).b.length ≤ 2000
 ck : r.ck = (sigT ps).length
 sts : r.sts = ps.map Part.st
 sig : r.wr = true → r.tms = sigT ps ∧ r.tdi = sigI ps ∧ r.want = sigW ps
theorem rel0 (wr : Bool) : RelV [] (run0 wr) [] 0 where
 st:=rfl
 sb:=by decide
 e1:=rfl
 e2:=rfl
 h1:=rfl
 t1:=rfl
 h2:=rfl
 t2:=rfl
 s1:=rfl
 s2:=rfl
 b1:=fun k _ _=>⟨rfl,Nat.zero_le _⟩
 ck:=rfl
 sts:=rfl
 sig:=fun _=>⟨rfl,rfl,rfl⟩
theorem z1U (r : Run) (l : List (UInt8 × UInt8 × UInt8)) : (r.clk l).se = r.se ∧ (r.clk l).st = r.st ∧ (r.clk l).sts = r.sts ∧ (r.clk l).frs = r.frs ∧ (r.clk l).wr = r.wr ∧ (r.clk l).ck = r.ck + l.length ∧ (r.clk l).ni = r.ni ∧ (r.clk l).nd = r.nd:=by
 unfold Run.clk; split <;> exact ⟨rfl,rfl,rfl,rfl,rfl,rfl,rfl,rfl⟩
theorem zdo {r : Run} (h : r.wr = true) (l : List (UInt8 × UInt8 × UInt8)) : (r.clk l).tms = r.tms ++ l.map (·.1) ∧ (r.clk l).tdi = r.tdi ++ l.map (·.2.1) ∧ (r.clk l).want = r.want ++ l.map (·.2.2):=by
 unfold Run.clk; rw [if_pos h]; exact ⟨rfl,rfl,rfl⟩
theorem zgM (l : List UInt8) : (l.map fun c=>((c,48,120) : UInt8 × UInt8 × UInt8)).map (·.1) = l ∧ (l.map fun c=>((c,48,120) : UInt8 × UInt8 × UInt8)).map (·.2.1) = zs l.length ∧ (l.map fun c=>((c,48,120) : UInt8 × UInt8 × UInt8)).map (·.2.2) = xsL l.length:=by
 refine ⟨by rw [List.map_map]; exact List.map_id l,?_,?_⟩
 ·unfold zs; rw [List.map_map]; exact List.map_const' ..
 ·unfold xsL; rw [List.map_map]; exact List.map_const' ..
theorem zvx (c : Cmd) (hd al : List UInt8) (h : al ≠ []) : (z0L c hd al).map (·.1) = zs (al.length - 1) ++ [49]:=by
 have hpos:=List.length_pos_iff.2 h
 unfold z0L zs
 rw [List.map_map]
 apply List.ext_getElem
 ·simp; omega
 ·intro i h1 h2
  simp at h1
  simp only [List.getElem_map,List.getElem_range,Function.comp]
  by_cases hi : i = al.length - 1
  ·subst hi; simp
  ·rw [if_neg hi,List.getElem_append_left (by simp; omega)]; simp
theorem zvy (c : Cmd) (hd al : List UInt8) : (z0L c hd al).map (·.2.1) = al:=by
 unfold z0L
 rw [List.map_map]
 apply List.ext_getElem
 ·simp
 ·intro i h1 h2
  simp [h2]
theorem zvz (c : Cmd) (hd tl : List UInt8) (hm : c.m.length ≤ c.b.length) : (z0L c hd (hd ++ c.b ++ tl)).map (·.2.2) = xsL hd.length ++ expC c ++ xsL tl.length:=by
 unfold z0L xsL expC
 rw [List.map_map]
 apply List.ext_getElem
 ·simp <;> omega
 ·intro i h1 h2
  simp only [List.length_map,List.length_range,List.length_append] at h1
  simp only [List.getElem_map,List.getElem_range,Function.comp]
  have hx : ∀ j,c.m.length ≤ j → z2L c j = 120:=fun j hj=>by unfold z2L; rw [List.getElem?_eq_none hj]; rfl
  by_cases h3 : hd.length ≤ i
  ·rw [if_pos h3]
   by_cases h4 : i - hd.length < c.b.length
   ·rw [List.getElem_append_left (by simp; omega),List.getElem_append_right (by simp; omega)]
    simp only [List.length_replicate,List.getElem_map,List.getElem_range]
    split
    ·rfl
    ·rw [hx _ (by omega)]
   ·rw [List.getElem_append_right (by simp; omega)]
    simp only [List.getElem_replicate]
    rw [if_neg (by omega)]
  ·rw [if_neg h3,List.getElem_append_left (by simp; omega),List.getElem_append_left (by simp; omega)]
   simp
theorem z2a (c : Cmd) (hd al : List UInt8) : (z0L c hd al).length = al.length:=by simp [z0L]
theorem z2y (c : Cmd) (state sh ex : Nat) (hd tl : List UInt8) (en : Nat) (hb : c.b ≠ []) :
 padP (z1c path c state sh ex hd tl en) =
  {
   tms:=path state sh ++ (zs ((hd ++ c.b ++ tl).length - 1) ++ [49]) ++ path ex en
   tdi:=zs (path state sh).length ++ (hd ++ c.b ++ tl) ++ zs (path ex en).length
   want:=xsL (path state sh).length ++ (xsL hd.length ++ expC c ++ xsL tl.length) ++ xsL (path ex en).length
   fr:=(path state sh).length + hd.length
   st:=en }:=by
 have hpos:=List.length_pos_iff.2 hb
 have hz : ∀ n,(zs n).length = n:=fun n=>by simp [zs]
 have hx : ∀ n,(xsL n).length = n:=fun n=>by simp [xsL]
 have hxa : ∀ a b,xsL a ++ xsL b = xsL (a + b):=fun a b=>by unfold xsL; rw [List.replicate_append_replicate]
 have he : (expC c).length = c.b.length:=by simp [expC]
 unfold padP z1c
 simp only [Part.mk.injEq,and_true]
 refine ⟨by simp only [List.append_assoc],?_,?_⟩
 ·congr 2
  simp only [List.length_append,hz,List.length_singleton]
  omega
 ·have e : (path state sh ++ zs ((hd ++ c.b ++ tl).length - 1) ++ [49] ++ path ex en).length - (xsL ((path state sh).length + hd.length) ++ expC c).length = tl.length + (path ex en).length:=by
   simp only [List.length_append,hz,hx,he,List.length_singleton]
   omega
  rw [e,← hxa,← hxa]
  simp only [List.append_assoc]
theorem z5T (ps : List Part) (p : Part) : sigT (ps ++ [p]) = sigT ps ++ p.tms ∧ sigI (ps ++ [p]) = sigI ps ++ p.tdi ∧ sigW (ps ++ [p]) = sigW ps ++ p.want:=by
 simp [sigT,sigI,sigW]
theorem zd1 (w : List UInt8) (n : Nat) (st : Nat) : padP ⟨w ++ zs n,[],[],0,st⟩ = ⟨w ++ zs n,zs w.length ++ zs n,xsL w.length ++ xsL n,0,st⟩:=by
 have hz : ∀ n,(zs n).length = n:=fun n=>by simp [zs]
 unfold padP
 simp only [List.length_append,hz,List.nil_append,List.length_nil,Nat.sub_zero,Part.mk.injEq,true_and,and_true]
 exact ⟨by unfold zs; rw [List.replicate_append_replicate],by unfold xsL; rw [List.replicate_append_replicate]⟩
theorem zfo (w : List UInt8) (st : Nat) : padP ⟨w,[],[],0,st⟩ = ⟨w,zs w.length,xsL w.length,0,st⟩:=by
 have:=zd1 w 0 st
 simpa [zs,xsL] using this
theorem z06 (r : Run) (tov : Nat) : (r.go path tov).se = r.se ∧ (r.go path tov).st = tov ∧ (r.go path tov).sts = r.sts ∧ (r.go path tov).frs = r.frs ∧ (r.go path tov).wr = r.wr ∧ (r.go path tov).ck = r.ck + (path r.st tov).length ∧ (r.go path tov).ni = r.ni ∧ (r.go path tov).nd = r.nd:=by
 obtain ⟨a,b,c,d,e,f,g,h⟩:=z1U r ((path r.st tov).map fun c=>(c,48,120))
 unfold Run.go
 exact ⟨a,rfl,c,d,e,by rw [show ({ r.clk ((path r.st tov).map fun c=>(c,48,120)) with st:=tov } : Run).ck = _ from rfl,f,List.length_map],g,h⟩
theorem zeX {r : Run} (h : r.wr = true) (tov : Nat) : (r.go path tov).tms = r.tms ++ path r.st tov ∧ (r.go path tov).tdi = r.tdi ++ zs (path r.st tov).length ∧ (r.go path tov).want = r.want ++ xsL (path r.st tov).length:=by
 obtain ⟨a,b,c⟩:=zdo h ((path r.st tov).map fun c=>(c,48,120))
 obtain ⟨x,y,z⟩:=zgM (path r.st tov)
 unfold Run.go
 exact ⟨by rw [← x]; exact x.symm ▸ a,by rw [y] at b; exact b,by rw [z] at c; exact c⟩
end Go.Am
end
section
/- One command: both sides keep agreeing; a whole program. -/
namespace Go.Am
variable (path : Nat → Nat → List UInt8)
theorem z42 {r : Run} {c : Cmd} (h : 1 ≤ c.k ∧ c.k ≤ 6) : r.step path c = { r with se:=r.se.put c,sts:=r.sts ++ [r.st],frs:=r.frs ++ [0] }:=by
 unfold Run.step; simp only [if_pos h]
theorem z4i {r : Run} {c : Cmd} (h : c.k = 7 ∨ c.k = 8) : r.step path c = { r.scn path c with sts:=(r.scn path c).sts ++ [(r.scn path c).st],frs:=(r.scn path c).frs ++ [r.scnF path c] }:=by
 unfold Run.step; rw [if_neg (by omega),if_pos h]
theorem z4h {r : Run} {c : Cmd} (h : c.k = 9) : r.step path c = { (r.go path 1).clk (List.replicate c.cl.toNat (48,48,120)) with sts:=((r.go path 1).clk (List.replicate c.cl.toNat (48,48,120))).sts ++ [((r.go path 1).clk (List.replicate c.cl.toNat (48,48,120))).st],frs:=((r.go path 1).clk (List.replicate c.cl.toNat (48,48,120))).frs ++ [0] }:=by
 unfold Run.step; rw [if_neg (by omega),if_neg (by omega),if_pos h]
theorem za4 {r : Run} {c : Cmd} (h : c.k = 10) : r.step path c = { r.go path c.s.toNat with sts:=(r.go path c.s.toNat).sts ++ [(r.go path c.s.toNat).st],frs:=(r.go path c.s.toNat).frs ++ [0] }:=by
 unfold Run.step; rw [if_neg (by omega),if_neg (by omega),if_neg (by omega)]
theorem z1t {pre : List Cmd} {c : Cmd} {state : Nat} (h : c.k ≤ 6) : z01 path pre c state = ⟨[],[],[],0,state⟩:=by
 unfold z01
 rw [if_neg (by omega),if_neg (by omega),if_neg (by omega),if_neg (by omega)]; rfl
theorem z4R {pre : List Cmd} {c : Cmd} {state : Nat} (h : c.k = 10) : z01 path pre c state = ⟨path state c.s.toNat,zs (path state c.s.toNat).length,xsL (path state c.s.toNat).length,0,c.s.toNat⟩:=by
 unfold z01
 rw [if_pos h,zfo]
theorem z2z {pre : List Cmd} {c : Cmd} {state : Nat} (h : c.k = 9) : z01 path pre c state = ⟨path state 1 ++ zs c.cl.toNat,zs (path state 1).length ++ zs c.cl.toNat,xsL (path state 1).length ++ xsL c.cl.toNat,0,1⟩:=by
 unfold z01
 rw [if_neg (by omega),if_pos h,zd1]
def Adds (r r' : Run) (p : Part) : Prop:=
 r'.ck = r.ck + p.tms.length ∧ (r'.wr = r.wr) ∧ (r.wr = true → r'.tms = r.tms ++ p.tms ∧ r'.tdi = r.tdi ++ p.tdi ∧ r'.want = r.want ++ p.want) ∧ r'.sts = r.sts ++ [p.st] ∧ r'.st = p.st
theorem zaw {pre pre' : List Cmd} {r r' : Run} {ps : List Part} {state : Nat} {p : Part} (H : RelV pre r ps state) (A : Adds r r' p) (hb : p.st ∈ stb)
 (e1 : r'.se.e1.s = (setC pre' 1).s) (e2 : r'.se.e2.s = (setC pre' 2).s) (h1 : r'.se.h1.b = (setC pre' 3).b) (t1 : r'.se.t1.b = (setC pre' 4).b) (h2 : r'.se.h2.b = (setC pre' 5).b) (t2 : r'.se.t2.b = (setC pre' 6).b)
 (s1 : z0C (setC pre' 1).s = true) (s2 : z0C (setC pre' 2).s = true) (b1 : ∀ k,3 ≤ k → k ≤ 6 → z0F (setC pre' k).b = true ∧ (setC pre' k).b.length ≤ 2000) :
 RelV pre' r' (ps ++ [p]) p.st:=by
 obtain ⟨a1,a2,a3,a4,a5⟩:=A
 obtain ⟨q1,q2,q3⟩:=z5T ps p
 exact ⟨a5,hb,e1,e2,h1,t1,h2,t2,s1,s2,b1,by rw [a1,q1,List.length_append,H.ck],by rw [a4,H.sts,List.map_append]; rfl,fun hw=>by
  rw [a2] at hw
  obtain ⟨x,y,z⟩:=a3 hw
  obtain ⟨u,v,w⟩:=H.sig hw
  exact ⟨by rw [x,q1,u],by rw [y,q2,v],by rw [z,q3,w]⟩⟩
theorem z6J {pre : List Cmd} {r r' : Run} {ps : List Part} {state : Nat} {p : Part} {c : Cmd} (H : RelV pre r ps state) (A : Adds r r' p) (hb : p.st ∈ stb) (hs : r'.se = r.se) (hk : ¬ (1 ≤ c.k ∧ c.k ≤ 6)) :
 RelV (pre ++ [c]) r' (ps ++ [p]) p.st:=by
 have hn : ∀ k : Int,1 ≤ k → k ≤ 6 → setC (pre ++ [c]) k = setC pre k:=fun k h1 h2=>by rw [z07,if_neg (by omega)]
 refine zaw H A hb ?_ ?_ ?_ ?_ ?_ ?_ ?_ ?_ ?_
 ·rw [hs,hn 1 (by omega) (by omega),H.e1]
 ·rw [hs,hn 2 (by omega) (by omega),H.e2]
 ·rw [hs,hn 3 (by omega) (by omega),H.h1]
 ·rw [hs,hn 4 (by omega) (by omega),H.t1]
 ·rw [hs,hn 5 (by omega) (by omega),H.h2]
 ·rw [hs,hn 6 (by omega) (by omega),H.t2]
 ·rw [hn 1 (by omega) (by omega)]; exact H.s1
 ·rw [hn 2 (by omega) (by omega)]; exact H.s2
 ·intro k h1 h2; rw [hn k (by omega) (by omega)]; exact H.b1 k h1 h2
theorem zfF {r : Run} {c : Cmd} (hb : c.b ≠ []) (hm : c.m.length ≤ c.b.length) (hd tl : List UInt8) (sh ex en n1 n2 : Nat) (f : Nat) (p : Part) (hp : p = padP (z1c path c r.st sh ex hd tl en)) (r2 : Run)
 (h2 : r2 = { r.go path sh with ni:=n1,nd:=n2 }) (r3 : Run) (h3 : r3 = Run.go path { r2.clk (z0L c hd (hd ++ c.b ++ tl)) with st:=ex } en) :
 Adds r { r3 with sts:=r3.sts ++ [r3.st],frs:=r3.frs ++ [f] } p ∧ r3.se = r.se:=by
 obtain ⟨g1,g2,g3,g4,g5,g6,_,_⟩:=z06 path r sh
 have ne : hd ++ c.b ++ tl ≠ []:=by simp [hb]
 obtain ⟨k1,k2,k3,k4,k5,k6,_,_⟩:=z1U r2 (z0L c hd (hd ++ c.b ++ tl))
 obtain ⟨m1,m2,m3,m4,m5,m6,_,_⟩:=z06 path { r2.clk (z0L c hd (hd ++ c.b ++ tl)) with st:=ex } en
 rw [← h3] at m1 m2 m3 m4 m5 m6
 have pr:=z2y path c r.st sh ex hd tl en hb
 rw [← hp] at pr
 subst pr
 have hz : ∀ n,(zs n).length = n:=fun n=>by simp [zs]
 have a1 : r2.se = r.se:=by rw [h2]; exact g1
 have a3 : r2.sts = r.sts:=by rw [h2]; exact g3
 have a5 : r2.wr = r.wr:=by rw [h2]; exact g5
 have a6 : r2.ck = r.ck + (path r.st sh).length:=by rw [h2]; exact g6
 have hpos : 0 < (hd ++ c.b ++ tl).length:=List.length_pos_iff.2 ne
 refine ⟨⟨?_,?_,?_,?_,m2⟩,?_⟩
 ·show r3.ck = _
  rw [m6]
  show (r2.clk _).ck + _ = _
  rw [k6,a6,z2a]
  simp only [List.length_append,hz,List.length_singleton]
  simp only [List.length_append] at hpos
  omega
 ·show r3.wr = _
  rw [m5]
  show (r2.clk _).wr = _
  rw [k5,a5]
 ·intro hw
  have hw2 : r2.wr = true:=by rw [a5]; exact hw
  obtain ⟨u1,u2,u3⟩:=zeX path hw sh
  obtain ⟨v1,v2,v3⟩:=zdo hw2 (z0L c hd (hd ++ c.b ++ tl))
  have hw3 : ({ r2.clk (z0L c hd (hd ++ c.b ++ tl)) with st:=ex } : Run).wr = true:=by show (r2.clk _).wr = _; rw [k5]; exact hw2
  obtain ⟨w1,w2,w3⟩:=zeX path hw3 en
  rw [← h3] at w1 w2 w3
  have b1 : r2.tms = r.tms ++ path r.st sh:=by rw [h2]; exact u1
  have b2 : r2.tdi = r.tdi ++ zs (path r.st sh).length:=by rw [h2]; exact u2
  have b3 : r2.want = r.want ++ xsL (path r.st sh).length:=by rw [h2]; exact u3
  refine ⟨?_,?_,?_⟩
  ·show r3.tms = _
   rw [w1]; show (r2.clk _).tms ++ path ex en = _
   rw [v1,b1,zvx c hd _ ne]; simp only [List.append_assoc]
  ·show r3.tdi = _
   rw [w2]; show (r2.clk _).tdi ++ zs (path ex en).length = _
   rw [v2,b2,zvy]; simp only [List.append_assoc]
  ·show r3.want = _
   rw [w3]; show (r2.clk _).want ++ xsL (path ex en).length = _
   rw [v3,b3,zvz c hd tl hm]; simp only [List.append_assoc]
 ·show r3.sts ++ [r3.st] = _
  rw [m3,m2]; show (r2.clk _).sts ++ _ = _
  rw [k3,a3]
 ·rw [m1]; show (r2.clk _).se = _
  rw [k1,a1]
theorem zfL {pre : List Cmd} {r : Run} {ps : List Part} {state : Nat} (H : RelV pre r ps state) {c : Cmd} (hc : cmdF c = 0) :
 RelV (pre ++ [c]) (r.step path c) (ps ++ [z01 path pre c state]) (z01 path pre c state).st:=by
 have hst:=H.st
 subst hst
 have setf : ∀ (h : 1 ≤ c.k ∧ c.k ≤ 6),Adds r (r.step path c) (z01 path pre c r.st) ∧ (z01 path pre c r.st).st ∈ stb:=fun h=>by
  rw [z42 path h,z1t path h.2]
  exact ⟨⟨rfl,rfl,fun _=>⟨(List.append_nil _).symm,(List.append_nil _).symm,(List.append_nil _).symm⟩,rfl,rfl⟩,H.sb⟩
 have hput : ∀ (h : 1 ≤ c.k ∧ c.k ≤ 6),(r.step path c).se = r.se.put c:=fun h=>by rw [z42 path h]
 cases z0U hc with
 | set h hs e=>
  have hr : 1 ≤ c.k ∧ c.k ≤ 6:=by omega
  obtain ⟨A,B⟩:=setf hr
  have hp:=hput hr
  refine zaw H A B ?_ ?_ ?_ ?_ ?_ ?_ ?_ ?_ ?_
  all_goals try rw [hp]
  ·rw [z07]; unfold Sett.put
   rcases h with h | h
   ·rw [if_pos h,if_pos h]
   ·rw [if_neg (by omega),if_pos h,if_neg (by omega)]; exact H.e1
  ·rw [z07]; unfold Sett.put
   rcases h with h | h
   ·rw [if_pos h,if_neg (by omega)]; exact H.e2
   ·rw [if_neg (by omega),if_pos h,if_pos h]
  ·rw [z07,if_neg (by omega)]; unfold Sett.put
   rcases h with h | h
   ·rw [if_pos h]; exact H.h1
   ·rw [if_neg (by omega),if_pos h]; exact H.h1
  ·rw [z07,if_neg (by omega)]; unfold Sett.put
   rcases h with h | h
   ·rw [if_pos h]; exact H.t1
   ·rw [if_neg (by omega),if_pos h]; exact H.t1
  ·rw [z07,if_neg (by omega)]; unfold Sett.put
   rcases h with h | h
   ·rw [if_pos h]; exact H.h2
   ·rw [if_neg (by omega),if_pos h]; exact H.h2
  ·rw [z07,if_neg (by omega)]; unfold Sett.put
   rcases h with h | h
   ·rw [if_pos h]; exact H.t2
   ·rw [if_neg (by omega),if_pos h]; exact H.t2
  ·rw [z07]; split
   ·exact hs
   ·exact H.s1
  ·rw [z07]; split
   ·exact hs
   ·exact H.s2
  ·intro k h1 h2; rw [z07,if_neg (by omega)]; exact H.b1 k h1 h2
 | pad h0 h1 hb hl e=>
  have hr : 1 ≤ c.k ∧ c.k ≤ 6:=by omega
  obtain ⟨A,B⟩:=setf hr
  have hp:=hput hr
  have hk : c.k = 3 ∨ c.k = 4 ∨ c.k = 5 ∨ c.k = 6:=by omega
  refine zaw H A B ?_ ?_ ?_ ?_ ?_ ?_ ?_ ?_ ?_
  all_goals try rw [hp]
  ·rw [z07,if_neg (by omega)]; unfold Sett.put
   rcases hk with h | h | h | h <;> simp [h,H.e1]
  ·rw [z07,if_neg (by omega)]; unfold Sett.put
   rcases hk with h | h | h | h <;> simp [h,H.e2]
  ·rw [z07]; unfold Sett.put
   rcases hk with h | h | h | h <;> simp [h,H.h1]
  ·rw [z07]; unfold Sett.put
   rcases hk with h | h | h | h <;> simp [h,H.t1]
  ·rw [z07]; unfold Sett.put
   rcases hk with h | h | h | h <;> simp [h,H.h2]
  ·rw [z07]; unfold Sett.put
   rcases hk with h | h | h | h <;> simp [h,H.t2]
  ·rw [z07,if_neg (by omega)]; exact H.s1
  ·rw [z07,if_neg (by omega)]; exact H.s2
  ·intro k h1 h2; rw [z07]; split
   ·exact ⟨hb,hl⟩
   ·exact H.b1 k h1 h2
 | go h hs e=>
  obtain ⟨g1,g2,g3,g4,g5,g6,_,_⟩:=z06 path r c.s.toNat
  rw [za4 path h,z4R path h]
  refine z6J H ⟨g6,g5,fun hw=>zeX path hw _,?_,g2⟩ (z0v hs).1 g1 (by omega)
  show (r.go path c.s.toNat).sts ++ _ = _
  rw [g3,g2]
 | idle h h0 h1 e=>
  obtain ⟨g1,g2,g3,g4,g5,g6,_,_⟩:=z06 path r 1
  obtain ⟨k1,k2,k3,k4,k5,k6,_,_⟩:=z1U (r.go path 1) (List.replicate c.cl.toNat (48,48,120))
  rw [z4h path h,z2z path h]
  refine z6J H ⟨?_,?_,?_,?_,?_⟩ (by show 1 ∈ stb; decide) ?_ (by omega)
  ·show Run.ck (Run.clk _ _) = _
   rw [k6,g6]; simp [zs]; omega
  ·show Run.wr (Run.clk _ _) = _
   rw [k5,g5]
  ·intro hw
   obtain ⟨u1,u2,u3⟩:=zeX path hw 1
   obtain ⟨v1,v2,v3⟩:=zdo (r:=r.go path 1) (by rw [g5]; exact hw) (List.replicate c.cl.toNat (48,48,120))
   refine ⟨?_,?_,?_⟩
   ·show Run.tms (Run.clk _ _) = _
    rw [v1,u1]; simp [zs]
   ·show Run.tdi (Run.clk _ _) = _
    rw [v2,u2]; simp [zs]
   ·show Run.want (Run.clk _ _) = _
    rw [v3,u3]; simp [xsL]
  ·show Run.sts (Run.clk _ _) ++ _ = _
   rw [k3,k2,g3,g2]
  ·show Run.st (Run.clk _ _) = _
   rw [k2,g2]
  ·show Run.se (Run.clk _ _) = _
   rw [k1,g1]
 | scan h hs e=>
  obtain ⟨q1,q2,q3,q4,q5,q6⟩:=z1H hs
  have hm : c.m.length ≤ c.b.length:=by rcases q6 with ⟨_,h⟩ | ⟨_,h⟩ <;> simp [h]
  rw [z4i path h]
  rcases h with h | h
  ·have hp : z01 path pre c r.st = padP (z1c path c r.st 11 12 r.se.h1.b r.se.t1.b r.se.e1.s.toNat):=by
    unfold z01
    rw [if_neg (by omega),if_neg (by omega),if_pos h,H.h1,H.t1,H.e1]
   have hen : r.se.e1.s.toNat ∈ stb:=by rw [H.e1]; exact (z0v H.s1).1
   obtain ⟨A,B⟩:=zfF path q1 hm r.se.h1.b r.se.t1.b 11 12 r.se.e1.s.toNat ((r.go path 11).ni + (r.se.h1.b ++ c.b ++ r.se.t1.b).length) (r.go path 11).nd (r.scnF path c) _ hp _ rfl (r.scn path c) (by unfold Run.scn; simp only [if_pos h])
   refine z6J H A (by rw [hp]; exact hen) B (by omega)
  ·have hp : z01 path pre c r.st = padP (z1c path c r.st 4 5 r.se.h2.b r.se.t2.b r.se.e2.s.toNat):=by
    unfold z01
    rw [if_neg (by omega),if_neg (by omega),if_neg (by omega),if_pos h,H.h2,H.t2,H.e2]
   have hen : r.se.e2.s.toNat ∈ stb:=by rw [H.e2]; exact (z0v H.s2).1
   obtain ⟨A,B⟩:=zfF path q1 hm r.se.h2.b r.se.t2.b 4 5 r.se.e2.s.toNat (r.go path 4).ni ((r.go path 4).nd + (r.se.h2.b ++ c.b ++ r.se.t2.b).length) (r.scnF path c) _ hp _ rfl (r.scn path c) (by
    unfold Run.scn
    simp only [if_neg (show ¬ c.k = 7 by omega)])
   refine z6J H A (by rw [hp]; exact hen) B (by omega)
end Go.Am
end
section
/- A whole program; the bits that are shifted. -/
namespace Go.Am
variable (path : Nat → Nat → List UInt8)
theorem z9G (ps qs : List Part) : sigT (ps ++ qs) = sigT ps ++ sigT qs:=by simp [sigT]
theorem zat : ∀ (l : List Cmd) {pre : List Cmd} {r : Run} {ps : List Part} {state : Nat},RelV pre r ps state → z4N l = 0 →
 ((sigT (ps ++ z0j path pre state l)).length ≤ 20000 → ∃ st',RelV (pre ++ l) (r.play path l) (ps ++ z0j path pre state l) st') ∧
 (20000 < (sigT (ps ++ z0j path pre state l)).length → 20000 < (r.play path l).ck)
 | [],pre,r,ps,state,H,_=>by
  simp only [z0j,List.append_nil,Run.play]
  exact ⟨fun _=>⟨state,H⟩,fun h=>by rw [H.ck]; exact h⟩
 | c :: l,pre,r,ps,state,H,hc=>by
  unfold z4N at hc
  split at hc
  ·rename_i h1; exact absurd hc h1
  rename_i h1
  have h0 : cmdF c = 0:=by omega
  have S:=zfL path H h0
  obtain ⟨A,B⟩:=zat l S hc
  have e1 : ps ++ [z01 path pre c state] ++ z0j path (pre ++ [c]) (z01 path pre c state).st l = ps ++ z0j path pre state (c :: l):=by
   rw [List.append_assoc]; rfl
  have e2 : pre ++ [c] ++ l = pre ++ c :: l:=by rw [List.append_assoc]; rfl
  rw [e1] at A B
  rw [e2] at A
  unfold Run.play
  have hlen : (sigT ps).length ≤ (sigT (ps ++ z0j path pre state (c :: l))).length:=by rw [z9G,List.length_append]; omega
  constructor
  ·intro h
   rw [if_neg (by rw [H.ck]; omega)]
   exact A h
  ·intro h
   split
   ·assumption
   ·exact B h
def visL (s : Nat) : List UInt8 → List Nat
 | []=>[]
 | c :: r=>s :: visL (stW s c) r
theorem z1w : ∀ (l : List UInt8) (s : Nat) (r : List UInt8),visL s (l ++ r) = visL s l ++ visL (endL s l) r
 | [],s,r=>rfl
 | d :: l,s,r=>by simp only [List.cons_append,visL,z1w l]; rfl
theorem z6M {s : Nat} (h : stW s 48 = s) : ∀ n,visL s (zs n) = List.replicate n s ∧ endL s (zs n) = s
 | 0=>⟨rfl,rfl⟩
 | n + 1=>by
  obtain ⟨a,b⟩:=z6M h n
  have e : zs (n + 1) = 48 :: zs n:=rfl
  rw [e]
  constructor
  ·simp only [visL,h,a]; rfl
  ·show endL (stW s 48) (zs n) = s
   rw [h,b]
structure PathOk : Prop where
 bits : ∀ a ∈ frS,∀ b ∈ toS,z0F (path a b) = true
 len : ∀ a ∈ frS,∀ b ∈ toS,(path a b).length ≤ 8
 ends : ∀ a ∈ frS,∀ b ∈ toS,endL a (path a b) = b
 no11 : ∀ a ∈ frS,∀ b ∈ toS,(visL a (path a b)).count 11 = 0
 no4 : ∀ a ∈ frS,∀ b ∈ toS,(visL a (path a b)).count 4 = 0
theorem z0Y {a : Nat} (h : a ∈ stb) : a ∈ frS:=by
 simp only [stb,List.mem_cons,List.not_mem_nil,or_false] at h
 rcases h with rfl | rfl | rfl | rfl <;> decide
theorem z1B {a : Nat} (h : a ∈ stb) : a ∈ toS:=by
 simp only [stb,List.mem_cons,List.not_mem_nil,or_false] at h
 rcases h with rfl | rfl | rfl | rfl <;> decide
structure RelN (r : Run) (ps : List Part) (state : Nat) : Prop where
 en : endL 0 (sigT ps) = state
 ni : r.ni = (visL 0 (sigT ps)).count 11
 nd : r.nd = (visL 0 (sigT ps)).count 4
variable {path}
theorem z4c {r r' : Run} {ps : List Part} {state : Nat} {p : Part} (N : RelN r ps state) (he : endL state p.tms = p.st) (h1 : r'.ni = r.ni + (visL state p.tms).count 11) (h2 : r'.nd = r.nd + (visL state p.tms).count 4) : RelN r' (ps ++ [p]) p.st:=by
 obtain ⟨q,_,_⟩:=z5T ps p
 refine ⟨?_,?_,?_⟩
 ·rw [q,z17,N.en,he]
 ·rw [q,z1w,N.en,List.count_append,h1,N.ni]
 ·rw [q,z1w,N.en,List.count_append,h2,N.nd]
theorem z6L (P : PathOk path) {state sh ex en : Nat} (hs : state ∈ stb) (hx : (sh = 11 ∧ ex = 12) ∨ (sh = 4 ∧ ex = 5)) (hen : en ∈ stb) (n : Nat) (hn : 0 < n) :
 endL state (path state sh ++ (zs (n - 1) ++ [49]) ++ path ex en) = en ∧ (visL state (path state sh ++ (zs (n - 1) ++ [49]) ++ path ex en)).count sh = n ∧
 ∀ o,(o = 11 ∨ o = 4) → o ≠ sh → (visL state (path state sh ++ (zs (n - 1) ++ [49]) ++ path ex en)).count o = 0:=by
 have h1 : sh ∈ toS:=by rcases hx with ⟨rfl,rfl⟩ | ⟨rfl,rfl⟩ <;> decide
 have h2 : ex ∈ frS:=by rcases hx with ⟨rfl,rfl⟩ | ⟨rfl,rfl⟩ <;> decide
 have h3 : stW sh 48 = sh:=by rcases hx with ⟨rfl,rfl⟩ | ⟨rfl,rfl⟩ <;> rfl
 have h4 : stW sh 49 = ex:=by rcases hx with ⟨rfl,rfl⟩ | ⟨rfl,rfl⟩ <;> rfl
 obtain ⟨v1,v2⟩:=z6M h3 (n - 1)
 have e1:=P.ends _ (z0Y hs) _ h1
 have e2:=P.ends _ h2 _ (z1B hen)
 have ee : endL state (path state sh ++ (zs (n - 1) ++ [49])) = ex:=by
  rw [z17,e1,z17,v2]; exact h4
 have hv : visL state (path state sh ++ (zs (n - 1) ++ [49]) ++ path ex en) = visL state (path state sh) ++ (List.replicate (n - 1) sh ++ [sh]) ++ visL ex (path ex en):=by
  rw [z1w,ee,z1w,e1,z1w,v1,v2]; rfl
 have c0 : ∀ o,(o = 11 ∨ o = 4) → (visL state (path state sh)).count o = 0 ∧ (visL ex (path ex en)).count o = 0:=by
  rintro o (rfl | rfl)
  ·exact ⟨P.no11 _ (z0Y hs) _ h1,P.no11 _ h2 _ (z1B hen)⟩
  ·exact ⟨P.no4 _ (z0Y hs) _ h1,P.no4 _ h2 _ (z1B hen)⟩
 refine ⟨?_,?_,?_⟩
 ·rw [z17,ee,e2]
 ·obtain ⟨a,b⟩:=c0 sh (by rcases hx with ⟨rfl,rfl⟩ | ⟨rfl,rfl⟩ <;> simp)
  rw [hv,List.count_append,List.count_append,List.count_append,a,b,List.count_replicate_self]
  simp; omega
 ·intro o ho hne
  obtain ⟨a,b⟩:=c0 o ho
  rw [hv,List.count_append,List.count_append,List.count_append,a,b,List.count_replicate,List.count_singleton]
  have : (sh == o) = false:=by simpa using Ne.symm hne
  simp [this]
theorem zoY (P : PathOk path) {pre : List Cmd} {r : Run} {ps : List Part} {state : Nat} (H : RelV pre r ps state) (N : RelN r ps state) {c : Cmd} (hc : cmdF c = 0) :
 RelN (r.step path c) (ps ++ [z01 path pre c state]) (z01 path pre c state).st:=by
 have hst:=H.st
 subst hst
 have hf:=z0Y H.sb
 have setf : (1 ≤ c.k ∧ c.k ≤ 6) → RelN (r.step path c) (ps ++ [z01 path pre c r.st]) (z01 path pre c r.st).st:=fun h=>by
  rw [z42 path h,z1t path h.2]
  exact z4c N rfl rfl rfl
 cases z0U hc with
 | set h hs e=>exact setf (by omega)
 | pad h0 h1 hb hl e=>exact setf (by omega)
 | go h hs e=>
  obtain ⟨g1,g2,g3,g4,g5,g6,g7,g8⟩:=z06 path r c.s.toNat
  rw [za4 path h,z4R path h]
  have ht:=z1B (z0v hs).1
  refine z4c N (P.ends _ hf _ ht) ?_ ?_
  ·show (r.go path c.s.toNat).ni = _
   rw [g7,P.no11 _ hf _ ht,Nat.add_zero]
  ·show (r.go path c.s.toNat).nd = _
   rw [g8,P.no4 _ hf _ ht,Nat.add_zero]
 | idle h h0 h1 e=>
  obtain ⟨g1,g2,g3,g4,g5,g6,g7,g8⟩:=z06 path r 1
  obtain ⟨k1,k2,k3,k4,k5,k6,k7,k8⟩:=z1U (r.go path 1) (List.replicate c.cl.toNat (48,48,120))
  have ht : (1 : Nat) ∈ toS:=by decide
  rw [z4h path h,z2z path h]
  have e1:=P.ends _ hf _ ht
  obtain ⟨v1,v2⟩:=z6M (s:=1) rfl c.cl.toNat
  refine z4c N (by show endL r.st (path r.st 1 ++ zs c.cl.toNat) = 1; rw [z17,e1,v2]) ?_ ?_
  ·show Run.ni (Run.clk _ _) = r.ni + (visL r.st (path r.st 1 ++ zs c.cl.toNat)).count 11
   rw [k7,g7,z1w,e1,v1,List.count_append,P.no11 _ hf _ ht,List.count_replicate]; rfl
  ·show Run.nd (Run.clk _ _) = r.nd + (visL r.st (path r.st 1 ++ zs c.cl.toNat)).count 4
   rw [k8,g8,z1w,e1,v1,List.count_append,P.no4 _ hf _ ht,List.count_replicate]; rfl
 | scan h hs e=>
  obtain ⟨q1,q2,q3,q4,q5,q6⟩:=z1H hs
  rw [z4i path h]
  rcases h with h | h
  ·have hp : z01 path pre c r.st = padP (z1c path c r.st 11 12 r.se.h1.b r.se.t1.b r.se.e1.s.toNat):=by
    unfold z01
    rw [if_neg (by omega),if_neg (by omega),if_pos h,H.h1,H.t1,H.e1]
   have hen : r.se.e1.s.toNat ∈ stb:=by rw [H.e1]; exact (z0v H.s1).1
   have hpos : 0 < (r.se.h1.b ++ c.b ++ r.se.t1.b).length:=by have:=List.length_pos_iff.2 q1; simp only [List.length_append]; omega
   obtain ⟨w1,w2,w3⟩:=z6L P H.sb (.inl ⟨rfl,rfl⟩) hen (r.se.h1.b ++ c.b ++ r.se.t1.b).length hpos
   rw [hp,z2y path c r.st 11 12 _ _ _ q1]
   obtain ⟨g1,g2,g3,g4,g5,g6,g7,g8⟩:=z06 path r 11
   refine z4c N w1 ?_ ?_
   ·show (r.scn path c).ni = _
    unfold Run.scn
    simp only [if_pos h]
    rw [(z06 path _ _).2.2.2.2.2.2.1]
    show Run.ni (Run.clk _ _) = _
    rw [(z1U _ _).2.2.2.2.2.2.1,w2]
    show (r.go path 11).ni + _ = _
    rw [g7]
   ·show (r.scn path c).nd = _
    unfold Run.scn
    simp only [if_pos h]
    rw [(z06 path _ _).2.2.2.2.2.2.2]
    show Run.nd (Run.clk _ _) = _
    rw [(z1U _ _).2.2.2.2.2.2.2,w3 4 (.inr rfl) (by decide)]
    show (r.go path 11).nd = _
    rw [g8,Nat.add_zero]
  ·have hp : z01 path pre c r.st = padP (z1c path c r.st 4 5 r.se.h2.b r.se.t2.b r.se.e2.s.toNat):=by
    unfold z01
    rw [if_neg (by omega),if_neg (by omega),if_neg (by omega),if_pos h,H.h2,H.t2,H.e2]
   have hen : r.se.e2.s.toNat ∈ stb:=by rw [H.e2]; exact (z0v H.s2).1
   have hpos : 0 < (r.se.h2.b ++ c.b ++ r.se.t2.b).length:=by have:=List.length_pos_iff.2 q1; simp only [List.length_append]; omega
   have h7 : ¬ c.k = 7:=by omega
   obtain ⟨w1,w2,w3⟩:=z6L P H.sb (.inr ⟨rfl,rfl⟩) hen (r.se.h2.b ++ c.b ++ r.se.t2.b).length hpos
   rw [hp,z2y path c r.st 4 5 _ _ _ q1]
   obtain ⟨g1,g2,g3,g4,g5,g6,g7,g8⟩:=z06 path r 4
   refine z4c N w1 ?_ ?_
   ·show (r.scn path c).ni = _
    unfold Run.scn
    simp only [if_neg h7]
    rw [(z06 path _ _).2.2.2.2.2.2.1]
    show Run.ni (Run.clk _ _) = _
    rw [(z1U _ _).2.2.2.2.2.2.1,w3 11 (.inl rfl) (by decide)]
    show (r.go path 4).ni = _
    rw [g7,Nat.add_zero]
   ·show (r.scn path c).nd = _
    unfold Run.scn
    simp only [if_neg h7]
    rw [(z06 path _ _).2.2.2.2.2.2.2]
    show Run.nd (Run.clk _ _) = _
    rw [(z1U _ _).2.2.2.2.2.2.2,w2]
    show (r.go path 4).nd + _ = _
    rw [g8]
theorem reln0 (wr : Bool) : RelN (run0 wr) [] 0:=⟨rfl,rfl,rfl⟩
theorem zcy (P : PathOk path) : ∀ (l : List Cmd) {pre : List Cmd} {r : Run} {ps : List Part} {state : Nat},RelV pre r ps state → RelN r ps state → z4N l = 0 →
 (sigT (ps ++ z0j path pre state l)).length ≤ 20000 → ∃ st',RelN (r.play path l) (ps ++ z0j path pre state l) st'
 | [],pre,r,ps,state,H,N,_,_=>by
  simp only [z0j,List.append_nil,Run.play]
  exact ⟨state,N⟩
 | c :: l,pre,r,ps,state,H,N,hc,h=>by
  unfold z4N at hc
  split at hc
  ·rename_i h1; exact absurd hc h1
  rename_i h1
  have h0 : cmdF c = 0:=by omega
  have S:=zfL path H h0
  have S2:=zoY P H N h0
  have e1 : ps ++ [z01 path pre c state] ++ z0j path (pre ++ [c]) (z01 path pre c state).st l = ps ++ z0j path pre state (c :: l):=by
   rw [List.append_assoc]; rfl
  have A:=zcy P l S S2 hc (by rw [e1]; exact h)
  rw [e1] at A
  have hlen : (sigT ps).length ≤ (sigT (ps ++ z0j path pre state (c :: l))).length:=by rw [z9G,List.length_append]; omega
  unfold Run.play
  rw [if_neg (by rw [H.ck]; omega)]
  exact A
theorem z5J (P : PathOk path) {l : List Cmd} (hc : z4N l = 0) (wr : Bool) (h : (sigT (z0j path [] 0 l)).length ≤ 20000) :
 ((run0 wr).play path l).ck = (sigT (z0j path [] 0 l)).length ∧ ((run0 wr).play path l).sts = (z0j path [] 0 l).map Part.st ∧
 ((run0 wr).play path l).ni = (visL 0 (sigT (z0j path [] 0 l))).count 11 ∧ ((run0 wr).play path l).nd = (visL 0 (sigT (z0j path [] 0 l))).count 4 ∧
 (wr = true → ((run0 wr).play path l).tms = sigT (z0j path [] 0 l) ∧ ((run0 wr).play path l).tdi = sigI (z0j path [] 0 l) ∧ ((run0 wr).play path l).want = sigW (z0j path [] 0 l)):=by
 obtain ⟨A,_⟩:=zat path l (rel0 wr) hc
 simp only [List.nil_append] at A
 obtain ⟨st',R⟩:=A h
 obtain ⟨_,N⟩:=zcy P l (rel0 wr) (reln0 wr) hc (by simpa using h)
 simp only [List.nil_append] at N
 have hw : ((run0 wr).play path l).wr = wr:=by
  have : ∀ (l : List Cmd) (r : Run),(r.play path l).wr = r.wr:=by
   intro l
   induction l with
   | nil=>intro r; rfl
   | cons c l ih=>
    intro r
    unfold Run.play
    split
    ·rfl
    ·rw [ih]
     by_cases h1 : 1 ≤ c.k ∧ c.k ≤ 6
     ·rw [z42 path h1]
     by_cases h2 : c.k = 7 ∨ c.k = 8
     ·rw [z4i path h2]
      show (r.scn path c).wr = _
      unfold Run.scn
      by_cases h7 : c.k = 7 <;> (simp only [h7,if_true,if_false]; rw [(z06 path _ _).2.2.2.2.1]; show Run.wr (Run.clk _ _) = _; rw [(z1U _ _).2.2.2.2.1]; exact (z06 path _ _).2.2.2.2.1)
     by_cases h3 : c.k = 9
     ·rw [z4h path h3]
      show Run.wr (Run.clk _ _) = _
      rw [(z1U _ _).2.2.2.2.1]; exact (z06 path _ _).2.2.2.2.1
     ·unfold Run.step
      rw [if_neg h1,if_neg h2,if_neg h3]
      exact (z06 path _ _).2.2.2.2.1
  exact this l _
 exact ⟨R.ck,R.sts,N.ni,N.nd,fun e=>R.sig (by rw [hw]; exact e)⟩
end Go.Am
end
section
/- Plain laws of fractions in lowest terms. -/
namespace Go.Am
end Go.Am
end
section
/- Small functions of numbers and of lists of numbers. -/
open Go
namespace Go.Am
variable {h : Heap} {K : Post}
theorem z6C (n a b : Int) : z0d X z1d [AI n,AI a,AI b] h K = K (AB (decide (n < a) || decide (b < n))) h []:=by
 refine rule ?_
 rw [c_q009 rfl]
 by_cases h1 : n < a <;> simp only [zj0,go_sem,h1]
theorem s_in (n a b : Int) : z0d X z9d [AI n,AI a,AI b] h K = K (AB (decide (a ≤ n) && decide (n ≤ b))) h []:=by
 refine rule ?_
 rw [c_q03i rfl]
 by_cases h1 : a ≤ n <;> simp only [zj8,go_sem,h1]
end Go.Am
end
section
/- Functions of lists. -/
open Go
namespace Go.Am
variable {h : Heap} {K : Post}
theorem sum_bd (l : List Int) (a b : Int) (hv : ∀ n ∈ l,a ≤ n ∧ n ≤ b) : (l.length : Int) * a ≤ l.sum ∧ l.sum ≤ (l.length : Int) * b:=by
 induction l with
 | nil=>simp
 | cons x r ih=>
  obtain ⟨i1,i2⟩:=ih (fun n hn=>hv n (by simp [hn]))
  obtain ⟨x1,x2⟩:=hv x (by simp)
  simp only [List.length_cons,List.sum_cons,Int.natCast_add,Int.add_mul]
  omega
theorem zvI {l : List Int} {B : Int} (hv : ∀ n ∈ l,-B ≤ n ∧ n ≤ B) {N : Nat} (hl : l.length ≤ N) (hB : 0 ≤ B) : -(N * B) ≤ l.sum ∧ l.sum ≤ N * B:=by
 obtain ⟨h1,h2⟩:=sum_bd l (-B) B hv
 have : (l.length : Int) * B ≤ N * B:=Int.mul_le_mul_of_nonneg_right (by omega) hB
 rw [Int.mul_neg] at h1
 omega
theorem zdB {l : List Int} {B : Int} (hv : ∀ n ∈ l,-B ≤ n ∧ n ≤ B) {N : Nat} (hl : l.length ≤ N) (hB : 0 ≤ B) (k : Nat) : -(N * B) ≤ (l.take k).sum ∧ (l.take k).sum ≤ N * B:=
 zvI (fun n hn=>hv n (List.mem_of_mem_take hn)) (by simp; omega) hB
def z4u : List Int → Int
 | []=>0
 | e :: r=>if e = 0 then z4u r else e
end Go.Am
end
section
/- Values of a shape: loads and stores in rows. -/
open Go
namespace Go.Am
variable {h : Heap} {K : Post}
theorem zv0 {sh : Sh} {x : PV} (hx : x.shp sh = true) : cutP sh 0 x = some x:=by
 cases sh with
 | none=>exact zun hx
 | some n=>
  cases x with
  | agg cs=>
   simp only [PV.shp,Bool.and_eq_true,beq_iff_eq] at hx
   simp [cutP,hx.1]
   exact List.take_of_length_le (by omega)
  | _=>cases hx
theorem shp_st {sh : Sh} {x y : PV} (hx : x.shp sh = true) (hy : y.shp sh = true) (id i fz : Nat) (xs : List PV) (h1 : Heap) : stE sh id i 0 fz sh xs x h1 (some y) = some (.und,h1.set id (.row sh (xs.set i x) fz),[]):=by
 cases sh with
 | none=>
  cases y with
  | agg cs=>cases hy
  | _=>simp only [PV.shp] at hx; simp [stE,hx]
 | some n=>
  cases y with
  | agg cs=>
   cases x with
   | agg ds=>
    simp only [PV.shp,Bool.and_eq_true,beq_iff_eq] at hx hy
    simp [stE,PV.cells,splice,hx.1,hy.1,show cs.drop n = [] from List.drop_of_length_le (by omega)]
   | _=>cases hx
  | _=>cases hy
def shps (sh : Sh) (xs : List PV) : Prop:=∀ x ∈ xs,x.shp sh = true
theorem zr1 {sh : Sh} {xs : List PV} (hx : shps sh xs) {i : Nat} (hi : i < xs.length) : xs[i].shp sh = true:=hx _ (List.getElem_mem hi)
theorem zrz {h : Heap} {id : Nat} {o : Obj} (hh : h[id]? = some o) : h.set id o = h:=by
 apply List.ext_getElem?
 intro i
 rw [List.getElem?_set]
 split
 ·rename_i e; subst e; rw [hh]; simp [z5p hh]
 ·rfl
structure Shows (sh : Sh) (v : AV) (xs : List PV) (h : Heap) : Prop where
 len : oLen v = some (AI xs.length)
 get : ∀ (k : Nat) (hk : k < xs.length),∃ a,z0N sh v (AI k) h = some a ∧ z0g sh a h = some (.p xs[k])
theorem zr0 {sh : Sh} {xs : List PV} (hs : shps sh xs) : Shows sh (.p (.sl sh xs)) xs h:=by
 refine ⟨rfl,fun k hk=>⟨.vp xs[k],?_,?_⟩⟩
 ·simp [z0N,z1g,hk]
 ·simp only [zmf,zv0 (zr1 hs hk)]; rfl
end Go.Am
end
section
/- Strings: keys,the library's functions without text. -/
open Go
set_option linter.unusedSimpArgs false
namespace Go.Am
variable {h : Heap} {K : Post}
abbrev AS (s : List UInt8) : AV:=.p (.str s)
theorem X_ext : X.ext = extF z0i z0r:=rfl
theorem zro (s : List UInt8) (c : UInt8) : z0d X z0i [AS s,.p (.int .u8 c.toNat)] h K = K (AI (idxB s c)) h []:=by
 have:=zqp (X:=X) (f:=z0i) (asv:=[AS s,.p (.int .u8 c.toNat)]) (vs:=[.str s,.int .u8 c.toNat]) (h:=h) (h1:=h) (r:=.int .i64 (idxB s c)) (K:=K) (by kernel_rfl) rfl rfl rfl ?_
 ·exact this
 ·rw [X_ext]
  unfold extF
  rw [show Nat.beq z0i z0i = true from by kernel_rfl]
  simp
theorem z8s (s : List UInt8) (c : UInt8) : z0d X z9k [AS s,.p (.int .u8 c.toNat)] h K = K (AI (idxB s c)) h []:=by
 have key : ∀ (h : Heap) (K : Post),z0d X z8W [AS s,.p (.int .u8 c.toNat)] h K = K (AI (idxB s c)) h []:=by
  intro h K
  refine rule ?_
  rw [c_q01w rfl]
  simp only [zj1,go_sem,zro]
 refine rule ?_
 rw [c_q058 rfl]
 simp only [zjC,go_sem,key]
theorem zq6 (s : List UInt8) (c : UInt8) : decide (idxB s c < 0) = !s.contains c:=by
 unfold idxB
 rw [Bool.eq_iff_iff]
 by_cases hf : s.findIdx (· == c) < s.length
 ·rw [if_pos hf]
  have:=List.findIdx_getElem (w:=hf)
  simp only [beq_iff_eq] at this
  have hm : c ∈ s:=by rw [← this]; exact List.getElem_mem hf
  simp [hm]
 ·rw [if_neg hf]
  have hm : ¬ c ∈ s:=fun hm=>hf (List.findIdx_lt_length_of_exists ⟨c,hm,by simp⟩)
  simp [hm]
theorem s_only (s t : List UInt8) (hl : s.length ≤ 1000000000) : z0d X z9e [AS s,AS t] h K = K (AB (s.all fun c=>t.contains c)) h []:=by
 refine rule ?_
 rw [c_q03k rfl]
 simp only [ze1,go_sem]
 refine z1m (fun k : Nat=>⟨[(0,AS s),(1,AS t),(7,AI s.length),(8,AI k)],h,[]⟩) (fun k=>k ≤ s.length ∧ (s.take k).all (fun c=>t.contains c) = true) (fun k=>s.length - k) 0 rfl ⟨by omega,rfl⟩ ?_
 rintro k ⟨hk,hp⟩
 rcases Nat.lt_or_ge k s.length with hlt | hge
 ·have hg : s[k]? = some s[k]:=List.getElem?_eq_getElem hlt
  have w2 : IntKind.i64.wrap ((k : Int) + 1) = ((k + 1 : Nat) : Int):=z0l _ (by omega) (by omega)
  have hi:=zq6 t s[k]
  by_cases hc : idxB t s[k] < 0
  ·have : s.all (fun c=>t.contains c) = false:=by
    rw [List.all_eq_false]
    refine ⟨_,List.getElem_mem hlt,?_⟩
    rw [decide_eq_true hc] at hi
    cases hq : t.contains s[k] with
    | true=>rw [hq] at hi; cases hi
    | false=>simp
   simp only [go_sem,hlt,hg,z8s,hc,this]
  ·rw [decide_eq_false hc] at hi
   have hq : t.contains s[k] = true:=by cases hq : t.contains s[k] with | true=>rfl | false=>rw [hq] at hi; cases hi
   simp only [go_sem,hlt,hg,z8s,hc,w2]
   exact ⟨k + 1,rfl,⟨by omega,by rw [List.take_succ_eq_append_getElem hlt,List.all_append,hp]; simp only [List.all_cons,List.all_nil,hq]; rfl⟩,by omega⟩
 ·have ek : k = s.length:=by omega
  subst ek
  rw [List.take_length] at hp
  simp only [go_sem,Nat.lt_irrefl,hp]
end Go.Am
end
section
/- Walks over the states,and the ways that the reference looks for. -/
open Go
set_option linter.all false
namespace Go.Am
variable {h : Heap} {K : Post}
attribute [-go_sem] z68 zap zan zao
attribute [-go_sem] zct
def aftL : List PV:=[eI 1,eI 0,eI 1,eI 2,eI 3,eI 9,eI 4,eI 5,eI 4,eI 5,eI 6,eI 8,eI 6,eI 7,eI 4,eI 8,eI 1,eI 2,eI 10,eI 0,eI 11,eI 12,eI 11,eI 12,eI 13,eI 15,eI 13,eI 14,eI 11,eI 15,eI 1,eI 2]
theorem zu8 {s : Nat} (hs : s < 16) : zct 16 (some 2) (.p (.agg aftL)) (AI s) = some (.p (.agg [eI (stp s 0),eI (stp s 1)])):=by
 have hs' : s = 0 ∨ s = 1 ∨ s = 2 ∨ s = 3 ∨ s = 4 ∨ s = 5 ∨ s = 6 ∨ s = 7 ∨ s = 8 ∨ s = 9 ∨ s = 10 ∨ s = 11 ∨ s = 12 ∨ s = 13 ∨ s = 14 ∨ s = 15:=by omega
 rcases hs' with rfl | rfl | rfl | rfl | rfl | rfl | rfl | rfl | rfl | rfl | rfl | rfl | rfl | rfl | rfl | rfl <;> rfl
theorem zu7 {s t : Nat} (ht : t < 2) : zct 2 none (.p (.agg [eI (stp s 0),eI (stp s 1)])) (AI t) = some (AI (stp s t)):=by
 have ht' : t = 0 ∨ t = 1:=by omega
 rcases ht' with rfl | rfl <;> rfl
theorem zvq (s t : Nat) (hs : s < 16) (ht : t < 2) : z0d X z9a [AI s,AI t] h K = K (AI (stp s t)) h []:=by
 refine rule ?_
 rw [c_q030 rfl]
 have g:=zu8 hs
 have g2:=zu7 (s:=s) ht
 unfold aftL at g
 simp only [zj6,go_sem,g,g2]
abbrev AIs (l : List Nat) : AV:=.p (.sl none (l.map fun n : Nat=>eI n))
theorem z5Q (s : Nat) (l : List UInt8) (hs : s < 16) (hb : z0F l = true) (hl : l.length ≤ 1000000) : z0d X z62 [AI s,AS l] h K = K (AIs (z36 s l)) h []:=by
 refine rule ?_
 rw [c_q02z rfl]
 have hmx : l.length ≤ z0I:=by unfold z0I; omega
 simp only [zey,go_sem,hmx]
 refine z1m (fun k : Nat=>⟨[(0,AI (endL s (l.take k))),(5,.own h.length k 0 k),(9,.own (h.length + 1) l.length 0 l.length),(10,AI l.length),(11,AI k)],h ++ [.row none ((z36 s (l.take k)).map fun n : Nat=>eI n) 0,.row none (z0o l) 0],[]⟩) (fun k=>k ≤ l.length) (fun k=>l.length - k) 0 rfl (by omega) ?_
 intro k hk
 rcases Nat.lt_or_ge k l.length with hlt | hge
 ·have g : (z0o l)[k]? = some (.int .u8 (l[k].toNat : Int)):=by unfold z0o; rw [List.getElem?_map,List.getElem?_eq_getElem hlt]; rfl
  have w2 : IntKind.i64.wrap ((k : Int) + 1) = ((k + 1 : Nat) : Int):=z0l _ (by omega) (by omega)
  have bt:=bit_at hlt hb
  have e1 : IntKind.u8.wrap ((l[k].toNat : Int) - 48) = ((l[k].toNat - 48 : Nat) : Int):=by
   rcases bt with e | e <;> rw [e] <;> rfl
  have hsm : l[k].toNat - 48 < 2:=by rcases bt with e | e <;> rw [e] <;> decide
  have e2 : IntKind.i64.wrap ((l[k].toNat - 48 : Nat) : Int) = ((l[k].toNat - 48 : Nat) : Int):=z0l _ (by omega) (by omega)
  have he:=zkY hs (zgu k hb)
  have hlen : ((z36 s (l.take k)).map fun n : Nat=>eI n).length = k:=by simp [z1x]; omega
  have hmx2 : k + 1 ≤ z0I:=by unfold z0I; omega
  have hbl : (z0o l).length = l.length:=by simp [z0o]
  simp only [go_sem,hlt,g,e1,e2,zvq _ _ he hsm,w2,hlen,hmx2,hbl]
  refine ⟨k + 1,?_,by omega,by omega⟩
  rw [List.take_succ_eq_append_getElem hlt,z6p,zbZ]
  simp [stW]
 ·have ek : k = l.length:=by omega
  subst ek
  have hlen : ((z36 s l).map fun n : Nat=>eI n).length = l.length:=by simp [z1x]
  simp only [go_sem,Nat.lt_irrefl,List.take_length,hlen]
  exact congrArg (fun l=>AV.p (.sl none l)) (List.take_of_length_le (by simp [z1x]))
def z4e (h : Heap) : Nat → Heap
 | 0=>h
 | k + 1=>z4e h k ++ [.row none ((rowS (k + 1)).map PV.str) 0]
theorem z6j (h : Heap) : ∀ k,(z4e h k).take h.length = h
 | 0=>List.take_length
 | k + 1=>by
  have : h.length ≤ (z4e h k).length:=by have:=congrArg List.length (z6j h k); simp at this; omega
  rw [z4e,List.take_append_of_le_length this,z6j h k]
theorem z8l (h : Heap) : ∀ k,(z4e h k).length = h.length + k
 | 0=>rfl
 | k + 1=>by rw [z4e,List.length_append,z8l h k]; rfl
def flS (l : List (List UInt8)) : List (List UInt8):=l.flatMap fun s=>[s ++ [48],s ++ [49]]
theorem zgC (l : List (List UInt8)) : (flS l).length = 2 * l.length:=by
 unfold flS
 induction l with
 | nil=>rfl
 | cons a r ih=>simp [ih]; omega
theorem zqw (l : List (List UInt8)) (s : List UInt8) : flS (l ++ [s]) = flS l ++ [s ++ [48],s ++ [49]]:=by simp [flS]
theorem zo4 (k : Nat) : rowS (k + 1) = flS (rowS k):=rfl
def rowV (h : Heap) : Nat → AV
 | 0=>.p (.sl none [.str []])
 | k + 1=>.own (h.length + k) (2 ^ (k + 1)) 0 (2 ^ (k + 1))
set_option maxHeartbeats 1000000 in
theorem zrl (a b : Nat) (ha : a < 16) (w : List UInt8) (hw : wayF a b 9 0 = some w) : z0d X z2f [AI a,AI b] h K = K (AS w) h []:=by
 obtain ⟨kw,hk8,hfw,hno⟩:=zcT hw
 have hit : ∀ {k i : Nat} {s : List UInt8},k ≤ kw → (∀ x ∈ (rowS k).take i,(endL a x == b) = false) → (rowS k)[i]? = some s → (endL a s == b) = true → s = w:=by
  intro k i s hk h1 h2 h3
  have:=z9p (p:=fun s=>endL a s == b) h1 h2 h3
  rcases Nat.lt_or_ge k kw with h4 | h4
  ·rw [hno k h4] at this; cases this
  ·obtain rfl : k = kw:=by omega
   rw [hfw] at this; exact (Option.some.inj this).symm
 have miss : ∀ {k i : Nat},k ≤ kw → (∀ x ∈ (rowS k).take i,(endL a x == b) = false) → (rowS k).length ≤ i → k + 1 ≤ kw:=by
  intro k i hk h1 h2
  rcases Nat.lt_or_ge k kw with h4 | h4
  ·omega
  ·obtain rfl : k = kw:=by omega
   rw [List.take_of_length_le h2] at h1
   rw [zcj (p:=fun s=>endL a s == b) h1] at hfw; cases hfw
 refine rule ?_
 rw [c_q02y rfl]
 simp only [zex,go_sem]
 refine z1m (fun k : Nat=>⟨[(0,AI a),(1,AI b),(5,rowV h k)],z4e h k,[]⟩) (fun k=>k ≤ kw) (fun k=>kw - k) 0 rfl (by omega) ?_
 intro k hk
 have hp2 : (2 : Nat) ^ k ≤ 2 ^ 8:=Nat.pow_le_pow_right (by omega) (by omega)
 have hp3 : (2 : Nat) ^ 8 = 256:=rfl
 cases k with
 | zero=>
  dsimp only [rowV,z4e]
  simp only [go_sem]
  refine z1m (fun i : Nat=>⟨[(0,AI a),(1,AI b),(6,.own (h.length + 0) (2 * i) 0 (2 * i)),(12,.p (.sl none [.str []])),(13,AI (2 ^ 0 : Nat)),(14,AI i)],h ++ [.row none ((flS ((rowS 0).take i)).map PV.str) 0],[]⟩) (fun i=>i ≤ 2 ^ 0 ∧ ∀ x ∈ (rowS 0).take i,(endL a x == b) = false) (fun i=>2 ^ 0 - i) 0 rfl ⟨Nat.zero_le _,by simp⟩ ?_
  rintro i ⟨hi,hn⟩
  rcases Nat.lt_or_ge i (2 ^ 0) with hlt | hge
  ·have hlt' : i < (rowS 0).length:=by rw [z19]; exact hlt
   have hg:=z2t PV.str hlt'
   obtain ⟨hbs,hls⟩:=z6K (List.getElem_mem hlt')
   have hgs : (rowS 0)[i]? = some (rowS 0)[i]:=List.getElem?_eq_getElem hlt'
   have cx : cutP none 0 (PV.str (rowS 0)[i]) = some (PV.str (rowS 0)[i]):=rfl
   have w2 : IntKind.i64.wrap ((i : Int) + 1) = ((i + 1 : Nat) : Int):=z0l _ (by omega) (by omega)
   have htk : (rowS 0).take (i + 1) = (rowS 0).take i ++ [(rowS 0)[i]]:=List.take_succ_eq_append_getElem hlt'
   generalize hse : (rowS 0)[i] = s at *
   have hcond : (endL a s == b) = decide ((endL a s : Int) = (b : Int)):=by
    rw [Bool.eq_iff_iff,beq_iff_eq,decide_eq_true_iff]; omega
   obtain rfl : s = []:=List.eq_nil_of_length_eq_zero hls
   obtain rfl : i = 0:=by simpa using hlt
   have hmx : (2 * 0) + 2 ≤ z0I:=by unfold z0I; omega
   have hfl : ((flS ((rowS 0).take 0)).map PV.str).length = 2 * 0:=rfl
   have hgz : [PV.str []][0]? = some (PV.str []):=rfl
   rcases hb : decide ((a : Int) = (b : Int)) with _ | _
   ·have hne : ¬ ((a : Int) = (b : Int)):=of_decide_eq_false hb
    have h01 : (0 : Int) < ((2 ^ 0 : Nat) : Int):=by decide
    have w1 : IntKind.i64.wrap 1 = ((1 : Nat) : Int):=rfl
    have hst : 1 ≤ z0z:=by decide
    have hmx2 : 2 ≤ z0I:=by decide
    have hf0 : (flS []).length = 0:=rfl
    simp only [go_sem,hgz,cx,w1,z5Q a [] ha rfl (Nat.zero_le _),z36,hne,h01,hst,hf0,hmx2]
    refine ⟨1,rfl,⟨Nat.le_refl _,?_⟩,by decide⟩
    intro x hx
    obtain rfl : x = []:=by simpa [rowS] using hx
    exact decide_eq_false (fun e=>hne (congrArg Nat.cast e))
   ·have heq : (a : Int) = (b : Int):=of_decide_eq_true hb
    have h01 : (0 : Int) < ((2 ^ 0 : Nat) : Int):=by decide
    simp only [go_sem,hgz,cx,z5Q a [] ha rfl (Nat.zero_le _),z36,eq_true heq,h01]
    exact congrArg AS (hit (k:=0) (i:=0) (s:=[]) hk hn rfl (by rw [hcond]; exact hb))
  ·obtain rfl : i = 1:=by omega
   have h11 : ¬ ((1 : Int) < ((2 ^ 0 : Nat) : Int)):=by decide
   have c1 : ((1 : Nat) : Int) = 1:=rfl
   simp only [go_sem,c1,h11]
   exact ⟨1,rfl,miss (k:=0) (i:=1) hk hn (by simp [rowS]),by have:=miss (k:=0) (i:=1) hk hn (by simp [rowS]); omega⟩
 | succ k=>
  dsimp only [rowV,z4e]
  have hlen : (z4e h k).length = h.length + k:=z8l h k
  rw [← hlen]
  simp only [go_sem]
  refine z1m (fun i : Nat=>⟨[(0,AI a),(1,AI b),(6,.own ((z4e h k).length + 1) (2 * i) 0 (2 * i)),(12,.own (z4e h k).length (2 ^ (k + 1)) 0 (2 ^ (k + 1))),(13,AI (2 ^ (k + 1) : Nat)),(14,AI i)],(z4e h k) ++ [.row none ((rowS (k + 1)).map PV.str) 0,.row none ((flS ((rowS (k + 1)).take i)).map PV.str) 0],[]⟩) (fun i=>i ≤ 2 ^ (k + 1) ∧ ∀ x ∈ (rowS (k + 1)).take i,(endL a x == b) = false) (fun i=>2 ^ (k + 1) - i) 0 rfl ⟨Nat.zero_le _,by simp⟩ ?_
  rintro i ⟨hi,hn⟩
  rcases Nat.lt_or_ge i (2 ^ (k + 1)) with hlt | hge
  ·have hlt' : i < (rowS (k + 1)).length:=by rw [z19]; exact hlt
   have hg:=z2t PV.str hlt'
   obtain ⟨hbs,hls⟩:=z6K (List.getElem_mem hlt')
   have hgs : (rowS (k + 1))[i]? = some (rowS (k + 1))[i]:=List.getElem?_eq_getElem hlt'
   have cx : cutP none 0 (PV.str (rowS (k + 1))[i]) = some (PV.str (rowS (k + 1))[i]):=rfl
   have w2 : IntKind.i64.wrap ((i : Int) + 1) = ((i + 1 : Nat) : Int):=z0l _ (by omega) (by omega)
   have htk : (rowS (k + 1)).take (i + 1) = (rowS (k + 1)).take i ++ [(rowS (k + 1))[i]]:=List.take_succ_eq_append_getElem hlt'
   generalize hse : (rowS (k + 1))[i] = s at *
   have hcond : (endL a s == b) = decide ((endL a s : Int) = (b : Int)):=by
    rw [Bool.eq_iff_iff,beq_iff_eq,decide_eq_true_iff]; omega
   have hwl : ((z36 a s).map fun n : Nat=>eI n).length = k + 1:=by simp [z1x,hls]
   have hwg : ((z36 a s).map fun n : Nat=>eI n)[k]? = some (eI (endL a s)):=by
    have:=z9J a s (by omega)
    rw [hls,Nat.add_sub_cancel] at this
    rw [List.getElem?_map,this]; rfl
   have hpos : (0 : Int) < ((k + 1 : Nat) : Int):=by omega
   have w3 : IntKind.i64.wrap (((k + 1 : Nat) : Int) - 1) = (k : Int):=by
    rw [show ((k + 1 : Nat) : Int) - 1 = (k : Int) by omega]; exact z0l _ (by omega) (by omega)
   have hmx : (2 * i) + 2 ≤ z0I:=by unfold z0I; omega
   have hfl : ((flS ((rowS (k + 1)).take i)).map PV.str).length = 2 * i:=by simp [zgC,List.length_take,z19]; omega
   have hrl : (rowS (k + 1)).length = 2 ^ (k + 1):=z19 _
   have hst : s.length + 1 ≤ z0z:=by rw [hls]; unfold z0z; omega
   rcases hb : decide ((endL a s : Int) = (b : Int)) with _ | _
   ·have hne : ¬ ((endL a s : Int) = (b : Int)):=of_decide_eq_false hb
    simp only [go_sem,hlt,hg,cx,w2,z5Q a s ha hbs (by omega),hwl,hwg,hpos,w3,hfl,hmx,hne,hrl,hst]
    refine ⟨i + 1,?_,⟨by omega,?_⟩,by omega⟩
    ·rw [htk,zqw,List.map_append]; rfl
    ·intro x hx
     rw [htk] at hx
     rcases List.mem_append.1 hx with hx | hx
     ·exact hn x hx
     ·obtain rfl : x = s:=by simpa using hx
      rw [hcond]; exact hb
   ·have heq : (endL a s : Int) = (b : Int):=of_decide_eq_true hb
    simp only [go_sem,hlt,hg,cx,w2,z5Q a s ha hbs (by omega),hwl,hwg,hpos,w3,eq_true heq,hrl]
    exact ⟨congrArg AS (hit hk hn hgs (by rw [hcond]; exact hb)),by rw [List.take_append_of_le_length (by rw [z8l]; omega),z6j]⟩
  ·obtain rfl : i = 2 ^ (k + 1):=by omega
   have hm:=miss hk hn (by rw [z19]; exact Nat.le_refl _)
   simp only [go_sem,Int.lt_irrefl]
   have e1 : 2 * 2 ^ (k + 1) = 2 ^ (k + 1 + 1):=by rw [Nat.pow_succ 2 (k + 1)]; omega
   have e2 : (rowS (k + 1)).take (2 ^ (k + 1)) = rowS (k + 1):=List.take_of_length_le (by rw [z19]; exact Nat.le_refl _)
   have e3 : z4e h k ++ [Obj.row none ((rowS (k + 1)).map PV.str) 0,Obj.row none ((flS (rowS (k + 1))).map PV.str) 0] = z4e h (k + 1 + 1):=by
    rw [← zo4,z4e,z4e,List.append_assoc]; rfl
   refine ⟨k + 2,?_,hm,by omega⟩
   rw [e1,e2,e3,hlen]
   rfl
theorem zrM : (frS.all fun a=>toS.all fun b=>decide (wayF a b 9 0 = some (z0c a b))) = true:=by kernel_rfl
theorem zfT {a b : Nat} (ha : a ∈ frS) (hb : b ∈ toS) : wayF a b 9 0 = some (z0c a b):=
 of_decide_eq_true (List.all_eq_true.1 (List.all_eq_true.1 zrM a ha) b hb)
theorem fr_lt {a : Nat} (ha : a ∈ frS) : a < 16:=of_decide_eq_true (List.all_eq_true.1 (show (frS.all fun a=>decide (a < 16)) = true from rfl) a ha)
theorem z0p {a b : Nat} (ha : a ∈ frS) (hb : b ∈ toS) : z0F (z0c a b) = true ∧ (z0c a b).length ≤ 8 ∧ endL a (z0c a b) = b:=by
 obtain ⟨kw,h1,h2,_⟩:=zcT (zfT ha hb)
 have hm:=z6K (List.mem_of_find?_eq_some h2)
 have he:=List.find?_some h2
 exact ⟨hm.1,by omega,by simpa using he⟩
theorem zrn {a b : Nat} (ha : a ∈ frS) (hb : b ∈ toS) : z0d X z2f [AI a,AI b] h K = K (AS (z0c a b)) h []:=zrl a b (fr_lt ha) _ (zfT ha hb)
theorem zcB {n : Nat} (hn : n < 16) : z0d X z5k [AI n] h K = K (AB true) h []:=by
 refine rule ?_
 have h1 : (0 : Int) ≤ n:=by omega
 have h2 : (n : Int) ≤ 15:=by omega
 have h3 : ¬ ((n : Int) < 0):=by omega
 have h4 : ¬ ((n : Int) > 15):=by omega
 rw [c_q05q rfl]
 simp only [zjE,go_sem,z6C,h3,h4]
theorem s_Path {a b : Nat} (ha : a < 16) (hb : b < 16) : z0d X z77 [AI a,AI b] h K = K (.tup [AS (z0c a b),AI 0]) h []:=by
 refine rule ?_
 rw [c_q05p rfl]
 simp only [zjD,go_sem,zcB ha,zcB hb,ztw ztA zt9 a b ha hb]
theorem zpk : (frS.all fun a=>toS.all fun b=>decide ((visL a (z0c a b)).count 11 = 0) && decide ((visL a (z0c a b)).count 4 = 0)) = true:=by kernel_rfl
theorem z8f : PathOk z0c where
 bits a ha b hb:=(z0p ha hb).1
 len a ha b hb:=(z0p ha hb).2.1
 ends a ha b hb:=(z0p ha hb).2.2
 no11 a ha b hb:=by
  have:=List.all_eq_true.1 (List.all_eq_true.1 zpk a ha) b hb
  simp only [Bool.and_eq_true,decide_eq_true_eq] at this
  exact this.1
 no4 a ha b hb:=by
  have:=List.all_eq_true.1 (List.all_eq_true.1 zpk a ha) b hb
  simp only [Bool.and_eq_true,decide_eq_true_eq] at this
  exact this.2
end Go.Am
end
section
/- Lengths of numbers in bits,and comparisons of plain values. -/
open Go
namespace Go.Am
variable {h : Heap} {K : Post}
set_option maxRecDepth 20000
theorem zv1 {l : List Int} : shps none (l.map eI):=fun x hx=>by obtain ⟨n,_,rfl⟩:=List.mem_map.1 hx; rfl
end Go.Am
end
section
/- Lists of strings sorted,left out: printed by program. -/
open Go
set_option linter.unusedSimpArgs false
namespace Go.Am
attribute [-go_sem] PV.cells splice
variable {h : Heap} {K : Post}
end Go.Am
end
section
/- Finding values in lists: printed by program. -/
open Go
set_option linter.unusedSimpArgs false
namespace Go.Am
attribute [-go_sem] PV.cells
variable {h : Heap} {K : Post}
end Go.Am
end
section
/- Limits: what they are,what is wrong with them. -/
open Go
namespace Go.Am
variable {h : Heap} {K : Post}
structure Lim where
 key : List UInt8
 lo : Int
 hi : Int
 bin : Int
def inB (a n b : Int) : Bool:=decide (a ≤ n) && decide (n ≤ b)
end Go.Am
end
section
/- What is wrong with limits,both ways: printed by program. -/
open Go
set_option linter.unusedSimpArgs false
namespace Go.Am
variable {h : Heap} {K : Post}
end Go.Am
end
section
/- Package lot on measured values,and what the reference says of them. -/
open Go
namespace Go.Am
variable {h : Heap} {K : Post}
structure Meas (l : List Int) : Prop where
 len : l.length ≤ 5000
 bd : ∀ n ∈ l,-100000 ≤ n ∧ n ≤ 100000
theorem Meas.sum {l : List Int} (hm : Meas l) (k : Nat) : -500000000 ≤ (l.take k).sum ∧ (l.take k).sum ≤ 500000000:=by
 have:=zdB hm.bd hm.len (by omega) k
 omega
end Go.Am
end
section
/- Records: what they are,what is wrong with them. -/
open Go
set_option linter.unusedSimpArgs false
namespace Go.Am
variable {h : Heap} {K : Post}
theorem zo1 {b : Nat} {P : Post} {vs : List AV} {h : Heap} : retK true b P (some vs) h [] = P (z0T vs) (h.take (max b (z0T vs).top)) []:=by
 simp [retK,z28,z1p]
attribute [go_sem] zo1
structure Rec where
 unit : List UInt8
 time : Int
 site : List UInt8
 res : List Int
def good (x : Lim) (n : Int) : Bool:=inB x.lo n x.hi
def zu5 (l : List Lim) (res : List Int) : List Bool:=List.zipWith good l res
def zu1 (l : List Lim) (res : List Int) : Int:=if (zu5 l res).findIdx (fun b=>!b) < (zu5 l res).length then ((zu5 l res).findIdx (fun b=>!b) : Int) else -1
end Go.Am
end
section
/- What is drawn: numbers,measured values. -/
open Go
namespace Go.Am
variable {L : List Int} {a : Int}
theorem g_Odd (hp : posN 14 a) (u v : Int) (huv : u ≤ v) (hu : -1000000000000 ≤ u) (hv : v ≤ 1000000000000) : ∃ k a2 : Int,a ≤ a2 ∧ a2 ≤ a + 2 ∧ -1099511627776 ≤ k ∧ k ≤ 1099511627776 ∧
 Gen z61 [AI u,AI v] L a a2 (AI k):=by
 have w1 : IntKind.i64.wrap (u - 1) = u - 1:=z0l _ (by omega) (by omega)
 have w2 : IntKind.i64.wrap (v + 1) = v + 1:=z0l _ (by omega) (by omega)
 by_cases hf : z1C L a 12 = 0
 ·have hm:=z8g (L:=L) (a:=a + 1) (l:=[u - 1,v + 1,u,v,-1099511627776,1099511627776]) (by simp) (by simp)
  simp only [List.mem_cons,List.not_mem_nil,or_false] at hm
  refine ⟨z3D [u - 1,v + 1,u,v,-1099511627776,1099511627776] L (a + 1),a + 1 + 1,by omega,by omega,by omega,by omega,Gen.of fun h id hid=>?_⟩
  rw [zsq rfl]
  simp only [zeu,go_sem,hid,zfs hp,hf,w1,w2]
 ·have hm:=z8j L (a + 1) huv (by omega)
  refine ⟨z2H u v L (a + 1),a + 1 + 1,by omega,by omega,by omega,by omega,Gen.of fun h id hid=>?_⟩
  rw [zsq rfl]
  simp only [zeu,go_sem,hid,zfs hp,hf,w1,w2,huv,show -1152921504606846976 ≤ u by omega,show v ≤ 1152921504606846976 by omega]
end Go.Am
end
section
/- Strings that are drawn. -/
open Go
set_option linter.unusedSimpArgs false
namespace Go.Am
variable {L : List Int} {a : Int} {h l : Heap} {id : Nat} {K : Post}
def isS : PV → Bool
 | .str _=>true
 | _=>false
def unS : PV → List UInt8
 | .str s=>s
 | _=>[]
def z48 (l : List (List UInt8)) (L : List Int) (a : Int) : List UInt8:=l.getD (z1C L a l.length).toNat []
theorem z5H {l : List (List UInt8)} {L : List Int} {a : Int} (hl : 0 < l.length) (hl2 : l.length < 4611686018427387904) : z48 l L a ∈ l:=by
 obtain ⟨b1,b2⟩:=z4x L a l.length (by omega) (by omega)
 unfold z48
 have : (z1C L a l.length).toNat < l.length:=by omega
 simp only [List.getD,List.getElem?_eq_getElem this,Option.getD_some]
 exact List.getElem_mem _
theorem zvT {xs : List PV} (h : xs.all isS = true) : xs = (xs.map unS).map PV.str:=by
 induction xs with
 | nil=>rfl
 | cons x r ih=>
  simp only [List.all_cons,Bool.and_eq_true] at h
  simp only [List.map_cons]
  rw [← ih h.2]
  cases x <;> first | rfl | cases h.1
theorem zl4 (hp : posN 0 a) (xs : List PV) (hx : xs.all isS = true) (hl : 0 < xs.length) (hl2 : xs.length < 4611686018427387904) :
 Gen z2r [.p (.sl none xs)] L a (a + 1) (AS (z48 (xs.map unS) L a)):=by
 refine Gen.of fun h id hid=>?_
 rw [c_q02w rfl]
 obtain ⟨b1,b2⟩:=z4x L a xs.length (by omega) (by omega)
 have e4:=z7L (k:=.i64) b1
 have e5 : xs[(z1C L a xs.length).toNat]? = some (.str (z48 (xs.map unS) L a)):=by
  have hm:=zvT hx
  generalize hq : xs.map unS = q at *
  subst hm
  simp only [List.length_map] at *
  rw [z2t PV.str (show (z1C L a q.length).toNat < q.length by omega)]
  simp [z48,List.getD,show (z1C L a q.length).toNat < q.length by omega]
 simp only [zj5,go_sem,z2k hid hp,e4,e5]
theorem z9C (hid : id < h.length) (hp : posN 0 a) {xs : List PV} (hx : xs.all isS = true) (hl : 0 < xs.length) (hl2 : xs.length < 4611686018427387904) :
 z0d X z2r [.ref id 0,.p (.sl none xs)] (h.set id (strm L a)) K = K (AS (z48 (xs.map unS) L a)) (h.set id (strm L (a + 1))) []:=(zl4 hp xs hx hl hl2).set hid
theorem z9B (hid : id < h.length) (hp : posN 0 a) {xs : List PV} (hx : xs.all isS = true) (hl : 0 < xs.length) (hl2 : xs.length < 4611686018427387904) :
 z0d X z2r [.ref id 0,.p (.sl none xs)] (h.set id (strm L a) ++ l) K = K (AS (z48 (xs.map unS) L a)) (h.set id (strm L (a + 1)) ++ l) []:=(zl4 hp xs hx hl hl2).app hid
theorem zcA (hp : posN 0 a) {xs : List PV} (hx : xs.all isS = true) (hl : 0 < xs.length) (hl2 : xs.length < 4611686018427387904) :
 z0d X z2r [.ref 0 0,.p (.sl none xs)] (strm L a :: l) K = K (AS (z48 (xs.map unS) L a)) (strm L (a + 1) :: l) []:=(zl4 hp xs hx hl hl2).hd
attribute [go_sem ↓] z9C z9B zcA
attribute [go_sem] z9C z9B zcA isS unS
end Go.Am
end
section
/- What is drawn: strings,limits. -/
open Go
set_option linter.unusedSimpArgs false
namespace Go.Am
variable {L : List Int} {a : Int} {h l : Heap} {id : Nat} {K : Post}
end Go.Am
end
section
/- Records: what is wrong with them,both ways. -/
open Go
set_option linter.unusedSimpArgs false
namespace Go.Am
variable {h : Heap} {K : Post}
end Go.Am
end
section
/- Sorting records: printed by program. -/
open Go
set_option linter.unusedSimpArgs false
namespace Go.Am
attribute [-go_sem] PV.cells splice
variable {h : Heap} {K : Post}
end Go.Am
end
section
/- Leaving out what is alike: printed by program. -/
open Go
set_option linter.unusedSimpArgs false
namespace Go.Am
attribute [-go_sem] PV.cells splice
variable {h : Heap} {K : Post}
end Go.Am
end
section
/- What is drawn: records. -/
open Go
set_option linter.unusedSimpArgs false
namespace Go.Am
variable {L : List Int} {a : Int} {h l : Heap} {id : Nat} {K : Post}
end Go.Am
end
section
/- Merging two ordered lists: by sorting and leaving out what is alike,and by looking each one up. Plain lists. -/
namespace Go.Am
variable {α : Type}
structure Ordr (c : α → α → Int) : Prop where
 neg : ∀ a b,c b a = - c a b
 trans : ∀ a b d,c a b ≤ 0 → c b d ≤ 0 → c a d ≤ 0
theorem Ordr.refl {c : α → α → Int} (o : Ordr c) (a : α) : c a a = 0:=by have:=o.neg a a; omega
variable {c : α → α → Int} {q : α → α → Bool} {a b : List α}
end Go.Am
end
section
/- Records alike; copies; bins. -/
open Go
set_option linter.unusedSimpArgs false
namespace Go.Am
variable {h : Heap} {K : Post}
def zvw (a b : Rec) : Bool:=decide (a.unit = b.unit) && (decide (a.time = b.time) && (decide (a.site = b.site) && decide (a.res = b.res)))
theorem zoL (a b : Rec) : zvw a b = true ↔ a = b:=by
 cases a; cases b
 simp [zvw]
end Go.Am
end
section
/- Sorting numbers: printed by program. -/
open Go
set_option linter.unusedSimpArgs false
namespace Go.Am
attribute [-go_sem] PV.cells splice
variable {h : Heap} {K : Post}
end Go.Am
end
section
/- Bins,both ways; lists joined; records sorted. -/
open Go
set_option linter.unusedSimpArgs false
namespace Go.Am
variable {h : Heap} {K : Post}
end Go.Am
end
section
/- Lists of records joined,compared,merged. -/
open Go
set_option linter.unusedSimpArgs false
namespace Go.Am
variable {h : Heap} {K : Post}
instance : DecidableEq Rec:=fun a b=>decidable_of_iff (zvw a b = true) (zoL a b)
end Go.Am
end
section
/- Records merged asv the reference does it. -/
open Go
set_option linter.unusedSimpArgs false
namespace Go.Am
variable {h : Heap} {K : Post}
end Go.Am
end
section
/- Retests: which record of a unit counts. Plain lists; both ways yield the same. -/
set_option linter.all false
namespace Go.Am
def badR (l : List Lim) (r : Rec) : Bool:=decide (0 ≤ zu1 l r.res)
def rec0 : Rec:=⟨[],0,[],[]⟩
def cntL (l : List Lim) (rule : Int) (f : List Rec) : Rec:=
 if rule = 1 then f.headD rec0 else if f.findIdx (fun x=>!badR l x) < f.length ∧ rule = 3 then f.getD (f.findIdx fun x=>!badR l x) rec0 else f.getLastD rec0
end Go.Am
end
section
/- Lists of strings. -/
open Go
set_option linter.all false
namespace Go.Am
variable {h : Heap} {K : Post}
theorem zp6 : X.ex2 = libF GRL PRL:=rfl
end Go.Am
end
section
/- Tests and faults: what is wrong with them,both ways. -/
open Go
set_option linter.all false
namespace Go.Am
variable {h : Heap} {K : Post}
theorem s_Trim (s cs : List UInt8) (hs : s.length ≤ 1000000) (hc : cs.length ≤ 1000) (ha : cs.all (fun b=>decide (b.toNat < 128)) = true) : z0d X zci [AS s,AS cs] h K = K (AS (zrJ s cs)) h []:=by
 refine z5r (X:=X) (by kernel_rfl) ?_
 rw [zp6]
 exact z5q (vs:=[.str s,.str cs]) (by kernel_rfl) (s:=trimS) (by kernel_rfl) rfl (by simp only [trimS]; rw [if_pos ⟨hs,hc,ha⟩])
theorem zay (s : List UInt8) (hs : s.length ≤ 1000000) : z0d X z2p [AS s] h K = K (AB (z0F s)) h []:=by
 refine rule ?_
 rw [c_q000 rfl]
 have e:=fun h K=>s_Trim (h:=h) (K:=K) s [48,49] hs (by simp) (by decide)
 have b : decide (zrJ s [48,49] = []) = z0F s:=zpf s
 simp only [zjz,go_sem,e,b]
theorem zaz (s : List UInt8) (hs : s.length ≤ 1000000) : z0d X z3B [AS s] h K = K (AB (z0F s)) h []:=by
 refine rule ?_
 rw [c_q031 rfl]
 have e:=fun h K=>s_only (h:=h) (K:=K) s [48,49] (by omega)
 have b : (s.all fun c=>[48,49].contains c) = z0F s:=rfl
 simp only [zj7,go_sem,e,b]
end Go.Am
end
section
/- Faults: what is wrong with them,both ways. -/
open Go
set_option linter.all false
namespace Go.Am
variable {h : Heap} {K : Post}
theorem IndexI {v : AV} (l : List Int) (hv : Shows none v (l.map eI) h) (x : Int) (hl : l.length ≤ 1000000) : z0d X z73 [v,AI x] h K = K (AI (if l.findIdx (fun y=>decide (y = x)) < l.length then (l.findIdx (fun y=>decide (y = x)) : Int) else -1)) h []:=by
 refine rule ?_
 rw [c_q044]
 have vl:=hv.len
 rw [List.length_map] at vl
 simp only [ze3,go_sem,vl]
 refine z1m (fun k : Nat=>⟨[(0,v),(1,AI x),(7,AI l.length),(8,AI k)],h,[]⟩) (fun k=>k ≤ l.length ∧ ∀ y ∈ l.take k,decide (y = x) = false) (fun k=>l.length - k) 0 rfl (by simp) ?_
 rintro k ⟨hk,hn⟩
 rcases Nat.lt_or_ge k l.length with hlt | hge
 ·obtain ⟨a,ha,hb⟩:=hv.get k (by simpa using hlt)
  rw [List.getElem_map] at hb
  have w2 : IntKind.i64.wrap ((k : Int) + 1) = ((k + 1 : Nat) : Int):=z0l _ (by omega) (by omega)
  by_cases hpk : x = l[k]
  ·have hf : l.findIdx (fun y=>decide (y = x)) = k:=by
    rw [List.findIdx_eq hlt]
    refine ⟨by simp [hpk],fun j hj=>?_⟩
    have:=hn l[j] (by rw [List.mem_take_iff_getElem]; exact ⟨j,by omega,rfl⟩)
    simpa using this
   simp only [go_sem,hlt,ha,hb,hpk.symm,w2]
   simp only [hf,hlt,if_true]
  ·simp only [go_sem,hlt,ha,hb,hpk,w2]
   refine ⟨k + 1,rfl,⟨by omega,fun y hy=>?_⟩,by omega⟩
   rw [List.take_succ_eq_append_getElem hlt,List.mem_append,List.mem_singleton] at hy
   rcases hy with hy | hy
   ·exact hn y hy
   ·rw [hy]; simp; exact fun e=>hpk e.symm
 ·have e1 : k = l.length:=by omega
  subst e1
  simp only [go_sem,Nat.lt_irrefl]
  rw [List.take_length] at hn
  have : ¬ l.findIdx (fun y=>decide (y = x)) < l.length:=by
   rw [Nat.not_lt,Nat.le_iff_lt_or_eq]; right
   exact (List.findIdx_eq_length.2 (fun y hy=>by simp [hn y hy])).symm
  rw [if_neg this]
theorem zhA {v : AV} (l : List Int) (hv : ∀ h' : Heap,h' = h → Shows none v (l.map eI) h') (x : Int) (hl : l.length ≤ 1000000) : z0d X z4E [v,AI x] h K = K (AB (l.contains x)) h []:=by
 refine rule ?_
 rw [c_q03x]
 have e:=fun K=>IndexI (h:=h) (K:=K) l (hv h rfl) x hl
 have hd : decide (0 ≤ (if l.findIdx (fun y=>decide (y = x)) < l.length then (l.findIdx (fun y=>decide (y = x)) : Int) else -1)) = l.contains x:=by
  rw [Bool.eq_iff_iff,decide_eq_true_eq,List.contains_iff_mem]
  constructor
  ·intro hq
   split at hq
   ·rename_i hlt
    have:=List.findIdx_getElem (w:=hlt)
    simp only [decide_eq_true_eq] at this
    exact this ▸ List.getElem_mem hlt
   ·omega
  ·intro hm
   rw [if_pos (List.findIdx_lt_length_of_exists ⟨x,hm,by simp⟩)]; omega
 simp only [zjA,go_sem,e,hd]
theorem zd4 (l : List Int) (x : Int) (hl : l.length ≤ 1000000) : z0d X z4E [AL l,AI x] h K = K (AB (l.contains x)) h []:=zhA l (fun h' _=>zr0 zv1) x hl
end Go.Am
end
section
/- Commands: what is wrong with them,on both sides. -/
open Go
set_option linter.all false
namespace Go.Am
variable {h : Heap} {K : Post}
abbrev cmdP (c : Cmd) : PV:=.agg [.int .i64 c.k,.int .i64 c.s,.int .i64 c.cl,.str c.b,.str c.w,.str c.m]
abbrev ACm (c : Cmd) : AV:=.p (cmdP c)
structure CmdOk (c : Cmd) : Prop where
 b : c.b.length ≤ 100000
 w : c.w.length ≤ 100000
 m : c.m.length ≤ 100000
theorem za2 (n : Int) : z0d X z7D [AI n] h K = K (AB (z0C n)) h []:=by
 refine rule ?_
 rw [c_q06q rfl]
 unfold z0C
 by_cases h0 : n = 0
 ·subst h0; simp only [z7w,go_sem]
 by_cases h1 : n = 1
 ·subst h1; simp only [z7w,go_sem]
 by_cases h2 : n = 6
 ·subst h2; simp only [z7w,go_sem]
 by_cases h3 : n = 13
 ·subst h3; simp only [z7w,go_sem]
 have e : (n == 0 || n == 1 || n == 6 || n == 13) = false:=by simp [h0,h1,h2,h3]
 rw [e]
 simp only [z7w,go_sem,h0,h1,h2,h3]
theorem zcC (n : Int) : z0d X z9h [AI n] h K = K (AB (z0C n)) h []:=by
 refine rule ?_
 rw [c_q03p rfl]
 have e : ([0,1,6,13] : List Int).contains n = z0C n:=by
  unfold z0C
  simp only [List.contains_cons,List.contains_nil,Bool.or_false,Bool.or_assoc]
 have k : ∀ (h' : Heap) (K' : Post),z0d X z4E [.p (.sl none [eI 0,eI 1,eI 6,eI 13]),AI n] h' K' = K' (AB (([0,1,6,13] : List Int).contains n)) h' []:=fun h' K'=>zd4 (h:=h') (K:=K') [0,1,6,13] n (by decide)
 simp only [zj9,go_sem,k,e]
theorem z2I (n : Int) : z0d X z5l [AI n] h K = K (AB (decide (n = 7) || decide (n = 8))) h []:=by
 refine rule ?_
 rw [c_q06c rfl]
 by_cases h0 : n = 7
 ·subst h0; simp only [zbJ,go_sem]
 by_cases h1 : n = 8
 ·subst h1; simp only [zbJ,go_sem]
 simp only [zbJ,go_sem,h0,h1]
theorem z1j (n : Int) : z0d X z78 [AI n] h K = K (AB (decide (1 ≤ n) && decide (n ≤ 6))) h []:=by
 refine rule ?_
 rw [c_q06d rfl]
 by_cases h0 : n < 1
 ·have : ¬ (1 ≤ n):=by omega
  simp only [zbK,go_sem,z6C,h0,this]
 ·have : 1 ≤ n:=by omega
  by_cases h1 : 6 < n
  ·have h2 : ¬ (n ≤ 6):=by omega
   simp only [zbK,go_sem,z6C,h0,this,h1,h2]
  ·have h2 : n ≤ 6:=by omega
   simp only [zbK,go_sem,z6C,h0,this,h1,h2]
theorem zvt (c : Cmd) (hc : CmdOk c) : z0d X z7B [ACm c] h K = K (AI (z29 c : Nat)) h []:=by
 refine rule ?_
 rw [c_q06n rfl]
 have b1:=hc.b; have b2:=hc.w; have b3:=hc.m
 have k1:=fun (h' : Heap) (K' : Post)=>zay (h:=h') (K:=K') c.b (show c.b.length ≤ 1000000 by omega)
 have k2:=fun (h' : Heap) (K' : Post)=>zay (h:=h') (K:=K') c.w (show c.w.length ≤ 1000000 by omega)
 have k3:=fun (h' : Heap) (K' : Post)=>zay (h:=h') (K:=K') c.m (show c.m.length ≤ 1000000 by omega)
 obtain ⟨k,s,cl,b,w,m⟩:=c
 simp only at b1 b2 b3 k1 k2 k3
 have h0:=k1; have h0':=k2; have h0'':=k3
 unfold z29
 by_cases h1 : b = []
 ·simp only [z2W,go_sem,h1]
 rcases hb : z0F b with _ | _
 ·simp only [z2W,go_sem,h1,k1,hb]
 by_cases h2 : 2000 < b.length
 ·have h2' : (2000 : Int) < (b.length : Int):=by omega
  simp only [z2W,go_sem,h1,k1,hb,h2,h2']
 have h2' : ¬ (2000 : Int) < (b.length : Int):=by omega
 by_cases h3 : w = []
 ·subst h3
  have hbn : z0F [] = true:=rfl
  rcases hm : z0F m with _ | _
  ·simp only [z2W,go_sem,h1,k1,hb,h2,h2',k2,hbn,k3,hm]
  ·by_cases h4 : m = []
   ·subst h4
    simp only [z2W,go_sem,h1,k1,hb,h2,h2',k2,hbn]
   ·simp only [z2W,go_sem,h1,k1,hb,h2,h2',k2,hbn,k3,hm,h4]
 by_cases h4 : w.length = b.length
 ·have h4' : (w.length : Int) = (b.length : Int):=by omega
  by_cases h5 : m.length = b.length
  ·have h5' : (m.length : Int) = (b.length : Int):=by omega
   rcases hw : z0F w with _ | _
   ·simp only [z2W,go_sem,h1,k1,hb,h2',h3,h4',h5',k2,hw]
    simp [h1,hb,h2,h3,h4,h5,hw]
   ·rcases hm : z0F m with _ | _
    ·simp only [z2W,go_sem,h1,k1,hb,h2',h3,h4',h5',k2,hw,k3,hm]
     simp [h1,hb,h2,h3,h4,h5,hw,hm]
    ·simp only [z2W,go_sem,h1,k1,hb,h2',h3,h4',h5',k2,hw,k3,hm]
     simp [h1,hb,h2,h3,h4,h5,hw,hm]
  ·have h5' : ¬ (m.length : Int) = (b.length : Int):=by omega
   simp only [z2W,go_sem,h1,k1,hb,h2',h3,h4',h5']
   simp [h1,hb,h2,h3,h4,h5]
 ·have h4' : ¬ (w.length : Int) = (b.length : Int):=by omega
  simp only [z2W,go_sem,h1,k1,hb,h2',h3,h4']
  simp [h1,hb,h2,h3,h4]
theorem zru (c : Cmd) (hc : CmdOk c) : z0d X z9g [ACm c] h K = K (AI (z29 c : Nat)) h []:=by
 refine rule ?_
 rw [c_q03n rfl]
 have b1:=hc.b; have b2:=hc.w; have b3:=hc.m
 have k1:=fun (h' : Heap) (K' : Post)=>zaz (h:=h') (K:=K') c.b (show c.b.length ≤ 1000000 by omega)
 have k2:=fun (h' : Heap) (K' : Post)=>zaz (h:=h') (K:=K') c.w (show c.w.length ≤ 1000000 by omega)
 have k3:=fun (h' : Heap) (K' : Post)=>zaz (h:=h') (K:=K') c.m (show c.m.length ≤ 1000000 by omega)
 obtain ⟨k,s,cl,b,w,m⟩:=c
 simp only at b1 b2 b3 k1 k2 k3
 have h0:=k1; have h0':=k2; have h0'':=k3
 unfold z29
 by_cases h1 : b = []
 ·simp only [z2U,go_sem,h1]
 rcases hb : z0F b with _ | _
 ·simp only [z2U,go_sem,h1,k1,hb]
 by_cases h2 : 2000 < b.length
 ·have h2' : (2000 : Int) < (b.length : Int):=by omega
  simp only [z2U,go_sem,h1,k1,hb,h2,h2']
 have h2' : ¬ (2000 : Int) < (b.length : Int):=by omega
 by_cases h3 : w = []
 ·subst h3
  have hbn : z0F [] = true:=rfl
  rcases hm : z0F m with _ | _
  ·simp only [z2U,go_sem,h1,k1,hb,h2,h2',k2,hbn,k3,hm]
  ·by_cases h4 : m = []
   ·subst h4
    simp only [z2U,go_sem,h1,k1,hb,h2,h2',k2,hbn]
   ·simp only [z2U,go_sem,h1,k1,hb,h2,h2',k2,hbn,k3,hm,h4]
 by_cases h4 : w.length = b.length
 ·have h4' : (w.length : Int) = (b.length : Int):=by omega
  by_cases h5 : m.length = b.length
  ·have h5' : (m.length : Int) = (b.length : Int):=by omega
   rcases hw : z0F w with _ | _
   ·simp only [z2U,go_sem,h1,k1,hb,h2',h3,h4',h5',k2,hw]
    simp [h1,hb,h2,h3,h4,h5,hw]
   ·rcases hm : z0F m with _ | _
    ·simp only [z2U,go_sem,h1,k1,hb,h2',h3,h4',h5',k2,hw,k3,hm]
     simp [h1,hb,h2,h3,h4,h5,hw,hm]
    ·simp only [z2U,go_sem,h1,k1,hb,h2',h3,h4',h5',k2,hw,k3,hm]
     simp [h1,hb,h2,h3,h4,h5,hw,hm]
  ·have h5' : ¬ (m.length : Int) = (b.length : Int):=by omega
   simp only [z2U,go_sem,h1,k1,hb,h2',h3,h4',h5']
   simp [h1,hb,h2,h3,h4,h5]
 ·have h4' : ¬ (w.length : Int) = (b.length : Int):=by omega
  simp only [z2U,go_sem,h1,k1,hb,h2',h3,h4']
  simp [h1,hb,h2,h3,h4]
end Go.Am
end
section
/- A command's fault on both sides. -/
open Go
set_option linter.all false
namespace Go.Am
variable {h : Heap} {K : Post}
theorem eqs6 {k s cl k' s' cl' : Int} {b w m b' w' m' : List UInt8} : eqs [.int .i64 k,.int .i64 s,.int .i64 cl,.str b,.str w,.str m] [.int .i64 k',.int .i64 s',.int .i64 cl',.str b',.str w',.str m'] = some (decide ((⟨k,s,cl,b,w,m⟩ : Cmd) = ⟨k',s',cl',b',w',m'⟩)):=by
 by_cases e1 : k = k' <;> by_cases e2 : s = s' <;> by_cases e3 : cl = cl' <;> by_cases e4 : b = b' <;> by_cases e5 : w = w' <;> by_cases e6 : m = m' <;> simp [eqs,PV.eq1,e1,e2,e3,e4,e5,e6]
def zgK (c : Cmd) : Nat:=
 if c.k = 1 ∨ c.k = 2 ∨ c.k = 10 then (if !z0C c.s then 1 else 0)
 else if c.k = 9 then (if c.cl < 0 ∨ 20000 < c.cl then 1 else 0)
 else if c.k = 7 ∨ c.k = 8 then z29 c
 else (if !z0F c.b then 9 else if 2000 < c.b.length then 2 else 0)
def ziZ (c : Cmd) : Cmd:=
 if c.k = 1 ∨ c.k = 2 ∨ c.k = 10 then { c with s:=0 }
 else if c.k = 9 then { c with cl:=0 }
 else if c.k = 7 ∨ c.k = 8 then { c with b:=[],w:=[],m:=[] }
 else { c with b:=[] }
theorem zjp {c : Cmd} (h : 1 ≤ c.k ∧ c.k ≤ 10) : cmdF c = if zgK c ≠ 0 then zgK c else if ziZ c = ⟨c.k,0,0,[],[],[]⟩ then 0 else 3:=by
 obtain ⟨k,s,cl,b,w,m⟩:=c
 unfold cmdF zgK ziZ
 dsimp only at h ⊢
 by_cases h1 : k = 1 ∨ k = 2 ∨ k = 10
 ·simp only [if_pos h1]
  rcases z0C s with _ | _ <;> simp [Cmd.mk.injEq]
 simp only [if_neg h1]
 by_cases h2 : k = 9
 ·simp only [if_pos h2]
  by_cases h3 : cl < 0 ∨ 20000 < cl <;> simp [h3,Cmd.mk.injEq]
 simp only [if_neg h2]
 by_cases h3 : k = 7 ∨ k = 8
 ·simp only [if_pos h3]
  by_cases h4 : z29 ⟨k,s,cl,b,w,m⟩ = 0 <;> simp [h4,Cmd.mk.injEq]
 simp only [if_neg h3]
 rw [if_pos (by omega)]
 rcases z0F b with _ | _
 ·simp
 ·by_cases h4 : 2000 < b.length <;> simp [h4,Cmd.mk.injEq]
theorem zbd {c : Cmd} (h : ¬ (1 ≤ c.k ∧ c.k ≤ 10)) : cmdF c = 4:=by
 unfold cmdF
 rw [if_neg (by omega),if_neg (by omega),if_neg (by omega),if_neg (by omega)]
theorem len2 (n : Nat) : n + 1 + 1 = n + 2:=rfl
set_option maxHeartbeats 4000000 in
theorem zd7 (c : Cmd) (hc : CmdOk c) : z0d X z79 [ACm c] h K = K (.tup [ACm (ziZ c),AI (zgK c : Nat)]) h []:=by
 refine rule ?_
 rw [c_q06e rfl]
 have b1:=hc.b; have b2:=hc.w; have b3:=hc.m
 have k1:=fun (h' : Heap) (K' : Post)=>zay (h:=h') (K:=K') c.b (show c.b.length ≤ 1000000 by omega)
 have k2:=fun (h' : Heap) (K' : Post)=>zvt (h:=h') (K:=K') c hc
 obtain ⟨k,s,cl,b,w,m⟩:=c
 simp only at b1 b2 b3 k1 k2
 unfold zgK ziZ
 dsimp only
 by_cases h1 : k = 1
 ·rcases hs : z0C s with _ | _ <;> (simp only [z2A,go_sem,len2,h1,za2,hs]; simp [h1,hs])
 by_cases h2 : k = 2
 ·rcases hs : z0C s with _ | _ <;> (simp only [z2A,go_sem,len2,h1,h2,za2,hs]; simp [h1,h2,hs])
 by_cases h3 : k = 10
 ·rcases hs : z0C s with _ | _ <;> (simp only [z2A,go_sem,len2,h1,h2,h3,za2,hs]; simp [h1,h2,h3,hs])
 by_cases h4 : k = 9
 ·by_cases g1 : cl < 0
  ·(simp only [z2A,go_sem,len2,h1,h2,h3,h4,z6C,g1]; simp [h1,h2,h3,h4,g1])
  ·by_cases g2 : 20000 < cl
   ·(simp only [z2A,go_sem,len2,h1,h2,h3,h4,z6C,g1,g2]; simp [h1,h2,h3,h4,g1,g2])
   ·(simp only [z2A,go_sem,len2,h1,h2,h3,h4,z6C,g1,g2]; simp [h1,h2,h3,h4,g1,g2])
 by_cases h5 : k = 7
 ·subst h5
  (simp only [z2A,go_sem,len2,z2I,k2]; simp [len2])
 by_cases h6 : k = 8
 ·subst h6
  (simp only [z2A,go_sem,len2,z2I,k2]; simp [len2])
 rcases hb : z0F b with _ | _
 ·(simp only [z2A,go_sem,len2,h1,h2,h3,h4,h5,h6,z2I,k1,hb]; simp [h1,h2,h3,h4,h5,h6,hb])
 ·by_cases h7 : 2000 < b.length
  ·have h7' : (2000 : Int) < (b.length : Int):=by omega
   (simp only [z2A,go_sem,len2,h1,h2,h3,h4,h5,h6,z2I,k1,hb,h7,h7']; simp [h1,h2,h3,h4,h5,h6,hb,h7])
  ·have h7' : ¬ (2000 : Int) < (b.length : Int):=by omega
   (simp only [z2A,go_sem,len2,h1,h2,h3,h4,h5,h6,z2I,k1,hb,h7,h7']; simp [h1,h2,h3,h4,h5,h6,hb,h7])
end Go.Am
end
section
/- Lists of faults: what is wrong with them,both ways. -/
open Go
set_option linter.all false
namespace Go.Am
variable {h : Heap} {K : Post}
end Go.Am
end
section
/- Rows of a test asv numbers. -/
open Go
set_option linter.all false
namespace Go.Am
variable {h : Heap} {K : Post}
end Go.Am
end
section
/- Faults on rows: what the program makes of them. -/
open Go
set_option linter.all false
namespace Go.Am
variable {h : Heap} {K : Post}
end Go.Am
end
section
/- Rows that are handed tov a function: it sees their values. -/
open Go
namespace Go.Am
end Go.Am
end
section
/- Responses,asv the program computes them. -/
open Go
set_option linter.all false
namespace Go.Am
variable {h : Heap} {K : Post}
end Go.Am
end
section
/- Sorting the middle of a row: printed by program. -/
open Go
set_option linter.unusedSimpArgs false
namespace Go.Am
attribute [-go_sem] PV.cells splice
variable {h : Heap} {K : Post}
end Go.Am
end
section
/- What is drawn: orders,tests. -/
open Go
set_option linter.all false
namespace Go.Am
variable {L : List Int} {a : Int} {h l : Heap} {id : Nat} {K : Post}
def GenK (f : Nat) (args : List AV) (L : List Int) (a : Int) (sh : Sh) (Q : List PV → Int → Prop) : Prop:=∀ (h : Heap) (id : Nat),h[id]? = some (strm L a) → ∃ xs a2,Q xs a2 ∧ ∀ K : Post,z0d X f (.ref id 0 :: args) h K = K (.own h.length xs.length 0 xs.length) (h.set id (strm L a2) ++ [.row sh xs 0]) []
theorem GenK.of {f : Nat} {args : List AV} {L : List Int} {a : Int} {sh : Sh} {Q : List PV → Int → Prop} (H : ∀ (h : Heap) (id : Nat),id < h.length → z0d X f (.ref id 0 :: args) (h.set id (strm L a)) fun v1 h1 x1=>∃ xs a2,Q xs a2 ∧ v1 = .own h.length xs.length 0 xs.length ∧ h1 = h.set id (strm L a2) ++ [.row sh xs 0] ∧ x1 = []) : GenK f args L a sh Q:=by
 intro h id hh
 have hid:=z5p hh
 have k:=H h id hid
 rw [zrz hh] at k
 obtain ⟨v,h',x,⟨xs,a2,q,e0,e1,e2⟩,r⟩:=z0d.one zdL k
 subst e0; subst e1; subst e2
 exact ⟨xs,a2,q,r⟩
theorem za0 (s : List UInt8) (c : Int) (h0 : 0 ≤ c) (hc : s.length * c.toNat ≤ 1000000) (h1 : c ≤ 1000000) : z0d X z1h [AS s,AI c] h K = K (AS (repL s c.toNat)) h []:=by
 refine z5r (X:=X) (by kernel_rfl) ?_
 rw [zp6]
 exact z5q (vs:=[.str s,.int .i64 c]) (by kernel_rfl) (s:=z6h) (by kernel_rfl) rfl (by simp only [z6h]; rw [if_pos ⟨h0,hc,h1⟩])
end Go.Am
end
section
/- A builder of strings. -/
open Go
set_option linter.all false
namespace Go.Am
variable {h : Heap} {K : Post}
theorem zox {b : Nat} : reif b h .nili = some .nili:=by simp only [reif]
attribute [local go_sem] zox
def bldB (u : Bool) (id n : Nat) : Obj:=.box [bif u then .ref id 0 else .bt 0 bldT id 0,.bt 1 bldE (id + 1) n]
theorem zjc (id n : Nat) : bldB true id n = .box [.ref id 0,.bt 1 bldE (id + 1) n]:=rfl
theorem bldB_f (id n : Nat) : bldB false id n = .box [.bt 0 bldT id 0,.bt 1 bldE (id + 1) n]:=rfl
theorem set_id {o : Obj} {id : Nat} (hh : h[id]? = some o) : h.set id o = h:=by
 apply List.ext_getElem?
 intro j
 by_cases e : id = j
 ·subst e; rw [List.getElem?_set_self (z5p hh),hh]
 ·rw [List.getElem?_set_ne e]
theorem zd6 (u : Bool) (id n : Nat) (hh : h[id]? = some (bldB u id n)) : z0d X z9i [.ref id 0] h K = K (.tup []) (h.set id (bldB true id n)) []:=by
 refine rule ?_
 rw [c_q04z rfl]
 cases u with
 | true=>
  rw [set_id hh]
  rw [zjc] at hh
  simp only [ze5,go_sem,hh]
 | false=>
  rw [bldB_f] at hh
  rw [zjc]
  simp only [bldT] at hh
  simp only [ze5,go_sem,hh]
theorem zoV {h : Heap} {i j : Nat} {a b : Obj} (e : i ≠ j) : (h.set i a).set j b = (h.set j b).set i a:=List.set_comm a b e
def zdb (h : Heap) (u : Bool) (id : Nat) (s : List UInt8) : Prop:=h[id]? = some (bldB u id s.length) ∧ h[id + 1]? = some (.row none (z0o s) 0)
def held (h : Heap) (id : Nat) (s : List UInt8) : Heap:=(h.set id (bldB true id s.length)).set (id + 1) (.row none (z0o s) 0)
theorem z2i (s : List UInt8) : (z0o s).length = s.length:=by simp [z0o]
theorem zgw (s t : List UInt8) : z0o s ++ z0o t = z0o (s ++ t):=by simp [z0o]
theorem z33 {u : Bool} {id : Nat} {s t : List UInt8} (H : zdb h u id s) (hm : s.length + t.length ≤ 200000000000) : z0d X z2Y [.ref id 0,AS t] h K = K (.tup [AI t.length,.nili]) (held h id (s ++ t)) []:=by
 refine rule ?_
 rw [c_q04y rfl]
 have l:=z5p H.1
 have l2:=z5p H.2
 have e:=fun K=>zd6 (K:=K) u id s.length H.1
 have g1 : (h.set id (bldB true id s.length))[id]? = some (.box [.ref id 0,.bt 1 bldE (id + 1) s.length]):=by rw [List.getElem?_set_self l,zjc]
 have g2 : (h.set id (bldB true id s.length))[id + 1]? = some (.row none (z0o s) 0):=by rw [List.getElem?_set_ne (by omega)]; exact H.2
 have g3 : ∀ o,((h.set id (bldB true id s.length)).set (id + 1) o)[id]? = some (.box [.ref id 0,.bt 1 bldE (id + 1) s.length]):=fun o=>by rw [List.getElem?_set_ne (by omega)]; exact g1
 have hl : s.length + t.length ≤ z0I:=by unfold z0I; omega
 simp only [bldE] at g1 g3
 simp only [zjB,go_sem,e,g1,g2,g3,z2i,hl]
 rw [List.take_of_length_le (by simp)]
 unfold held
 rw [zoV (i:=id + 1) (j:=id) (by omega),List.set_set,zgw,List.length_append]
 rfl
def z2N (h : Heap) (id : Nat) (s : List UInt8) : Heap:=if s = [] then h else h.set (id + 1) (.row none (z0o s) (s.length + 1))
theorem z2O (s : List UInt8) : z35 (z0o s) = some s:=by
 induction s with
 | nil=>rfl
 | cons a r ih=>
  have h1 : (0 : Int) ≤ (a.toNat : Int) ∧ (a.toNat : Int) < 256:=⟨by omega,by have:=a.toNat_lt; omega⟩
  have e : z0o (a :: r) = .int .u8 a.toNat :: z0o r:=rfl
  rw [e]
  unfold z35
  rw [if_pos h1,ih]
  simp
theorem z8q {u : Bool} {id : Nat} {s : List UInt8} (H : zdb h u id s) (hm : s.length ≤ 200000000000) : z0d X z4F [.ref id 0] h K = K (AS s) (z2N h id s) []:=by
 refine rule ?_
 rw [c_q04x rfl]
 have l:=z5p H.1
 have l2:=z5p H.2
 have g1:=H.1
 have g2:=H.2
 unfold bldB at g1
 have hl : s.length ≤ z0I:=by unfold z0I; omega
 unfold z2N
 by_cases h0 : s = []
 ·subst h0
  simp only [bldE,List.length_nil] at g1
  simp only [ze4,go_sem,g1,g2,z2i,hl]
  exact if_pos rfl ▸ trivial
 ·have h0' : ¬ s.length = 0:=by simpa using h0
  have h1 : 1 ≤ s.length:=by omega
  simp only [bldE] at g1
  have e0 : (0 : Int) ≤ (s.length : Int):=by omega
  simp only [ze4,go_sem,g1,g2,z2i,hl,h0',h1,z2O,e0,Int.toNat_natCast,h0]
end Go.Am
end
section
/- The reference: what is expected,the part of a command. -/
open Go
set_option linter.all false
namespace Go.Am
variable {h : Heap} {K : Post}
theorem zf7 (c : UInt8) : ∀ n,repL [c] n = List.replicate n c
 | 0=>rfl
 | n + 1=>by rw [repL,zf7 c n]; rfl
theorem zoG (n : Int) (h0 : 0 ≤ n) (h1 : n ≤ 1000000) : z0d X z1h [AS [120],AI n] h K = K (AS (xsL n.toNat)) h []:=by
 rw [za0 [120] n h0 (by simp; omega) h1,zf7]; rfl
theorem z9A (n : Int) (h0 : 0 ≤ n) (h1 : n ≤ 1000000) : z0d X z1h [AS [48],AI n] h K = K (AS (zs n.toNat)) h []:=by
 rw [za0 [48] n h0 (by simp; omega) h1,zf7]; rfl
def expI (c : Cmd) (i : Nat) : List UInt8:=(List.range c.b.length).map fun j=>if j < i then z2L c j else 120
theorem expI_0 (c : Cmd) : expI c 0 = xsL c.b.length:=by
 unfold expI xsL
 apply List.ext_getElem
 ·simp
 ·intro i h1 h2; simp
theorem zaf (c : Cmd) (i : Nat) : (expI c i).length = c.b.length:=by simp [expI]
theorem zae (c : Cmd) : expI c c.m.length = expC c:=by
 unfold expI expC
 apply List.map_congr_left
 intro j _
 split
 ·rfl
 ·rename_i h
  unfold z2L
  rw [List.getElem?_eq_none (by omega)]; rfl
theorem zli (c : Cmd) (i : Nat) (hi : i < c.b.length) : expI c (i + 1) = (expI c i).set i (z2L c i):=by
 apply List.ext_getElem
 ·simp [expI]
 ·intro j h1 h2
  simp only [expI,List.length_map,List.length_range] at h1
  rw [List.getElem_set]
  simp only [expI,List.getElem_map,List.getElem_range]
  by_cases hj : i = j
  ·subst hj; simp
  ·rw [if_neg hj]
   by_cases h3 : j < i
   ·rw [if_pos h3,if_pos (by omega)]
   ·rw [if_neg h3,if_neg (by omega)]
theorem zlh (c : Cmd) (i : Nat) (hn : c.m[i]? ≠ some 49) : expI c (i + 1) = expI c i:=by
 unfold expI
 apply List.map_congr_left
 intro j _
 by_cases hj : j = i
 ·subst hj
  simp [z2L,hn]
 ·by_cases h3 : j < i
  ·rw [if_pos h3,if_pos (by omega)]
  ·rw [if_neg h3,if_neg (by omega)]
theorem zgY (c : Cmd) (hl : c.b.length ≤ 100000) (hm : c.m.length ≤ c.b.length) (hw : c.m.length ≤ c.w.length) : z0d X z9c [ACm c] h K = K (AS (expC c)) h []:=by
 refine rule ?_
 rw [c_q03h rfl]
 have hmx : c.b.length ≤ z0I:=by unfold z0I; omega
 have hx : (xsL c.b.length).length = c.b.length:=by simp [xsL]
 have r1:=fun (h' : Heap) (K' : Post)=>zoG (h:=h') (K:=K') (c.b.length : Int) (by omega) (by omega)
 simp only [Int.toNat_natCast] at r1
 simp only [ze0,go_sem,r1,hx,hmx]
 refine z1m (fun i : Nat=>⟨[(1,.ref h.length 0),(3,.own (h.length + 1) c.b.length 0 c.b.length),(12,AI c.m.length),(13,AI i)],h ++ [.box [AI c.k,AI c.s,AI c.cl,AS c.b,AS c.w,AS c.m],.row none (z0o (expI c i)) 0],[]⟩) (fun i=>i ≤ c.m.length) (fun i=>c.m.length - i) 0 (by rw [expI_0]; rfl) (by omega) ?_
 intro i hi
 have hbl : (z0o (expI c i)).length = c.b.length:=by simp [z0o,zaf]
 rcases Nat.lt_or_ge i c.m.length with hlt | hge
 ·have hlt' : (i : Int) < (c.m.length : Int):=by omega
  have hg : c.m[i]? = some c.m[i]:=List.getElem?_eq_getElem hlt
  have hgw : c.w[i]? = some (c.w[i]'(by omega)):=List.getElem?_eq_getElem (by omega)
  have w2 : IntKind.i64.wrap ((i : Int) + 1) = ((i + 1 : Nat) : Int):=z0l _ (by omega) (by omega)
  by_cases h49 : c.m[i] = 49
  ·have hb' : i < c.b.length:=by omega
   have hgb : (z0o (expI c i))[i]? = some (.int .u8 ((expI c i)[i]'(by rw [zaf]; omega)).toNat):=by
    unfold z0o; rw [List.getElem?_map,List.getElem?_eq_getElem (by rw [zaf]; omega)]; rfl
   have t1:=fun (y : Int) (h1 : Heap)=>shp_st (sh:=none) (x:=.int .u8 ((c.w[i]'(by omega)).toNat : Int)) (y:=.int .u8 y) rfl rfl (h.length + 1) i 0 (z0o (expI c i)) h1
   have e49 : ((49 : UInt8).toNat : Int) = 49:=rfl
   simp only [go_sem,hlt,hlt',hg,h49,w2,hgw,hbl,hb',hgb,t1,e49]
   refine ⟨i + 1,?_,by omega,by omega⟩
   have e1 : z2L c i = c.w[i]'(by omega):=by unfold z2L; rw [hg,h49,hgw]; rfl
   have e2 : z0o (expI c (i + 1)) = (z0o (expI c i)).set i (.int .u8 ((c.w[i]'(by omega)).toNat : Int)):=by
    rw [zli c i hb',e1]; unfold z0o; rw [List.map_set]
   rw [e2]
  ·have h49' : ¬ ((c.m[i].toNat : Int) = 49):=fun e=>h49 (UInt8.toNat_inj.1 (by rw [show (49 : UInt8).toNat = 49 from rfl]; omega))
   simp only [go_sem,hlt,hlt',hg,h49',w2]
   refine ⟨i + 1,?_,by omega,by omega⟩
   rw [zlh c i (by rw [hg]; exact fun e=>h49 (Option.some.inj e))]
 ·obtain rfl : i = c.m.length:=by omega
  have hw0 : win (z0o (expI c c.m.length)) 0 c.b.length = z0o (expI c c.m.length):=by
   unfold win; rw [List.drop_zero]; exact List.take_of_length_le (by omega)
  have hbe : (z0o (expC c)).length = c.b.length:=by rw [← zae]; exact hbl
  have hwe : win (z0o (expC c)) 0 c.b.length = z0o (expC c):=by rw [← zae]; exact hw0
  simp only [go_sem,Nat.lt_irrefl,Int.lt_irrefl,hbl,hw0,z2O,zae,hbe,hwe]
abbrev z47 (p : Part) : PV:=.agg [.str p.tms,.str p.tdi,.str p.want,.int .i64 (p.fr : Int),.int .i64 (p.st : Int)]
theorem zcm (l : List Cmd) (k : Int) : z2D (l.map cmdP) k = cmdP (setC l k):=by
 unfold z2D setC
 rw [← List.map_reverse,List.find?_map]
 have : ((fun c=>z9W c == k) ∘ cmdP) = fun c : Cmd=>c.k == k:=rfl
 rw [this]
 cases (l.reverse.find? fun c=>c.k == k) with
 | none=>rfl
 | some c=>rfl
theorem zlE (l : List Cmd) : (l.map cmdP).all zdv = true:=by
 rw [List.all_map]; exact List.all_eq_true.2 fun x _=>rfl
abbrev ACs (l : List Cmd) : AV:=.p (.sl (some 6) (l.map cmdP))
theorem z8v (l : List Cmd) (i : Nat) (k : Int) (hi : i ≤ l.length) (hl : l.length ≤ 1000000) : z0d X z5j [ACs l,AI i,AI k] h K = K (ACm (setC (l.take i) k)) h []:=by
 have e : z41 [.sl (some 6) (l.map cmdP),.int .i64 (i : Int),.int .i64 k] = some (ACm (setC (l.take i) k)):=by
  show (if 0 ≤ (i : Int) ∧ (i : Int) ≤ ((l.map cmdP).length : Int) ∧ (l.map cmdP).length ≤ 1000000 ∧ (l.map cmdP).all zdv = true then some (AV.p (z2D ((l.map cmdP).take (i : Int).toNat) k)) else none) = _
  rw [if_pos ⟨by omega,by simp; omega,by simpa using hl,zlE l⟩,Int.toNat_natCast,← List.map_take,zcm]
 refine z5r (X:=X) (by kernel_rfl) ?_
 rw [zp6]
 exact z5q (vs:=[.sl (some 6) (l.map cmdP),.int .i64 (i : Int),.int .i64 k]) (by kernel_rfl) (s:=z41) (by kernel_rfl) rfl e
structure SetOk (pre : List Cmd) : Prop where
 s1 : z0C (setC pre 1).s = true
 s2 : z0C (setC pre 2).s = true
 b1 : ∀ k,3 ≤ k → k ≤ 6 → z0F (setC pre k).b = true ∧ (setC pre k).b.length ≤ 2000
attribute [-go_sem] oEqa z1E
variable {Kx : Ex → St → Prop}
theorem pk3 {T D W : List UInt8} {fr st : Int} {z1 z2 z3 z4 z5 c1 c2 c3 c4 c5 c6 : AV} (hD : D.length ≤ T.length) (hW : W.length ≤ T.length) (hT : T.length ≤ 1000000) :
 z1E (z0d X) X.gl (.ref h.length 0) (.ref (h.length + 2) 0) (h ++ [.box [z1,z2,z3,z4,z5],.box [c1,c2,c3,c4,c5,c6],.box [AS T,AS D,AS W,AI fr,AI st]]) [] Kx =
  Kx .ret ⟨[(6,.ref h.length 0)],h ++ [.box [AS T,AS (D ++ zs (T.length - D.length)),AS (W ++ xsL (T.length - W.length)),AI fr,AI st],.box [c1,c2,c3,c4,c5,c6],.box [AS T,AS (D ++ zs (T.length - D.length)),AS (W ++ xsL (T.length - W.length)),AI fr,AI st]],[]⟩:=by
 have hz : ∀ n,(zs n).length = n:=fun n=>by simp [zs]
 have hx : ∀ n,(xsL n).length = n:=fun n=>by simp [xsL]
 have w3 : IntKind.i64.wrap ((T.length : Int) - (D.length : Int)) = ((T.length - D.length : Nat) : Int):=by
  rw [show (T.length : Int) - (D.length : Int) = ((T.length - D.length : Nat) : Int) by omega]; exact z0l _ (by omega) (by omega)
 have w4 : IntKind.i64.wrap ((T.length : Int) - (W.length : Int)) = ((T.length - W.length : Nat) : Int):=by
  rw [show (T.length : Int) - (W.length : Int) = ((T.length - W.length : Nat) : Int) by omega]; exact z0l _ (by omega) (by omega)
 have r4:=fun (h' : Heap) (K' : Post)=>z9A (h:=h') (K:=K') ((T.length - D.length : Nat) : Int) (by omega) (by omega)
 have r5:=fun (h' : Heap) (K' : Post)=>zoG (h:=h') (K:=K') ((T.length - W.length : Nat) : Int) (by omega) (by omega)
 simp only [Int.toNat_natCast] at r4 r5
 have lD2 : D.length + (zs (T.length - D.length)).length ≤ z0z:=by rw [hz]; unfold z0z; omega
 have lW2 : W.length + (xsL (T.length - W.length)).length ≤ z0z:=by rw [hx]; unfold z0z; omega
 generalize zs (T.length - D.length) = Z at r4 lD2 ⊢
 generalize xsL (T.length - W.length) = Z2 at r5 lW2 ⊢
 simp only [z1E,go_sem,splice,w3,w4,r4,r5,lD2,lW2]
set_option maxHeartbeats 4000000 in
theorem zrq (l : List Cmd) (i : Nat) (c : Cmd) (hi : l[i]? = some c) (h10 : c.k = 10) (hs : z0C c.s = true) (state : Nat) (hst : state ∈ stb) :
 z0d X z3M [ACs l,AI i,AI state] h K = K (.p (z47 (z01 z0c (l.take i) c state))) h []:=by
 refine rule ?_
 rw [zaW rfl]
 obtain ⟨n1,n2⟩:=z0v hs
 have hg : (l.map cmdP)[i]? = some (cmdP c):=by rw [List.getElem?_map,hi]; rfl
 have hilt : i < l.length:=by
  rcases Nat.lt_or_ge i l.length with h | h
  ·exact h
  ·rw [List.getElem?_eq_none h] at hi; cases hi
 rw [z4R z0c h10]
 obtain ⟨k,s,cl,b,w,m⟩:=c
 dsimp only at h10 hs n1 n2 hg ⊢
 obtain ⟨n,rfl⟩ : ∃ n : Nat,s = n:=⟨s.toNat,n2.symm⟩
 simp only [Int.toNat_natCast] at n1 ⊢
 have p1:=fun (h' : Heap) (K' : Post)=>zrn (h:=h') (K:=K') (z0Y hst) (z1B n1)
 have pl:=(z0p (z0Y hst) (z1B n1)).2.1
 subst h10
 generalize z0c state n = w at p1 pl ⊢
 have e1 : z47 ⟨w,zs w.length,xsL w.length,0,n⟩ = z47 (padP ⟨w,[],[],0,n⟩):=by rw [zfo]
 rw [e1]
 unfold padP z47
 dsimp only
 have P3:=fun (z1 z2 z3 z4 z5 c1 c2 c3 c4 c5 c6 : AV) (Kx : Ex → St → Prop)=>pk3 (h:=h) (Kx:=Kx) (T:=w) (D:=[]) (W:=[]) (fr:=0) (st:=n) (z1:=z1) (z2:=z2) (z3:=z3) (z4:=z4) (z5:=z5) (c1:=c1) (c2:=c2) (c3:=c3) (c4:=c4) (c5:=c5) (c6:=c6) (Nat.zero_le _) (Nat.zero_le _) (by omega)
 simp only [z6w,go_sem,len2,hg,hilt,p1,P3]
end Go.Am
end
section
/- What is drawn: bits,commands. -/
open Go
set_option linter.all false
namespace Go.Am
variable {L : List Int} {a : Int} {h l : Heap} {id : Nat} {K : Post}
attribute [-go_sem] oEqa z1q
theorem zpG (a : Int) : z48 [[48],[49]] L a = [48] ∨ z48 [[48],[49]] L a = [49]:=by
 have:=z5H (l:=[[48],[49]]) (L:=L) (a:=a) (by simp) (by simp)
 simpa using this
theorem zeV (n : Nat) (hn : n ≤ 1000) (hp : posN 1200 a) : GenE z3A [AI n] L a (fun v a2=>a2 = a + n ∧ ∃ s : List UInt8,z0F s = true ∧ s.length = n ∧ v = AS s):=by
 refine GenE.of fun h id hid=>?_
 rw [c_q02x rfl]
 simp only [zew,go_sem]
 refine z1m (fun t : Nat × List UInt8=>⟨[(0,.ref id 0),(5,AS t.2),(6,AI n),(7,AI t.1)],h.set id (strm L (a + t.1)),[]⟩) (fun t=>t.1 ≤ n ∧ t.2.length = t.1 ∧ z0F t.2 = true) (fun t=>n - t.1) (0,[]) (by simp) ⟨Nat.zero_le _,rfl,rfl⟩ ?_
 rintro ⟨k,s⟩ ⟨hk,hs,hb⟩
 dsimp only at hk hs hb ⊢
 rcases Nat.lt_or_ge k n with hlt | hge
 ·have w2 : IntKind.i64.wrap ((k : Int) + 1) = ((k + 1 : Nat) : Int):=z0l _ (by omega) (by omega)
  have P:=z1u (n:=0) hp (show a ≤ a + (k : Int) by omega) (by omega)
  have hlt' : (k : Int) < (n : Int):=by omega
  have e : a + ((k + 1 : Nat) : Int) = a + (k : Int) + 1:=by omega
  rcases zpG (L:=L) (a + (k : Int)) with e1 | e1
  ·have hl : s.length + 1 ≤ z0z:=by unfold z0z; omega
   simp only [go_sem,hlt,hlt',hid,P,w2,e1,hl]
   exact ⟨(k + 1,s ++ [48]),by dsimp only; rw [e],⟨by dsimp only; omega,by simp [hs],by unfold z0F at *; rw [List.all_append,hb]; rfl⟩,by dsimp only; omega⟩
  ·have hl : s.length + 1 ≤ z0z:=by unfold z0z; omega
   simp only [go_sem,hlt,hlt',hid,P,w2,e1,hl]
   exact ⟨(k + 1,s ++ [49]),by dsimp only; rw [e],⟨by dsimp only; omega,by simp [hs],by unfold z0F at *; rw [List.all_append,hb]; rfl⟩,by dsimp only; omega⟩
 ·obtain rfl : k = n:=by omega
  simp only [go_sem,Nat.lt_irrefl,Int.lt_irrefl]
  exact ⟨a + (k : Int),⟨rfl,s,hb,hs,rfl⟩,rfl⟩
structure CmdB (m : Nat) (c : Cmd) : Prop where
 k : -1152921504606846976 ≤ c.k ∧ c.k ≤ 1152921504606846976
 s : -1152921504606846976 ≤ c.s ∧ c.s ≤ 1152921504606846976
 cl : -1152921504606846976 ≤ c.cl ∧ c.cl ≤ 1152921504606846976
 b : c.b.length ≤ m
 w : c.w.length ≤ m
 m : c.m.length ≤ m
theorem CmdB.ok {m : Nat} {c : Cmd} (hm : m ≤ 100000) (H : CmdB m c) : CmdOk c:=⟨by have:=H.b; omega,by have:=H.w; omega,by have:=H.m; omega⟩
abbrev cmdV (c : Cmd) : List AV:=[AI c.k,AI c.s,AI c.cl,AS c.b,AS c.w,AS c.m]
set_option maxHeartbeats 4000000 in
theorem ac_k4 (hid : id < h.length) {b : Int} (hp : posN 60 b) (c : Cmd) (hc : CmdB 8 c) {z1 z2 z3 : Int} {z4 z5 z6 : List UInt8} {Kx : Ex → St → Prop}
 (hK : ∀ (c2 : Cmd) (b2 : Int),b ≤ b2 → b2 ≤ b + 8 → CmdB 2100 c2 → Kx .ret ⟨[(2,.ref h.length 0)],h.set id (strm L b2) ++ [.box (cmdV c2),.box (cmdV c2)],[]⟩) :
 z1q (z0d X) X.gl z3V (.ref id 0) (.ref h.length 0) (.ref (h.length + 1) 0) (h.set id (strm L b) ++ [.box [AI z1,AI z2,AI z3,AS z4,AS z5,AS z6],.box (cmdV c)]) [] Kx:=by
 have hid' : id ≤ h.length:=by omega
 have P:=zfs (z1u hp (Int.le_refl b) (by omega))
 obtain ⟨k,s,cl,bb,w,m⟩:=c
 obtain ⟨q1,q2,q3,q4,q5,q6⟩:=hc
 dsimp only at q1 q2 q3 q4 q5 q6
 by_cases hf : z1C L b 60 = 0
 ·obtain ⟨m1,m2⟩:=z4x L (b + 1) 4 (by omega) (by omega)
  generalize hn : z1C L (b + 1) 4 = nx at m1 m2
  have : nx = 0 ∨ nx = 1 ∨ nx = 2 ∨ nx = 3:=by omega
  rcases this with rfl | rfl | rfl | rfl
  ·obtain ⟨kv,a3,c1,c2,c3,c4,O⟩:=g_Odd (L:=L) (a:=b + 1 + 1) (z1u hp (by omega) (by omega)) 1 10 (by omega) (by omega) (by omega)
   have O':=fun l K=>O.app (h:=h) (id:=id) (l:=l) (K:=K) hid
   simp only [z1q,go_sem,hid,hid',P,hf,hn,O']
   exact hK ⟨kv,s,cl,bb,w,m⟩ a3 (by omega) (by omega) ⟨by dsimp only; omega,q2,q3,by dsimp only; omega,by dsimp only; omega,by dsimp only; omega⟩
  ·obtain ⟨kv,a3,c1,c2,c3,c4,O⟩:=g_Odd (L:=L) (a:=b + 1 + 1) (z1u hp (by omega) (by omega)) 0 15 (by omega) (by omega) (by omega)
   have O':=fun l K=>O.app (h:=h) (id:=id) (l:=l) (K:=K) hid
   have P3 : posN 0 a3:=z1u hp (by omega) (by omega)
   have pm:=z8g (l:=[0,1,-1,20000,20001]) (L:=L) (a:=a3) (by simp) (by simp)
   simp only [List.mem_cons,List.not_mem_nil,or_false] at pm
   simp only [z1q,go_sem,hid,hid',P,P3,hf,hn,O']
   exact hK ⟨k,kv,z3D [0,1,-1,20000,20001] L a3,bb,w,m⟩ (a3 + 1) (by omega) (by omega) ⟨q1,by dsimp only; omega,by dsimp only; omega,by dsimp only; omega,by dsimp only; omega,by dsimp only; omega⟩
  ·have w1 : IntKind.i64.wrap (2000 - (bb.length : Int)) = ((2000 - bb.length : Nat) : Int):=by
    rw [show (2000 : Int) - (bb.length : Int) = ((2000 - bb.length : Nat) : Int) by omega]; exact z0l _ (by omega) (by omega)
   have r1:=fun (h' : Heap) (K' : Post)=>z9A (h:=h') (K:=K') ((2000 - bb.length : Nat) : Int) (by omega) (by omega)
   have r2:=fun (h' : Heap) (K' : Post)=>z9A (h:=h') (K:=K') 2001 (by omega) (by omega)
   simp only [Int.toNat_natCast] at r1
   have pm:=z5H (l:=[[120],[],zs (2000 - bb.length),zs (Int.toNat 2001)]) (L:=L) (a:=b + 1 + 1) (by simp) (by simp)
   have pl : (z48 [[120],[],zs (2000 - bb.length),zs (Int.toNat 2001)] L (b + 1 + 1)).length ≤ 2001:=by
    simp only [List.mem_cons,List.not_mem_nil,or_false] at pm
    rcases pm with e | e | e | e
    ·rw [e]; decide
    ·rw [e]; decide
    ·rw [e]; simp only [zs,List.length_replicate]; omega
    ·rw [e]; simp only [zs,List.length_replicate]; omega
   generalize hps : z48 [[120],[],zs (2000 - bb.length),zs (Int.toNat 2001)] L (b + 1 + 1) = ps at pl
   have hl : bb.length + ps.length ≤ z0z:=by unfold z0z; omega
   simp only [z1q,go_sem,hid,hid',P,hf,hn,w1,r1,r2,hps,hl]
   exact hK ⟨k,s,cl,bb ++ ps,w,m⟩ (b + 1 + 1 + 1) (by omega) (by omega) ⟨q1,q2,q3,by simp; omega,by dsimp only; omega,by dsimp only; omega⟩
  ·have pm:=z5H (l:=[[],[48],w ++ [49]]) (L:=L) (a:=b + 1 + 1) (by simp) (by simp)
   have pl : (z48 [[],[48],w ++ [49]] L (b + 1 + 1)).length ≤ 9:=by
    simp only [List.mem_cons,List.not_mem_nil,or_false] at pm
    rcases pm with e | e | e
    ·rw [e]; decide
    ·rw [e]; decide
    ·rw [e,List.length_append,List.length_singleton]; omega
   have pm2:=z5H (l:=[[],[49],[120],m]) (L:=L) (a:=b + 1 + 1 + 1) (by simp) (by simp)
   have pl2 : (z48 [[],[49],[120],m] L (b + 1 + 1 + 1)).length ≤ 9:=by
    simp only [List.mem_cons,List.not_mem_nil,or_false] at pm2
    rcases pm2 with e | e | e | e
    ·rw [e]; decide
    ·rw [e]; decide
    ·rw [e]; decide
    ·rw [e]; omega
   have hl : w.length + 1 ≤ z0z:=by unfold z0z; omega
   generalize hps : z48 [[],[48],w ++ [49]] L (b + 1 + 1) = ps at pl
   generalize hps2 : z48 [[],[49],[120],m] L (b + 1 + 1 + 1) = ps2 at pl2
   simp only [z1q,go_sem,hid,hid',P,hf,hn,hps,hps2,hl]
   exact hK ⟨k,s,cl,bb,ps,ps2⟩ (b + 1 + 1 + 1 + 1) (by omega) (by omega) ⟨q1,q2,q3,by dsimp only; omega,by dsimp only; omega,by dsimp only; omega⟩
 ·simp only [z1q,go_sem,hid,hid',P,hf]
  exact hK ⟨k,s,cl,bb,w,m⟩ (b + 1) (by omega) (by omega) ⟨q1,q2,q3,by dsimp only; omega,by dsimp only; omega,by dsimp only; omega⟩
theorem z4z {l : List Int} {lo hi : Int} (hl : 0 < l.length) (hl2 : l.length < 4611686018427387904) (h : ∀ x ∈ l,lo ≤ x ∧ x ≤ hi) (a : Int) : lo ≤ z3D l L a ∧ z3D l L a ≤ hi:=h _ (z8g hl hl2)
set_option maxHeartbeats 4000000 in
theorem zgF (hp : posN 2000 a) : GenE z8X [] L a (fun v a2=>a ≤ a2 ∧ a2 ≤ a + 60 ∧ ∃ c : Cmd,CmdB 2100 c ∧ v = ACm c):=by
 refine GenE.of fun h id hid=>?_
 rw [c_q02m rfl]
 have hid' : id ≤ h.length:=by omega
 have P:=zfs (z1u hp (Int.le_refl a) (by omega))
 obtain ⟨k1,k2⟩:=z4z (L:=L) (l:=[7,7,8,8,8,1,2,3,4,5,6,9,10]) (lo:=1) (hi:=10) (by simp) (by simp) (by simp) a
 generalize hkd : z3D [7,7,8,8,8,1,2,3,4,5,6,9,10] L a = kd at k1 k2
 have hb2 : ∀ o1 o2 : Obj,(h.set id (strm L a) ++ [o1,o2]).length = h.length + 2:=fun o1 o2=>by simp
 have fin : ∀ (c : Cmd) (b : Int),a ≤ b → b ≤ a + 50 → CmdB 8 c → z1q (z0d X) X.gl z3V (.ref id 0) (.ref h.length 0) (.ref (h.length + 1) 0) (h.set id (strm L b) ++ [.box [AI 0,AI 0,AI 0,AS [],AS [],AS []],.box (cmdV c)]) []
  (finR [.cell 2 (some 6)] false h.length fun v1 h1 x1=>∃ a2,(a ≤ a2 ∧ a2 ≤ a + 60 ∧ ∃ c : Cmd,CmdB 2100 c ∧ v1 = ACm c) ∧ h1 = h.set id (strm L a2) ∧ x1 = []):=by
  intro c b hb1 hb2 hc
  refine ac_k4 hid (z1u hp hb1 (by omega)) c hc fun c2 b2 q1 q2 q3=>?_
  simp only [go_sem]
  exact ⟨b2,⟨by omega,by omega,c2,q3,rfl⟩,rfl⟩
 have z : (-1152921504606846976 : Int) ≤ 0 ∧ (0 : Int) ≤ 1152921504606846976:=by omega
 have ck : ∀ k : Int,1 ≤ k → k ≤ 10 → -1152921504606846976 ≤ k ∧ k ≤ 1152921504606846976:=fun k _ _=>by omega
 by_cases hs : kd = 1 ∨ kd = 2 ∨ kd = 10
 ·obtain ⟨s1,s2⟩:=z4z (L:=L) (l:=[0,1,1,6,13]) (lo:=0) (hi:=13) (by simp) (by simp) (by simp) (a + 1)
  generalize hsv : z3D [0,1,1,6,13] L (a + 1) = sv at s1 s2
  have hf:=fin ⟨kd,sv,0,[],[],[]⟩ (a + 1 + 1) (by omega) (by omega) ⟨ck _ k1 k2,by dsimp only; omega,z,Nat.zero_le _,Nat.zero_le _,Nat.zero_le _⟩
  rcases hs with rfl | rfl | rfl
  ·simp only [z39,go_sem,hid,hid',P,hkd,hsv]
   exact hf
  ·simp only [z39,go_sem,hid,hid',P,hkd,hsv]
   exact hf
  ·simp only [z39,go_sem,hid,hid',P,hkd,hsv]
   exact hf
 have n1 : ¬ kd = 1:=fun e=>hs (.inl e)
 have n2 : ¬ kd = 2:=fun e=>hs (.inr (.inl e))
 have n10 : ¬ kd = 10:=fun e=>hs (.inr (.inr e))
 by_cases h9 : kd = 9
 ·obtain ⟨s1,s2⟩:=z4z (L:=L) (l:=[0,0,1,3]) (lo:=0) (hi:=3) (by simp) (by simp) (by simp) (a + 1)
  generalize hsv : z3D [0,0,1,3] L (a + 1) = sv at s1 s2
  have hf:=fin ⟨9,0,sv,[],[],[]⟩ (a + 1 + 1) (by omega) (by omega) ⟨ck 9 (by omega) (by omega),z,by dsimp only; omega,Nat.zero_le _,Nat.zero_le _,Nat.zero_le _⟩
  subst h9
  simp only [z39,go_sem,hid,hid',P,hkd,hsv]
  exact hf
 by_cases h78 : kd = 7 ∨ kd = 8
 ·obtain ⟨s1,s2⟩:=z4z (L:=L) (l:=[1,2,3,5,8]) (lo:=1) (hi:=8) (by simp) (by simp) (by simp) (a + 1)
  generalize hsv : z3D [1,2,3,5,8] L (a + 1) = sv at s1 s2
  obtain ⟨n,rfl⟩ : ∃ n : Nat,sv = n:=⟨sv.toNat,by omega⟩
  obtain ⟨_,a3,⟨e3,s,sb,sl,rfl⟩,V⟩:=(zeV (L:=L) (a:=a + 1 + 1) n (by omega) (z1u hp (by omega) (by omega))).app (h:=h) (l:=[.box [AI 0,AI 0,AI 0,AS [],AS [],AS []],.box [AI kd,AI 0,AI 0,AS [],AS [],AS []]]) hid
  have P3 : posN 0 a3:=z1u hp (by omega) (by omega)
  have hid2 : id < (h.set id (strm L (a3 + 1)) ++ [Obj.box [AI 0,AI 0,AI 0,AS [],AS [],AS []],.box [AI kd,AI 0,AI 0,AS s,AS [],AS []]]).length:=by simp; omega
  obtain ⟨_,a4,⟨e4,t,tb,tl,rfl⟩,V2⟩:=(zeV (L:=L) (a:=a3 + 1) s.length (by omega) (z1u hp (by omega) (by omega))).app (h:=h) (l:=[.box [AI 0,AI 0,AI 0,AS [],AS [],AS []],.box [AI kd,AI 0,AI 0,AS s,AS [],AS []]]) hid
  obtain ⟨_,a5,⟨e5,u,ub,ul,rfl⟩,V3⟩:=(zeV (L:=L) (a:=a4) s.length (by omega) (z1u hp (by omega) (by omega))).app (h:=h) (l:=[.box [AI 0,AI 0,AI 0,AS [],AS [],AS []],.box [AI kd,AI 0,AI 0,AS s,AS [],AS []]]) hid
  have hf:=fin ⟨kd,0,0,s,[],[]⟩ (a3 + 1) (by omega) (by omega) ⟨ck _ k1 k2,z,z,by dsimp only; omega,Nat.zero_le _,Nat.zero_le _⟩
  have hf2:=fin ⟨kd,0,0,s,t,u⟩ a5 (by omega) (by omega) ⟨ck _ k1 k2,z,z,by dsimp only; omega,by dsimp only; omega,by dsimp only; omega⟩
  by_cases hfl : z1C L a3 2 = 0
  ·rcases h78 with rfl | rfl
   ·simp only [z39,go_sem,hid,hid',P,P3,hkd,hsv,V,V2,V3,hfl]
    exact hf2
   ·simp only [z39,go_sem,hid,hid',P,P3,hkd,hsv,V,V2,V3,hfl]
    exact hf2
  ·rcases h78 with rfl | rfl
   ·simp only [z39,go_sem,hid,hid',P,P3,hkd,hsv,V,hfl]
    exact hf
   ·simp only [z39,go_sem,hid,hid',P,P3,hkd,hsv,V,hfl]
    exact hf
 ·have n7 : ¬ kd = 7:=fun e=>h78 (.inl e)
  have n8 : ¬ kd = 8:=fun e=>h78 (.inr e)
  obtain ⟨s1,s2⟩:=z4z (L:=L) (l:=[0,0,1,2,3]) (lo:=0) (hi:=3) (by simp) (by simp) (by simp) (a + 1)
  generalize hsv : z3D [0,0,1,2,3] L (a + 1) = sv at s1 s2
  obtain ⟨n,rfl⟩ : ∃ n : Nat,sv = n:=⟨sv.toNat,by omega⟩
  obtain ⟨_,a3,⟨e3,s,sb,sl,rfl⟩,V⟩:=(zeV (L:=L) (a:=a + 1 + 1) n (by omega) (z1u hp (by omega) (by omega))).app (h:=h) (l:=[.box [AI 0,AI 0,AI 0,AS [],AS [],AS []],.box [AI kd,AI 0,AI 0,AS [],AS [],AS []]]) hid
  have hf:=fin ⟨kd,0,0,s,[],[]⟩ a3 (by omega) (by omega) ⟨ck _ k1 k2,z,z,by dsimp only; omega,Nat.zero_le _,Nat.zero_le _⟩
  simp only [z39,go_sem,hid,hid',P,hkd,hsv,n1,n2,n10,h9,n7,n8,V]
  exact hf
end Go.Am
end
section
/- What is drawn: programs. -/
open Go
set_option linter.all false
namespace Go.Am
variable {L : List Int} {a : Int} {h l : Heap} {id : Nat} {K : Post}
attribute [-go_sem] oEqa
theorem repO_x (n : Int) (h0 : 0 ≤ n) (h1 : n ≤ 1000000) (h : Heap) (K : Post) : z0d X z1h [AS [49],AI n] h K = K (AS (List.replicate n.toNat 49)) h []:=by
 rw [za0 [49] n h0 (by simp; omega) h1,zf7]
set_option maxHeartbeats 4000000 in
theorem zgG (n : Nat) (hn : n ≤ 20) (hp : posN 4000 a) : GenE z8Y [AI n] L a (fun v a2=>a ≤ a2 ∧ a2 ≤ a + 1300 ∧ ∃ l : List Cmd,l.length ≤ n + 11 ∧ (∀ c ∈ l,CmdB 2100 c) ∧ v = ACs l):=by
 refine GenE.of fun h id hid=>?_
 rw [c_q02p rfl]
 have hid' : id ≤ h.length:=by omega
 have hz : PV.shp (some 6) (.agg [.int .i64 0,.int .i64 0,.int .i64 0,.str [],.str [],.str []]) = true:=rfl
 simp only [zes,go_sem]
 refine z1m (fun t : List Cmd × Int=>⟨[(0,.ref id 0),(5,.own h.length t.1.length 0 t.1.length),(6,AI n),(7,AI t.1.length)],h.set id (strm L t.2) ++ [.row (some 6) (t.1.map cmdP) 0],[]⟩)
  (fun t=>t.1.length ≤ n ∧ (∀ c ∈ t.1,CmdB 2100 c) ∧ a ≤ t.2 ∧ t.2 ≤ a + 60 * t.1.length) (fun t=>n - t.1.length) ([],a) rfl ⟨by simp,by simp,by simp,by simp⟩ ?_
 rintro ⟨cs,b⟩ ⟨q1,q2,q3,q4⟩
 dsimp only at q1 q2 q3 q4 ⊢
 have hcz : ∀ c : Cmd,PV.shp (some 6) (cmdP c) = true:=fun c=>rfl
 rcases Nat.lt_or_ge cs.length n with hlt | hge
 ·have w2 : IntKind.i64.wrap ((cs.length : Int) + 1) = ((cs.length + 1 : Nat) : Int):=z0l _ (by omega) (by omega)
  obtain ⟨_,a3,⟨d1,d2,c,hc,rfl⟩,V⟩:=(zgF (L:=L) (a:=b) (z1u hp (by omega) (by omega))).app (h:=h) (l:=[.row (some 6) (cs.map cmdP) 0]) hid
  have hmx : cs.length + 1 ≤ z0I:=by unfold z0I; omega
  have hc':=hcz c
  have hlt' : (cs.length : Int) < (n : Int):=by omega
  simp only [go_sem,hid,hid',hlt,hlt',V,hmx,hz,hc',w2]
  refine ⟨(cs ++ [c],a3),by simp,⟨by simp; omega,fun g hg=>?_,by dsimp only; omega,by simp; omega⟩,by simp; omega⟩
  rcases List.mem_append.1 hg with hg | hg
  ·exact q2 g hg
  ·rw [List.mem_singleton.1 hg]; exact hc
 ·have hge' : ¬ cs.length < n:=by omega
  have P:=z1u (n:=0) hp q3 (by omega)
  by_cases hf : z1C L b 80 = 0
  ·simp only [go_sem,hid,hid',hge',P,hf]
   refine z1m (fun t : List Cmd × Int × Nat=>⟨[(0,.ref id 0),(5,.own h.length t.1.length 0 t.1.length),(17,AI t.2.2)],h.set id (strm L t.2.1) ++ [.row (some 6) (t.1.map cmdP) 0],[]⟩)
    (fun t=>t.2.2 ≤ 11 ∧ t.1.length = cs.length + t.2.2 ∧ (∀ c ∈ t.1,CmdB 2100 c) ∧ t.2.1 = b + 1 + t.2.2) (fun t=>11 - t.2.2) (cs,b + 1,0) rfl ⟨by simp,by simp,q2,by simp⟩ ?_
   rintro ⟨ds,b2,k⟩ ⟨r1,r2,r3,r4⟩
   dsimp only at r1 r2 r3 r4 ⊢
   subst r4
   have P2:=z1u (n:=0) (b:=b + 1 + (k : Int)) hp (by omega) (by omega)
   rcases Nat.lt_or_ge k 11 with hk | hk
   ·have w2 : IntKind.i64.wrap ((k : Int) + 1) = ((k + 1 : Nat) : Int):=z0l _ (by omega) (by omega)
    obtain ⟨s1,s2⟩:=z4z (L:=L) (l:=[1800,1830,2000]) (lo:=1800) (hi:=2000) (by simp) (by simp) (by simp) (b + 1 + (k : Int))
    generalize hsv : z3D [1800,1830,2000] L (b + 1 + (k : Int)) = sv at s1 s2
    have r0:=fun (h' : Heap) (K' : Post)=>repO_x sv (by omega) (by omega) h' K'
    have hmx : ds.length + 1 ≤ z0I:=by unfold z0I; omega
    have hk' : (k : Int) < 11:=by omega
    have hc':=hcz ⟨8,0,0,List.replicate sv.toNat 49,[],[]⟩
    simp only [go_sem,hid,hid',hk',P2,hsv,r0,hmx,hz,hc',w2]
    refine ⟨(ds ++ [⟨8,0,0,List.replicate sv.toNat 49,[],[]⟩],b + 1 + (k : Int) + 1,k + 1),by simp,⟨by dsimp only; omega,by simp; omega,fun g hg=>?_,by dsimp only; omega⟩,by dsimp only; omega⟩
    rcases List.mem_append.1 hg with hg | hg
    ·exact r3 g hg
    ·rw [List.mem_singleton.1 hg]
     exact ⟨by dsimp only; omega,by dsimp only; omega,by dsimp only; omega,by simp; omega,Nat.zero_le _,Nat.zero_le _⟩
   ·obtain rfl : k = 11:=by omega
    have hk' : ¬ ((11 : Nat) : Int) < 11:=by omega
    simp only [go_sem,hid,hid',hk']
    refine ⟨b + 1 + ((11 : Nat) : Int),⟨by omega,by omega,ds,by omega,r3,?_⟩,rfl⟩
    exact congrArg (fun x=>AV.p (PV.sl (some 6) x)) (List.take_of_length_le (by simp))
  ·simp only [go_sem,hid,hid',hge',P,hf]
   refine ⟨b + 1,⟨by omega,by omega,cs,by omega,q2,?_⟩,rfl⟩
   exact congrArg (fun x=>AV.p (PV.sl (some 6) x)) (List.take_of_length_le (by simp))
end Go.Am
end
section
/- A command's fault,the reference. -/
open Go
set_option linter.all false
namespace Go.Am
variable {h : Heap} {K : Post} {Kx : Ex → St → Prop} {q q2 : ACode} {k s cl k' s' cl' v9 : Int} {b w m b' w' m' : List UInt8} {x : Esc}
theorem eqa6 {k s cl k' s' cl' : Int} {b w m b' w' m' : List UInt8} : oEqa [0,0,0,2,2,2] true (.p (.agg [.int .i64 k,.int .i64 s,.int .i64 cl,.str b,.str w,.str m])) (.p (.agg [.int .i64 k',.int .i64 s',.int .i64 cl',.str b',.str w',.str m'])) = some (AB (!decide ((⟨k,s,cl,b,w,m⟩ : Cmd) = ⟨k',s',cl',b',w',m'⟩))):=by
 unfold oEqa
 dsimp only
 rw [if_pos ⟨rfl,rfl,by simp⟩,eqs6]
 rfl
attribute [-go_sem] oEqa z2n z1r z0K z2T
abbrev cfH (h : Heap) (k s cl : Int) (b w m : List UInt8) (k' s' cl' : Int) (b' w' m' : List UInt8) : Heap:=h ++ [.box [AI k,AI s,AI cl,AS b,AS w,AS m],.box [AI k',AI s',AI cl',AS b',AS w',AS m']]
theorem z6a : z2T (z0d X) X.gl (.ref h.length 0) (.ref (h.length + 1) 0) (cfH h k s cl b w m k' s' cl' b' w' m') x Kx = Kx .ret ⟨[(2,AI (if (⟨k,s,cl,b,w,m⟩ : Cmd) = ⟨k',s',cl',b',w',m'⟩ then 0 else 3 : Nat))],cfH h k s cl b w m k' s' cl' b' w' m',x⟩:=by
 by_cases he : (⟨k,s,cl,b,w,m⟩ : Cmd) = ⟨k',s',cl',b',w',m'⟩
 ·simp only [z2T,go_sem,eqa6,he]
 ·simp only [z2T,go_sem,eqa6,he]
theorem zui : z0K (z0d X) X.gl q2 (.ref h.length 0) (.ref (h.length + 1) 0) (AI v9) (AB true) (cfH h k s cl b w m k 0 0 [] [] []) [] Kx =
 if z0C s = true then Kx .normal ⟨[(1,.ref h.length 0),(3,.ref (h.length + 1) 0),(20,AB false)],cfH h k s cl b w m k s 0 [] [] [],[]⟩ else Kx .ret ⟨[(2,AI 1)],cfH h k s cl b w m k s 0 [] [] [],[]⟩:=by
 rcases hs : z0C s with _ | _
 ·simp only [z0K,go_sem,zcC,hs,splice]
 ·simp only [z0K,go_sem,zcC,hs,splice]
theorem zpK (hb : b.length ≤ 100000) : z1r (z0d X) X.gl q (.ref h.length 0) (.ref (h.length + 1) 0) (AI v9) (AB true) (cfH h k s cl b w m k 0 0 [] [] []) [] Kx =
 if z0F b = true then (if 2000 < b.length then Kx .ret ⟨[(2,AI 2)],cfH h k s cl b w m k 0 0 b [] [],[]⟩ else Kx .normal ⟨[(1,.ref h.length 0),(3,.ref (h.length + 1) 0),(43,AB false)],cfH h k s cl b w m k 0 0 b [] [],[]⟩) else Kx .ret ⟨[(2,AI 9)],cfH h k s cl b w m k 0 0 b [] [],[]⟩:=by
 have k1:=fun (h' : Heap) (K' : Post)=>zaz (h:=h') (K:=K') b (by omega)
 rcases hs : z0F b with _ | _
 ·simp only [z1r,go_sem,k1,hs,splice]
 ·by_cases g1 : 2000 < b.length
  ·have g2 : (2000 : Int) < (b.length : Int):=by omega
   simp only [z1r,go_sem,k1,hs,g1,g2,splice]
  ·have g2 : ¬ (2000 : Int) < (b.length : Int):=by omega
   simp only [z1r,go_sem,k1,hs,g1,g2,splice]
theorem cf_k1 (hc : CmdOk ⟨k,s,cl,b,w,m⟩) : z2n (z0d X) X.gl (.ref h.length 0) (.ref (h.length + 1) 0) (AB true) (cfH h k s cl b w m k 0 0 [] [] []) [] Kx =
 if z29 ⟨k,s,cl,b,w,m⟩ = 0 then Kx .normal ⟨[(1,.ref h.length 0),(3,.ref (h.length + 1) 0),(4,AI 0),(63,AB false)],cfH h k s cl b w m k 0 0 b w m,[]⟩ else Kx .ret ⟨[(2,AI (z29 ⟨k,s,cl,b,w,m⟩ : Nat))],cfH h k s cl b w m k 0 0 b w m,[]⟩:=by
 have k2:=fun (h' : Heap) (K' : Post)=>zru (h:=h') (K:=K') ⟨k,s,cl,b,w,m⟩ hc
 by_cases g1 : z29 ⟨k,s,cl,b,w,m⟩ = 0
 ·simp only [z2n,go_sem,k2,g1,splice]
 ·have g2 : ¬ ((z29 ⟨k,s,cl,b,w,m⟩ : Nat) : Int) = 0:=by omega
  simp only [z2n,go_sem,k2,g1,g2,splice]
set_option maxHeartbeats 4000000 in
theorem z8A (c : Cmd) (hc : CmdOk c) : z0d X z9b [ACm c] h K = K (AI (cmdF c : Nat)) h []:=by
 refine rule ?_
 rw [c_q03d rfl]
 have b1:=hc.b
 obtain ⟨k,s,cl,b,w,m⟩:=c
 simp only at b1
 have st : ∀ k,(k = 1 ∨ k = 2 ∨ k = 10) → cmdF ⟨k,s,cl,b,w,m⟩ = if z0C s = true then (if (⟨k,s,cl,b,w,m⟩ : Cmd) = ⟨k,s,0,[],[],[]⟩ then 0 else 3) else 1:=fun k hk=>by
  unfold cmdF; dsimp only; rw [if_pos hk]; cases z0C s <;> simp
 have sc : ∀ k,(k = 7 ∨ k = 8) → cmdF ⟨k,s,cl,b,w,m⟩ = if z29 ⟨k,s,cl,b,w,m⟩ = 0 then (if (⟨k,s,cl,b,w,m⟩ : Cmd) = ⟨k,0,0,b,w,m⟩ then 0 else 3) else z29 ⟨k,s,cl,b,w,m⟩:=fun k hk=>by
  unfold cmdF; dsimp only; rw [if_neg (by omega),if_neg (by omega),if_pos hk]; split <;> simp_all
 have pd : ∀ k,3 ≤ k ∧ k ≤ 6 → cmdF ⟨k,s,cl,b,w,m⟩ = if z0F b = true then (if 2000 < b.length then 2 else if (⟨k,s,cl,b,w,m⟩ : Cmd) = ⟨k,0,0,b,[],[]⟩ then 0 else 3) else 9:=fun k hk=>by
  unfold cmdF; dsimp only; rw [if_neg (by omega),if_neg (by omega),if_neg (by omega),if_pos hk]; cases z0F b <;> simp
 by_cases h1 : k = 1
 ·subst h1
  rw [st 1 (by omega)]
  simp only [z2e,go_sem,zui,z6a,splice]
  split <;> simp only [go_sem,z6a] <;> rfl
 by_cases h2 : k = 2
 ·subst h2
  rw [st 2 (by omega)]
  simp only [z2e,go_sem,zui,z6a,splice]
  split <;> simp only [go_sem,z6a] <;> rfl
 by_cases h10 : k = 10
 ·subst h10
  rw [st 10 (by omega)]
  simp only [z2e,go_sem,zui,z6a,splice]
  split <;> simp only [go_sem,z6a] <;> rfl
 by_cases h9 : k = 9
 ·subst h9
  by_cases g1 : 0 ≤ cl
  ·by_cases g2 : cl ≤ 20000
   ·have g3 : ¬ (cl < 0 ∨ 20000 < cl):=by omega
    rw [show cmdF ⟨9,s,cl,b,w,m⟩ = if (⟨9,s,cl,b,w,m⟩ : Cmd) = ⟨9,0,cl,[],[],[]⟩ then 0 else 3 by simp only [cmdF,g3]; simp]
    simp only [z2e,z0K,go_sem,s_in,g1,g2,z6a,splice]
   ·have g3 : cl < 0 ∨ 20000 < cl:=by omega
    rw [show cmdF ⟨9,s,cl,b,w,m⟩ = 1 by simp [cmdF,g3]]
    simp only [z2e,z0K,go_sem,s_in,g1,g2,splice]
  ·have g3 : cl < 0 ∨ 20000 < cl:=by omega
   rw [show cmdF ⟨9,s,cl,b,w,m⟩ = 1 by simp [cmdF,g3]]
   simp only [z2e,z0K,go_sem,s_in,g1,splice]
 by_cases h3 : k = 3
 ·subst h3
  rw [pd 3 (by omega)]
  simp only [z2e,z0K,go_sem,zpK (show b.length ≤ 100000 by omega),splice]
  split
  ·split <;> simp only [go_sem,z6a] <;> rfl
  ·simp only [go_sem] <;> rfl
 by_cases h4 : k = 4
 ·subst h4
  rw [pd 4 (by omega)]
  simp only [z2e,z0K,go_sem,zpK (show b.length ≤ 100000 by omega),splice]
  split
  ·split <;> simp only [go_sem,z6a] <;> rfl
  ·simp only [go_sem] <;> rfl
 by_cases h5 : k = 5
 ·subst h5
  rw [pd 5 (by omega)]
  simp only [z2e,z0K,go_sem,zpK (show b.length ≤ 100000 by omega),splice]
  split
  ·split <;> simp only [go_sem,z6a] <;> rfl
  ·simp only [go_sem] <;> rfl
 by_cases h6 : k = 6
 ·subst h6
  rw [pd 6 (by omega)]
  simp only [z2e,z0K,go_sem,zpK (show b.length ≤ 100000 by omega),splice]
  split
  ·split <;> simp only [go_sem,z6a] <;> rfl
  ·simp only [go_sem] <;> rfl
 by_cases h7 : k = 7
 ·subst h7
  rw [sc 7 (by omega)]
  simp only [z2e,z0K,z1r,go_sem,cf_k1 hc,splice]
  split <;> simp only [go_sem,z6a] <;> rfl
 by_cases h8 : k = 8
 ·subst h8
  rw [sc 8 (by omega)]
  simp only [z2e,z0K,z1r,go_sem,cf_k1 hc,splice]
  split <;> simp only [go_sem,z6a] <;> rfl
 rw [show cmdF ⟨k,s,cl,b,w,m⟩ = 4 from zbd (by dsimp only; omega)]
 simp only [z2e,z0K,z1r,z2n,go_sem,h1,h2,h3,h4,h5,h6,h7,h8,h9,h10,splice]
end Go.Am
end
section
/- The reference: the part of a command that waits,or sets something. -/
open Go
set_option linter.all false
namespace Go.Am
variable {h : Heap} {K : Post}
attribute [-go_sem] oEqa z1E z1W
set_option maxHeartbeats 4000000 in
theorem zgZ (l : List Cmd) (i : Nat) (c : Cmd) (hi : l[i]? = some c) (h9 : c.k = 9) (h0 : 0 ≤ c.cl) (h1 : c.cl ≤ 20000) (state : Nat) (hst : state ∈ stb) :
 z0d X z3M [ACs l,AI i,AI state] h K = K (.p (z47 (z01 z0c (l.take i) c state))) h []:=by
 refine rule ?_
 rw [zaW rfl]
 have hg : (l.map cmdP)[i]? = some (cmdP c):=by rw [List.getElem?_map,hi]; rfl
 have hilt : i < l.length:=by
  rcases Nat.lt_or_ge i l.length with h | h
  ·exact h
  ·rw [List.getElem?_eq_none h] at hi; cases hi
 rw [z2z z0c h9]
 obtain ⟨k,s,cl,b,w,m⟩:=c
 dsimp only at h9 h0 h1 hg ⊢
 obtain ⟨n,rfl⟩ : ∃ n : Nat,cl = n:=⟨cl.toNat,by omega⟩
 simp only [Int.toNat_natCast]
 have ht : (1 : Nat) ∈ toS:=by decide
 have p1 : ∀ (h' : Heap) (K' : Post),z0d X z2f [AI state,AI 1] h' K' = K' (AS (z0c state 1)) h' []:=fun h' K'=>zrn (h:=h') (K:=K') (z0Y hst) ht
 have pl:=(z0p (z0Y hst) ht).2.1
 subst h9
 generalize z0c state 1 = w1 at p1 pl ⊢
 have hz : ∀ n,(zs n).length = n:=fun n=>by simp [zs]
 have r0:=fun (h' : Heap) (K' : Post)=>z9A (h:=h') (K:=K') (n : Int) (by omega) (by omega)
 simp only [Int.toNat_natCast] at r0
 have l0 : w1.length + n ≤ z0z:=by simp [z0z]; omega
 have l0' : w1.length + (zs n).length ≤ z0z:=by rw [hz]; exact l0
 have l3 : (w1 ++ zs n).length = w1.length + n:=by rw [List.length_append,hz]
 have P3:=fun (z1 z2 z3 z4 z5 c1 c2 c3 c4 c5 c6 : AV) (Kx : Ex → St → Prop)=>pk3 (h:=h) (Kx:=Kx) (T:=w1 ++ zs n) (D:=[]) (W:=[]) (fr:=0) (st:=1) (z1:=z1) (z2:=z2) (z3:=z3) (z4:=z4) (z5:=z5) (c1:=c1) (c2:=c2) (c3:=c3) (c4:=c4) (c5:=c5) (c6:=c6) (Nat.zero_le _) (Nat.zero_le _) (by omega)
 rw [← zd1]
 unfold padP z47
 dsimp only
 generalize hT : w1 ++ zs n = T at P3 ⊢
 simp only [z6w,go_sem,len2,hg,hilt,p1,r0,l0,l0',hT,P3]
end Go.Am
end
section
/- The reference: the part of a command that sets something. -/
open Go
set_option linter.all false
namespace Go.Am
variable {h : Heap} {K : Post}
attribute [-go_sem] oEqa z1E z1W
set_option maxHeartbeats 4000000 in
theorem z9D (l : List Cmd) (i : Nat) (c : Cmd) (hi : l[i]? = some c) (h6 : c.k ≤ 6) (state : Nat) :
 z0d X z3M [ACs l,AI i,AI state] h K = K (.p (z47 (z01 z0c (l.take i) c state))) h []:=by
 refine rule ?_
 rw [zaW rfl]
 have hg : (l.map cmdP)[i]? = some (cmdP c):=by rw [List.getElem?_map,hi]; rfl
 have hilt : i < l.length:=by
  rcases Nat.lt_or_ge i l.length with h | h
  ·exact h
  ·rw [List.getElem?_eq_none h] at hi; cases hi
 rw [z1t z0c h6]
 obtain ⟨k,s,cl,b,w,m⟩:=c
 dsimp only at h6 hg ⊢
 have k10 : ¬ k = 10:=by omega
 have k9 : ¬ k = 9:=by omega
 have k7 : ¬ k = 7:=by omega
 have k8 : ¬ k = 8:=by omega
 have P3:=fun (z1 z2 z3 z4 z5 c1 c2 c3 c4 c5 c6 : AV) (Kx : Ex → St → Prop)=>pk3 (h:=h) (Kx:=Kx) (T:=[]) (D:=[]) (W:=[]) (fr:=0) (st:=state) (z1:=z1) (z2:=z2) (z3:=z3) (z4:=z4) (z5:=z5) (c1:=c1) (c2:=c2) (c3:=c3) (c4:=c4) (c5:=c5) (c6:=c6) (Nat.zero_le _) (Nat.zero_le _) (Nat.zero_le _)
 simp only [z6w,go_sem,len2,hg,hilt,k10,k9,k7,k8,P3]
 rfl
end Go.Am
end
section
/- The reference: the part of a scan. -/
open Go
set_option linter.all false
namespace Go.Am
variable {h : Heap} {K : Post} {Kx : Ex → St → Prop}
attribute [-go_sem] oEqa z1E z1W
set_option maxHeartbeats 8000000 in
theorem pk1 {z1 z2 z3 z4 z5 : AV} (l : List Cmd) (i : Nat) (c : Cmd) (hi : i ≤ l.length) (hs : z29 c = 0) (hl : l.length ≤ 1000000) (state sh ex : Nat) (a b e : Int) (n1 : z0C (setC (l.take i) e).s = true) (hst : state ∈ stb) (m1 : sh ∈ toS) (m2 : ex ∈ frS)
 (b1 : (setC (l.take i) a).b.length ≤ 2000) (b2 : (setC (l.take i) b).b.length ≤ 2000) :
 z1W (z0d X) X.gl (ACs l) (AI i) (AI state) (.ref h.length 0) (.ref (h.length + 1) 0) (.ref (h.length + 2) 0) (AI sh) (AI ex) (.p (.sl none [.int .i64 a,.int .i64 b,.int .i64 e]))
  (h ++ [.box [z1,z2,z3,z4,z5],.box [AI c.k,AI c.s,AI c.cl,AS c.b,AS c.w,AS c.m],.box [AS [],AS [],AS [],AI 0,AI state]]) [] Kx =
 Kx .normal ⟨[(6,.ref h.length 0),(8,.ref (h.length + 2) 0)],h ++ [.box [z1,z2,z3,z4,z5],.box [AI c.k,AI c.s,AI c.cl,AS c.b,AS c.w,AS c.m],
  .box [AS (z1c z0c c state sh ex (setC (l.take i) a).b (setC (l.take i) b).b (setC (l.take i) e).s.toNat).tms,AS (z1c z0c c state sh ex (setC (l.take i) a).b (setC (l.take i) b).b (setC (l.take i) e).s.toNat).tdi,AS (z1c z0c c state sh ex (setC (l.take i) a).b (setC (l.take i) b).b (setC (l.take i) e).s.toNat).want,
   AI ((z1c z0c c state sh ex (setC (l.take i) a).b (setC (l.take i) b).b (setC (l.take i) e).s.toNat).fr : Nat),AI ((setC (l.take i) e).s.toNat : Nat)]],[]⟩:=by
 obtain ⟨q1,q2,q3,q4,q5,q6⟩:=z1H hs
 have hm : c.m.length ≤ c.b.length:=by rcases q6 with ⟨_,h⟩ | ⟨_,h⟩ <;> simp [h]
 have hw : c.m.length ≤ c.w.length:=by rcases q6 with ⟨h0,h⟩ | ⟨h0,h⟩ <;> simp [h0,h]
 obtain ⟨n1,n2⟩:=z0v n1
 have x1:=fun (h' : Heap) (K' : Post)=>z8v (h:=h') (K:=K') l i a hi hl
 have x2:=fun (h' : Heap) (K' : Post)=>z8v (h:=h') (K:=K') l i b hi hl
 have x3:=fun (h' : Heap) (K' : Post)=>z8v (h:=h') (K:=K') l i e hi hl
 generalize setC (l.take i) a = ca at x1 b1 ⊢
 generalize setC (l.take i) b = cb at x2 b2 ⊢
 generalize setC (l.take i) e = ce at x3 n1 n2 ⊢
 obtain ⟨ak,as_,acl,hd,aw,am⟩:=ca
 obtain ⟨bk,bs,bcl,tl,bw,bm⟩:=cb
 obtain ⟨ek,es,ecl,eb,ew,em⟩:=ce
 have x4:=fun (h' : Heap) (K' : Post)=>zgY (h:=h') (K:=K') c (by omega) hm hw
 dsimp only at n1 n2 x1 x2 x3 b1 b2 ⊢
 obtain ⟨n,rfl⟩ : ∃ n : Nat,es = n:=⟨es.toNat,n2.symm⟩
 simp only [Int.toNat_natCast] at n1 ⊢
 have p1 : ∀ (h' : Heap) (K' : Post),z0d X z2f [AI state,AI sh] h' K' = K' (AS (z0c state sh)) h' []:=fun h' K'=>zrn (h:=h') (K:=K') (z0Y hst) m1
 have p2 : ∀ (h' : Heap) (K' : Post),z0d X z2f [AI ex,AI n] h' K' = K' (AS (z0c ex n)) h' []:=fun h' K'=>zrn (h:=h') (K:=K') m2 (z1B n1)
 have pl1:=(z0p (z0Y hst) m1).2.1
 have pl2:=(z0p m2 (z1B n1)).2.1
 unfold z1c
 dsimp only
 generalize z0c state sh = P1 at p1 pl1 ⊢
 generalize z0c ex n = P2 at p2 pl2 ⊢
 obtain ⟨k,s,cl,b',w,m⟩:=c
 dsimp only at q1 q3 hm hw x4 ⊢
 have hpos:=List.length_pos_iff.2 q1
 have hal : (hd ++ b' ++ tl).length = hd.length + b'.length + tl.length:=by simp only [List.length_append]
 generalize hale : hd ++ b' ++ tl = al at hal ⊢
 have hz : ∀ n,(zs n).length = n:=fun n=>by simp [zs]
 have hx : ∀ n,(xsL n).length = n:=fun n=>by simp [xsL]
 have hec : (expC ⟨k,s,cl,b',w,m⟩).length = b'.length:=by simp [expC]
 generalize expC ⟨k,s,cl,b',w,m⟩ = ec at x4 hec ⊢
 have w1 : IntKind.i64.wrap ((al.length : Int) - 1) = ((al.length - 1 : Nat) : Int):=by
  rw [show (al.length : Int) - 1 = ((al.length - 1 : Nat) : Int) by omega]; exact z0l _ (by omega) (by omega)
 have w2 : IntKind.i64.wrap ((P1.length : Int) + (hd.length : Int)) = ((P1.length + hd.length : Nat) : Int):=by
  rw [show (P1.length : Int) + (hd.length : Int) = ((P1.length + hd.length : Nat) : Int) by omega]; exact z0l _ (by omega) (by omega)
 have r1:=fun (h' : Heap) (K' : Post)=>z9A (h:=h') (K:=K') ((al.length - 1 : Nat) : Int) (by omega) (by omega)
 have r2:=fun (h' : Heap) (K' : Post)=>z9A (h:=h') (K:=K') (P1.length : Int) (by omega) (by omega)
 have r3:=fun (h' : Heap) (K' : Post)=>zoG (h:=h') (K:=K') ((P1.length + hd.length : Nat) : Int) (by omega) (by omega)
 simp only [Int.toNat_natCast] at r1 r2 r3
 have lT2b : P1.length + (zs (al.length - 1)).length + 1 ≤ z0z:=by rw [hz]; unfold z0z; omega
 have lT1 : P1.length + (zs (al.length - 1)).length ≤ z0z:=by rw [hz]; unfold z0z; omega
 have lT2 : (P1 ++ zs (al.length - 1)).length + 1 ≤ z0z:=by rw [List.length_append,hz]; unfold z0z; omega
 have lT3 : (P1 ++ zs (al.length - 1) ++ [49]).length + P2.length ≤ z0z:=by simp only [List.length_append,hz,List.length_singleton]; unfold z0z; omega
 have lT3b : P1.length + ((zs (al.length - 1)).length + 1) + P2.length ≤ z0z:=by rw [hz]; unfold z0z; omega
 have lD : (zs P1.length).length + al.length ≤ z0z:=by rw [hz]; unfold z0z; omega
 have lW : (xsL (P1.length + hd.length)).length + ec.length ≤ z0z:=by rw [hx,hec]; unfold z0z; omega
 have la : hd.length + b'.length ≤ z0z:=by unfold z0z; omega
 have lbn : hd.length + b'.length + tl.length ≤ z0z:=by unfold z0z; omega
 have lb : (hd ++ b').length + tl.length ≤ z0z:=by rw [List.length_append]; unfold z0z; omega
 have hTn : P1 ++ (zs (al.length - 1) ++ 49 :: P2) = P1 ++ zs (al.length - 1) ++ [49] ++ P2:=by simp
 generalize hTe : P1 ++ zs (al.length - 1) ++ [49] ++ P2 = T at hTn ⊢
 clear hTe
 simp (config:={maxSteps:=4000000}) only [z1W,go_sem,splice,x1,x2,x3,x4,p1,p2,w1,w2,r1,r2,r3,hale,hTn,lT2b,lT3b,lbn,lT1,lT2,lT3,lD,lW,la,lb]
end Go.Am
end
section
/- The reference: the part of a scan. -/
open Go
set_option linter.all false
namespace Go.Am
variable {h : Heap} {K : Post}
attribute [-go_sem] oEqa z1E z1W
set_option maxHeartbeats 4000000 in
theorem zrr (l : List Cmd) (i : Nat) (c : Cmd) (hi : l[i]? = some c) (h7 : c.k = 7) (hs : z29 c = 0) (hl : l.length ≤ 1000000) (S : SetOk (l.take i)) (state : Nat) (hst : state ∈ stb) :
 z0d X z3M [ACs l,AI i,AI state] h K = K (.p (z47 (z01 z0c (l.take i) c state))) h []:=by
 refine rule ?_
 rw [zaW rfl]
 have hg : (l.map cmdP)[i]? = some (cmdP c):=by rw [List.getElem?_map,hi]; rfl
 have hilt : i < l.length:=by
  rcases Nat.lt_or_ge i l.length with h | h
  ·exact h
  ·rw [List.getElem?_eq_none h] at hi; cases hi
 obtain ⟨q1,q2,q3,q4,q5,q6⟩:=z1H hs
 have ep : z01 z0c (l.take i) c state = padP (z1c z0c c state 11 12 (setC (l.take i) 3).b (setC (l.take i) 4).b (setC (l.take i) 1).s.toNat):=by
  unfold z01
  rw [if_neg (by omega),if_neg (by omega),if_pos h7]
 rw [ep]
 obtain ⟨_,b1⟩:=S.b1 3 (by omega) (by omega)
 obtain ⟨_,b2⟩:=S.b1 4 (by omega) (by omega)
 obtain ⟨n1,n2⟩:=z0v S.s1
 have P1:=fun (z1 z2 z3 z4 z5 : AV) (Kx : Ex → St → Prop)=>pk1 (h:=h) (z1:=z1) (z2:=z2) (z3:=z3) (z4:=z4) (z5:=z5) (Kx:=Kx) l i c (by omega) hs hl state 11 12 3 4 1 S.s1 hst (by decide) (by decide) b1 b2
 have pl1:=(z0p (z0Y hst) (show 11 ∈ toS by decide)).2.1
 have pl2:=(z0p (show 12 ∈ frS by decide) (z1B n1)).2.1
 have hz : ∀ n,(zs n).length = n:=fun n=>by simp [zs]
 have hx : ∀ n,(xsL n).length = n:=fun n=>by simp [xsL]
 have hec : (expC c).length = c.b.length:=by simp [expC]
 have hpos:=List.length_pos_iff.2 q1
 have lens : (z1c z0c c state 11 12 (setC (l.take i) 3).b (setC (l.take i) 4).b (setC (l.take i) 1).s.toNat).tdi.length ≤ (z1c z0c c state 11 12 (setC (l.take i) 3).b (setC (l.take i) 4).b (setC (l.take i) 1).s.toNat).tms.length ∧
  (z1c z0c c state 11 12 (setC (l.take i) 3).b (setC (l.take i) 4).b (setC (l.take i) 1).s.toNat).want.length ≤ (z1c z0c c state 11 12 (setC (l.take i) 3).b (setC (l.take i) 4).b (setC (l.take i) 1).s.toNat).tms.length ∧
  (z1c z0c c state 11 12 (setC (l.take i) 3).b (setC (l.take i) 4).b (setC (l.take i) 1).s.toNat).tms.length ≤ 1000000:=by
  unfold z1c
  simp only [List.length_append,hz,hx,hec,List.length_singleton]
  omega
 have est : (z1c z0c c state 11 12 (setC (l.take i) 3).b (setC (l.take i) 4).b (setC (l.take i) 1).s.toNat).st = (setC (l.take i) 1).s.toNat:=rfl
 generalize z1c z0c c state 11 12 (setC (l.take i) 3).b (setC (l.take i) 4).b (setC (l.take i) 1).s.toNat = p at P1 lens est ⊢
 rw [← est] at P1
 obtain ⟨l1,l2,l3⟩:=lens
 have P3:=fun (z1 z2 z3 z4 z5 c1 c2 c3 c4 c5 c6 : AV) (Kx : Ex → St → Prop)=>pk3 (h:=h) (Kx:=Kx) (T:=p.tms) (D:=p.tdi) (W:=p.want) (fr:=(p.fr : Nat)) (st:=(p.st : Nat)) (z1:=z1) (z2:=z2) (z3:=z3) (z4:=z4) (z5:=z5) (c1:=c1) (c2:=c2) (c3:=c3) (c4:=c4) (c5:=c5) (c6:=c6) l1 l2 l3
 obtain ⟨k,s,cl,b',w,m⟩:=c
 dsimp only at h7 hg P1 ⊢
 subst h7
 simp only [show ((11 : Nat) : Int) = 11 from rfl,show ((12 : Nat) : Int) = 12 from rfl] at P1
 unfold padP z47
 dsimp only
 simp only [z6w,go_sem,len2,hg,hilt,P1,P3]
set_option maxHeartbeats 4000000 in
theorem zrp (l : List Cmd) (i : Nat) (c : Cmd) (hi : l[i]? = some c) (h7 : c.k = 8) (hs : z29 c = 0) (hl : l.length ≤ 1000000) (S : SetOk (l.take i)) (state : Nat) (hst : state ∈ stb) :
 z0d X z3M [ACs l,AI i,AI state] h K = K (.p (z47 (z01 z0c (l.take i) c state))) h []:=by
 refine rule ?_
 rw [zaW rfl]
 have hg : (l.map cmdP)[i]? = some (cmdP c):=by rw [List.getElem?_map,hi]; rfl
 have hilt : i < l.length:=by
  rcases Nat.lt_or_ge i l.length with h | h
  ·exact h
  ·rw [List.getElem?_eq_none h] at hi; cases hi
 obtain ⟨q1,q2,q3,q4,q5,q6⟩:=z1H hs
 have ep : z01 z0c (l.take i) c state = padP (z1c z0c c state 4 5 (setC (l.take i) 5).b (setC (l.take i) 6).b (setC (l.take i) 2).s.toNat):=by
  unfold z01
  rw [if_neg (by omega),if_neg (by omega),if_neg (by omega),if_pos h7]
 rw [ep]
 obtain ⟨_,b1⟩:=S.b1 5 (by omega) (by omega)
 obtain ⟨_,b2⟩:=S.b1 6 (by omega) (by omega)
 obtain ⟨n1,n2⟩:=z0v S.s2
 have P1:=fun (z1 z2 z3 z4 z5 : AV) (Kx : Ex → St → Prop)=>pk1 (h:=h) (z1:=z1) (z2:=z2) (z3:=z3) (z4:=z4) (z5:=z5) (Kx:=Kx) l i c (by omega) hs hl state 4 5 5 6 2 S.s2 hst (by decide) (by decide) b1 b2
 have pl1:=(z0p (z0Y hst) (show 4 ∈ toS by decide)).2.1
 have pl2:=(z0p (show 5 ∈ frS by decide) (z1B n1)).2.1
 have hz : ∀ n,(zs n).length = n:=fun n=>by simp [zs]
 have hx : ∀ n,(xsL n).length = n:=fun n=>by simp [xsL]
 have hec : (expC c).length = c.b.length:=by simp [expC]
 have hpos:=List.length_pos_iff.2 q1
 have lens : (z1c z0c c state 4 5 (setC (l.take i) 5).b (setC (l.take i) 6).b (setC (l.take i) 2).s.toNat).tdi.length ≤ (z1c z0c c state 4 5 (setC (l.take i) 5).b (setC (l.take i) 6).b (setC (l.take i) 2).s.toNat).tms.length ∧
  (z1c z0c c state 4 5 (setC (l.take i) 5).b (setC (l.take i) 6).b (setC (l.take i) 2).s.toNat).want.length ≤ (z1c z0c c state 4 5 (setC (l.take i) 5).b (setC (l.take i) 6).b (setC (l.take i) 2).s.toNat).tms.length ∧
  (z1c z0c c state 4 5 (setC (l.take i) 5).b (setC (l.take i) 6).b (setC (l.take i) 2).s.toNat).tms.length ≤ 1000000:=by
  unfold z1c
  simp only [List.length_append,hz,hx,hec,List.length_singleton]
  omega
 have est : (z1c z0c c state 4 5 (setC (l.take i) 5).b (setC (l.take i) 6).b (setC (l.take i) 2).s.toNat).st = (setC (l.take i) 2).s.toNat:=rfl
 generalize z1c z0c c state 4 5 (setC (l.take i) 5).b (setC (l.take i) 6).b (setC (l.take i) 2).s.toNat = p at P1 lens est ⊢
 rw [← est] at P1
 obtain ⟨l1,l2,l3⟩:=lens
 have P3:=fun (z1 z2 z3 z4 z5 c1 c2 c3 c4 c5 c6 : AV) (Kx : Ex → St → Prop)=>pk3 (h:=h) (Kx:=Kx) (T:=p.tms) (D:=p.tdi) (W:=p.want) (fr:=(p.fr : Nat)) (st:=(p.st : Nat)) (z1:=z1) (z2:=z2) (z3:=z3) (z4:=z4) (z5:=z5) (c1:=c1) (c2:=c2) (c3:=c3) (c4:=c4) (c5:=c5) (c6:=c6) l1 l2 l3
 obtain ⟨k,s,cl,b',w,m⟩:=c
 dsimp only at h7 hg P1 ⊢
 subst h7
 simp only [show ((4 : Nat) : Int) = 4 from rfl,show ((5 : Nat) : Int) = 5 from rfl] at P1
 unfold padP z47
 dsimp only
 simp only [z6w,go_sem,len2,hg,hilt,P1,P3]
end Go.Am
end
section
/- The reference: the parts of a program. -/
open Go
set_option linter.all false
namespace Go.Am
variable {h : Heap} {K : Post}
attribute [-go_sem] oEqa
theorem zrs (l : List Cmd) (i : Nat) (c : Cmd) (hi : l[i]? = some c) (hc : cmdF c = 0) (hl : l.length ≤ 1000000) (S : SetOk (l.take i)) (state : Nat) (hst : state ∈ stb) :
 z0d X z3M [ACs l,AI i,AI state] h K = K (.p (z47 (z01 z0c (l.take i) c state))) h []:=by
 cases z0U hc with
 | set h hs e=>exact z9D l i c hi (by omega) state
 | pad h0 h1 hb hl e=>exact z9D l i c hi h1 state
 | go h hs e=>exact zrq l i c hi h hs state hst
 | idle h h0 h1 e=>exact zgZ l i c hi h h0 h1 state hst
 | scan h hs e=>
  rcases h with h | h
  ·exact zrr l i c hi h hs hl S state hst
  ·exact zrp l i c hi h hs hl S state hst
theorem zhe {pre : List Cmd} {c : Cmd} (S : SetOk pre) (hc : cmdF c = 0) : SetOk (pre ++ [c]):=by
 have K:=z0U hc
 refine ⟨?_,?_,fun k h1 h2=>?_⟩
 ·rw [z07]; split
  ·cases K with
   | set h hs e=>exact hs
   | pad h0 h1 hb hl e=>omega
   | go h hs e=>omega
   | idle h h0 h1 e=>omega
   | scan h hs e=>omega
  ·exact S.s1
 ·rw [z07]; split
  ·cases K with
   | set h hs e=>exact hs
   | pad h0 h1 hb hl e=>omega
   | go h hs e=>omega
   | idle h h0 h1 e=>omega
   | scan h hs e=>omega
  ·exact S.s2
 ·rw [z07]; split
  ·cases K with
   | set h hs e=>omega
   | pad h0 h1 hb hl e=>exact ⟨hb,hl⟩
   | go h hs e=>omega
   | idle h h0 h1 e=>omega
   | scan h hs e=>omega
  ·exact S.b1 k h1 h2
theorem zoT : SetOk []:=⟨rfl,rfl,fun k _ _=>⟨rfl,Nat.zero_le _⟩⟩
end Go.Am
end
section
/- The reference: the parts of a program,one by one. -/
open Go
set_option linter.all false
namespace Go.Am
variable {h : Heap} {K : Post}
def stAt (pre : List Cmd) (state : Nat) : List Cmd → Nat
 | []=>state
 | c :: r=>stAt (pre ++ [c]) (z01 z0c pre c state).st r
theorem z1M (c : Cmd) : ∀ (l pre : List Cmd) (state : Nat),z0j z0c pre state (l ++ [c]) = z0j z0c pre state l ++ [z01 z0c (pre ++ l) c (stAt pre state l)] ∧ stAt pre state (l ++ [c]) = (z01 z0c (pre ++ l) c (stAt pre state l)).st
 | [],pre,state=>by simp [z0j,stAt]
 | d :: l,pre,state=>by
  obtain ⟨a,b⟩:=z1M c l (pre ++ [d]) (z01 z0c pre d state).st
  have e : pre ++ [d] ++ l = pre ++ d :: l:=by rw [List.append_assoc]; rfl
  rw [e] at a b
  constructor
  ·simp only [List.cons_append,z0j]; rw [a]; rfl
  ·exact b
theorem zbe : ∀ {l : List Cmd},z4N l = 0 → ∀ c ∈ l,cmdF c = 0
 | [],_,c,hc=>by cases hc
 | d :: l,h,c,hc=>by
  unfold z4N at h
  split at h
  ·rename_i h1; exact absurd h h1
  ·rename_i h1
   rcases List.mem_cons.1 hc with rfl | hc
   ·omega
   ·exact zbe h c hc
theorem z6H {l : List Cmd} (hc : ∀ c ∈ l,cmdF c = 0) : ∀ k,k ≤ l.length → SetOk (l.take k) ∧ stAt [] 0 (l.take k) ∈ stb
 | 0,_=>⟨zoT,by show 0 ∈ stb; decide⟩
 | k + 1,hk=>by
  obtain ⟨S,T⟩:=z6H hc k (by omega)
  have hlt : k < l.length:=by omega
  have h0:=hc _ (List.getElem_mem hlt)
  rw [List.take_succ_eq_append_getElem hlt]
  refine ⟨zhe S h0,?_⟩
  rw [(z1M l[k] (l.take k) [] 0).2,List.nil_append]
  cases z0U h0 with
  | set h hs e=>rw [z1t z0c (by omega)]; exact T
  | pad h0 h1 hb hl e=>rw [z1t z0c h1]; exact T
  | go h hs e=>rw [z4R z0c h]; exact (z0v hs).1
  | idle h h0 h1 e=>rw [z2z z0c h]; show 1 ∈ stb; decide
  | scan h hs e=>
   unfold z01
   rcases h with h | h
   ·rw [if_neg (by omega),if_neg (by omega),if_pos h]; exact (z0v S.s1).1
   ·rw [if_neg (by omega),if_neg (by omega),if_neg (by omega),if_pos h]; exact (z0v S.s2).1
abbrev APs (l : List Part) : AV:=.p (.sl (some 5) (l.map z47))
set_option maxHeartbeats 2000000 in
theorem zoI (l : List Cmd) (hc : ∀ c ∈ l,cmdF c = 0) (hl : l.length ≤ 1000) : z0d X z9f [ACs l] h K = K (APs (z0j z0c [] 0 l)) h []:=by
 refine rule ?_
 rw [c_q03m rfl]
 simp only [ze2,go_sem]
 refine z1m (fun k : Nat=>⟨[(0,ACs l),(3,.own h.length k 0 k),(4,AI (stAt [] 0 (l.take k))),(8,AI l.length),(9,AI k)],h ++ [.row (some 5) ((z0j z0c [] 0 (l.take k)).map z47) 0],[]⟩) (fun k=>k ≤ l.length) (fun k=>l.length - k) 0 rfl (by omega) ?_
 intro k hk
 have hpl : ∀ j,j ≤ l.length → (z0j z0c [] 0 (l.take j)).length = j:=by
  intro j hj
  have : ∀ (l : List Cmd) (pre : List Cmd) (s : Nat),(z0j z0c pre s l).length = l.length:=by
   intro l
   induction l with
   | nil=>intro pre s; rfl
   | cons c l ih=>intro pre s; simp [z0j,ih]
  rw [this]; simp; omega
 have hlen : ((z0j z0c [] 0 (l.take k)).map z47).length = k:=by rw [List.length_map,hpl k hk]
 rcases Nat.lt_or_ge k l.length with hlt | hge
 ·obtain ⟨S,T⟩:=z6H hc k hk
  have hi : l[k]? = some l[k]:=List.getElem?_eq_getElem hlt
  have h0:=hc _ (List.getElem_mem hlt)
  have w2 : IntKind.i64.wrap ((k : Int) + 1) = ((k + 1 : Nat) : Int):=z0l _ (by omega) (by omega)
  have hmx : k + 1 ≤ z0I:=by unfold z0I; omega
  have hp:=fun (h' : Heap) (K' : Post)=>zrs (h:=h') (K:=K') l k l[k] hi h0 (by omega) S _ T
  simp only [go_sem,hlt,hp,w2,hmx,hlen]
  refine ⟨k + 1,?_,by omega,by omega⟩
  obtain ⟨e1,e2⟩:=z1M l[k] (l.take k) [] 0
  rw [List.take_succ_eq_append_getElem hlt,e1,e2,List.nil_append,List.map_append]
  rfl
 ·obtain rfl : k = l.length:=by omega
  have hpe : (z0j z0c [] 0 l).length = l.length:=by have:=hpl l.length (Nat.le_refl _); rwa [List.take_length] at this
  simp only [go_sem,Nat.lt_irrefl,hlen,List.take_length,hpe]
  exact congrArg (fun x=>AV.p (PV.sl (some 5) x)) (List.take_of_length_le (by simp [hpe]))
end Go.Am
end
section
/- The reference: the signals of a program: three builders. -/
open Go
set_option linter.all false
namespace Go.Am
variable {h : Heap} {K : Post}
def b3 (h : Heap) (u1 : Bool) (s1 : List UInt8) (u2 : Bool) (s2 : List UInt8) (u3 : Bool) (s3 : List UInt8) (l : Heap) : Heap:=
 h ++ bldB u1 h.length s1.length :: .row none (z0o s1) 0 :: bldB u2 (h.length + 2) s2.length :: .row none (z0o s2) 0 :: bldB u3 (h.length + 4) s3.length :: .row none (z0o s3) 0 :: l
variable {u1 u2 u3 : Bool} {s1 s2 s3 t : List UInt8} {l : Heap}
theorem zdg {n : Nat} : (b3 h u1 s1 u2 s2 u3 s3 l)[h.length + n]? = (bldB u1 h.length s1.length :: Obj.row none (z0o s1) 0 :: bldB u2 (h.length + 2) s2.length :: Obj.row none (z0o s2) 0 :: bldB u3 (h.length + 4) s3.length :: Obj.row none (z0o s3) 0 :: l)[n]?:=by
 unfold b3
 rw [List.getElem?_append_right (by omega),show h.length + n - h.length = n by omega]
theorem b3_h1 : zdb (b3 h u1 s1 u2 s2 u3 s3 l) u1 h.length s1:=⟨zdg (n:=0),zdg (n:=1)⟩
theorem b3_h2 : zdb (b3 h u1 s1 u2 s2 u3 s3 l) u2 (h.length + 2) s2:=⟨zdg (n:=2),zdg (n:=3)⟩
theorem b3_h3 : zdb (b3 h u1 s1 u2 s2 u3 s3 l) u3 (h.length + 4) s3:=⟨zdg (n:=4),zdg (n:=5)⟩
theorem b3_e1 : held (b3 h u1 s1 u2 s2 u3 s3 l) h.length t = b3 h true t u2 s2 u3 s3 l:=by
 unfold held b3
 rw [List.set_append_right _ _ (by omega),List.set_append_right _ _ (by omega),Nat.sub_self,show h.length + 1 - h.length = 1 by omega]
 rfl
theorem b3_e2 : held (b3 h u1 s1 u2 s2 u3 s3 l) (h.length + 2) t = b3 h u1 s1 true t u3 s3 l:=by
 unfold held b3
 rw [List.set_append_right _ _ (by omega),List.set_append_right _ _ (by omega),show h.length + 2 - h.length = 2 by omega,show h.length + 2 + 1 - h.length = 3 by omega]
 rfl
theorem b3_e3 : held (b3 h u1 s1 u2 s2 u3 s3 l) (h.length + 4) t = b3 h u1 s1 u2 s2 true t l:=by
 unfold held b3
 rw [List.set_append_right _ _ (by omega),List.set_append_right _ _ (by omega),show h.length + 4 - h.length = 4 by omega,show h.length + 4 + 1 - h.length = 5 by omega]
 rfl
theorem b3_ws1 (hm : s1.length + t.length ≤ 200000000000) : z0d X z2Y [.ref h.length 0,AS t] (b3 h u1 s1 u2 s2 u3 s3 l) K = K (.tup [AI t.length,.nili]) (b3 h true (s1 ++ t) u2 s2 u3 s3 l) []:=by
 rw [z33 b3_h1 hm,b3_e1]
theorem b3_ws2 (hm : s2.length + t.length ≤ 200000000000) : z0d X z2Y [.ref (h.length + 2) 0,AS t] (b3 h u1 s1 u2 s2 u3 s3 l) K = K (.tup [AI t.length,.nili]) (b3 h u1 s1 true (s2 ++ t) u3 s3 l) []:=by
 rw [z33 b3_h2 hm,b3_e2]
theorem b3_ws3 (hm : s3.length + t.length ≤ 200000000000) : z0d X z2Y [.ref (h.length + 4) 0,AS t] (b3 h u1 s1 u2 s2 u3 s3 l) K = K (.tup [AI t.length,.nili]) (b3 h u1 s1 u2 s2 true (s3 ++ t) l) []:=by
 rw [z33 b3_h3 hm,b3_e3]
theorem zsm : (b3 h u1 s1 u2 s2 u3 s3 l).length = h.length + (l.length + 6):=by unfold b3; simp
theorem b3_app {l2 : Heap} : b3 h u1 s1 u2 s2 u3 s3 l ++ l2 = b3 h u1 s1 u2 s2 u3 s3 (l ++ l2):=by unfold b3; simp
theorem b3_get {n : Nat} : (b3 h u1 s1 u2 s2 u3 s3 l)[h.length + (n + 6)]? = l[n]?:=zdg
theorem b3_set {n : Nat} {o : Obj} : (b3 h u1 s1 u2 s2 u3 s3 l).set (h.length + (n + 6)) o = b3 h u1 s1 u2 s2 u3 s3 (l.set n o):=by
 unfold b3
 rw [List.set_append_right _ _ (by omega),show h.length + (n + 6) - h.length = n + 6 by omega]
 rfl
theorem ztP {n : Nat} : (b3 h u1 s1 u2 s2 u3 s3 l).take (h.length + (n + 6)) = b3 h u1 s1 u2 s2 u3 s3 (l.take n):=by
 unfold b3
 rw [List.take_length_add_append]
 rfl
theorem zpC : (b3 h u1 s1 u2 s2 u3 s3 l).take h.length = h:=by unfold b3; exact List.take_left
theorem z6l {hp : Heap} {id id' : Nat} {u : Bool} {s s' : List UInt8} (H : zdb hp u id' s') (h1 : id' ≠ id + 1) (h2 : id' + 1 ≠ id + 1) : zdb (z2N hp id s) u id' s':=by
 unfold z2N
 split
 ·exact H
 ·exact ⟨by rw [List.getElem?_set_ne (by omega)]; exact H.1,by rw [List.getElem?_set_ne (by omega)]; exact H.2⟩
theorem z8w {hp : Heap} {id n : Nat} {s : List UInt8} (hn : n ≤ id + 1) : (z2N hp id s).take n = hp.take n:=by
 unfold z2N
 split
 ·rfl
 ·exact List.take_set_of_le (by omega)
end Go.Am
end
