/- Texts of the proof, laid together: SpVec4, SpVec4b, SpVec4c, SpVec4d, SpVec4e, SpVec5, SpVec6, SpVec7, SpVec8, SpVec9, SpVec10, SpVec11, SpVec16, SpVec17, PWout, PSplit, PTxt, PNum, PFltR, PWrit, SpIdx, AmL4, AmL5, SpSplit, SpLines, SpNum, SpNums, SpQNum, SpWords, SpJoin, SpFltT, SpEach, SpFltR, SpFltR2, SpFltR3, SpChg, SpGenA2, SpDelF, SpGenF2, SpInts, SpFltE, SpWout, SpSame, SpEqC, SpVec19, SpVec20, SpGenV, SpReady, SpKeep, SpLawWS, Bridge, AmL2, AmL6. -/
import Derived.Shelf.Strings.Repeat
import Derived.Shelf.Strings.SlTrimAscii
import Derived.Shelf.Spec.TrailingZeros
import Derived.Shelf.Strings.Count
import Derived.Shelf.Strings.OnBuilder
import Derived.KernelRfl
import Derived.ProofKit
import Derived.Shelf.Strconv.Itoa3
import Derived.Lib.LaidTab
import Derived.Test.YtojjldhoodnjiaaGreatDoorlawWS8
set_option linter.all false
section
/- The reference: what is expected,the part of a command. -/
open Go
set_option linter.all false
namespace Go.Am
variable {h : Heap} {K : Post}
theorem zgp (c : UInt8) : ∀ n,repL [c] n = List.replicate n c
 | 0=>rfl
 | n + 1=>by rw [repL,zgp c n]; rfl
theorem zpB (n : Int) (h0 : 0 ≤ n) (h1 : n ≤ 1000000) : z0c X z1g [AS [120],AI n] h K = K (AS (xsL n.toNat)) h []:=by
 rw [zaN [120] n h0 (by simp; omega) h1,zgp]; rfl
theorem z9S (n : Int) (h0 : 0 ≤ n) (h1 : n ≤ 1000000) : z0c X z1g [AS [48],AI n] h K = K (AS (zs n.toNat)) h []:=by
 rw [zaN [48] n h0 (by simp; omega) h1,zgp]; rfl
def expI (c : Cmd) (i : Nat) : List UInt8:=(List.range c.b.length).map fun j=>if j < i then z32 c j else 120
theorem expI_0 (c : Cmd) : expI c 0 = xsL c.b.length:=by
 unfold expI xsL
 apply List.ext_getElem
 ·simp
 ·intro i h1 h2; simp
theorem zay (c : Cmd) (i : Nat) : (expI c i).length = c.b.length:=by simp [expI]
theorem zax (c : Cmd) : expI c c.m.length = expC c:=by
 unfold expI expC
 apply List.map_congr_left
 intro j _
 split
 ·rfl
 ·rename_i h
  unfold z32
  rw [List.getElem?_eq_none (by omega)]; rfl
theorem zmi (c : Cmd) (i : Nat) (hi : i < c.b.length) : expI c (i + 1) = (expI c i).set i (z32 c i):=by
 apply List.ext_getElem
 ·simp [expI]
 ·intro j h1 h2
  simp only [expI,List.length_map,List.length_range] at h1
  rw [List.getElem_set]
  simp only [expI,List.getElem_map,List.getElem_range]
  by_cases hj : i = j
  ·subst hj; simp
  ·rw [if_neg hj]
   by_cases h3 : j < i
   ·rw [if_pos h3,if_pos (by omega)]
   ·rw [if_neg h3,if_neg (by omega)]
theorem zmh (c : Cmd) (i : Nat) (hn : c.m[i]? ≠ some 49) : expI c (i + 1) = expI c i:=by
 unfold expI
 apply List.map_congr_left
 intro j _
 by_cases hj : j = i
 ·subst hj
  simp [z32,hn]
 ·by_cases h3 : j < i
  ·rw [if_pos h3,if_pos (by omega)]
  ·rw [if_neg h3,if_neg (by omega)]
theorem zhI (c : Cmd) (hl : c.b.length ≤ 100000) (hm : c.m.length ≤ c.b.length) (hw : c.m.length ≤ c.w.length) : z0c X z9w [ACm c] h K = K (AS (expC c)) h []:=by
 refine rule ?_
 rw [c_q03h rfl]
 have hmx : c.b.length ≤ z0F:=by unfold z0F; omega
 have hx : (xsL c.b.length).length = c.b.length:=by simp [xsL]
 have r1:=fun (h' : Heap) (K' : Post)=>zpB (h:=h') (K:=K') (c.b.length : Int) (by omega) (by omega)
 simp only [Int.toNat_natCast] at r1
 simp only [zfl,go_sem,r1,hx,hmx]
 refine z0Z (fun i : Nat=>⟨[(1,.ref h.length 0),(3,.own (h.length + 1) c.b.length 0 c.b.length),(12,AI c.m.length),(13,AI i)],h ++ [.box [AI c.k,AI c.s,AI c.cl,AS c.b,AS c.w,AS c.m],.row none (z0k (expI c i)) 0],[]⟩) (fun i=>i ≤ c.m.length) (fun i=>c.m.length - i) 0 (by rw [expI_0]; rfl) (by omega) ?_
 intro i hi
 have hbl : (z0k (expI c i)).length = c.b.length:=by simp [z0k,zay]
 rcases Nat.lt_or_ge i c.m.length with hlt | hge
 ·have hlt' : (i : Int) < (c.m.length : Int):=by omega
  have hg : c.m[i]? = some c.m[i]:=List.getElem?_eq_getElem hlt
  have hgw : c.w[i]? = some (c.w[i]'(by omega)):=List.getElem?_eq_getElem (by omega)
  have w2 : IntKind.i64.wrap ((i : Int) + 1) = ((i + 1 : Nat) : Int):=z0m _ (by omega) (by omega)
  by_cases h49 : c.m[i] = 49
  ·have hb' : i < c.b.length:=by omega
   have hgb : (z0k (expI c i))[i]? = some (.int .u8 ((expI c i)[i]'(by rw [zay]; omega)).toNat):=by
    unfold z0k; rw [List.getElem?_map,List.getElem?_eq_getElem (by rw [zay]; omega)]; rfl
   have t1:=fun (y : Int) (h1 : Heap)=>shp_st (sh:=none) (x:=.int .u8 ((c.w[i]'(by omega)).toNat : Int)) (y:=.int .u8 y) rfl rfl (h.length + 1) i 0 (z0k (expI c i)) h1
   have e49 : ((49 : UInt8).toNat : Int) = 49:=rfl
   simp only [go_sem,hlt,hlt',hg,h49,w2,hgw,hbl,hb',hgb,t1,e49]
   refine ⟨i + 1,?_,by omega,by omega⟩
   have e1 : z32 c i = c.w[i]'(by omega):=by unfold z32; rw [hg,h49,hgw]; rfl
   have e2 : z0k (expI c (i + 1)) = (z0k (expI c i)).set i (.int .u8 ((c.w[i]'(by omega)).toNat : Int)):=by
    rw [zmi c i hb',e1]; unfold z0k; rw [List.map_set]
   rw [e2]
  ·have h49' : ¬ ((c.m[i].toNat : Int) = 49):=fun e=>h49 (UInt8.toNat_inj.1 (by rw [show (49 : UInt8).toNat = 49 from rfl]; omega))
   simp only [go_sem,hlt,hlt',hg,h49',w2]
   refine ⟨i + 1,?_,by omega,by omega⟩
   rw [zmh c i (by rw [hg]; exact fun e=>h49 (Option.some.inj e))]
 ·obtain rfl : i = c.m.length:=by omega
  have hw0 : win (z0k (expI c c.m.length)) 0 c.b.length = z0k (expI c c.m.length):=by
   unfold win; rw [List.drop_zero]; exact List.take_of_length_le (by omega)
  have hbe : (z0k (expC c)).length = c.b.length:=by rw [← zax]; exact hbl
  have hwe : win (z0k (expC c)) 0 c.b.length = z0k (expC c):=by rw [← zax]; exact hw0
  simp only [go_sem,Nat.lt_irrefl,Int.lt_irrefl,hbl,hw0,z4V,zax,hbe,hwe]
abbrev z4I (p : Part) : PV:=.agg [.str p.tms,.str p.tdi,.str p.want,.int .i64 (p.fr : Int),.int .i64 (p.st : Int)]
theorem zcN (l : List Cmd) (k : Int) : z2D (l.map cmdP) k = cmdP (setC l k):=by
 unfold z2D setC
 rw [← List.map_reverse,List.find?_map]
 have : ((fun c=>zap c == k) ∘ cmdP) = fun c : Cmd=>c.k == k:=rfl
 rw [this]
 cases (l.reverse.find? fun c=>c.k == k) with
 | none=>rfl
 | some c=>rfl
theorem zmG (l : List Cmd) : (l.map cmdP).all zdY = true:=by
 rw [List.all_map]; exact List.all_eq_true.2 fun x _=>rfl
abbrev ACs (l : List Cmd) : AV:=.p (.sl (some 6) (l.map cmdP))
theorem z8H (l : List Cmd) (i : Nat) (k : Int) (hi : i ≤ l.length) (hl : l.length ≤ 1000000) : z0c X z5w [ACs l,AI i,AI k] h K = K (ACm (setC (l.take i) k)) h []:=by
 have e : z4E [.sl (some 6) (l.map cmdP),.int .i64 (i : Int),.int .i64 k] = some (ACm (setC (l.take i) k)):=by
  show (if 0 ≤ (i : Int) ∧ (i : Int) ≤ ((l.map cmdP).length : Int) ∧ (l.map cmdP).length ≤ 1000000 ∧ (l.map cmdP).all zdY = true then some (AV.p (z2D ((l.map cmdP).take (i : Int).toNat) k)) else none) = _
  rw [if_pos ⟨by omega,by simp; omega,by simpa using hl,zmG l⟩,Int.toNat_natCast,← List.map_take,zcN]
 refine z7c (X:=X) (by kernel_rfl) ?_
 rw [zuH]
 exact z8d (vs:=[.sl (some 6) (l.map cmdP),.int .i64 (i : Int),.int .i64 k]) (by kernel_rfl) (s:=z4E) (by kernel_rfl) rfl e
structure SetOk (pre : List Cmd) : Prop where
 s1 : z05 (setC pre 1).s = true
 s2 : z05 (setC pre 2).s = true
 b1 : ∀ k,3 ≤ k → k ≤ 6 → z0O (setC pre k).b = true ∧ (setC pre k).b.length ≤ 2000
attribute [-go_sem] oEqa z1G
variable {Kx : Ex → St → Prop}
theorem pk3 {T D W : List UInt8} {fr st : Int} {z1 z2 z3 z4 z5 c1 c2 c3 c4 c5 c6 : AV} (hD : D.length ≤ T.length) (hW : W.length ≤ T.length) (hT : T.length ≤ 1000000) :
 z1G (z0c X) X.gl (.ref h.length 0) (.ref (h.length + 2) 0) (h ++ [.box [z1,z2,z3,z4,z5],.box [c1,c2,c3,c4,c5,c6],.box [AS T,AS D,AS W,AI fr,AI st]]) [] Kx =
  Kx .ret ⟨[(6,.ref h.length 0)],h ++ [.box [AS T,AS (D ++ zs (T.length - D.length)),AS (W ++ xsL (T.length - W.length)),AI fr,AI st],.box [c1,c2,c3,c4,c5,c6],.box [AS T,AS (D ++ zs (T.length - D.length)),AS (W ++ xsL (T.length - W.length)),AI fr,AI st]],[]⟩:=by
 have hz : ∀ n,(zs n).length = n:=fun n=>by simp [zs]
 have hx : ∀ n,(xsL n).length = n:=fun n=>by simp [xsL]
 have w3 : IntKind.i64.wrap ((T.length : Int) - (D.length : Int)) = ((T.length - D.length : Nat) : Int):=by
  rw [show (T.length : Int) - (D.length : Int) = ((T.length - D.length : Nat) : Int) by omega]; exact z0m _ (by omega) (by omega)
 have w4 : IntKind.i64.wrap ((T.length : Int) - (W.length : Int)) = ((T.length - W.length : Nat) : Int):=by
  rw [show (T.length : Int) - (W.length : Int) = ((T.length - W.length : Nat) : Int) by omega]; exact z0m _ (by omega) (by omega)
 have r4:=fun (h' : Heap) (K' : Post)=>z9S (h:=h') (K:=K') ((T.length - D.length : Nat) : Int) (by omega) (by omega)
 have r5:=fun (h' : Heap) (K' : Post)=>zpB (h:=h') (K:=K') ((T.length - W.length : Nat) : Int) (by omega) (by omega)
 simp only [Int.toNat_natCast] at r4 r5
 have lD2 : D.length + (zs (T.length - D.length)).length ≤ z00:=by rw [hz]; unfold z00; omega
 have lW2 : W.length + (xsL (T.length - W.length)).length ≤ z00:=by rw [hx]; unfold z00; omega
 generalize zs (T.length - D.length) = Z at r4 lD2 ⊢
 generalize xsL (T.length - W.length) = Z2 at r5 lW2 ⊢
 simp only [z1G,go_sem,splice,w3,w4,r4,r5,lD2,lW2]
set_option maxHeartbeats 4000000 in
theorem zse (l : List Cmd) (i : Nat) (c : Cmd) (hi : l[i]? = some c) (h10 : c.k = 10) (hs : z05 c.s = true) (state : Nat) (hst : state ∈ stb) :
 z0c X z3V [ACs l,AI i,AI state] h K = K (.p (z4I (z0K z0d (l.take i) c state))) h []:=by
 refine rule ?_
 rw [zbx rfl]
 obtain ⟨n1,n2⟩:=z0v hs
 have hg : (l.map cmdP)[i]? = some (cmdP c):=by rw [List.getElem?_map,hi]; rfl
 have hilt : i < l.length:=by
  rcases Nat.lt_or_ge i l.length with h | h
  ·exact h
  ·rw [List.getElem?_eq_none h] at hi; cases hi
 rw [z81 z0d h10]
 obtain ⟨k,s,cl,b,w,m⟩:=c
 dsimp only at h10 hs n1 n2 hg ⊢
 obtain ⟨n,rfl⟩ : ∃ n : Nat,s = n:=⟨s.toNat,n2.symm⟩
 simp only [Int.toNat_natCast] at n1 ⊢
 have p1:=fun (h' : Heap) (K' : Post)=>zsb (h:=h') (K:=K') (z1m hst) (z1Z n1)
 have pl:=(z01 (z1m hst) (z1Z n1)).2.1
 subst h10
 generalize z0d state n = w at p1 pl ⊢
 have e1 : z4I ⟨w,zs w.length,xsL w.length,0,n⟩ = z4I (padP ⟨w,[],[],0,n⟩):=by rw [zfX]
 rw [e1]
 unfold padP z4I
 dsimp only
 have P3:=fun (z1 z2 z3 z4 z5 c1 c2 c3 c4 c5 c6 : AV) (Kx : Ex → St → Prop)=>pk3 (h:=h) (Kx:=Kx) (T:=w) (D:=[]) (W:=[]) (fr:=0) (st:=n) (z1:=z1) (z2:=z2) (z3:=z3) (z4:=z4) (z5:=z5) (c1:=c1) (c2:=c2) (c3:=c3) (c4:=c4) (c5:=c5) (c6:=c6) (Nat.zero_le _) (Nat.zero_le _) (by omega)
 simp only [z6E,go_sem,len2,hg,hilt,p1,P3]
end Go.Am
end
section
/- The reference: the part of a command that waits,or sets something. -/
open Go
set_option linter.all false
namespace Go.Am
variable {h : Heap} {K : Post}
attribute [-go_sem] oEqa z1G z1U
set_option maxHeartbeats 4000000 in
theorem zhJ (l : List Cmd) (i : Nat) (c : Cmd) (hi : l[i]? = some c) (h9 : c.k = 9) (h0 : 0 ≤ c.cl) (h1 : c.cl ≤ 20000) (state : Nat) (hst : state ∈ stb) :
 z0c X z3V [ACs l,AI i,AI state] h K = K (.p (z4I (z0K z0d (l.take i) c state))) h []:=by
 refine rule ?_
 rw [zbx rfl]
 have hg : (l.map cmdP)[i]? = some (cmdP c):=by rw [List.getElem?_map,hi]; rfl
 have hilt : i < l.length:=by
  rcases Nat.lt_or_ge i l.length with h | h
  ·exact h
  ·rw [List.getElem?_eq_none h] at hi; cases hi
 rw [z4m z0d h9]
 obtain ⟨k,s,cl,b,w,m⟩:=c
 dsimp only at h9 h0 h1 hg ⊢
 obtain ⟨n,rfl⟩ : ∃ n : Nat,cl = n:=⟨cl.toNat,by omega⟩
 simp only [Int.toNat_natCast]
 have ht : (1 : Nat) ∈ toS:=by decide
 have p1 : ∀ (h' : Heap) (K' : Post),z0c X z2e [AI state,AI 1] h' K' = K' (AS (z0d state 1)) h' []:=fun h' K'=>zsb (h:=h') (K:=K') (z1m hst) ht
 have pl:=(z01 (z1m hst) ht).2.1
 subst h9
 generalize z0d state 1 = w1 at p1 pl ⊢
 have hz : ∀ n,(zs n).length = n:=fun n=>by simp [zs]
 have r0:=fun (h' : Heap) (K' : Post)=>z9S (h:=h') (K:=K') (n : Int) (by omega) (by omega)
 simp only [Int.toNat_natCast] at r0
 have l0 : w1.length + n ≤ z00:=by simp [z00]; omega
 have l0' : w1.length + (zs n).length ≤ z00:=by rw [hz]; exact l0
 have l3 : (w1 ++ zs n).length = w1.length + n:=by rw [List.length_append,hz]
 have P3:=fun (z1 z2 z3 z4 z5 c1 c2 c3 c4 c5 c6 : AV) (Kx : Ex → St → Prop)=>pk3 (h:=h) (Kx:=Kx) (T:=w1 ++ zs n) (D:=[]) (W:=[]) (fr:=0) (st:=1) (z1:=z1) (z2:=z2) (z3:=z3) (z4:=z4) (z5:=z5) (c1:=c1) (c2:=c2) (c3:=c3) (c4:=c4) (c5:=c5) (c6:=c6) (Nat.zero_le _) (Nat.zero_le _) (by omega)
 rw [← zeg]
 unfold padP z4I
 dsimp only
 generalize hT : w1 ++ zs n = T at P3 ⊢
 simp only [z6E,go_sem,len2,hg,hilt,p1,r0,l0,l0',hT,P3]
end Go.Am
end
section
/- The reference: the part of a command that sets something. -/
open Go
set_option linter.all false
namespace Go.Am
variable {h : Heap} {K : Post}
attribute [-go_sem] oEqa z1G z1U
set_option maxHeartbeats 4000000 in
theorem z9V (l : List Cmd) (i : Nat) (c : Cmd) (hi : l[i]? = some c) (h6 : c.k ≤ 6) (state : Nat) :
 z0c X z3V [ACs l,AI i,AI state] h K = K (.p (z4I (z0K z0d (l.take i) c state))) h []:=by
 refine rule ?_
 rw [zbx rfl]
 have hg : (l.map cmdP)[i]? = some (cmdP c):=by rw [List.getElem?_map,hi]; rfl
 have hilt : i < l.length:=by
  rcases Nat.lt_or_ge i l.length with h | h
  ·exact h
  ·rw [List.getElem?_eq_none h] at hi; cases hi
 rw [z2w z0d h6]
 obtain ⟨k,s,cl,b,w,m⟩:=c
 dsimp only at h6 hg ⊢
 have k10 : ¬ k = 10:=by omega
 have k9 : ¬ k = 9:=by omega
 have k7 : ¬ k = 7:=by omega
 have k8 : ¬ k = 8:=by omega
 have P3:=fun (z1 z2 z3 z4 z5 c1 c2 c3 c4 c5 c6 : AV) (Kx : Ex → St → Prop)=>pk3 (h:=h) (Kx:=Kx) (T:=[]) (D:=[]) (W:=[]) (fr:=0) (st:=state) (z1:=z1) (z2:=z2) (z3:=z3) (z4:=z4) (z5:=z5) (c1:=c1) (c2:=c2) (c3:=c3) (c4:=c4) (c5:=c5) (c6:=c6) (Nat.zero_le _) (Nat.zero_le _) (Nat.zero_le _)
 simp only [z6E,go_sem,len2,hg,hilt,k10,k9,k7,k8,P3]
 rfl
end Go.Am
end
section
/- The reference: the part of a scan. -/
open Go
set_option linter.all false
namespace Go.Am
variable {h : Heap} {K : Post} {Kx : Ex → St → Prop}
attribute [-go_sem] oEqa z1G z1U
set_option maxHeartbeats 8000000 in
theorem pk1 {z1 z2 z3 z4 z5 : AV} (l : List Cmd) (i : Nat) (c : Cmd) (hi : i ≤ l.length) (hs : z28 c = 0) (hl : l.length ≤ 1000000) (state sh ex : Nat) (a b e : Int) (n1 : z05 (setC (l.take i) e).s = true) (hst : state ∈ stb) (m1 : sh ∈ toS) (m2 : ex ∈ frS)
 (b1 : (setC (l.take i) a).b.length ≤ 2000) (b2 : (setC (l.take i) b).b.length ≤ 2000) :
 z1U (z0c X) X.gl (ACs l) (AI i) (AI state) (.ref h.length 0) (.ref (h.length + 1) 0) (.ref (h.length + 2) 0) (AI sh) (AI ex) (.p (.sl none [.int .i64 a,.int .i64 b,.int .i64 e]))
  (h ++ [.box [z1,z2,z3,z4,z5],.box [AI c.k,AI c.s,AI c.cl,AS c.b,AS c.w,AS c.m],.box [AS [],AS [],AS [],AI 0,AI state]]) [] Kx =
 Kx .normal ⟨[(6,.ref h.length 0),(8,.ref (h.length + 2) 0)],h ++ [.box [z1,z2,z3,z4,z5],.box [AI c.k,AI c.s,AI c.cl,AS c.b,AS c.w,AS c.m],
  .box [AS (z1k z0d c state sh ex (setC (l.take i) a).b (setC (l.take i) b).b (setC (l.take i) e).s.toNat).tms,AS (z1k z0d c state sh ex (setC (l.take i) a).b (setC (l.take i) b).b (setC (l.take i) e).s.toNat).tdi,AS (z1k z0d c state sh ex (setC (l.take i) a).b (setC (l.take i) b).b (setC (l.take i) e).s.toNat).want,
   AI ((z1k z0d c state sh ex (setC (l.take i) a).b (setC (l.take i) b).b (setC (l.take i) e).s.toNat).fr : Nat),AI ((setC (l.take i) e).s.toNat : Nat)]],[]⟩:=by
 obtain ⟨q1,q2,q3,q4,q5,q6⟩:=z2i hs
 have hm : c.m.length ≤ c.b.length:=by rcases q6 with ⟨_,h⟩ | ⟨_,h⟩ <;> simp [h]
 have hw : c.m.length ≤ c.w.length:=by rcases q6 with ⟨h0,h⟩ | ⟨h0,h⟩ <;> simp [h0,h]
 obtain ⟨n1,n2⟩:=z0v n1
 have x1:=fun (h' : Heap) (K' : Post)=>z8H (h:=h') (K:=K') l i a hi hl
 have x2:=fun (h' : Heap) (K' : Post)=>z8H (h:=h') (K:=K') l i b hi hl
 have x3:=fun (h' : Heap) (K' : Post)=>z8H (h:=h') (K:=K') l i e hi hl
 generalize setC (l.take i) a = ca at x1 b1 ⊢
 generalize setC (l.take i) b = cb at x2 b2 ⊢
 generalize setC (l.take i) e = ce at x3 n1 n2 ⊢
 obtain ⟨ak,as_,acl,hd,aw,am⟩:=ca
 obtain ⟨bk,bs,bcl,tl,bw,bm⟩:=cb
 obtain ⟨ek,es,ecl,eb,ew,em⟩:=ce
 have x4:=fun (h' : Heap) (K' : Post)=>zhI (h:=h') (K:=K') c (by omega) hm hw
 dsimp only at n1 n2 x1 x2 x3 b1 b2 ⊢
 obtain ⟨n,rfl⟩ : ∃ n : Nat,es = n:=⟨es.toNat,n2.symm⟩
 simp only [Int.toNat_natCast] at n1 ⊢
 have p1 : ∀ (h' : Heap) (K' : Post),z0c X z2e [AI state,AI sh] h' K' = K' (AS (z0d state sh)) h' []:=fun h' K'=>zsb (h:=h') (K:=K') (z1m hst) m1
 have p2 : ∀ (h' : Heap) (K' : Post),z0c X z2e [AI ex,AI n] h' K' = K' (AS (z0d ex n)) h' []:=fun h' K'=>zsb (h:=h') (K:=K') m2 (z1Z n1)
 have pl1:=(z01 (z1m hst) m1).2.1
 have pl2:=(z01 m2 (z1Z n1)).2.1
 unfold z1k
 dsimp only
 generalize z0d state sh = P1 at p1 pl1 ⊢
 generalize z0d ex n = P2 at p2 pl2 ⊢
 obtain ⟨k,s,cl,b',w,m⟩:=c
 dsimp only at q1 q3 hm hw x4 ⊢
 have hpos:=List.length_pos_iff.2 q1
 have hal : (hd ++ b' ++ tl).length = hd.length + b'.length + tl.length:=by simp only [List.length_append]
 generalize hale : hd ++ b' ++ tl = al at hal ⊢
 have hz : ∀ n,(zs n).length = n:=fun n=>by simp [zs]
 have hx : ∀ n,(xsL n).length = n:=fun n=>by simp [xsL]
 have hec : (expC ⟨k,s,cl,b',w,m⟩).length = b'.length:=by simp [expC]
 generalize expC ⟨k,s,cl,b',w,m⟩ = ec at x4 hec ⊢
 have w1 : IntKind.i64.wrap ((al.length : Int) - 1) = ((al.length - 1 : Nat) : Int):=by
  rw [show (al.length : Int) - 1 = ((al.length - 1 : Nat) : Int) by omega]; exact z0m _ (by omega) (by omega)
 have w2 : IntKind.i64.wrap ((P1.length : Int) + (hd.length : Int)) = ((P1.length + hd.length : Nat) : Int):=by
  rw [show (P1.length : Int) + (hd.length : Int) = ((P1.length + hd.length : Nat) : Int) by omega]; exact z0m _ (by omega) (by omega)
 have r1:=fun (h' : Heap) (K' : Post)=>z9S (h:=h') (K:=K') ((al.length - 1 : Nat) : Int) (by omega) (by omega)
 have r2:=fun (h' : Heap) (K' : Post)=>z9S (h:=h') (K:=K') (P1.length : Int) (by omega) (by omega)
 have r3:=fun (h' : Heap) (K' : Post)=>zpB (h:=h') (K:=K') ((P1.length + hd.length : Nat) : Int) (by omega) (by omega)
 simp only [Int.toNat_natCast] at r1 r2 r3
 have lT2b : P1.length + (zs (al.length - 1)).length + 1 ≤ z00:=by rw [hz]; unfold z00; omega
 have lT1 : P1.length + (zs (al.length - 1)).length ≤ z00:=by rw [hz]; unfold z00; omega
 have lT2 : (P1 ++ zs (al.length - 1)).length + 1 ≤ z00:=by rw [List.length_append,hz]; unfold z00; omega
 have lT3 : (P1 ++ zs (al.length - 1) ++ [49]).length + P2.length ≤ z00:=by simp only [List.length_append,hz,List.length_singleton]; unfold z00; omega
 have lT3b : P1.length + ((zs (al.length - 1)).length + 1) + P2.length ≤ z00:=by rw [hz]; unfold z00; omega
 have lD : (zs P1.length).length + al.length ≤ z00:=by rw [hz]; unfold z00; omega
 have lW : (xsL (P1.length + hd.length)).length + ec.length ≤ z00:=by rw [hx,hec]; unfold z00; omega
 have la : hd.length + b'.length ≤ z00:=by unfold z00; omega
 have lbn : hd.length + b'.length + tl.length ≤ z00:=by unfold z00; omega
 have lb : (hd ++ b').length + tl.length ≤ z00:=by rw [List.length_append]; unfold z00; omega
 have hTn : P1 ++ (zs (al.length - 1) ++ 49 :: P2) = P1 ++ zs (al.length - 1) ++ [49] ++ P2:=by simp
 generalize hTe : P1 ++ zs (al.length - 1) ++ [49] ++ P2 = T at hTn ⊢
 clear hTe
 simp (config:={maxSteps:=4000000}) only [z1U,go_sem,splice,x1,x2,x3,x4,p1,p2,w1,w2,r1,r2,r3,hale,hTn,lT2b,lT3b,lbn,lT1,lT2,lT3,lD,lW,la,lb]
end Go.Am
end
section
/- The reference: the part of a scan. -/
open Go
set_option linter.all false
namespace Go.Am
variable {h : Heap} {K : Post}
attribute [-go_sem] oEqa z1G z1U
set_option maxHeartbeats 4000000 in
theorem zsf (l : List Cmd) (i : Nat) (c : Cmd) (hi : l[i]? = some c) (h7 : c.k = 7) (hs : z28 c = 0) (hl : l.length ≤ 1000000) (S : SetOk (l.take i)) (state : Nat) (hst : state ∈ stb) :
 z0c X z3V [ACs l,AI i,AI state] h K = K (.p (z4I (z0K z0d (l.take i) c state))) h []:=by
 refine rule ?_
 rw [zbx rfl]
 have hg : (l.map cmdP)[i]? = some (cmdP c):=by rw [List.getElem?_map,hi]; rfl
 have hilt : i < l.length:=by
  rcases Nat.lt_or_ge i l.length with h | h
  ·exact h
  ·rw [List.getElem?_eq_none h] at hi; cases hi
 obtain ⟨q1,q2,q3,q4,q5,q6⟩:=z2i hs
 have ep : z0K z0d (l.take i) c state = padP (z1k z0d c state 11 12 (setC (l.take i) 3).b (setC (l.take i) 4).b (setC (l.take i) 1).s.toNat):=by
  unfold z0K
  rw [if_neg (by omega),if_neg (by omega),if_pos h7]
 rw [ep]
 obtain ⟨_,b1⟩:=S.b1 3 (by omega) (by omega)
 obtain ⟨_,b2⟩:=S.b1 4 (by omega) (by omega)
 obtain ⟨n1,n2⟩:=z0v S.s1
 have P1:=fun (z1 z2 z3 z4 z5 : AV) (Kx : Ex → St → Prop)=>pk1 (h:=h) (z1:=z1) (z2:=z2) (z3:=z3) (z4:=z4) (z5:=z5) (Kx:=Kx) l i c (by omega) hs hl state 11 12 3 4 1 S.s1 hst (by decide) (by decide) b1 b2
 have pl1:=(z01 (z1m hst) (show 11 ∈ toS by decide)).2.1
 have pl2:=(z01 (show 12 ∈ frS by decide) (z1Z n1)).2.1
 have hz : ∀ n,(zs n).length = n:=fun n=>by simp [zs]
 have hx : ∀ n,(xsL n).length = n:=fun n=>by simp [xsL]
 have hec : (expC c).length = c.b.length:=by simp [expC]
 have hpos:=List.length_pos_iff.2 q1
 have lens : (z1k z0d c state 11 12 (setC (l.take i) 3).b (setC (l.take i) 4).b (setC (l.take i) 1).s.toNat).tdi.length ≤ (z1k z0d c state 11 12 (setC (l.take i) 3).b (setC (l.take i) 4).b (setC (l.take i) 1).s.toNat).tms.length ∧
  (z1k z0d c state 11 12 (setC (l.take i) 3).b (setC (l.take i) 4).b (setC (l.take i) 1).s.toNat).want.length ≤ (z1k z0d c state 11 12 (setC (l.take i) 3).b (setC (l.take i) 4).b (setC (l.take i) 1).s.toNat).tms.length ∧
  (z1k z0d c state 11 12 (setC (l.take i) 3).b (setC (l.take i) 4).b (setC (l.take i) 1).s.toNat).tms.length ≤ 1000000:=by
  unfold z1k
  simp only [List.length_append,hz,hx,hec,List.length_singleton]
  omega
 have est : (z1k z0d c state 11 12 (setC (l.take i) 3).b (setC (l.take i) 4).b (setC (l.take i) 1).s.toNat).st = (setC (l.take i) 1).s.toNat:=rfl
 generalize z1k z0d c state 11 12 (setC (l.take i) 3).b (setC (l.take i) 4).b (setC (l.take i) 1).s.toNat = p at P1 lens est ⊢
 rw [← est] at P1
 obtain ⟨l1,l2,l3⟩:=lens
 have P3:=fun (z1 z2 z3 z4 z5 c1 c2 c3 c4 c5 c6 : AV) (Kx : Ex → St → Prop)=>pk3 (h:=h) (Kx:=Kx) (T:=p.tms) (D:=p.tdi) (W:=p.want) (fr:=(p.fr : Nat)) (st:=(p.st : Nat)) (z1:=z1) (z2:=z2) (z3:=z3) (z4:=z4) (z5:=z5) (c1:=c1) (c2:=c2) (c3:=c3) (c4:=c4) (c5:=c5) (c6:=c6) l1 l2 l3
 obtain ⟨k,s,cl,b',w,m⟩:=c
 dsimp only at h7 hg P1 ⊢
 subst h7
 simp only [show ((11 : Nat) : Int) = 11 from rfl,show ((12 : Nat) : Int) = 12 from rfl] at P1
 unfold padP z4I
 dsimp only
 simp only [z6E,go_sem,len2,hg,hilt,P1,P3]
set_option maxHeartbeats 4000000 in
theorem zsd (l : List Cmd) (i : Nat) (c : Cmd) (hi : l[i]? = some c) (h7 : c.k = 8) (hs : z28 c = 0) (hl : l.length ≤ 1000000) (S : SetOk (l.take i)) (state : Nat) (hst : state ∈ stb) :
 z0c X z3V [ACs l,AI i,AI state] h K = K (.p (z4I (z0K z0d (l.take i) c state))) h []:=by
 refine rule ?_
 rw [zbx rfl]
 have hg : (l.map cmdP)[i]? = some (cmdP c):=by rw [List.getElem?_map,hi]; rfl
 have hilt : i < l.length:=by
  rcases Nat.lt_or_ge i l.length with h | h
  ·exact h
  ·rw [List.getElem?_eq_none h] at hi; cases hi
 obtain ⟨q1,q2,q3,q4,q5,q6⟩:=z2i hs
 have ep : z0K z0d (l.take i) c state = padP (z1k z0d c state 4 5 (setC (l.take i) 5).b (setC (l.take i) 6).b (setC (l.take i) 2).s.toNat):=by
  unfold z0K
  rw [if_neg (by omega),if_neg (by omega),if_neg (by omega),if_pos h7]
 rw [ep]
 obtain ⟨_,b1⟩:=S.b1 5 (by omega) (by omega)
 obtain ⟨_,b2⟩:=S.b1 6 (by omega) (by omega)
 obtain ⟨n1,n2⟩:=z0v S.s2
 have P1:=fun (z1 z2 z3 z4 z5 : AV) (Kx : Ex → St → Prop)=>pk1 (h:=h) (z1:=z1) (z2:=z2) (z3:=z3) (z4:=z4) (z5:=z5) (Kx:=Kx) l i c (by omega) hs hl state 4 5 5 6 2 S.s2 hst (by decide) (by decide) b1 b2
 have pl1:=(z01 (z1m hst) (show 4 ∈ toS by decide)).2.1
 have pl2:=(z01 (show 5 ∈ frS by decide) (z1Z n1)).2.1
 have hz : ∀ n,(zs n).length = n:=fun n=>by simp [zs]
 have hx : ∀ n,(xsL n).length = n:=fun n=>by simp [xsL]
 have hec : (expC c).length = c.b.length:=by simp [expC]
 have hpos:=List.length_pos_iff.2 q1
 have lens : (z1k z0d c state 4 5 (setC (l.take i) 5).b (setC (l.take i) 6).b (setC (l.take i) 2).s.toNat).tdi.length ≤ (z1k z0d c state 4 5 (setC (l.take i) 5).b (setC (l.take i) 6).b (setC (l.take i) 2).s.toNat).tms.length ∧
  (z1k z0d c state 4 5 (setC (l.take i) 5).b (setC (l.take i) 6).b (setC (l.take i) 2).s.toNat).want.length ≤ (z1k z0d c state 4 5 (setC (l.take i) 5).b (setC (l.take i) 6).b (setC (l.take i) 2).s.toNat).tms.length ∧
  (z1k z0d c state 4 5 (setC (l.take i) 5).b (setC (l.take i) 6).b (setC (l.take i) 2).s.toNat).tms.length ≤ 1000000:=by
  unfold z1k
  simp only [List.length_append,hz,hx,hec,List.length_singleton]
  omega
 have est : (z1k z0d c state 4 5 (setC (l.take i) 5).b (setC (l.take i) 6).b (setC (l.take i) 2).s.toNat).st = (setC (l.take i) 2).s.toNat:=rfl
 generalize z1k z0d c state 4 5 (setC (l.take i) 5).b (setC (l.take i) 6).b (setC (l.take i) 2).s.toNat = p at P1 lens est ⊢
 rw [← est] at P1
 obtain ⟨l1,l2,l3⟩:=lens
 have P3:=fun (z1 z2 z3 z4 z5 c1 c2 c3 c4 c5 c6 : AV) (Kx : Ex → St → Prop)=>pk3 (h:=h) (Kx:=Kx) (T:=p.tms) (D:=p.tdi) (W:=p.want) (fr:=(p.fr : Nat)) (st:=(p.st : Nat)) (z1:=z1) (z2:=z2) (z3:=z3) (z4:=z4) (z5:=z5) (c1:=c1) (c2:=c2) (c3:=c3) (c4:=c4) (c5:=c5) (c6:=c6) l1 l2 l3
 obtain ⟨k,s,cl,b',w,m⟩:=c
 dsimp only at h7 hg P1 ⊢
 subst h7
 simp only [show ((4 : Nat) : Int) = 4 from rfl,show ((5 : Nat) : Int) = 5 from rfl] at P1
 unfold padP z4I
 dsimp only
 simp only [z6E,go_sem,len2,hg,hilt,P1,P3]
end Go.Am
end
section
/- The reference: the parts of a program. -/
open Go
set_option linter.all false
namespace Go.Am
variable {h : Heap} {K : Post}
attribute [-go_sem] oEqa
theorem zsg (l : List Cmd) (i : Nat) (c : Cmd) (hi : l[i]? = some c) (hc : cmdF c = 0) (hl : l.length ≤ 1000000) (S : SetOk (l.take i)) (state : Nat) (hst : state ∈ stb) :
 z0c X z3V [ACs l,AI i,AI state] h K = K (.p (z4I (z0K z0d (l.take i) c state))) h []:=by
 cases z0M hc with
 | set h hs e=>exact z9V l i c hi (by omega) state
 | pad h0 h1 hb hl e=>exact z9V l i c hi h1 state
 | go h hs e=>exact zse l i c hi h hs state hst
 | idle h h0 h1 e=>exact zhJ l i c hi h h0 h1 state hst
 | scan h hs e=>
  rcases h with h | h
  ·exact zsf l i c hi h hs hl S state hst
  ·exact zsd l i c hi h hs hl S state hst
theorem zhN {pre : List Cmd} {c : Cmd} (S : SetOk pre) (hc : cmdF c = 0) : SetOk (pre ++ [c]):=by
 have K:=z0M hc
 refine ⟨?_,?_,fun k h1 h2=>?_⟩
 ·rw [z07]; split
  ·cases K with
   | set h hs e=>exact hs
   | pad h0 h1 hb hl e=>omega
   | go h hs e=>omega
   | idle h h0 h1 e=>omega
   | scan h hs e=>omega
  ·exact S.s1
 ·rw [z07]; split
  ·cases K with
   | set h hs e=>exact hs
   | pad h0 h1 hb hl e=>omega
   | go h hs e=>omega
   | idle h h0 h1 e=>omega
   | scan h hs e=>omega
  ·exact S.s2
 ·rw [z07]; split
  ·cases K with
   | set h hs e=>omega
   | pad h0 h1 hb hl e=>exact ⟨hb,hl⟩
   | go h hs e=>omega
   | idle h h0 h1 e=>omega
   | scan h hs e=>omega
  ·exact S.b1 k h1 h2
theorem zpM : SetOk []:=⟨rfl,rfl,fun k _ _=>⟨rfl,Nat.zero_le _⟩⟩
end Go.Am
end
section
/- The reference: the parts of a program,one by one. -/
open Go
set_option linter.all false
namespace Go.Am
variable {h : Heap} {K : Post}
def stAt (pre : List Cmd) (state : Nat) : List Cmd → Nat
 | []=>state
 | c :: r=>stAt (pre ++ [c]) (z0K z0d pre c state).st r
theorem z34 (c : Cmd) : ∀ (l pre : List Cmd) (state : Nat),z0o z0d pre state (l ++ [c]) = z0o z0d pre state l ++ [z0K z0d (pre ++ l) c (stAt pre state l)] ∧ stAt pre state (l ++ [c]) = (z0K z0d (pre ++ l) c (stAt pre state l)).st
 | [],pre,state=>by simp [z0o,stAt]
 | d :: l,pre,state=>by
  obtain ⟨a,b⟩:=z34 c l (pre ++ [d]) (z0K z0d pre d state).st
  have e : pre ++ [d] ++ l = pre ++ d :: l:=by rw [List.append_assoc]; rfl
  rw [e] at a b
  constructor
  ·simp only [List.cons_append,z0o]; rw [a]; rfl
  ·exact b
theorem zb5 : ∀ {l : List Cmd},z5b l = 0 → ∀ c ∈ l,cmdF c = 0
 | [],_,c,hc=>by cases hc
 | d :: l,h,c,hc=>by
  unfold z5b at h
  split at h
  ·rename_i h1; exact absurd h h1
  ·rename_i h1
   rcases List.mem_cons.1 hc with rfl | hc
   ·omega
   ·exact zb5 h c hc
theorem zaB {l : List Cmd} (hc : ∀ c ∈ l,cmdF c = 0) : ∀ k,k ≤ l.length → SetOk (l.take k) ∧ stAt [] 0 (l.take k) ∈ stb
 | 0,_=>⟨zpM,by show 0 ∈ stb; decide⟩
 | k + 1,hk=>by
  obtain ⟨S,T⟩:=zaB hc k (by omega)
  have hlt : k < l.length:=by omega
  have h0:=hc _ (List.getElem_mem hlt)
  rw [List.take_succ_eq_append_getElem hlt]
  refine ⟨zhN S h0,?_⟩
  rw [(z34 l[k] (l.take k) [] 0).2,List.nil_append]
  cases z0M h0 with
  | set h hs e=>rw [z2w z0d (by omega)]; exact T
  | pad h0 h1 hb hl e=>rw [z2w z0d h1]; exact T
  | go h hs e=>rw [z81 z0d h]; exact (z0v hs).1
  | idle h h0 h1 e=>rw [z4m z0d h]; show 1 ∈ stb; decide
  | scan h hs e=>
   unfold z0K
   rcases h with h | h
   ·rw [if_neg (by omega),if_neg (by omega),if_pos h]; exact (z0v S.s1).1
   ·rw [if_neg (by omega),if_neg (by omega),if_neg (by omega),if_pos h]; exact (z0v S.s2).1
abbrev APs (l : List Part) : AV:=.p (.sl (some 5) (l.map z4I))
set_option maxHeartbeats 2000000 in
theorem zpD (l : List Cmd) (hc : ∀ c ∈ l,cmdF c = 0) (hl : l.length ≤ 1000) : z0c X z9z [ACs l] h K = K (APs (z0o z0d [] 0 l)) h []:=by
 refine rule ?_
 rw [c_q03m rfl]
 simp only [zfn,go_sem]
 refine z0Z (fun k : Nat=>⟨[(0,ACs l),(3,.own h.length k 0 k),(4,AI (stAt [] 0 (l.take k))),(8,AI l.length),(9,AI k)],h ++ [.row (some 5) ((z0o z0d [] 0 (l.take k)).map z4I) 0],[]⟩) (fun k=>k ≤ l.length) (fun k=>l.length - k) 0 rfl (by omega) ?_
 intro k hk
 have hpl : ∀ j,j ≤ l.length → (z0o z0d [] 0 (l.take j)).length = j:=by
  intro j hj
  have : ∀ (l : List Cmd) (pre : List Cmd) (s : Nat),(z0o z0d pre s l).length = l.length:=by
   intro l
   induction l with
   | nil=>intro pre s; rfl
   | cons c l ih=>intro pre s; simp [z0o,ih]
  rw [this]; simp; omega
 have hlen : ((z0o z0d [] 0 (l.take k)).map z4I).length = k:=by rw [List.length_map,hpl k hk]
 rcases Nat.lt_or_ge k l.length with hlt | hge
 ·obtain ⟨S,T⟩:=zaB hc k hk
  have hi : l[k]? = some l[k]:=List.getElem?_eq_getElem hlt
  have h0:=hc _ (List.getElem_mem hlt)
  have w2 : IntKind.i64.wrap ((k : Int) + 1) = ((k + 1 : Nat) : Int):=z0m _ (by omega) (by omega)
  have hmx : k + 1 ≤ z0F:=by unfold z0F; omega
  have hp:=fun (h' : Heap) (K' : Post)=>zsg (h:=h') (K:=K') l k l[k] hi h0 (by omega) S _ T
  simp only [go_sem,hlt,hp,w2,hmx,hlen]
  refine ⟨k + 1,?_,by omega,by omega⟩
  obtain ⟨e1,e2⟩:=z34 l[k] (l.take k) [] 0
  rw [List.take_succ_eq_append_getElem hlt,e1,e2,List.nil_append,List.map_append]
  rfl
 ·obtain rfl : k = l.length:=by omega
  have hpe : (z0o z0d [] 0 l).length = l.length:=by have:=hpl l.length (Nat.le_refl _); rwa [List.take_length] at this
  simp only [go_sem,Nat.lt_irrefl,hlen,List.take_length,hpe]
  exact congrArg (fun x=>AV.p (PV.sl (some 5) x)) (List.take_of_length_le (by simp [hpe]))
end Go.Am
end
section
/- The reference: the signals of a program: three builders. -/
open Go
set_option linter.all false
namespace Go.Am
variable {h : Heap} {K : Post}
def b3 (h : Heap) (u1 : Bool) (s1 : List UInt8) (u2 : Bool) (s2 : List UInt8) (u3 : Bool) (s3 : List UInt8) (l : Heap) : Heap:=
 h ++ bldB u1 h.length s1.length :: .row none (z0k s1) 0 :: bldB u2 (h.length + 2) s2.length :: .row none (z0k s2) 0 :: bldB u3 (h.length + 4) s3.length :: .row none (z0k s3) 0 :: l
variable {u1 u2 u3 : Bool} {s1 s2 s3 t : List UInt8} {l : Heap}
theorem zdJ {n : Nat} : (b3 h u1 s1 u2 s2 u3 s3 l)[h.length + n]? = (bldB u1 h.length s1.length :: Obj.row none (z0k s1) 0 :: bldB u2 (h.length + 2) s2.length :: Obj.row none (z0k s2) 0 :: bldB u3 (h.length + 4) s3.length :: Obj.row none (z0k s3) 0 :: l)[n]?:=by
 unfold b3
 rw [List.getElem?_append_right (by omega),show h.length + n - h.length = n by omega]
theorem b3_h1 : zdE (b3 h u1 s1 u2 s2 u3 s3 l) u1 h.length s1:=⟨zdJ (n:=0),zdJ (n:=1)⟩
theorem b3_h2 : zdE (b3 h u1 s1 u2 s2 u3 s3 l) u2 (h.length + 2) s2:=⟨zdJ (n:=2),zdJ (n:=3)⟩
theorem b3_h3 : zdE (b3 h u1 s1 u2 s2 u3 s3 l) u3 (h.length + 4) s3:=⟨zdJ (n:=4),zdJ (n:=5)⟩
theorem b3_e1 : held (b3 h u1 s1 u2 s2 u3 s3 l) h.length t = b3 h true t u2 s2 u3 s3 l:=by
 unfold held b3
 rw [List.set_append_right _ _ (by omega),List.set_append_right _ _ (by omega),Nat.sub_self,show h.length + 1 - h.length = 1 by omega]
 rfl
theorem b3_e2 : held (b3 h u1 s1 u2 s2 u3 s3 l) (h.length + 2) t = b3 h u1 s1 true t u3 s3 l:=by
 unfold held b3
 rw [List.set_append_right _ _ (by omega),List.set_append_right _ _ (by omega),show h.length + 2 - h.length = 2 by omega,show h.length + 2 + 1 - h.length = 3 by omega]
 rfl
theorem b3_e3 : held (b3 h u1 s1 u2 s2 u3 s3 l) (h.length + 4) t = b3 h u1 s1 u2 s2 true t l:=by
 unfold held b3
 rw [List.set_append_right _ _ (by omega),List.set_append_right _ _ (by omega),show h.length + 4 - h.length = 4 by omega,show h.length + 4 + 1 - h.length = 5 by omega]
 rfl
theorem b3_ws1 (hm : s1.length + t.length ≤ 200000000000) : z0c X z2W [.ref h.length 0,AS t] (b3 h u1 s1 u2 s2 u3 s3 l) K = K (.tup [AI t.length,.nili]) (b3 h true (s1 ++ t) u2 s2 u3 s3 l) []:=by
 rw [z3B b3_h1 hm,b3_e1]
theorem b3_ws2 (hm : s2.length + t.length ≤ 200000000000) : z0c X z2W [.ref (h.length + 2) 0,AS t] (b3 h u1 s1 u2 s2 u3 s3 l) K = K (.tup [AI t.length,.nili]) (b3 h u1 s1 true (s2 ++ t) u3 s3 l) []:=by
 rw [z3B b3_h2 hm,b3_e2]
theorem b3_ws3 (hm : s3.length + t.length ≤ 200000000000) : z0c X z2W [.ref (h.length + 4) 0,AS t] (b3 h u1 s1 u2 s2 u3 s3 l) K = K (.tup [AI t.length,.nili]) (b3 h u1 s1 u2 s2 true (s3 ++ t) l) []:=by
 rw [z3B b3_h3 hm,b3_e3]
theorem ztg : (b3 h u1 s1 u2 s2 u3 s3 l).length = h.length + (l.length + 6):=by unfold b3; simp
theorem b3_app {l2 : Heap} : b3 h u1 s1 u2 s2 u3 s3 l ++ l2 = b3 h u1 s1 u2 s2 u3 s3 (l ++ l2):=by unfold b3; simp
theorem b3_get {n : Nat} : (b3 h u1 s1 u2 s2 u3 s3 l)[h.length + (n + 6)]? = l[n]?:=zdJ
theorem b3_set {n : Nat} {o : Obj} : (b3 h u1 s1 u2 s2 u3 s3 l).set (h.length + (n + 6)) o = b3 h u1 s1 u2 s2 u3 s3 (l.set n o):=by
 unfold b3
 rw [List.set_append_right _ _ (by omega),show h.length + (n + 6) - h.length = n + 6 by omega]
 rfl
theorem zuO {n : Nat} : (b3 h u1 s1 u2 s2 u3 s3 l).take (h.length + (n + 6)) = b3 h u1 s1 u2 s2 u3 s3 (l.take n):=by
 unfold b3
 rw [List.take_length_add_append]
 rfl
theorem zq3 : (b3 h u1 s1 u2 s2 u3 s3 l).take h.length = h:=by unfold b3; exact List.take_left
theorem z64 {hp : Heap} {id id' : Nat} {u : Bool} {s s' : List UInt8} (H : zdE hp u id' s') (h1 : id' ≠ id + 1) (h2 : id' + 1 ≠ id + 1) : zdE (z2M hp id s) u id' s':=by
 unfold z2M
 split
 ·exact H
 ·exact ⟨by rw [List.getElem?_set_ne (by omega)]; exact H.1,by rw [List.getElem?_set_ne (by omega)]; exact H.2⟩
theorem z8I {hp : Heap} {id n : Nat} {s : List UInt8} (hn : n ≤ id + 1) : (z2M hp id s).take n = hp.take n:=by
 unfold z2M
 split
 ·rfl
 ·exact List.take_set_of_le (by omega)
end Go.Am
end
section
/- The reference: the signals of a program. -/
open Go
set_option linter.all false
namespace Go.Am
variable {h : Heap} {K : Post}
attribute [-go_sem] oEqa
section
variable {u1 u2 u3 : Bool} {s1 s2 s3 : List UInt8} {l : Heap} {o : Obj}
theorem zuM : (b3 h u1 s1 u2 s2 u3 s3 l)[h.length + 6]? = l[0]?:=b3_get (n:=0)
theorem zuN : (b3 h u1 s1 u2 s2 u3 s3 l).set (h.length + 6) o = b3 h u1 s1 u2 s2 u3 s3 (l.set 0 o):=b3_set (n:=0)
theorem zeU : (b3 h u1 s1 u2 s2 u3 s3 l).take (h.length + 6) = b3 h u1 s1 u2 s2 u3 s3 (l.take 0):=zuO (n:=0)
end
theorem z7Z {β : Type} (f : Part → List β) (ps : List Part) {k : Nat} (hk : k < ps.length) : ((ps.take k).flatMap f).length + (f ps[k]).length ≤ (ps.flatMap f).length:=by
 have e : ps.flatMap f = (ps.take (k + 1)).flatMap f ++ (ps.drop (k + 1)).flatMap f:=by rw [← List.flatMap_append,List.take_append_drop]
 rw [e,List.take_succ_eq_append_getElem hk,List.flatMap_append,List.length_append,List.length_append]
 simp
theorem z9F : ∀ (l pre : List Cmd) (s : Nat),(z0o z0d pre s l).length = l.length
 | [],_,_=>rfl
 | c :: l,pre,s=>by simp [z0o,z9F l]
set_option maxHeartbeats 2000000 in
theorem zem (l : List Cmd) (hc : ∀ c ∈ l,cmdF c = 0) (hl : l.length ≤ 1000) (hT : (sigT (z0o z0d [] 0 l)).length ≤ 1000000000) (hI : (sigI (z0o z0d [] 0 l)).length ≤ 1000000000) (hW : (sigW (z0o z0d [] 0 l)).length ≤ 1000000000) : z0c X z7R [ACs l] h K = K (.tup [AS (sigT (z0o z0d [] 0 l)),AS (sigI (z0o z0d [] 0 l)),AS (sigW (z0o z0d [] 0 l))]) h []:=by
 refine rule ?_
 rw [c_q03a rfl]
 have hp:=fun (h' : Heap) (K' : Post)=>zpD (h:=h') (K:=K') l hc hl
 simp only [zfk,go_sem,hp]
 have hpl:=z9F l [] 0
 generalize z0o z0d [] 0 l = ps at hT hI hW hpl ⊢
 refine z0Z (fun k : Nat=>⟨[(5,.ref h.length 0),(6,.ref (h.length + 2) 0),(7,.ref (h.length + 4) 0),(11,APs ps),(12,AI ps.length),(13,AI k)],b3 h (decide (0 < k)) (sigT (ps.take k)) (decide (0 < k)) (sigI (ps.take k)) (decide (0 < k)) (sigW (ps.take k)) [],[(h.length + 4,h.length + 6),(h.length + 2,h.length + 4),(h.length,h.length + 2)]⟩) (fun k=>k ≤ ps.length) (fun k=>ps.length - k) 0 rfl (by omega) ?_
 intro k hk
 rcases Nat.lt_or_ge k ps.length with hlt | hge
 ·have hg:=z18 z4I hlt
  have w2 : IntKind.i64.wrap ((k : Int) + 1) = ((k + 1 : Nat) : Int):=z0m _ (by omega) (by omega)
  have m1 : (sigT (ps.take k)).length + (ps[k].tms).length ≤ 200000000000:=by have:=z7Z Part.tms ps hlt; unfold sigT at *; omega
  have m2 : (sigI (ps.take k)).length + (ps[k].tdi).length ≤ 200000000000:=by have:=z7Z Part.tdi ps hlt; unfold sigI at *; omega
  have m3 : (sigW (ps.take k)).length + (ps[k].want).length ≤ 200000000000:=by have:=z7Z Part.want ps hlt; unfold sigW at *; omega
  simp only [go_sem,hlt,hg,w2,b3_app,ztg,zuM,zuN,zeU,b3_ws1 m1,b3_ws2 m2,b3_ws3 m3]
  refine ⟨k + 1,?_,by omega,by omega⟩
  obtain ⟨e1,e2,e3⟩:=z7i (ps.take k) ps[k]
  rw [List.take_succ_eq_append_getElem hlt,e1,e2,e3]
  simp
 ·obtain rfl : k = ps.length:=by omega
  have H1:=fun (u : Bool) (s1 s2 s3 : List UInt8)=>b3_h1 (h:=h) (u1:=u) (s1:=s1) (u2:=u) (s2:=s2) (u3:=u) (s3:=s3) (l:=[])
  have H2:=fun (u : Bool) (s1 s2 s3 : List UInt8)=>b3_h2 (h:=h) (u1:=u) (s1:=s1) (u2:=u) (s2:=s2) (u3:=u) (s3:=s3) (l:=[])
  have H3:=fun (u : Bool) (s1 s2 s3 : List UInt8)=>b3_h3 (h:=h) (u1:=u) (s1:=s1) (u2:=u) (s2:=s2) (u3:=u) (s3:=s3) (l:=[])
  have d1 : h.length + 1 ≤ h.length + 6:=by omega
  have d2 : h.length + 2 + 1 ≤ h.length + 6:=by omega
  have d3 : h.length + 4 + 1 ≤ h.length + 6:=by omega
  simp only [go_sem,Nat.lt_irrefl,List.take_length,ztg,List.length_nil,Nat.zero_add,d1,d2,d3,zeU,List.take_nil]
  rw [z8C (H1 _ _ _ _) (by omega)]
  rw [z8C (z64 (H2 _ _ _ _) (by omega) (by omega)) (by omega)]
  rw [z8C (z64 (z64 (H3 _ _ _ _) (by omega) (by omega)) (by omega) (by omega)) (by omega)]
  simp only [go_sem]
  have ht : (z2M (z2M (z2M (b3 h (decide (0 < ps.length)) (sigT ps) (decide (0 < ps.length)) (sigI ps) (decide (0 < ps.length)) (sigW ps) []) h.length (sigT ps)) (h.length + 2) (sigI ps)) (h.length + 4) (sigW ps)).take h.length = h:=by
   rw [z8I (by omega),z8I (by omega),z8I (by omega),zq3]
  revert ht
  generalize z2M _ (h.length + 4) (sigW ps) = hp1
  intro ht
  have n4 : ¬ (h.length + 4 < h.length):=by omega
  have n2 : ¬ (h.length + 2 < h.length):=by omega
  have n0 : ¬ (h.length < h.length):=by omega
  have e3 : z27 3 [(h.length + 4,h.length + 6),(h.length + 2,h.length + 4),(h.length,h.length + 2)] h.length = h.length:=by simp only [z27,bump,List.foldl_cons,List.foldl_nil,n4,n2,n0,if_false]; try simp [n4,n2]
  have e4 : z1s [(h.length + 4,h.length + 6),(h.length + 2,h.length + 4),(h.length,h.length + 2)] h.length = true:=by simp [z1s]
  simp only [retK,go_sem,e3,e4,ht]
  simp
end Go.Am
end
section
/- The reference: the fault of a program. -/
open Go
set_option linter.all false
namespace Go.Am
variable {h : Heap} {K : Post}
attribute [-go_sem] oEqa
theorem zrD {pre : List Cmd} {c : Cmd} {state : Nat} (S : SetOk pre) (hst : state ∈ stb) (hc : cmdF c = 0) :
 (z0K z0d pre c state).tms.length ≤ 20008 ∧ (z0K z0d pre c state).tdi.length = (z0K z0d pre c state).tms.length ∧ (z0K z0d pre c state).want.length = (z0K z0d pre c state).tms.length:=by
 have hz : ∀ n,(zs n).length = n:=fun n=>by simp [zs]
 have hx : ∀ n,(xsL n).length = n:=fun n=>by simp [xsL]
 cases z0M hc with
 | set h hs e=>rw [z2w z0d (by omega)]; exact ⟨Nat.zero_le _,rfl,rfl⟩
 | pad h0 h1 hb hl e=>rw [z2w z0d h1]; exact ⟨Nat.zero_le _,rfl,rfl⟩
 | go h hs e=>
  rw [z81 z0d h]
  have:=(z01 (z1m hst) (z1Z (z0v hs).1)).2.1
  exact ⟨by show (z0d state c.s.toNat).length ≤ _; omega,hz _,hx _⟩
 | idle h h0 h1 e=>
  rw [z4m z0d h]
  have:=(z01 (z1m hst) (show 1 ∈ toS by decide)).2.1
  refine ⟨?_,?_,?_⟩ <;> simp only [List.length_append,hz,hx] <;> omega
 | scan h hs e=>
  obtain ⟨q1,q2,q3,q4,q5,q6⟩:=z2i hs
  have hpos:=List.length_pos_iff.2 q1
  have he : (expC c).length = c.b.length:=by simp [expC]
  have key : ∀ (sh ex : Nat) (hd tl : List UInt8) (en : Nat),sh ∈ toS → ex ∈ frS → en ∈ stb → hd.length ≤ 2000 → tl.length ≤ 2000 →
   (padP (z1k z0d c state sh ex hd tl en)).tms.length ≤ 20008 ∧ (padP (z1k z0d c state sh ex hd tl en)).tdi.length = (padP (z1k z0d c state sh ex hd tl en)).tms.length ∧ (padP (z1k z0d c state sh ex hd tl en)).want.length = (padP (z1k z0d c state sh ex hd tl en)).tms.length:=by
   intro sh ex hd tl en h1 h2 h3 h4 h5
   have p1:=(z01 (z1m hst) h1).2.1
   have p2:=(z01 h2 (z1Z h3)).2.1
   rw [z6b z0d c state sh ex hd tl en q1]
   refine ⟨?_,?_,?_⟩ <;> simp only [List.length_append,hz,hx,he,List.length_singleton] <;> omega
  rcases h with h | h
  ·have ep : z0K z0d pre c state = padP (z1k z0d c state 11 12 (setC pre 3).b (setC pre 4).b (setC pre 1).s.toNat):=by
    unfold z0K; rw [if_neg (by omega),if_neg (by omega),if_pos h]
   rw [ep]
   exact key _ _ _ _ _ (by decide) (by decide) (z0v S.s1).1 (S.b1 3 (by omega) (by omega)).2 (S.b1 4 (by omega) (by omega)).2
  ·have ep : z0K z0d pre c state = padP (z1k z0d c state 4 5 (setC pre 5).b (setC pre 6).b (setC pre 2).s.toNat):=by
    unfold z0K; rw [if_neg (by omega),if_neg (by omega),if_neg (by omega),if_pos h]
   rw [ep]
   exact key _ _ _ _ _ (by decide) (by decide) (z0v S.s2).1 (S.b1 5 (by omega) (by omega)).2 (S.b1 6 (by omega) (by omega)).2
theorem zes {l : List Cmd} (hc : ∀ c ∈ l,cmdF c = 0) : ∀ k,k ≤ l.length → (sigT (z0o z0d [] 0 (l.take k))).length ≤ k * 20008 ∧ (sigI (z0o z0d [] 0 (l.take k))).length = (sigT (z0o z0d [] 0 (l.take k))).length ∧ (sigW (z0o z0d [] 0 (l.take k))).length = (sigT (z0o z0d [] 0 (l.take k))).length
 | 0,_=>⟨Nat.zero_le _,rfl,rfl⟩
 | k + 1,hk=>by
  obtain ⟨a,b,c⟩:=zes hc k (by omega)
  obtain ⟨S,T⟩:=zaB hc k (by omega)
  have hlt : k < l.length:=by omega
  obtain ⟨x,y,z⟩:=zrD S T (hc _ (List.getElem_mem hlt))
  rw [List.take_succ_eq_append_getElem hlt,(z34 l[k] (l.take k) [] 0).1,List.nil_append]
  obtain ⟨e1,e2,e3⟩:=z7i (z0o z0d [] 0 (l.take k)) (z0K z0d (l.take k) l[k] (stAt [] 0 (l.take k)))
  rw [e1,e2,e3,List.length_append,List.length_append,List.length_append]
  refine ⟨?_,by omega,by omega⟩
  rw [Nat.add_mul]; omega
theorem zdx {l : List Cmd} (hc : ∀ c ∈ l,cmdF c = 0) (hl : l.length ≤ 40) : (sigT (z0o z0d [] 0 l)).length ≤ 1000000 ∧ (sigI (z0o z0d [] 0 l)).length = (sigT (z0o z0d [] 0 l)).length ∧ (sigW (z0o z0d [] 0 l)).length = (sigT (z0o z0d [] 0 l)).length:=by
 obtain ⟨a,b,c⟩:=zes hc l.length (Nat.le_refl _)
 rw [List.take_length] at a b c
 have : l.length * 20008 ≤ 40 * 20008:=Nat.mul_le_mul_right _ hl
 exact ⟨by omega,b,c⟩
theorem s_SigW (l : List Cmd) (hc : ∀ c ∈ l,cmdF c = 0) (hl : l.length ≤ 1000) : z0c X z7R [ACs l] h K = K (.tup [AS (sigT (z0o z0d [] 0 l)),AS (sigI (z0o z0d [] 0 l)),AS (sigW (z0o z0d [] 0 l))]) h []:=by
 obtain ⟨a,b,c⟩:=zes hc l.length (Nat.le_refl _)
 rw [List.take_length] at a b c
 have : l.length * 20008 ≤ 1000 * 20008:=Nat.mul_le_mul_right _ hl
 exact zem l hc (by omega) (by omega) (by omega) (by omega)
theorem z1F : ∀ {l : List Cmd},(∀ c ∈ l,cmdF c = 0) → z5b l = 0
 | [],_=>rfl
 | d :: l,h=>by
  unfold z5b
  rw [if_neg (by rw [h d (List.mem_cons_self ..)]; simp)]
  exact z1F fun c hc=>h c (List.mem_cons_of_mem _ hc)
theorem z78 : ∀ {l : List Cmd} {k : Nat} (hk : k < l.length),(∀ c ∈ l.take k,cmdF c = 0) → cmdF l[k] ≠ 0 → z5b l = cmdF l[k]
 | d :: l,0,hk,_,h2=>by unfold z5b; rw [if_pos (by simpa using h2)]; rfl
 | d :: l,k + 1,hk,h1,h2=>by
  unfold z5b
  rw [if_neg (by rw [h1 d (by simp)]; simp)]
  exact z78 (l:=l) (k:=k) (by simpa using hk) (fun c hc=>h1 c (by simp [hc])) (by simpa using h2)
set_option maxHeartbeats 2000000 in
theorem z6X (l : List Cmd) (hok : ∀ c ∈ l,CmdOk c) (hl : l.length ≤ 1000000) : z0c X z7Q [ACs l] h K = K (AI (z1K z0d l : Nat)) h []:=by
 refine rule ?_
 rw [c_q033 rfl]
 by_cases hbig : 1000 < l.length
 ·have h1 : (1000 : Int) < (l.length : Int):=by omega
  have e : z1K z0d l = 2:=by unfold z1K; rw [if_pos hbig]
  rw [e]
  simp only [zbP,go_sem,h1]
 have h1 : ¬ (1000 : Int) < (l.length : Int):=by omega
 simp only [zbP,go_sem,h1]
 refine z0Z (fun k : Nat=>⟨[(0,ACs l),(12,ACs l),(13,AI l.length),(14,AI k)],h,[]⟩) (fun k=>k ≤ l.length ∧ ∀ c ∈ l.take k,cmdF c = 0) (fun k=>l.length - k) 0 rfl ⟨Nat.zero_le _,by simp⟩ ?_
 rintro k ⟨hk,hn⟩
 rcases Nat.lt_or_ge k l.length with hlt | hge
 ·have hg:=z18 cmdP hlt
  have w2 : IntKind.i64.wrap ((k : Int) + 1) = ((k + 1 : Nat) : Int):=z0m _ (by omega) (by omega)
  have hf:=fun (h' : Heap) (K' : Post)=>z8V (h:=h') (K:=K') l[k] (hok _ (List.getElem_mem hlt))
  by_cases h0 : cmdF l[k] = 0
  ·have h0' : ((cmdF l[k] : Nat) : Int) = 0:=by omega
   simp only [go_sem,hlt,hg,w2,hf,h0']
   refine ⟨k + 1,rfl,⟨by omega,?_⟩,by omega⟩
   intro c hc
   rw [List.take_succ_eq_append_getElem hlt] at hc
   rcases List.mem_append.1 hc with hc | hc
   ·exact hn c hc
   ·obtain rfl : c = l[k]:=by simpa using hc
    exact h0
  ·have h0' : ¬ ((cmdF l[k] : Nat) : Int) = 0:=by omega
   simp only [go_sem,hlt,hg,w2,hf,h0']
   have e : z1K z0d l = cmdF l[k]:=by
    unfold z1K
    rw [if_neg (by omega),z78 hlt hn h0,if_pos h0]
   rw [e]
 ·obtain rfl : k = l.length:=by omega
  rw [List.take_length] at hn
  have hs:=fun (h' : Heap) (K' : Post)=>s_SigW (h:=h') (K:=K') l hn (by omega)
  have e : z1K z0d l = if 20000 < (sigT (z0o z0d [] 0 l)).length then 2 else 0:=by
   unfold z1K
   rw [if_neg (by omega),z1F hn,if_neg (by simp)]
  rw [e]
  by_cases h2 : 20000 < (sigT (z0o z0d [] 0 l)).length
  ·have h2' : (20000 : Int) < ((sigT (z0o z0d [] 0 l)).length : Int):=by omega
   simp only [go_sem,Nat.lt_irrefl,Int.lt_irrefl,hs,h2,h2']
  ·have h2' : ¬ (20000 : Int) < ((sigT (z0o z0d [] 0 l)).length : Int):=by omega
   simp only [go_sem,Nat.lt_irrefl,Int.lt_irrefl,hs,h2,h2']
theorem z8D (l : List Cmd) (hok : ∀ c ∈ l,CmdOk c) (hl : l.length ≤ 40) : z0c X z7Q [ACs l] h K = K (AI (z1K z0d l : Nat)) h []:=z6X l hok (by omega)
end Go.Am
end
section
/- The reference: states,bits that are shifted. -/
open Go
set_option linter.all false
namespace Go.Am
variable {h : Heap} {K : Post}
attribute [-go_sem] oEqa
end Go.Am
end
section
/- The reference: StatesOf,ShiftedBits. -/
open Go
set_option linter.all false
namespace Go.Am
variable {h : Heap} {K : Post}
attribute [-go_sem] oEqa
end Go.Am
end
section
/- The program: a program that is played. -/
open Go
set_option linter.all false
namespace Go.Am
variable {h l2 : Heap} {K : Post} {r : Run} {n : Nat} {o : Obj} {x : Esc}
attribute [-go_sem] oEqa splice
attribute [local go_sem] z4U z9I z6R z6S z4p z4C
theorem zej {l : Heap} : (rh h r l)[h.length + 6]? = l[0]?:=z6R (n:=0)
theorem zek {l : Heap} : (rh h r l).set (h.length + 6) o = rh h r (l.set 0 o):=z6S (n:=0)
theorem zaJ {l : Heap} : (rh h r l).take (h.length + 6) = rh h r (l.take 0):=z4p (n:=0)
attribute [local go_sem] zej zek zaJ
structure RunI (r : Run) (k : Nat) : Prop where
 R : RunOk r
 N : RunN r
 st : r.st ∈ stb
 S : SetR r.se
 sl : r.sts.length = k
 fl : r.frs.length = k
theorem zuz (w : Bool) : RunI (run0 w) 0:=⟨⟨Nat.le_refl _,Nat.le_refl _,Nat.le_refl _⟩,⟨Nat.le_refl _,Nat.le_refl _⟩,by show 0 ∈ stb; decide,⟨rfl,rfl,Nat.zero_le _,Nat.zero_le _,Nat.zero_le _,Nat.zero_le _⟩,rfl,rfl⟩
theorem zsm {s : Sett} {c : Cmd} (S : SetR s) (hc : cmdF c = 0) (h1 : 1 ≤ c.k ∧ c.k ≤ 6) : SetR (s.put c):=by
 have hb : c.k ≤ 2 → z05 c.s = true:=fun h=>by
  cases z0M hc with
  | set h hs e=>exact hs
  | pad h0 h1 hb hl e=>omega
  | go h hs e=>omega
  | idle h h0 h1 e=>omega
  | scan h hs e=>omega
 have hp : 3 ≤ c.k → c.b.length ≤ 2000:=fun h=>by
  cases z0M hc with
  | set h hs e=>omega
  | pad h0 h1 hb hl e=>exact hl
  | go h hs e=>omega
  | idle h h0 h1 e=>omega
  | scan h hs e=>omega
 obtain ⟨s1,s2,a1,a2,a3,a4⟩:=S
 unfold Sett.put
 split
 ·exact ⟨hb (by omega),s2,a1,a2,a3,a4⟩
 split
 ·exact ⟨s1,hb (by omega),a1,a2,a3,a4⟩
 split
 ·exact ⟨s1,s2,hp (by omega),a2,a3,a4⟩
 split
 ·exact ⟨s1,s2,a1,hp (by omega),a3,a4⟩
 split
 ·exact ⟨s1,s2,a1,a2,hp (by omega),a4⟩
 ·exact ⟨s1,s2,a1,a2,a3,hp (by omega)⟩
theorem zdg {k : Nat} (I : RunI r k) {c : Cmd} (hc : cmdF c = 0) : RunI (r.step z0d c) (k + 1) ∧ (r.step z0d c).ck ≤ r.ck + 20016:=by
 obtain ⟨R,N,st,S,sl,fl⟩:=I
 have setf : 1 ≤ c.k ∧ c.k ≤ 6 → RunI (r.step z0d c) (k + 1) ∧ (r.step z0d c).ck ≤ r.ck + 20016:=fun h1=>by
  rw [z13 z0d h1]
  exact ⟨⟨⟨R.t,R.i,R.w⟩,N,st,zsm S hc h1,by simp [sl],by simp [fl]⟩,by dsimp only; omega⟩
 cases z0M hc with
 | set h hs e=>exact setf (by omega)
 | pad h0 h1 hb hl e=>exact setf ⟨by omega,h1⟩
 | go hk hs e=>
  rw [z4t z0d hk]
  obtain ⟨g1,g2,g3,g4,g5,g6,_,_⟩:=z0x z0d r c.s.toNat
  obtain ⟨n1,n2⟩:=z0v hs
  have R1:=z38 (tov:=c.s.toNat) R
  have N1:=z63 (tov:=c.s.toNat) N
  have pl:=(z01 (z1m st) (z1Z n1)).2.1
  refine ⟨⟨⟨R1.t,R1.i,R1.w⟩,N1,?_,?_,?_,?_⟩,?_⟩
  ·show (r.go z0d c.s.toNat).st ∈ stb; rw [g2]; exact n1
  ·show SetR (r.go z0d c.s.toNat).se; rw [g1]; exact S
  ·simp [g3,sl]
  ·simp [g4,fl]
  ·show (r.go z0d c.s.toNat).ck ≤ _; rw [zdX]; omega
 | idle hk h0 h1 e=>
  rw [z1I z0d hk]
  obtain ⟨g1,g2,g3,g4,g5,g6,g7,g8⟩:=z0x z0d r 1
  obtain ⟨q1,q2,q3,q4,q5,q6,q7,q8⟩:=z1L (r.go z0d 1) (List.replicate c.cl.toNat (48,48,120))
  have R1:=z2y (L:=List.replicate c.cl.toNat (48,48,120)) (z38 (tov:=1) R)
  have N1:=z63 (tov:=1) N
  have pl:=(z01 (z1m st) (show 1 ∈ toS by decide)).2.1
  refine ⟨⟨⟨R1.t,R1.i,R1.w⟩,?_,?_,?_,?_,?_⟩,?_⟩
  ·obtain ⟨x,y⟩:=N1
   exact ⟨by show Run.ni (Run.clk _ _) ≤ Run.ck (Run.clk _ _); rw [q7,q6]; omega,by show Run.nd (Run.clk _ _) ≤ Run.ck (Run.clk _ _); rw [q8,q6]; omega⟩
  ·show Run.st (Run.clk _ _) ∈ stb; rw [q2,g2]; decide
  ·show SetR (Run.se (Run.clk _ _)); rw [q1,g1]; exact S
  ·simp [q3,g3,sl]
  ·simp [q4,g4,fl]
  ·show Run.ck (Run.clk _ _) ≤ _; rw [q6,zdX,List.length_replicate]; omega
 | scan hk hs e=>
  rw [z2a z0d hk]
  obtain ⟨g3,g4,g1⟩:=zaQ (r:=r) c
  obtain ⟨q1,q2,q3,q4,q5,q6⟩:=z2i hs
  have key : ∀ (sh ex : Nat) (en : Int) (hd tl : List UInt8) (r2 : Run),sh ∈ toS → ex ∈ frS → z05 en = true → hd.length ≤ 2000 → tl.length ≤ 2000 → RunOk r2 → r2.ck = (r.go z0d sh).ck → r2.ni ≤ r2.ck + (hd ++ c.b ++ tl).length → r2.nd ≤ r2.ck + (hd ++ c.b ++ tl).length →
   r.scn z0d c = Run.go z0d { Run.clk r2 (z0L c hd (hd ++ c.b ++ tl)) with st:=ex } en.toNat → RunI { r.scn z0d c with sts:=(r.scn z0d c).sts ++ [(r.scn z0d c).st],frs:=(r.scn z0d c).frs ++ [r.scnF z0d c] } (k + 1) ∧ (r.scn z0d c).ck ≤ r.ck + 20016:=by
   intro sh ex en hd tl r2 m1 m2 m3 m4 m5 R2 m6 m7 m8 e
   obtain ⟨n1,n2⟩:=z0v m3
   have R3:=z2y (L:=z0L c hd (hd ++ c.b ++ tl)) R2
   have R4:=z38 (r:={ Run.clk r2 (z0L c hd (hd ++ c.b ++ tl)) with st:=ex }) (tov:=en.toNat) ⟨R3.t,R3.i,R3.w⟩
   have N4:=z63 (r:={ Run.clk r2 (z0L c hd (hd ++ c.b ++ tl)) with st:=ex }) (tov:=en.toNat) (by
    obtain ⟨_,_,_,_,_,z1,z2,z3⟩:=z1L r2 (z0L c hd (hd ++ c.b ++ tl))
    have z4:=z1X c hd (hd ++ c.b ++ tl)
    exact ⟨by show Run.ni (Run.clk _ _) ≤ Run.ck (Run.clk _ _); omega,by show Run.nd (Run.clk _ _) ≤ Run.ck (Run.clk _ _); omega⟩)
   have st4:=(z0x z0d { Run.clk r2 (z0L c hd (hd ++ c.b ++ tl)) with st:=ex } en.toNat).2.1
   have ck4:=zdX (r:={ Run.clk r2 (z0L c hd (hd ++ c.b ++ tl)) with st:=ex }) (tov:=en.toNat)
   have ck3:=zb2 (r:=r2) (L:=z0L c hd (hd ++ c.b ++ tl))
   have ck2:=zdX (r:=r) (tov:=sh)
   have p1:=(z01 (z1m st) m1).2.1
   have p2:=(z01 m2 (z1Z n1)).2.1
   have z4:=z1X c hd (hd ++ c.b ++ tl)
   simp only [List.length_append] at z4
   rw [← e] at R4 N4 st4 ck4
   refine ⟨⟨⟨R4.t,R4.i,R4.w⟩,N4,by show (r.scn z0d c).st ∈ stb; rw [st4]; exact n1,by show SetR (r.scn z0d c).se; rw [g1]; exact S,by simp [g3,sl],by simp [g4,fl]⟩,?_⟩
   dsimp only at ck4
   omega
  have N1:=fun sh=>z63 (tov:=sh) N
  have R1:=fun sh=>z38 (tov:=sh) R
  rcases hk with h7 | h8
  ·refine key 11 12 r.se.e1.s r.se.h1.b r.se.t1.b { r.go z0d 11 with ni:=(r.go z0d 11).ni + (r.se.h1.b ++ c.b ++ r.se.t1.b).length } (by decide) (by decide) S.s1 S.h1 S.t1 ⟨(R1 11).t,(R1 11).i,(R1 11).w⟩ rfl ?_ ?_ (zaa h7).1
   ·have:=(N1 11).1; dsimp only; omega
   ·have:=(N1 11).2; dsimp only; omega
  ·refine key 4 5 r.se.e2.s r.se.h2.b r.se.t2.b { r.go z0d 4 with nd:=(r.go z0d 4).nd + (r.se.h2.b ++ c.b ++ r.se.t2.b).length } (by decide) (by decide) S.s2 S.h2 S.t2 ⟨(R1 4).t,(R1 4).i,(R1 4).w⟩ rfl ?_ ?_ (z9Z h8).1
   ·have:=(N1 4).1; dsimp only; omega
   ·have:=(N1 4).2; dsimp only; omega
theorem zpF : z0c X z7X [] h K = K (.p (.agg [eI 1,eI 1,eI 0,.str [],.str [],.str [],eI 2,eI 1,eI 0,.str [],.str [],.str [],eI 3,eI 0,eI 0,.str [],.str [],.str [],eI 4,eI 0,eI 0,.str [],.str [],.str [],eI 5,eI 0,eI 0,.str [],.str [],.str [],eI 6,eI 0,eI 0,.str [],.str [],.str []])) h []:=by
 refine rule ?_
 rw [c_q06r rfl]
 simp only [zk5,go_sem,splice]
set_option maxHeartbeats 4000000 in
theorem zgr (l : List Cmd) (hc : ∀ c ∈ l,cmdF c = 0) (hl : l.length ≤ 1000) (p : AV) (w : Bool) (hp : (p = .nilp ∧ w = false) ∨ (∃ i,p = .ref i 0) ∧ w = true) :
 z0c X z2B [ACs l,p] h K = K (.ref (h.length + 5) 0) (rh h ((run0 w).play z0d l) []) []:=by
 refine rule ?_
 have main : ∀ Kx : Ex → St → Prop,(∀ r,(run0 w).play z0d l = r → Kx .ret ⟨[(4,.ref (h.length + 5) 0)],rh h r [],[]⟩) → z1z (z0c X) X.gl (.scope z2u) (z02 0 (seqN (z0c X) X.gl z4j Kx)) [(5,.ref (h.length + 5) 0),(13,ACs l),(14,AI l.length),(15,AI 0)] (rh h (run0 w) []) []:=by
  intro Kx hK
  refine z0Z (fun t : Nat × Run=>⟨[(5,.ref (h.length + 5) 0),(13,ACs l),(14,AI l.length),(15,AI t.1)],rh h t.2 [],[]⟩) (fun t=>t.1 ≤ l.length ∧ RunI t.2 t.1 ∧ t.2.ck ≤ 50000 ∧ (run0 w).play z0d l = t.2.play z0d (l.drop t.1)) (fun t=>l.length - t.1) (0,run0 w) rfl ⟨Nat.zero_le _,zuz w,Nat.zero_le _,rfl⟩ ?_
  rintro ⟨k,r⟩ ⟨hk,I,hck,hpl⟩
  dsimp only at hk I hck hpl ⊢
  rcases Nat.lt_or_ge k l.length with hlt | hge
  ·have hg:=z18 cmdP hlt
   have w2 : IntKind.i64.wrap ((k : Int) + 1) = ((k + 1 : Nat) : Int):=z0m _ (by omega) (by omega)
   have hdr : l.drop k = l[k] :: l.drop (k + 1):=(List.getElem_cons_drop hlt).symm
   rw [hdr] at hpl
   have hpc : ∀ (c : Cmd) (L : List Cmd),r.play z0d (c :: L) = if 20000 < r.ck then r else (r.step z0d c).play z0d L:=fun c L=>rfl
   rw [hpc] at hpl
   have h0:=hc _ (List.getElem_mem hlt)
   by_cases hb : 20000 < r.ck
   ·have hb' : (20000 : Int) < (r.ck : Int):=by omega
    rw [if_pos hb] at hpl
    simp only [go_sem,hlt,hg,z2I,zei,hb',splice]
    exact hK r hpl
   ·have hb' : ¬ (20000 : Int) < (r.ck : Int):=by omega
    rw [if_neg hb] at hpl
    have hs:=fun (l2 : Heap) (K' : Post)=>zu0 (h:=h) (l:=l2) (K:=K') I.R I.N (by omega) I.st I.S (by rw [I.sl]; omega) (by rw [I.fl]; omega) l[k] h0
    obtain ⟨I2,c2⟩:=zdg I h0
    simp only [go_sem,hlt,hg,z2I,zei,hb',hs,w2,splice]
    exact ⟨(k + 1,r.step z0d l[k]),rfl,⟨by dsimp only; omega,I2,by dsimp only; omega,hpl⟩,by dsimp only; omega⟩
  ·obtain rfl : k = l.length:=by omega
   rw [List.drop_length] at hpl
   simp only [go_sem,Nat.lt_irrefl]
   exact hK r hpl
 rcases hp with ⟨rfl,rfl⟩ | ⟨⟨i,rfl⟩,rfl⟩
 ·rw [ztl rfl]
  simp only [zcv,go_sem,zpF,splice]
  refine main _ fun r e=>?_
  rw [e]
  have q1 : h.length + 5 + 1 = h.length + 6:=rfl
  have q2 : max h.length (h.length + 6) = h.length + 6:=by omega
  simp only [go_sem,q1,q2,List.take_nil]
 ·rw [ztl rfl]
  simp only [zcv,go_sem,zpF,splice]
  refine main _ fun r e=>?_
  rw [e]
  have q1 : h.length + 5 + 1 = h.length + 6:=rfl
  have q2 : max h.length (h.length + 6) = h.length + 6:=by omega
  simp only [go_sem,q1,q2,List.take_nil]
end Go.Am
end
section
/- The program: what is wrong with a program; clocks,signals,states,bits. -/
open Go
set_option linter.all false
namespace Go.Am
variable {h : Heap} {K : Post} {r : Run} {n : Nat} {o : Obj} {x : Esc}
attribute [-go_sem] oEqa splice
attribute [local go_sem] z4U z9I z6R z6S z4p z4C zej zek zaJ z2I z86 zei zpp zpq zpr zps zhA zhB zhC
theorem z83 {l : List Cmd} (hc : ∀ c ∈ l,cmdF c = 0) (w : Bool) : 20000 < ((run0 w).play z0d l).ck ↔ 20000 < (sigT (z0o z0d [] 0 l)).length:=by
 have e:=z1F hc
 constructor
 ·intro h
  rcases Nat.lt_or_ge 20000 (sigT (z0o z0d [] 0 l)).length with h1 | h1
  ·exact h1
  ·have:=(z6e zcY e w h1).1; omega
 ·intro h
  have:=(zaD z0d l (rel0 w) e).2
  simp only [List.nil_append] at this
  exact this h
theorem zdo (l : List Cmd) (hc : ∀ c ∈ l,cmdF c = 0) (hl : l.length ≤ 1000) : z0c X z2B [ACs l,.nilp] h K = K (.ref (h.length + 5) 0) (rh h ((run0 false).play z0d l) []) []:=zgr l hc hl .nilp false (.inl ⟨rfl,rfl⟩)
theorem zpE (l : List Cmd) (hc : ∀ c ∈ l,cmdF c = 0) (hl : l.length ≤ 1000) (i : Nat) : z0c X z2B [ACs l,.ref i 0] h K = K (.ref (h.length + 5) 0) (rh h ((run0 true).play z0d l) []) []:=zgr l hc hl _ true (.inr ⟨⟨i,rfl⟩,rfl⟩)
set_option maxHeartbeats 4000000 in
theorem z6W (l : List Cmd) (hok : ∀ c ∈ l,CmdOk c) (hl : l.length ≤ 1000000) : z0c X z2X [ACs l] h K = K (AI (z1K z0d l : Nat)) h []:=by
 refine rule ?_
 rw [c_q062 rfl]
 by_cases hbig : 1000 < l.length
 ·have h1 : (1000 : Int) < (l.length : Int):=by omega
  have e : z1K z0d l = 2:=by unfold z1K; rw [if_pos hbig]
  rw [e]
  simp only [zcl,go_sem,h1]
 have h1 : ¬ (1000 : Int) < (l.length : Int):=by omega
 simp only [zcl,go_sem,h1]
 refine z0Z (fun k : Nat=>⟨[(0,ACs l),(10,ACs l),(11,AI l.length),(12,AI k)],h,[]⟩) (fun k=>k ≤ l.length ∧ ∀ c ∈ l.take k,cmdF c = 0) (fun k=>l.length - k) 0 rfl ⟨Nat.zero_le _,by simp⟩ ?_
 rintro k ⟨hk,hn⟩
 rcases Nat.lt_or_ge k l.length with hlt | hge
 ·have hg:=z18 cmdP hlt
  have w2 : IntKind.i64.wrap ((k : Int) + 1) = ((k + 1 : Nat) : Int):=z0m _ (by omega) (by omega)
  have hf:=fun (h' : Heap) (K' : Post)=>zeo (h:=h') (K:=K') l[k] (hok _ (List.getElem_mem hlt))
  have hsn : cmdF l[k] = 0 → ∀ c ∈ l.take (k + 1),cmdF c = 0:=fun h0 c hc=>by
   rw [List.take_succ_eq_append_getElem hlt] at hc
   rcases List.mem_append.1 hc with hc | hc
   ·exact hn c hc
   ·obtain rfl : c = l[k]:=by simpa using hc
    exact h0
  have hpf : cmdF l[k] ≠ 0 → z1K z0d l = cmdF l[k]:=fun h0=>by
   unfold z1K
   rw [if_neg (by omega),z78 hlt hn h0,if_pos h0]
  have hbr:=zkd (c:=l[k])
  have hkd:=zb4 (c:=l[k])
  generalize l[k] = c at *
  generalize hke : zh1 c = ke at *
  generalize hbc : zjN c = bc at *
  obtain ⟨k0,s0,cl0,b0,w0,m0⟩:=c
  obtain ⟨k1,s1,cl1,b1,w1,m1⟩:=bc
  dsimp only at hbr hkd hf hg
  by_cases i1 : k0 < 1
  ·have e:=hkd (by omega)
   rw [hpf (by omega),e]
   simp only [go_sem,hlt,hg,w2,hf,z6Y,i1,splice]
  by_cases i2 : 10 < k0
  ·have e:=hkd (by omega)
   rw [hpf (by omega),e]
   simp only [go_sem,hlt,hg,w2,hf,z6Y,i1,i2,splice]
  have e:=hbr (by omega)
  by_cases i3 : ke = 0
  ·subst i3
   rw [if_neg (by simp)] at e
   by_cases i4 : (⟨k1,s1,cl1,b1,w1,m1⟩ : Cmd) = ⟨k0,0,0,[],[],[]⟩
   ·rw [if_pos i4] at e
    simp only [go_sem,hlt,hg,w2,hf,z6Y,i1,i2,splice,eqa6,i4]
    exact ⟨k + 1,rfl,⟨by omega,hsn e⟩,by omega⟩
   ·rw [if_neg i4] at e
    rw [hpf (by omega),e]
    simp only [go_sem,hlt,hg,w2,hf,z6Y,i1,i2,splice,eqa6,i4]
  ·have i3' : ¬ ((ke : Nat) : Int) = 0:=by omega
   rw [if_pos i3] at e
   rw [hpf (by omega),e]
   simp only [go_sem,hlt,hg,w2,hf,z6Y,i1,i2,splice,i3']
 ·obtain rfl : k = l.length:=by omega
  rw [List.take_length] at hn
  have hs:=fun (h' : Heap) (K' : Post)=>zdo (h:=h') (K:=K') l hn (by omega)
  have e : z1K z0d l = if 20000 < (sigT (z0o z0d [] 0 l)).length then 2 else 0:=by
   unfold z1K
   rw [if_neg (by omega),z1F hn,if_neg (by simp)]
  rw [e]
  have hm:=z83 hn false
  by_cases h2 : 20000 < (sigT (z0o z0d [] 0 l)).length
  ·have h3:=hm.2 h2
   have h2' : (20000 : Int) < (((run0 false).play z0d l).ck : Int):=by omega
   simp only [go_sem,Nat.lt_irrefl,Int.lt_irrefl,hs,h2,h2',splice]
  ·have h3:=fun q=>h2 (hm.1 q)
   have h2' : ¬ (20000 : Int) < (((run0 false).play z0d l).ck : Int):=by omega
   simp only [go_sem,Nat.lt_irrefl,Int.lt_irrefl,hs,h2,h2',splice]
theorem z2z (l : List Cmd) (hok : ∀ c ∈ l,CmdOk c) (hl : l.length ≤ 40) : z0c X z2X [ACs l] h K = K (AI (z1K z0d l : Nat)) h []:=z6W l hok (by omega)
theorem zaF {l : List Cmd} (h : z1K z0d l = 0) : (∀ c ∈ l,cmdF c = 0) ∧ (sigT (z0o z0d [] 0 l)).length ≤ 20000 ∧ l.length ≤ 1000:=by
 unfold z1K at h
 split at h
 ·cases h
 split at h
 ·rename_i h1; exact absurd h h1
 split at h
 ·cases h
 ·rename_i h0 h1 h2
  exact ⟨zb5 (by omega),by omega,by omega⟩
theorem rh_r0 {l : Heap} : (rh h r l)[h.length]? = some (.row none (r.sts.map eN) 0):=by unfold rh; rw [zeT]; rfl
theorem rh_r1 {l : Heap} : (rh h r l)[h.length + 1]? = some (.row none (r.frs.map eN) 0):=by unfold rh; rw [z3y]; rfl
theorem zwn {l : Heap} : (rh h r l)[h.length + 2]? = some (.row none (z0k r.tms) 0):=by unfold rh; rw [z3y]; rfl
theorem zwo {l : Heap} : (rh h r l)[h.length + 3]? = some (.row none (z0k r.tdi) 0):=by unfold rh; rw [z3y]; rfl
theorem zwp {l : Heap} : (rh h r l)[h.length + 4]? = some (.row none (z0k r.want) 0):=by unfold rh; rw [z3y]; rfl
attribute [local go_sem] rh_r0 rh_r1 zwn zwo zwp
def hbx (h : Heap) : Heap:=h ++ [.box [AB true]]
theorem z9W (l : List Cmd) (hc : ∀ c ∈ l,cmdF c = 0) (hl : l.length ≤ 1000) : z0c X z6O [ACs l] h K = K (.ref ((hbx h).length + 5) 0) (rh (hbx h) ((run0 true).play z0d l) []) []:=by
 refine rule ?_
 rw [c_q06p rfl]
 have hp:=fun (K' : Post)=>zpE (h:=h ++ [.box [AB true]]) (K:=K') l hc (by omega) h.length
 have el : (h ++ [Obj.box [AB true]]).length = h.length + 1:=by simp
 have el2 : (hbx h).length = h.length + 1:=by simp [hbx]
 have et : (rh (h ++ [Obj.box [AB true]]) ((run0 true).play z0d l) []).length = h.length + 7:=by rw [z4U,el]; simp
 simp only [zk4,go_sem,hp,splice]
 refine ⟨by omega,by rw [el2],?_⟩
 exact List.take_of_length_le (by rw [et]; omega)
end Go.Am
end
section
/- A program without commands that have no effect,plainly. -/
namespace Go.Am
def z3J (k : Int) : Bool:=k == 1 || k == 3 || k == 4 || k == 7
def ofS (se : Sett) (k : Int) : Cmd:=if k = 1 then se.e1 else if k = 2 then se.e2 else if k = 3 then se.h1 else if k = 4 then se.t1 else if k = 5 then se.h2 else se.t2
def z3M (k : Int) : List Cmd → Bool
 | []=>false
 | x :: r=>if x.k = k then false else if (x.k = 7 ∨ x.k = 8) ∧ z3J x.k = z3J k then true else z3M k r
abbrev z4b (k : Int) : Prop:=1 ≤ k ∧ k ≤ 6
def z6w (se : Sett) (st : Nat) (c : Cmd) (l : List Cmd) : Prop:=(z4b c.k ∧ (z3M c.k l = false ∨ ofS se c.k = c)) ∨ (c.k = 9 ∧ c.cl = 0 ∧ st = 1) ∨ (c.k = 10 ∧ c.s = st)
instance (se : Sett) (st : Nat) (c : Cmd) (l : List Cmd) : Decidable (z6w se st c l):=inferInstanceAs (Decidable (_ ∨ _))
def zaS (se : Sett) (c : Cmd) : Sett:=if z4b c.k then se.put c else se
def zhP (se : Sett) (st : Nat) (c : Cmd) : Nat:=if z4b c.k then st else if c.k = 7 then se.e1.s.toNat else if c.k = 8 then se.e2.s.toNat else if c.k = 9 then 1 else c.s.toNat
def wo (se : Sett) (st : Nat) : List Cmd → List Cmd
 | []=>[]
 | c :: l=>if z6w se st c l then wo se st l else c :: wo (zaS se c) (zhP se st c) l
theorem zd6 : ∀ (l : List Cmd) (se : Sett) (st : Nat),(wo se st l).Sublist l
 | [],_,_=>.slnil
 | c :: l,se,st=>by
  unfold wo
  split
  ·exact (zd6 l se st).cons c
  ·exact (zd6 l _ _).cons_cons c
theorem zeu (r : Run) (c : Cmd) (hc : cmdF c = 0) : (r.step z0d c).se = zaS r.se c ∧ (r.step z0d c).st = zhP r.se r.st c:=by
 unfold zaS zhP
 cases z0M hc with
 | set h hs e=>rw [z13 z0d (by omega),if_pos (by omega),if_pos (by omega)]; exact ⟨rfl,rfl⟩
 | pad h0 h1 hb hl e=>rw [z13 z0d (by omega),if_pos (by omega),if_pos (by omega)]; exact ⟨rfl,rfl⟩
 | go h hs e=>
  rw [z4t z0d h,if_neg (by omega),if_neg (by omega),if_neg (by omega),if_neg (by omega),if_neg (by omega)]
  obtain ⟨a,b,_⟩:=z0x z0d r c.s.toNat
  exact ⟨a,b⟩
 | idle h h0 h1 e=>
  rw [z1I z0d h,if_neg (by omega),if_neg (by omega),if_neg (by omega),if_neg (by omega),if_pos h]
  obtain ⟨a,b,_⟩:=z0x z0d r 1
  obtain ⟨a2,b2,_⟩:=z1L (r.go z0d 1) (List.replicate c.cl.toNat (48,48,120))
  exact ⟨a2.trans a,b2.trans b⟩
 | scan h hs e=>
  rw [z2a z0d h,if_neg (by omega),if_neg (by omega)]
  refine ⟨(zaQ c).2.2,?_⟩
  show (r.scn z0d c).st = _
  rcases h with h | h
  ·rw [if_pos h,(zaa h).1]; exact (z0x z0d _ _).2.1
  ·rw [if_neg (by omega),if_pos h,(z9Z h).1]; exact (z0x z0d _ _).2.1
structure SimR (r r' : Run) : Prop where
 st : r.st = r'.st
 ck : r.ck = r'.ck
 tms : r.tms = r'.tms
 tdi : r.tdi = r'.tdi
 want : r.want = r'.want
 wr : r.wr = r'.wr
theorem SimR.clk {r r' : Run} (H : SimR r r') (l : List (UInt8 × UInt8 × UInt8)) : SimR (r.clk l) (r'.clk l):=by
 obtain ⟨a,b,c,d,e,f⟩:=H
 unfold Run.clk
 rw [f]
 split
 ·exact ⟨a,by dsimp only; rw [b],by dsimp only; rw [c],by dsimp only; rw [d],by dsimp only; rw [e],rfl⟩
 ·exact ⟨a,by dsimp only; rw [b],c,d,e,rfl⟩
theorem SimR.go {r r' : Run} (H : SimR r r') (n : Nat) : SimR (r.go z0d n) (r'.go z0d n):=by
 unfold Run.go
 rw [H.st]
 obtain ⟨a,b,c,d,e,f⟩:=H.clk ((z0d r'.st n).map fun c=>(c,48,120))
 exact ⟨rfl,b,c,d,e,f⟩
theorem SimR.put {r r' : Run} (H : SimR r r') (s s' : List Nat) (f f' : List Nat) : SimR { r with sts:=s,frs:=f } { r' with sts:=s',frs:=f' }:=⟨H.st,H.ck,H.tms,H.tdi,H.want,H.wr⟩
def zbp (se se' : Sett) (l : List Cmd) : Prop:=∀ k,z4b k → ofS se k = ofS se' k ∨ z3M k l = false
theorem zee (se : Sett) (c : Cmd) (hc : z4b c.k) (k : Int) (hk : z4b k) : ofS (se.put c) k = if k = c.k then c else ofS se k:=by
 have h1 : c.k = 1 ∨ c.k = 2 ∨ c.k = 3 ∨ c.k = 4 ∨ c.k = 5 ∨ c.k = 6:=by omega
 have h2 : k = 1 ∨ k = 2 ∨ k = 3 ∨ k = 4 ∨ k = 5 ∨ k = 6:=by omega
 unfold Sett.put ofS
 rcases h1 with h1 | h1 | h1 | h1 | h1 | h1 <;> rcases h2 with rfl | rfl | rfl | rfl | rfl | rfl <;> simp [h1]
theorem stb_eq {n : Nat} (h : n ∈ stb) : z0d n n = []:=by
 simp only [stb,List.mem_cons,List.not_mem_nil,or_false] at h
 rcases h with rfl | rfl | rfl | rfl <;> kernel_rfl
theorem zm7 {r : Run} (h : r.st ∈ stb) : SimR (r.go z0d r.st) r:=by
 unfold Run.go
 rw [stb_eq h]
 simp only [List.map_nil,z6u]
 exact ⟨rfl,rfl,rfl,rfl,rfl,rfl⟩
theorem SimR.trans {a b c : Run} (h1 : SimR a b) (h2 : SimR b c) : SimR a c:=⟨h1.st.trans h2.st,h1.ck.trans h2.ck,h1.tms.trans h2.tms,h1.tdi.trans h2.tdi,h1.want.trans h2.want,h1.wr.trans h2.wr⟩
theorem SimR.st' {r r' : Run} (H : SimR r r') (n : Nat) : SimR { r with st:=n } { r' with st:=n }:=⟨rfl,H.ck,H.tms,H.tdi,H.want,H.wr⟩
theorem zsq {r r' : Run} (H : SimR r r') (c : Cmd) (hc : cmdF c = 0) (l : List Cmd) (S : zbp r.se r'.se (c :: l)) : SimR (r.step z0d c) (r'.step z0d c):=by
 cases z0M hc with
 | set h hs e=>rw [z13 z0d (by omega),z13 z0d (by omega)]; exact ⟨H.st,H.ck,H.tms,H.tdi,H.want,H.wr⟩
 | pad h0 h1 hb hl e=>rw [z13 z0d (by omega),z13 z0d (by omega)]; exact ⟨H.st,H.ck,H.tms,H.tdi,H.want,H.wr⟩
 | go h hs e=>rw [z4t z0d h,z4t z0d h]; exact (H.go _).put ..
 | idle h h0 h1 e=>rw [z1I z0d h,z1I z0d h]; exact ((H.go _).clk _).put ..
 | scan h hs e=>
  rw [z2a z0d h,z2a z0d h]
  refine SimR.put ?_ ..
  have u : ∀ k,z4b k → z3J c.k = z3J k → ofS r.se k = ofS r'.se k:=fun k hk hf=>by
   rcases S k hk with e | e
   ·exact e
   ·unfold z3M at e
    rw [if_neg (by omega),if_pos ⟨h,hf⟩] at e
    cases e
  rcases h with h | h
  ·have e1 : r.se.e1 = r'.se.e1:=u 1 (by decide) (by rw [h]; rfl)
   have e2 : r.se.h1 = r'.se.h1:=u 3 (by decide) (by rw [h]; rfl)
   have e3 : r.se.t1 = r'.se.t1:=u 4 (by decide) (by rw [h]; rfl)
   rw [(zaa h).1,(zaa h).1,e1,e2,e3]
   have G:=H.go 11
   refine SimR.go (SimR.st' (SimR.clk ?_ _) 12) _
   exact ⟨G.st,G.ck,G.tms,G.tdi,G.want,G.wr⟩
  ·have e1 : r.se.e2 = r'.se.e2:=u 2 (by decide) (by rw [h]; rfl)
   have e2 : r.se.h2 = r'.se.h2:=u 5 (by decide) (by rw [h]; rfl)
   have e3 : r.se.t2 = r'.se.t2:=u 6 (by decide) (by rw [h]; rfl)
   rw [(z9Z h).1,(z9Z h).1,e1,e2,e3]
   have G:=H.go 4
   refine SimR.go (SimR.st' (SimR.clk ?_ _) 5) _
   exact ⟨G.st,G.ck,G.tms,G.tdi,G.want,G.wr⟩
theorem z3x {k : Int} {c : Cmd} {l : List Cmd} (h1 : c.k ≠ k) (h2 : z3M k (c :: l) = false) : z3M k l = false:=by
 unfold z3M at h2
 rw [if_neg h1] at h2
 split at h2
 ·cases h2
 ·exact h2
theorem zer {se se' : Sett} {c : Cmd} {l : List Cmd} (S : zbp se se' (c :: l)) : zbp (zaS se c) (zaS se' c) l:=by
 intro k hk
 unfold zaS
 by_cases hc : z4b c.k
 ·rw [if_pos hc,if_pos hc,zee se c hc k hk,zee se' c hc k hk]
  by_cases he : k = c.k
  ·rw [if_pos he,if_pos he]; exact .inl rfl
  ·rw [if_neg he,if_neg he]
   exact (S k hk).imp id (z3x (fun e=>he e.symm))
 ·rw [if_neg hc,if_neg hc]
  exact (S k hk).imp id (z3x (fun e=>hc (e ▸ hk)))
theorem z6f (r : Run) (c : Cmd) (l : List Cmd) : r.play z0d (c :: l) = if 20000 < r.ck then r else (r.step z0d c).play z0d l:=rfl
theorem zaE : ∀ (l : List Cmd) (r r' : Run),SimR r r' → zbp r.se r'.se l → (∀ c ∈ l,cmdF c = 0) → r.st ∈ stb → z05 r.se.e1.s = true → z05 r.se.e2.s = true →
 SimR (r.play z0d l) (r'.play z0d (wo r'.se r'.st l))
 | [],r,r',H,_,_,_,_,_=>H
 | c :: l,r,r',H,S,hc,hs,s1,s2=>by
  have h0:=hc c (List.mem_cons_self ..)
  have hr:=fun d hd=>hc d (List.mem_cons_of_mem c hd)
  obtain ⟨t1,t2⟩:=zeu r c h0
  obtain ⟨u1,u2⟩:=zeu r' c h0
  -- what holds of the first run behind the step
  have inv : (r.step z0d c).st ∈ stb ∧ z05 (r.step z0d c).se.e1.s = true ∧ z05 (r.step z0d c).se.e2.s = true:=by
   rw [t1,t2]
   unfold zaS zhP
   cases z0M h0 with
   | set h hs' e=>
    rw [if_pos (by omega),if_pos (by omega)]
    refine ⟨hs,?_⟩
    unfold Sett.put
    rcases h with h | h <;> simp [h,s1,s2,hs']
   | pad h0 h1 hb hl e=>
    rw [if_pos (by omega),if_pos (by omega)]
    refine ⟨hs,?_⟩
    unfold Sett.put
    rw [if_neg (by omega),if_neg (by omega)]
    split
    ·exact ⟨s1,s2⟩
    split
    ·exact ⟨s1,s2⟩
    split
    ·exact ⟨s1,s2⟩
    ·exact ⟨s1,s2⟩
   | go h hs' e=>
    rw [if_neg (by omega),if_neg (by omega),if_neg (by omega),if_neg (by omega),if_neg (by omega)]
    exact ⟨(z0v hs').1,s1,s2⟩
   | idle h h0 h1 e=>
    rw [if_neg (by omega),if_neg (by omega),if_neg (by omega),if_pos h,if_neg (by omega)]
    exact ⟨by decide,s1,s2⟩
   | scan h hs' e=>
    rcases h with h | h
    ·rw [if_neg (by omega),if_pos h,if_neg (by omega)]; exact ⟨(z0v s1).1,s1,s2⟩
    ·rw [if_neg (by omega),if_neg (by omega),if_pos h,if_neg (by omega)]; exact ⟨(z0v s2).1,s1,s2⟩
  obtain ⟨i1,i2,i3⟩:=inv
  unfold wo
  by_cases hd : z6w r'.se r'.st c l
  ·rw [if_pos hd]
   -- the first run alone
   have key : SimR (r.step z0d c) r' ∧ zbp (r.step z0d c).se r'.se l:=by
    rcases hd with ⟨hk,hu⟩ | ⟨h9,h0',hst⟩ | ⟨h10,hst⟩
    ·rw [z13 z0d hk]
     refine ⟨⟨H.st,H.ck,H.tms,H.tdi,H.want,H.wr⟩,?_⟩
     intro k hk'
     show ofS (r.se.put c) k = _ ∨ _
     rw [zee r.se c hk k hk']
     by_cases he : k = c.k
     ·rw [if_pos he]
      rcases hu with hu | hu
      ·right; rw [he]; exact hu
      ·left; rw [he]; exact hu.symm
     ·rw [if_neg he]
      exact (S k hk').imp id (z3x (fun e=>he e.symm))
    ·have e1 : (1 : Nat) = r.st:=by rw [H.st,hst]
     rw [z1I z0d h9,h0',e1]
     simp only [Int.toNat_zero,List.replicate_zero,z6u]
     have G:=(zm7 hs).trans H
     refine ⟨⟨G.st,G.ck,G.tms,G.tdi,G.want,G.wr⟩,?_⟩
     intro k hk'
     show ofS (r.go z0d r.st).se k = _ ∨ _
     rw [(z0x z0d _ _).1]
     exact (S k hk').imp id (z3x (by omega))
    ·have e1 : c.s.toNat = r.st:=by rw [H.st]; omega
     rw [z4t z0d h10,e1]
     have G:=(zm7 hs).trans H
     refine ⟨⟨G.st,G.ck,G.tms,G.tdi,G.want,G.wr⟩,?_⟩
     intro k hk'
     show ofS (r.go z0d r.st).se k = _ ∨ _
     rw [(z0x z0d _ _).1]
     exact (S k hk').imp id (z3x (by omega))
   have ih:=zaE l (r.step z0d c) r' key.1 key.2 hr i1 i2 i3
   rw [z6f]
   split
   ·rename_i hb
    have e : (r.step z0d c).ck = r'.ck:=key.1.ck
    have hb' : 20000 < (r.step z0d c).ck:=by rw [e,← H.ck]; exact hb
    have p1 : ∀ m : List Cmd,(r'.play z0d m) = r':=fun m=>by
     cases m with
     | nil=>rfl
     | cons d m=>rw [z6f,if_pos (by rw [← H.ck]; exact hb)]
    rw [p1]
    exact H
   ·exact ih
  ·rw [if_neg hd]
   have ih:=zaE l (r.step z0d c) (r'.step z0d c) (zsq H c h0 l S) (by rw [t1,u1]; exact zer S) hr i1 i2 i3
   rw [u1,u2] at ih
   rw [z6f,z6f,H.ck]
   split
   ·exact H
   ·exact ih
theorem zey {k : Int} : ∀ (l : List Cmd) (se : Sett) (st : Nat),(∀ c ∈ l,cmdF c = 0) → z4b k → z3M k l = true → z3M k (wo se st l) = true
 | [],_,_,_,_,h=>by cases h
 | c :: l,se,st,hc,hk,h=>by
  unfold z3M at h
  split at h
  ·cases h
  rename_i h1
  have hr:=fun d hd=>hc d (List.mem_cons_of_mem c hd)
  unfold wo
  split at h
  ·rename_i h2
   have hd : ¬ z6w se st c l:=by
    rintro (⟨⟨a,b⟩,_⟩ | ⟨a,_⟩ | ⟨a,_⟩) <;> omega
   rw [if_neg hd]
   unfold z3M
   rw [if_neg h1,if_pos h2]
  ·rename_i h2
   split
   ·exact zey l se st hr hk h
   ·unfold z3M
    rw [if_neg h1,if_neg h2]
    exact zey l _ _ hr hk h
theorem zwW : ∀ (l : List Cmd) (se : Sett) (st : Nat),(∀ c ∈ l,cmdF c = 0) → wo se st (wo se st l) = wo se st l
 | [],_,_,_=>rfl
 | c :: l,se,st,hc=>by
  have hr:=fun d hd=>hc d (List.mem_cons_of_mem c hd)
  by_cases hd : z6w se st c l
  ·have e : wo se st (c :: l) = wo se st l:=by rw [wo,if_pos hd]
   rw [e]; exact zwW l se st hr
  ·have e : wo se st (c :: l) = c :: wo (zaS se c) (zhP se st c) l:=by rw [wo,if_neg hd]
   rw [e]
   have hd2 : ¬ z6w se st c (wo (zaS se c) (zhP se st c) l):=by
    rintro (⟨hk,hu⟩ | h | h)
    ·refine hd (.inl ⟨hk,?_⟩)
     rcases hu with hu | hu
     ·left
      cases hx : z3M c.k l with
      | false=>rfl
      | true=>rw [zey l _ _ hr hk hx] at hu; cases hu
     ·exact .inr hu
    ·exact hd (.inr (.inl h))
    ·exact hd (.inr (.inr h))
   rw [wo,if_neg hd2,zwW l _ _ hr]
theorem wo_all {l : List Cmd} (h : z1K z0d l = 0) : z1K z0d (wo z22 0 l) = 0 ∧ sigT (z0o z0d [] 0 (wo z22 0 l)) = sigT (z0o z0d [] 0 l) ∧ sigI (z0o z0d [] 0 (wo z22 0 l)) = sigI (z0o z0d [] 0 l) ∧ sigW (z0o z0d [] 0 (wo z22 0 l)) = sigW (z0o z0d [] 0 l) ∧ wo z22 0 (wo z22 0 l) = wo z22 0 l:=by
 obtain ⟨hc,hT,h1⟩:=zaF h
 have hcw : ∀ c ∈ wo z22 0 l,cmdF c = 0:=fun c hm=>hc c ((zd6 l z22 0).subset hm)
 have P:=zaE l (run0 true) (run0 true) ⟨rfl,rfl,rfl,rfl,rfl,rfl⟩ (fun k _=>.inl rfl) hc (by show 0 ∈ stb; decide) rfl rfl
 have hTw : (sigT (z0o z0d [] 0 (wo z22 0 l))).length ≤ 20000:=by
  have m1:=z83 hc true
  have m2:=z83 hcw true
  have e:=P.ck
  apply Nat.le_of_not_lt
  intro hx
  have a:=m2.2 hx
  have b : 20000 < ((run0 true).play z0d l).ck:=by rw [e]; exact a
  have:=m1.1 b
  omega
 obtain ⟨_,_,_,_,a⟩:=z6e zcY (z1F hc) true hT
 obtain ⟨_,_,_,_,b⟩:=z6e zcY (z1F hcw) true hTw
 obtain ⟨a1,a2,a3⟩:=a rfl
 obtain ⟨b1,b2,b3⟩:=b rfl
 refine ⟨?_,?_,?_,?_,zwW l _ _ hc⟩
 ·have:=(zd6 l z22 0).length_le
  unfold z1K
  rw [if_neg (by omega),if_neg (by simp [z1F hcw]),if_neg (by omega)]
 ·rw [← a1,← b1]; exact P.tms.symm
 ·rw [← a2,← b2]; exact P.tdi.symm
 ·rw [← a3,← b3]; exact P.want.symm
end Go.Am
end
section
/- A text split at a byte. -/
set_option linter.all false
namespace Go.Am
end Go.Am
end
section
/- A text read line by line. -/
set_option linter.all false
namespace Go.Am
end Go.Am
end
section
/- Numbers in texts. -/
set_option linter.all false
namespace Go.Am
end Go.Am
end
section
/- Faults read: the program's line and the reference's line agree. -/
set_option linter.all false
namespace Go.Am
end Go.Am
end
section
/- What is written is read: numbers,words,lines. -/
set_option linter.all false
namespace Go.Am
end Go.Am
end
section
/- Where a byte stands in a text. -/
open Go
set_option linter.all false
namespace Go.Am
variable {h : Heap} {K : Post}
end Go.Am
end
section
/- The abstract machine,part L4: strings.Repeat,strings.Trim,math/bits.TrailingZeros64 asv rows. -/
set_option linter.all false
namespace Go.Am
variable {P : Program} {gl : Nat → Option PV}
open Go.Shelf
theorem z3O {w w' : World} (h : Go.RowKit.Below w.heap.size w w') : WExt w w':=⟨h.size,fun b hb=>h.block b hb,by unfold zed; rw [h.os,h.tape,h.output]⟩
theorem znj (s : List UInt8) : ∀ c,Go.Lib.repeatL s c = repL s c
 | 0=>rfl
 | c + 1=>by rw [Go.Lib.repeatL,repL,znj s c]
theorem repeatRow {ρ : Ren} (L : Go.Proofs.Lays.n105 P ρ) (E : Go.Proofs.Builder.Extra P ρ) (he : ∀ us w,(callFunc (ρ.f 105) us).run P w = .ok (.enter (ρ.f 105) us) w) : PureRow P gl (ρ.f 105) z61 where
 enter:=he
 run M w vs r us hc hb hG hl hr hs:=by
  unfold z61 at hs
  split at hs
  ·rename_i s c
   split at hs
   ·rename_i hbd
    match us,hl with
    | [u,v],_=>
     have q:=hr 0 _ u rfl rfl
     cases q
     have q2:=hr 1 _ v rfl rfl
     cases q2
     simp only [Option.some.injEq] at hs
     subst hs
     obtain ⟨n,rfl⟩:=Int.eq_ofNat_of_zero_le hbd.1
     have hsz : (⟨s.toArray⟩ : ByteArray).size = s.length:=by simp [ByteArray.size]
     simp only [Int.toNat_natCast] at hbd ⊢
     refine (Go.Proofs.Any.strings_Repeat L E ⟨s.toArray⟩ n w (by omega) (by rw [hsz]; omega)).mono fun e w' h=>?_
     obtain ⟨rfl,h⟩:=h
     exact ⟨_,rfl,z3O h,by rw [znj]; exact .p _ _ (.str _)⟩
   ·cases hs
  ·cases hs
theorem zr1 (s cs : List UInt8) : Go.Lib.trimS s cs = zs8 s cs:=rfl
theorem trimRow {ρ : Ren} (L : Go.Proofs.Lays.n160 P ρ) (h116 : (P.info? (ρ.t 116)).map (fun i=>(i.zero,i.size)) = some (some (.agg (Array.replicate 256 (.bool false))),256)) (he : ∀ us w,(callFunc (ρ.f 160) us).run P w = .ok (.enter (ρ.f 160) us) w) : PureRow P gl (ρ.f 160) trimS where
 enter:=he
 run M w vs r us hc hb hG hl hr hs:=by
  unfold trimS at hs
  split at hs
  ·rename_i s cs
   split at hs
   ·rename_i hbd
    match us,hl with
    | [u,v],_=>
     have q:=hr 0 _ u rfl rfl
     cases q
     have q2:=hr 1 _ v rfl rfl
     cases q2
     simp only [Option.some.injEq] at hs
     subst hs
     have hsz : ∀ l : List UInt8,(⟨l.toArray⟩ : ByteArray).size = l.length:=fun l=>by simp [ByteArray.size]
     refine (Go.Proofs.Any.strings_Trim_laid L h116 ⟨s.toArray⟩ ⟨cs.toArray⟩ w (by rw [hsz]; omega) (by rw [hsz]; omega) (Go.Proofs.ascii_of_all hbd.2.2)).mono fun e w' h=>?_
     obtain ⟨rfl,h⟩:=h
     exact ⟨_,rfl,z3O h,by rw [← zr1]; exact .p _ _ (.str _)⟩
   ·cases hs
  ·cases hs
end Go.Am
end
section
/- The abstract machine,part L5: strings.Count at one byte,strings.Join asv rows. -/
set_option linter.all false
namespace Go.Am
variable {P : Program} {gl : Nat → Option PV}
open Go.Shelf
end Go.Am
end
section
/- Texts split at a byte. -/
open Go
set_option linter.all false
namespace Go.Am
variable {h : Heap} {K : Post}
end Go.Am
end
section
/- Lines of a text. -/
open Go
set_option linter.all false
namespace Go.Am
variable {h : Heap} {K : Post}
end Go.Am
end
section
/- Numbers read. -/
open Go
set_option linter.all false
namespace Go.Am
variable {h : Heap} {K : Post}
end Go.Am
end
section
/- Several numbers read. -/
open Go
set_option linter.all false
namespace Go.Am
variable {h : Heap} {K : Post}
end Go.Am
end
section
/- Numbers read,the reference's way. -/
open Go
set_option linter.all false
namespace Go.Am
variable {h : Heap} {K : Post}
end Go.Am
end
section
/- Where a string stands among strings; words. -/
open Go
set_option linter.all false
namespace Go.Am
variable {h : Heap} {K : Post}
end Go.Am
end
section
/- Numbers written,joined. -/
open Go
set_option linter.all false
namespace Go.Am
variable {h : Heap} {K : Post}
end Go.Am
end
section
/- Faults written. -/
open Go
set_option linter.all false
namespace Go.Am
variable {h : Heap} {K : Post}
end Go.Am
end
section
/- A text taken line by line: base.Each,scanref2.Lines. -/
open Go
set_option linter.all false
namespace Go.Am
variable {h : Heap} {K : Post}
end Go.Am
end
section
/- Faults read. -/
open Go
set_option linter.all false
namespace Go.Am
variable {h : Heap} {K : Post}
end Go.Am
end
section
/- Lists of faults read. -/
open Go
set_option linter.all false
namespace Go.Am
variable {h : Heap} {K : Post}
end Go.Am
end
section
/- fault.Read,scanref2.FaultsRead. -/
open Go
set_option linter.all false
namespace Go.Am
variable {h : Heap} {K : Post}
end Go.Am
end
section
/- A text changed at random. -/
open Go
set_option linter.all false
namespace Go.Am
variable {L : List Int} {a : Int} {h l : Heap} {id : Nat} {K : Post}
end Go.Am
end
section
/- What is drawn: faults. -/
open Go
set_option linter.all false
namespace Go.Am
variable {L : List Int} {a : Int} {h l : Heap} {id : Nat} {K : Post}
end Go.Am
end
section
/- Deleting faults: printed by program. -/
open Go
set_option linter.unusedSimpArgs false
namespace Go.Am
attribute [-go_sem] PV.cells splice
variable {h : Heap} {K : Post}
attribute [-go_sem] AV.cells cut
attribute [go_sem] AV.cells cut
end Go.Am
end
section
/- What is drawn: lists of faults. -/
open Go
set_option linter.all false
namespace Go.Am
variable {L : List Int} {a : Int} {h l : Heap} {id : Nat} {K : Post}
end Go.Am
end
section
/- Stable sorts of numbers: printed by program. -/
open Go
set_option linter.unusedSimpArgs false
namespace Go.Am
attribute [-go_sem] PV.cells splice
variable {h : Heap} {K : Post}
end Go.Am
end
section
/- Faults compared; texts of faults drawn. -/
open Go
set_option linter.all false
namespace Go.Am
variable {L : List Int} {a : Int} {h : Heap} {K : Post}
end Go.Am
end
section
/- The program: without commands that have no effect; the same signals. -/
open Go
set_option linter.all false
set_option maxRecDepth 100000
namespace Go.Am
variable {h l2 : Heap} {K : Post} {r : Run} {n : Nat} {o : Obj} {x : Esc}
attribute [-go_sem] oEqa
theorem zpC (n : Int) : z0c X z6N [AI n] h K = K (AB (z3J n)) h []:=by
 refine rule ?_
 rw [c_q06b rfl]
 unfold z3J
 by_cases h1 : n = 1
 ·subst h1; simp only [z6F,go_sem]
 by_cases h3 : n = 3
 ·subst h3; simp only [z6F,go_sem]
 by_cases h4 : n = 4
 ·subst h4; simp only [z6F,go_sem]
 by_cases h7 : n = 7
 ·subst h7; simp only [z6F,go_sem]
 ·have e : (n == 1 || n == 3 || n == 4 || n == 7) = false:=by simp [h1,h3,h4,h7]
  rw [e]
  simp only [z6F,go_sem,h1,h3,h4,h7]
theorem eqaB (a b : Bool) : oEqa [] false (AB a) (AB b) = some (AB (a == b)):=by
 cases a <;> cases b <;> rfl
set_option maxHeartbeats 4000000 in
theorem s_used (c : Cmd) (l : List Cmd) (hl : l.length ≤ 1000000) : z0c X z97 [ACm c,ACs l] h K = K (AB (z3M c.k l)) h []:=by
 refine rule ?_
 rw [c_q06t rfl]
 simp only [zfv,go_sem]
 refine z0Z (fun k : Nat=>⟨[(2,.ref h.length 0),(7,ACs l),(8,AI l.length),(9,AI k)],h ++ [.box [AI c.k,AI c.s,AI c.cl,AS c.b,AS c.w,AS c.m]],[]⟩) (fun k=>k ≤ l.length ∧ z3M c.k l = z3M c.k (l.drop k)) (fun k=>l.length - k) 0 rfl ⟨Nat.zero_le _,rfl⟩ ?_
 rintro k ⟨hk,hu⟩
 rcases Nat.lt_or_ge k l.length with hlt | hge
 ·have hg:=z18 cmdP hlt
  have w2 : IntKind.i64.wrap ((k : Int) + 1) = ((k + 1 : Nat) : Int):=z0m _ (by omega) (by omega)
  rw [List.drop_eq_getElem_cons hlt,z3M] at hu
  generalize l[k] = d at *
  by_cases h1 : d.k = c.k
  ·rw [if_pos h1] at hu
   rw [hu]
   simp only [go_sem,hlt,hg,splice,h1]
  ·rw [if_neg h1] at hu
   have f1:=fun (h' : Heap) (K' : Post)=>z2h (h:=h') (K:=K') d.k
   have f2:=fun (h' : Heap) (K' : Post)=>zpC (h:=h') (K:=K') d.k
   have f3:=fun (h' : Heap) (K' : Post)=>zpC (h:=h') (K:=K') c.k
   by_cases h2 : d.k = 7 ∨ d.k = 8
   ·have e2 : (decide (d.k = 7) || decide (d.k = 8)) = true:=by simpa using h2
    rw [e2] at f1
    by_cases h3 : z3J d.k = z3J c.k
    ·rw [if_pos ⟨h2,h3⟩] at hu
     rw [hu]
     have e3 : (z3J d.k == z3J c.k) = true:=by simpa using h3
     simp only [go_sem,hlt,hg,splice,h1,f1,f2,f3,eqaB,e3]
    ·rw [if_neg (fun q=>h3 q.2)] at hu
     have e3 : (z3J d.k == z3J c.k) = false:=by simpa using h3
     simp only [go_sem,hlt,hg,splice,h1,f1,f2,f3,eqaB,e3,w2]
     exact ⟨k + 1,rfl,⟨by omega,hu⟩,by omega⟩
   ·rw [if_neg (fun q=>h2 q.1)] at hu
    have e2 : (decide (d.k = 7) || decide (d.k = 8)) = false:=by simpa using h2
    rw [e2] at f1
    simp only [go_sem,hlt,hg,splice,h1,f1,w2]
    exact ⟨k + 1,rfl,⟨by omega,hu⟩,by omega⟩
 ·obtain rfl : k = l.length:=by omega
  rw [List.drop_length] at hu
  rw [hu]
  simp only [go_sem,Nat.lt_irrefl,Int.lt_irrefl]
  rfl
theorem ld_rc {s : Sett} {st ck ni nd : Int} {a b c d e : AV} {w : Bool} {k : Int} (hk : z4b k) : ldB (some 6) (ofsK k) (some (.box (rc s st ck ni nd a b c d e w))) = some (ACm (ofS s k)):=by
 have h2 : k = 1 ∨ k = 2 ∨ k = 3 ∨ k = 4 ∨ k = 5 ∨ k = 6:=by omega
 rcases h2 with rfl | rfl | rfl | rfl | rfl | rfl <;> rfl
attribute [local go_sem] z4U z9I z6R z6S z4p z4C zej zek zaJ z2I z86
theorem zwm {l : Heap} : (rh h r l)[h.length + 7]? = l[1]?:=z6R (n:=1)
theorem zwq {l : Heap} : (rh h r l).set (h.length + 7) o = rh h r (l.set 1 o):=z6S (n:=1)
theorem zrU {l : Heap} : (rh h r l).take (h.length + 7) = rh h r (l.take 1):=z4p (n:=1)
attribute [local go_sem] zwm zwq zrU
theorem eqa6e (c d : Cmd) : oEqa [0,0,0,2,2,2] false (ACm c) (ACm d) = some (AB (decide (c = d))):=by
 obtain ⟨k,s,cl,b,w,m⟩:=c
 obtain ⟨k',s',cl',b',w',m'⟩:=d
 unfold oEqa
 dsimp only
 rw [if_pos ⟨rfl,rfl,by simp⟩,eqs6]
 rfl
theorem winD (l : List Cmd) (k : Nat) : win (l.map cmdP) k (l.length - k) = (l.drop k).map cmdP:=by
 unfold win
 rw [← List.map_drop]
 exact List.take_of_length_le (by simp)
theorem winF (l : List Cmd) : win (l.map cmdP) 0 l.length = l.map cmdP:=by
 unfold win; rw [List.drop_zero]; exact List.take_of_length_le (by simp)
set_option maxHeartbeats 8000000 in
theorem zdm (l : List Cmd) (hok : ∀ c ∈ l,CmdOk c) (hl : l.length ≤ 40) (h0 : z1K z0d l = 0) : z0c X z6M [ACs l] h K = K (.tup [ACs (wo z22 0 l),AI 0]) h []:=by
 refine rule ?_
 rw [c_q06a rfl]
 have hk:=fun (h' : Heap) (K' : Post)=>z2z (h:=h') (K:=K') l hok hl
 obtain ⟨hc,hn,_⟩:=zaF h0
 have hp:=fun (h' : Heap) (K' : Post)=>zdo (h:=h') (K:=K') [] (by simp) (by simp)
 have p0 : (run0 false).play z0d [] = run0 false:=rfl
 simp only [ACs,List.map_nil,p0] at hp
 rw [h0] at hk
 simp only [zfs,go_sem,hk,hp,show ((0 : Nat) : Int) = 0 from rfl]
 refine z0Z (fun t : Nat × Run × List Cmd=>⟨[(0,ACs l),(5,.ref (h.length + 5) 0),(6,.own (h.length + 6) t.2.2.length 0 t.2.2.length),(15,ACs l),(16,AI l.length),(17,AI t.1)],rh h t.2.1 [.row (some 6) (t.2.2.map cmdP) 0],[]⟩)
  (fun t=>t.1 ≤ l.length ∧ RunI t.2.1 t.2.2.length ∧ t.2.1.ck ≤ 20016 * t.1 ∧ t.2.2.length ≤ t.1 ∧ t.2.2 ++ wo t.2.1.se t.2.1.st (l.drop t.1) = wo z22 0 l) (fun t=>l.length - t.1) (0,run0 false,[]) rfl ⟨Nat.zero_le _,zuz false,Nat.zero_le _,Nat.zero_le _,rfl⟩ ?_
 rintro ⟨k,r,out⟩ ⟨hkl,I,hck,hol,hw⟩
 dsimp only at hkl I hck hol hw ⊢
 rcases Nat.lt_or_ge k l.length with hlt | hge
 ·have hg:=z18 cmdP hlt
  have w2 : IntKind.i64.wrap ((k : Int) + 1) = ((k + 1 : Nat) : Int):=z0m _ (by omega) (by omega)
  have hcf:=hc _ (List.getElem_mem hlt)
  rw [List.drop_eq_getElem_cons hlt,wo] at hw
  have hin : k + 1 ≤ l.length:=hlt
  have hin' : ((k + 1 : Nat) : Int) ≤ (l.length : Int):=by omega
  have hwin:=winD l (k + 1)
  generalize l[k] = c at *
  have fs:=fun (h' : Heap) (K' : Post)=>z0Y (h:=h') (K:=K') c.k
  have fu:=fun (h' : Heap) (K' : Post)=>s_used (h:=h') (K:=K') c (l.drop (k + 1)) (by rw [List.length_drop]; omega)
  have fo:=fun (l2 : Heap) (K' : Post)=>s_ofK (h:=rh h r l2) (K:=K') (id:=h.length + 5) (by rw [z4U]; omega) c.k
  have hsp:=fun (l2 : Heap) (K' : Post)=>zu0 (h:=h) (l:=l2) (K:=K') I.R I.N (by omega) I.st I.S (by rw [I.sl]; omega) (by rw [I.fl]; omega) c hcf
  obtain ⟨I2,c2⟩:=zdg I hcf
  obtain ⟨t1,t2⟩:=zeu r c hcf
  have hsh : PV.shp (some 6) (cmdP c) = true:=rfl
  have hmx : out.length + 1 ≤ z0F:=by unfold z0F; omega
  have hml : (out.map cmdP).length = out.length:=List.length_map ..
  by_cases hs : z4b c.k
  ·have e1 : (decide (1 ≤ c.k) && decide (c.k ≤ 6)) = true:=by simp [hs]
   have n9 : ¬ c.k = 9:=by omega
   have n10 : ¬ c.k = 10:=by omega
   rw [e1] at fs
   have hld:=fun (a b d e f : AV)=>ld_rc (s:=r.se) (st:=r.st) (ck:=r.ck) (ni:=r.ni) (nd:=r.nd) (a:=a) (b:=b) (c:=d) (d:=e) (e:=f) (w:=r.wr) hs
   cases hu : z3M c.k (l.drop (k + 1)) with
   | false=>
    rw [hu] at fu
    rw [if_pos (.inl ⟨hs,.inl hu⟩)] at hw
    simp only [go_sem,hlt,hg,splice,fs,fu,hin,hin',w2,hwin,List.length_map]
    exact ⟨(k + 1,r,out),rfl,⟨by dsimp only; omega,I,by dsimp only; omega,by dsimp only; omega,hw⟩,by dsimp only; omega⟩
   | true=>
    rw [hu] at fu
    by_cases he : ofS r.se c.k = c
    ·rw [if_pos (.inl ⟨hs,.inr he⟩)] at hw
     have hq:=eqa6e (ofS r.se c.k) c
     rw [decide_eq_true he] at hq
     simp only [go_sem,hlt,hg,splice,fs,fu,fo,hin,hin',w2,hwin,List.length_map,↓hld,hld,↓hq,hq]
     exact ⟨(k + 1,r,out),rfl,⟨by dsimp only; omega,I,by dsimp only; omega,by dsimp only; omega,hw⟩,by dsimp only; omega⟩
    ·have nd : ¬ z6w r.se r.st c (l.drop (k + 1)):=by
      rintro (⟨_,h | h⟩ | ⟨h,_⟩ | ⟨h,_⟩)
      ·rw [hu] at h; cases h
      ·exact he h
      ·exact n9 h
      ·exact n10 h
     rw [if_neg nd,← t1,← t2] at hw
     have hq:=eqa6e (ofS r.se c.k) c
     rw [decide_eq_false he] at hq
     simp only [go_sem,hlt,hg,splice,fs,fu,fo,hin,hin',w2,hwin,List.length_map,↓hld,hld,↓hq,hq,n9,n10,hsp,hmx,hsh,hml]
     exact ⟨(k + 1,r.step z0d c,out ++ [c]),by simp,⟨by dsimp only; omega,by simpa using I2,by dsimp only; omega,by simp; omega,by rw [← hw]; simp⟩,by dsimp only; omega⟩
  ·have e1 : (decide (1 ≤ c.k) && decide (c.k ≤ 6)) = false:=by rw [← Bool.decide_and]; exact decide_eq_false hs
   rw [e1] at fs
   have kinds : c.k = 7 ∨ c.k = 8 ∨ c.k = 9 ∨ c.k = 10:=by cases z0M hcf <;> omega
   have keep : ¬ z6w r.se r.st c (l.drop (k + 1)) → ∃ t',(⟨[(0,ACs l),(5,.ref (h.length + 5) 0),(6,.own (h.length + 6) (out.length + 1) 0 (out.length + 1)),(15,ACs l),(16,AI l.length),(17,AI (k + 1 : Nat))],rh h (r.step z0d c) [.row (some 6) (out.map cmdP ++ [cmdP c]) 0],[]⟩ : St) = (fun t : Nat × Run × List Cmd=>(⟨[(0,ACs l),(5,.ref (h.length + 5) 0),(6,.own (h.length + 6) t.2.2.length 0 t.2.2.length),(15,ACs l),(16,AI l.length),(17,AI t.1)],rh h t.2.1 [.row (some 6) (t.2.2.map cmdP) 0],[]⟩ : St)) t' ∧ (t'.1 ≤ l.length ∧ RunI t'.2.1 t'.2.2.length ∧ t'.2.1.ck ≤ 20016 * t'.1 ∧ t'.2.2.length ≤ t'.1 ∧ t'.2.2 ++ wo t'.2.1.se t'.2.1.st (l.drop t'.1) = wo z22 0 l) ∧ l.length - t'.1 < l.length - k:=fun nd=>by
    rw [if_neg nd,← t1,← t2] at hw
    exact ⟨(k + 1,r.step z0d c,out ++ [c]),by simp,⟨by dsimp only; omega,by simpa using I2,by dsimp only; omega,by simp; omega,by rw [← hw]; simp⟩,by dsimp only; omega⟩
   clear fu fo
   obtain ⟨ck,cs,ccl,cb,cw,cm⟩:=c
   dsimp only at kinds fs hg hsp hsh keep hw e1 hs
   have sz : ∀ z : Int,z = 7 ∨ z = 8 ∨ z = 9 ∨ z = 10 → (decide (1 ≤ z) && decide (z ≤ 6)) = false:=fun z hz=>by rw [← Bool.decide_and]; exact decide_eq_false (by omega)
   rcases kinds with rfl | rfl | rfl | rfl
   ·have nd : ¬ z6w r.se r.st ⟨7,cs,ccl,cb,cw,cm⟩ (l.drop (k + 1)):=by
     rintro (⟨⟨_,h⟩,_⟩ | ⟨h,_⟩ | ⟨h,_⟩) <;> exact absurd h (by dsimp only; omega)
    simp only [go_sem,hlt,hg,splice,fs,hin,hin',w2,hwin,List.length_map,hsp,hmx,hsh,hml]
    exact keep nd
   ·have nd : ¬ z6w r.se r.st ⟨8,cs,ccl,cb,cw,cm⟩ (l.drop (k + 1)):=by
     rintro (⟨⟨_,h⟩,_⟩ | ⟨h,_⟩ | ⟨h,_⟩) <;> exact absurd h (by dsimp only; omega)
    simp only [go_sem,hlt,hg,splice,fs,hin,hin',w2,hwin,List.length_map,hsp,hmx,hsh,hml]
    exact keep nd
   ·by_cases hcl : ccl = 0
    ·subst hcl
     by_cases hst : r.st = 1
     ·have hst' : (r.st : Int) = 1:=by omega
      rw [if_pos (.inr (.inl ⟨rfl,rfl,hst⟩))] at hw
      simp only [go_sem,hlt,hg,splice,fs,hin,hin',w2,hwin,List.length_map,hst',z2I,z86]
      exact ⟨(k + 1,r,out),rfl,⟨by dsimp only; omega,I,by dsimp only; omega,by dsimp only; omega,hw⟩,by dsimp only; omega⟩
     ·have hst' : ¬ (r.st : Int) = 1:=by omega
      have nd : ¬ z6w r.se r.st ⟨9,cs,0,cb,cw,cm⟩ (l.drop (k + 1)):=by
       rintro (⟨⟨_,h⟩,_⟩ | ⟨_,_,h⟩ | ⟨h,_⟩)
       ·exact absurd h (by dsimp only; omega)
       ·exact hst h
       ·exact absurd h (by dsimp only; omega)
      simp only [go_sem,hlt,hg,splice,fs,hin,hin',w2,hwin,List.length_map,hst',z2I,z86,hsp,hmx,hsh,hml]
      exact keep nd
    ·have nd : ¬ z6w r.se r.st ⟨9,cs,ccl,cb,cw,cm⟩ (l.drop (k + 1)):=by
      rintro (⟨⟨_,h⟩,_⟩ | ⟨_,h,_⟩ | ⟨h,_⟩)
      ·exact absurd h (by dsimp only; omega)
      ·exact hcl h
      ·exact absurd h (by dsimp only; omega)
     simp only [go_sem,hlt,hg,splice,fs,hin,hin',w2,hwin,List.length_map,hcl,z2I,z86,hsp,hmx,hsh,hml]
     exact keep nd
   ·by_cases hst : cs = (r.st : Int)
    ·rw [if_pos (.inr (.inr ⟨rfl,hst⟩))] at hw
     simp only [go_sem,hlt,hg,splice,fs,hin,hin',w2,hwin,List.length_map,hst,z2I,z86]
     exact ⟨(k + 1,r,out),rfl,⟨by dsimp only; omega,I,by dsimp only; omega,by dsimp only; omega,hw⟩,by dsimp only; omega⟩
    ·have nd : ¬ z6w r.se r.st ⟨10,cs,ccl,cb,cw,cm⟩ (l.drop (k + 1)):=by
      rintro (⟨⟨_,h⟩,_⟩ | ⟨h,_⟩ | ⟨_,h⟩)
      ·exact absurd h (by dsimp only; omega)
      ·exact absurd h (by dsimp only; omega)
      ·exact hst h
     simp only [go_sem,hlt,hg,splice,fs,hin,hin',w2,hwin,List.length_map,hst,z2I,z86,hsp,hmx,hsh,hml]
     exact keep nd
 ·obtain rfl : k = l.length:=by omega
  rw [List.drop_length,wo,List.append_nil] at hw
  subst hw
  have hwf:=winF (wo z22 0 l)
  simp only [go_sem,Nat.lt_irrefl,Int.lt_irrefl,hwf,List.length_map]
end Go.Am
end
section
/- The program: programs of the same signals. -/
open Go
set_option linter.all false
set_option maxRecDepth 100000
namespace Go.Am
variable {h l2 : Heap} {K : Post} {r : Run} {n : Nat} {o : Obj} {x : Esc}
theorem zpA (s t : List UInt8) (hs : s.length ≤ 1000000000) : z0c X z3I [.p (.sl none (z0k s)),.p (.sl none (z0k t))] h K = K (AB (decide (s = t))) h []:=by
 refine rule ?_
 rw [c_q040 rfl]
 by_cases hl : s.length = t.length
 ·have hl' : (s.length : Int) = (t.length : Int):=by omega
  simp only [zcd,go_sem,z1c,hl']
  refine z0Z (fun k : Nat=>⟨[(0,.p (.sl none (z0k s))),(1,.p (.sl none (z0k t))),(12,AI t.length),(13,AI k)],h,[]⟩) (fun k=>k ≤ s.length ∧ s.take k = t.take k) (fun k=>s.length - k) 0 rfl (by simp) ?_
  rintro k ⟨hk,hp⟩
  rcases Nat.lt_or_ge k s.length with hlt | hge
  ·have hlt2 : k < t.length:=by omega
   have g1 : (z0k s)[k]? = some (.int .u8 s[k].toNat):=by unfold z0k; rw [List.getElem?_map,List.getElem?_eq_getElem hlt]; rfl
   have g2 : (z0k t)[k]? = some (.int .u8 t[k].toNat):=by unfold z0k; rw [List.getElem?_map,List.getElem?_eq_getElem hlt2]; rfl
   have w2 : IntKind.i64.wrap ((k : Int) + 1) = ((k + 1 : Nat) : Int):=z0m _ (by omega) (by omega)
   by_cases he : s[k] = t[k]
   ·have he' : ((s[k].toNat : Nat) : Int) = (t[k].toNat : Int):=by rw [he]
    simp only [go_sem,hlt,hlt2,g1,g2,z1c,he',w2]
    refine ⟨k + 1,rfl,⟨by omega,?_⟩,by omega⟩
    rw [List.take_succ_eq_append_getElem hlt,List.take_succ_eq_append_getElem hlt2,hp,he]
   ·have he' : ¬ ((s[k].toNat : Nat) : Int) = (t[k].toNat : Int):=fun e=>he (UInt8.toNat_inj.1 (by omega))
    have hne : ¬ s = t:=fun e=>he (by subst e; rfl)
    simp only [go_sem,hlt,hlt2,g1,g2,z1c,he',hne]
  ·have hk' : k = s.length:=by omega
   subst hk'
   rw [List.take_length,hl,List.take_length] at hp
   have hn : ¬ ((t.length : Nat) : Int) < (t.length : Int):=by omega
   simp only [go_sem,hl',hn,hp]
 ·have hl' : ¬ (s.length : Int) = (t.length : Int):=by omega
  have hne : ¬ s = t:=fun e=>hl (by rw [e])
  simp only [zcd,go_sem,z1c,hl',hne]
theorem z8a {h : Heap} {i j k : Nat} (hij : i ≠ j) : (frz h i k)[j]? = h[j]?:=by
 unfold frz
 split
 ·rw [List.getElem?_set]; rw [if_neg hij]
 ·rfl
theorem z48 {h : Heap} {i j k : Nat} (hij : j ≤ i) : (frz h i k).take j = h.take j:=by
 unfold frz
 split
 ·rw [List.take_set_of_le hij]
 ·rfl
theorem z5g (s t : List UInt8) {i j fz fz2 : Nat} (hs : s.length ≤ 1000000000) (hi : h[i]? = some (.row none (z0k s) fz)) (hj : h[j]? = some (.row none (z0k t) fz2)) (hij : i ≠ j) :
 z0c X z3I [.own i s.length 0 s.length,.own j t.length 0 t.length] h K = K (AB (decide (s = t))) (frz (frz h i s.length) j t.length) []:=by
 have hj2 : (frz h i s.length)[j]? = some (.row none (z0k t) fz2):=by rw [z8a hij]; exact hj
 have w1 : win (z0k s) 0 s.length = z0k s:=zgB (z1c _)
 have w2 : win (z0k t) 0 t.length = z0k t:=zgB (z1c _)
 have:=zuL (X:=X) (f:=z3I) (F:=zeB) (a:=[.own i s.length 0 s.length,.own j t.length 0 t.length]) (vs:=[.sl none (z0k s),.sl none (z0k t)]) (h:=h) (h1:=frz (frz h i s.length) j t.length) (P:=K) zu5 rfl (by
  simp [z0s,pur,rd,hi,hj2,w1,w2,z1c]) rfl rfl (by rw [zmz,zmz])
 rw [this]
 exact zpA s t hs
theorem rh_lt {l : Heap} {i : Nat} (hi : i < h.length) : (rh h r l)[i]? = h[i]?:=by
 unfold rh
 rw [List.getElem?_append_left hi]
theorem zm8 (h : Heap) : (hbx h).length = h.length + 1:=by simp [hbx]
theorem hbx_lt {i : Nat} (hi : i < h.length) : (hbx h)[i]? = h[i]?:=by
 unfold hbx
 rw [List.getElem?_append_left hi]
attribute [-go_sem] oEqa
set_option maxHeartbeats 4000000 in
theorem s_Same (a b : List Cmd) (oka : ∀ c ∈ a,CmdOk c) (okb : ∀ c ∈ b,CmdOk c) (la : a.length ≤ 40) (lb : b.length ≤ 40) (ha : z1K z0d a = 0) (hb : z1K z0d b = 0)
 (e1 : sigT (z0o z0d [] 0 b) = sigT (z0o z0d [] 0 a)) (e2 : sigI (z0o z0d [] 0 b) = sigI (z0o z0d [] 0 a)) (e3 : sigW (z0o z0d [] 0 b) = sigW (z0o z0d [] 0 a)) :
 z0c X z96 [ACs a,ACs b] h K = K (.tup [AB true,AI 0]) h []:=by
 refine rule ?_
 rw [c_q066 rfl]
 have k1:=fun (h' : Heap) (K' : Post)=>z2z (h:=h') (K:=K') a oka la
 have k2:=fun (h' : Heap) (K' : Post)=>z2z (h:=h') (K:=K') b okb lb
 rw [ha] at k1
 rw [hb] at k2
 obtain ⟨hca,hna,_⟩:=zaF ha
 obtain ⟨hcb,hnb,_⟩:=zaF hb
 have f0:=fun (h' : Heap) (K' : Post)=>zws (h:=h') (K:=K') [0,0] (by simp)
 have o0 : orL [0,0] = 0:=rfl
 simp only [AL,List.map_cons,List.map_nil,o0] at f0
 have s1:=fun (h' : Heap) (K' : Post)=>z9W (h:=h') (K:=K') a hca (by omega)
 have s2:=fun (h' : Heap) (K' : Post)=>z9W (h:=h') (K:=K') b hcb (by omega)
 obtain ⟨_,_,_,_,a5⟩:=z6e zcY (z1F hca) true hna
 obtain ⟨_,_,_,_,b5⟩:=z6e zcY (z1F hcb) true hnb
 obtain ⟨a1,a2,a3⟩:=a5 rfl
 obtain ⟨b1,b2,b3⟩:=b5 rfl
 rw [e1,← a1] at b1
 rw [e2,← a2] at b2
 rw [e3,← a3] at b3
 have lt1 : ((run0 true).play z0d a).tms.length ≤ 1000000000:=by rw [a1]; omega
 have lt2 : ((run0 true).play z0d a).tdi.length ≤ 1000000000:=by rw [a2,(zdx hca la).2.1]; omega
 have lt3 : ((run0 true).play z0d a).want.length ≤ 1000000000:=by rw [a3,(zdx hca la).2.2]; omega
 generalize (run0 true).play z0d a = ra at *
 generalize (run0 true).play z0d b = rb at *
 obtain ⟨H1,hH1⟩ : ∃ H1,H1 = rh (hbx h) ra []:=⟨_,rfl⟩
 obtain ⟨H2,hH2⟩ : ∃ H2,H2 = rh (hbx H1) rb []:=⟨_,rfl⟩
 have n1:=zm8 h
 have n2:=zm8 H1
 have n3 : H1.length = h.length + 7:=by rw [hH1,z4U,n1]; simp
 have low : ∀ i,i < H1.length → H2[i]? = H1[i]?:=fun i hi=>by rw [hH2,rh_lt (by omega),hbx_lt hi]
 have B1:=z2I (h:=hbx h) (r:=ra) (l:=[])
 rw [← hH1] at B1
 have G1:=(low _ (by omega)).trans B1
 have G2:=z2I (h:=hbx H1) (r:=rb) (l:=[])
 rw [← hH2] at G2
 have T1 : H2[(hbx h).length + 2]? = some (.row none (z0k ra.tms) 0):=(low _ (by omega)).trans (by rw [hH1]; exact zwn)
 have T2 : H2[(hbx H1).length + 2]? = some (.row none (z0k rb.tms) 0):=by rw [hH2]; exact zwn
 have I1 : H2[(hbx h).length + 3]? = some (.row none (z0k ra.tdi) 0):=(low _ (by omega)).trans (by rw [hH1]; exact zwo)
 have I2 : H2[(hbx H1).length + 3]? = some (.row none (z0k rb.tdi) 0):=by rw [hH2]; exact zwo
 have W1 : H2[(hbx h).length + 4]? = some (.row none (z0k ra.want) 0):=(low _ (by omega)).trans (by rw [hH1]; exact zwp)
 have W2 : H2[(hbx H1).length + 4]? = some (.row none (z0k rb.want) 0):=by rw [hH2]; exact zwp
 have tk : H2.take h.length = h:=by
  rw [hH2]
  unfold rh hbx
  rw [List.append_assoc,List.take_append_of_le_length (by omega),hH1]
  unfold rh hbx
  rw [List.append_assoc]
  exact z5n ..
 have c1:=fun K'=>z5g (h:=H2) (K:=K') ra.tms rb.tms lt1 T1 T2 (by omega)
 rw [b1] at c1 G2
 obtain ⟨H3,hH3⟩ : ∃ H3,H3 = frz (frz H2 ((hbx h).length + 2) ra.tms.length) ((hbx H1).length + 2) ra.tms.length:=⟨_,rfl⟩
 have up3 : ∀ i,i ≠ (hbx h).length + 2 → i ≠ (hbx H1).length + 2 → H3[i]? = H2[i]?:=fun i h1 h2=>by rw [hH3,z8a (fun e=>h2 e.symm),z8a (fun e=>h1 e.symm)]
 have tk3 : H3.take h.length = h:=by rw [hH3,z48 (by omega),z48 (by omega)]; exact tk
 rw [← hH3] at c1
 have c2:=fun K'=>z5g (h:=H3) (K:=K') ra.tdi rb.tdi lt2 ((up3 _ (by omega) (by omega)).trans I1) ((up3 _ (by omega) (by omega)).trans I2) (by omega)
 rw [b2] at c2 G2
 obtain ⟨H4,hH4⟩ : ∃ H4,H4 = frz (frz H3 ((hbx h).length + 3) ra.tdi.length) ((hbx H1).length + 3) ra.tdi.length:=⟨_,rfl⟩
 have up4 : ∀ i,i ≠ (hbx h).length + 3 → i ≠ (hbx H1).length + 3 → H4[i]? = H3[i]?:=fun i h1 h2=>by rw [hH4,z8a (fun e=>h2 e.symm),z8a (fun e=>h1 e.symm)]
 have tk4 : H4.take h.length = h:=by rw [hH4,z48 (by omega),z48 (by omega)]; exact tk3
 rw [← hH4] at c2
 have c3:=fun K'=>z5g (h:=H4) (K:=K') ra.want rb.want lt3 ((up4 _ (by omega) (by omega)).trans ((up3 _ (by omega) (by omega)).trans W1)) ((up4 _ (by omega) (by omega)).trans ((up3 _ (by omega) (by omega)).trans W2)) (by omega)
 rw [b3] at c3 G2
 obtain ⟨H5,hH5⟩ : ∃ H5,H5 = frz (frz H4 ((hbx h).length + 4) ra.want.length) ((hbx H1).length + 4) ra.want.length:=⟨_,rfl⟩
 have tk5 : H5.take h.length = h:=by rw [hH5,z48 (by omega),z48 (by omega)]; exact tk4
 rw [← hH5] at c3
 have G13:=(up3 _ (by omega) (by omega)).trans G1
 have G23:=(up3 _ (by omega) (by omega)).trans G2
 have G14:=(up4 _ (by omega) (by omega)).trans G13
 have G24:=(up4 _ (by omega) (by omega)).trans G23
 have s1':=fun (K' : Post)=>s1 h K'
 have s2':=fun (K' : Post)=>s2 H1 K'
 rw [← hH1] at s1'
 rw [← hH2] at s2'
 clear hH1 hH2 hH3 hH4 hH5 s1 s2 low up3 up4
 generalize (hbx h).length = m1 at *
 generalize (hbx H1).length = m2 at *
 simp only [decide_true] at c1 c2 c3
 simp only [zk3,go_sem,k1,k2,f0,s1',s2',show ((0 : Nat) : Int) = 0 from rfl,G1,G2,G13,G23,G14,G24,zhA,zhB,zhC,c1,c2,c3,tk5]
end Go.Am
end
section
/- Lists of commands that are equal. -/
open Go
set_option linter.all false
namespace Go.Am
variable {h : Heap} {K : Post}
attribute [-go_sem] oEqa
theorem eqa6n (c d : Cmd) : oEqa [0,0,0,2,2,2] true (ACm c) (ACm d) = some (AB (!decide (c = d))):=by
 obtain ⟨k,s,cl,b,w,m⟩:=c
 obtain ⟨k',s',cl',b',w',m'⟩:=d
 exact eqa6
theorem zrZ (l m : List Cmd) (hl : l.length ≤ 1000000000) : z0c X z92 [ACs l,ACs m] h K = K (AB (decide (l = m))) h []:=by
 refine rule ?_
 rw [c_q03z rfl]
 by_cases he : l.length = m.length
 ·have he' : (l.length : Int) = (m.length : Int):=by omega
  simp only [zca,go_sem,he']
  refine z0Z (fun k : Nat=>⟨[(0,ACs l),(1,ACs m),(12,AI m.length),(13,AI k)],h,[]⟩) (fun k=>k ≤ l.length ∧ l.take k = m.take k) (fun k=>l.length - k) 0 rfl (by simp) ?_
  rintro k ⟨hk,hp⟩
  rcases Nat.lt_or_ge k l.length with hlt | hge
  ·have hlt2 : k < m.length:=by omega
   have hlt3 : (k : Int) < (m.length : Int):=by omega
   have g1:=z18 cmdP hlt
   have g2:=z18 cmdP hlt2
   have w2 : IntKind.i64.wrap ((k : Int) + 1) = ((k + 1 : Nat) : Int):=z0m _ (by omega) (by omega)
   have hq:=eqa6n l[k] m[k]
   by_cases h1 : l[k] = m[k]
   ·rw [decide_eq_true h1] at hq
    simp only [go_sem,hlt,hlt2,hlt3,g1,g2,↓hq,hq,w2]
    refine ⟨k + 1,rfl,⟨by omega,?_⟩,by omega⟩
    rw [List.take_succ_eq_append_getElem hlt,List.take_succ_eq_append_getElem hlt2,hp,h1]
   ·rw [decide_eq_false h1] at hq
    have hne : ¬ l = m:=fun e=>h1 (by subst e; rfl)
    simp only [go_sem,hlt,hlt2,hlt3,g1,g2,↓hq,hq,hne]
  ·obtain rfl : k = l.length:=by omega
   rw [List.take_length,he,List.take_length] at hp
   subst hp
   simp only [go_sem,Nat.lt_irrefl,Int.lt_irrefl,decide_true]
 ·have he' : ¬ (l.length : Int) = (m.length : Int):=by omega
  have hne : ¬ l = m:=fun e=>he (by rw [e])
  simp only [zca,go_sem,he',hne]
end Go.Am
end
section
/- What is drawn: bits,commands. -/
open Go
set_option linter.all false
namespace Go.Am
variable {L : List Int} {a : Int} {h l : Heap} {id : Nat} {K : Post}
attribute [-go_sem] oEqa z1t
theorem zq7 (a : Int) : z4J [[48],[49]] L a = [48] ∨ z4J [[48],[49]] L a = [49]:=by
 have:=z6c (l:=[[48],[49]]) (L:=L) (a:=a) (by simp) (by simp)
 simpa using this
theorem zfE (n : Nat) (hn : n ≤ 1000) (hp : posN 1200 a) : GenE z3G [AI n] L a (fun v a2=>a2 = a + n ∧ ∃ s : List UInt8,z0O s = true ∧ s.length = n ∧ v = AS s):=by
 refine GenE.of fun h id hid=>?_
 rw [c_q02x rfl]
 simp only [zfh,go_sem]
 refine z0Z (fun t : Nat × List UInt8=>⟨[(0,.ref id 0),(5,AS t.2),(6,AI n),(7,AI t.1)],h.set id (strm L (a + t.1)),[]⟩) (fun t=>t.1 ≤ n ∧ t.2.length = t.1 ∧ z0O t.2 = true) (fun t=>n - t.1) (0,[]) (by simp) ⟨Nat.zero_le _,rfl,rfl⟩ ?_
 rintro ⟨k,s⟩ ⟨hk,hs,hb⟩
 dsimp only at hk hs hb ⊢
 rcases Nat.lt_or_ge k n with hlt | hge
 ·have w2 : IntKind.i64.wrap ((k : Int) + 1) = ((k + 1 : Nat) : Int):=z0m _ (by omega) (by omega)
  have P:=z1w (n:=0) hp (show a ≤ a + (k : Int) by omega) (by omega)
  have hlt' : (k : Int) < (n : Int):=by omega
  have e : a + ((k + 1 : Nat) : Int) = a + (k : Int) + 1:=by omega
  rcases zq7 (L:=L) (a + (k : Int)) with e1 | e1
  ·have hl : s.length + 1 ≤ z00:=by unfold z00; omega
   simp only [go_sem,hlt,hlt',hid,P,w2,e1,hl]
   exact ⟨(k + 1,s ++ [48]),by dsimp only; rw [e],⟨by dsimp only; omega,by simp [hs],by unfold z0O at *; rw [List.all_append,hb]; rfl⟩,by dsimp only; omega⟩
  ·have hl : s.length + 1 ≤ z00:=by unfold z00; omega
   simp only [go_sem,hlt,hlt',hid,P,w2,e1,hl]
   exact ⟨(k + 1,s ++ [49]),by dsimp only; rw [e],⟨by dsimp only; omega,by simp [hs],by unfold z0O at *; rw [List.all_append,hb]; rfl⟩,by dsimp only; omega⟩
 ·obtain rfl : k = n:=by omega
  simp only [go_sem,Nat.lt_irrefl,Int.lt_irrefl]
  exact ⟨a + (k : Int),⟨rfl,s,hb,hs,rfl⟩,rfl⟩
structure CmdB (m : Nat) (c : Cmd) : Prop where
 k : -1152921504606846976 ≤ c.k ∧ c.k ≤ 1152921504606846976
 s : -1152921504606846976 ≤ c.s ∧ c.s ≤ 1152921504606846976
 cl : -1152921504606846976 ≤ c.cl ∧ c.cl ≤ 1152921504606846976
 b : c.b.length ≤ m
 w : c.w.length ≤ m
 m : c.m.length ≤ m
theorem CmdB.ok {m : Nat} {c : Cmd} (hm : m ≤ 100000) (H : CmdB m c) : CmdOk c:=⟨by have:=H.b; omega,by have:=H.w; omega,by have:=H.m; omega⟩
abbrev cmdV (c : Cmd) : List AV:=[AI c.k,AI c.s,AI c.cl,AS c.b,AS c.w,AS c.m]
set_option maxHeartbeats 4000000 in
theorem ac_k4 (hid : id < h.length) {b : Int} (hp : posN 60 b) (c : Cmd) (hc : CmdB 8 c) {z1 z2 z3 : Int} {z4 z5 z6 : List UInt8} {Kx : Ex → St → Prop}
 (hK : ∀ (c2 : Cmd) (b2 : Int),b ≤ b2 → b2 ≤ b + 8 → CmdB 2100 c2 → Kx .ret ⟨[(2,.ref h.length 0)],h.set id (strm L b2) ++ [.box (cmdV c2),.box (cmdV c2)],[]⟩) :
 z1t (z0c X) X.gl z4f (.ref id 0) (.ref h.length 0) (.ref (h.length + 1) 0) (h.set id (strm L b) ++ [.box [AI z1,AI z2,AI z3,AS z4,AS z5,AS z6],.box (cmdV c)]) [] Kx:=by
 have hid' : id ≤ h.length:=by omega
 have P:=zga (z1w hp (Int.le_refl b) (by omega))
 obtain ⟨k,s,cl,bb,w,m⟩:=c
 obtain ⟨q1,q2,q3,q4,q5,q6⟩:=hc
 dsimp only at q1 q2 q3 q4 q5 q6
 by_cases hf : z1C L b 60 = 0
 ·obtain ⟨m1,m2⟩:=z4A L (b + 1) 4 (by omega) (by omega)
  generalize hn : z1C L (b + 1) 4 = nx at m1 m2
  have : nx = 0 ∨ nx = 1 ∨ nx = 2 ∨ nx = 3:=by omega
  rcases this with rfl | rfl | rfl | rfl
  ·obtain ⟨kv,a3,c1,c2,c3,c4,O⟩:=g_Odd (L:=L) (a:=b + 1 + 1) (z1w hp (by omega) (by omega)) 1 10 (by omega) (by omega) (by omega)
   have O':=fun l K=>O.app (h:=h) (id:=id) (l:=l) (K:=K) hid
   simp only [z1t,go_sem,hid,hid',P,hf,hn,O']
   exact hK ⟨kv,s,cl,bb,w,m⟩ a3 (by omega) (by omega) ⟨by dsimp only; omega,q2,q3,by dsimp only; omega,by dsimp only; omega,by dsimp only; omega⟩
  ·obtain ⟨kv,a3,c1,c2,c3,c4,O⟩:=g_Odd (L:=L) (a:=b + 1 + 1) (z1w hp (by omega) (by omega)) 0 15 (by omega) (by omega) (by omega)
   have O':=fun l K=>O.app (h:=h) (id:=id) (l:=l) (K:=K) hid
   have P3 : posN 0 a3:=z1w hp (by omega) (by omega)
   have pm:=z82 (l:=[0,1,-1,20000,20001]) (L:=L) (a:=a3) (by simp) (by simp)
   simp only [List.mem_cons,List.not_mem_nil,or_false] at pm
   simp only [z1t,go_sem,hid,hid',P,P3,hf,hn,O']
   exact hK ⟨k,kv,z3L [0,1,-1,20000,20001] L a3,bb,w,m⟩ (a3 + 1) (by omega) (by omega) ⟨q1,by dsimp only; omega,by dsimp only; omega,by dsimp only; omega,by dsimp only; omega,by dsimp only; omega⟩
  ·have w1 : IntKind.i64.wrap (2000 - (bb.length : Int)) = ((2000 - bb.length : Nat) : Int):=by
    rw [show (2000 : Int) - (bb.length : Int) = ((2000 - bb.length : Nat) : Int) by omega]; exact z0m _ (by omega) (by omega)
   have r1:=fun (h' : Heap) (K' : Post)=>z9S (h:=h') (K:=K') ((2000 - bb.length : Nat) : Int) (by omega) (by omega)
   have r2:=fun (h' : Heap) (K' : Post)=>z9S (h:=h') (K:=K') 2001 (by omega) (by omega)
   simp only [Int.toNat_natCast] at r1
   have pm:=z6c (l:=[[120],[],zs (2000 - bb.length),zs (Int.toNat 2001)]) (L:=L) (a:=b + 1 + 1) (by simp) (by simp)
   have pl : (z4J [[120],[],zs (2000 - bb.length),zs (Int.toNat 2001)] L (b + 1 + 1)).length ≤ 2001:=by
    simp only [List.mem_cons,List.not_mem_nil,or_false] at pm
    rcases pm with e | e | e | e
    ·rw [e]; decide
    ·rw [e]; decide
    ·rw [e]; simp only [zs,List.length_replicate]; omega
    ·rw [e]; simp only [zs,List.length_replicate]; omega
   generalize hps : z4J [[120],[],zs (2000 - bb.length),zs (Int.toNat 2001)] L (b + 1 + 1) = ps at pl
   have hl : bb.length + ps.length ≤ z00:=by unfold z00; omega
   simp only [z1t,go_sem,hid,hid',P,hf,hn,w1,r1,r2,hps,hl]
   exact hK ⟨k,s,cl,bb ++ ps,w,m⟩ (b + 1 + 1 + 1) (by omega) (by omega) ⟨q1,q2,q3,by simp; omega,by dsimp only; omega,by dsimp only; omega⟩
  ·have pm:=z6c (l:=[[],[48],w ++ [49]]) (L:=L) (a:=b + 1 + 1) (by simp) (by simp)
   have pl : (z4J [[],[48],w ++ [49]] L (b + 1 + 1)).length ≤ 9:=by
    simp only [List.mem_cons,List.not_mem_nil,or_false] at pm
    rcases pm with e | e | e
    ·rw [e]; decide
    ·rw [e]; decide
    ·rw [e,List.length_append,List.length_singleton]; omega
   have pm2:=z6c (l:=[[],[49],[120],m]) (L:=L) (a:=b + 1 + 1 + 1) (by simp) (by simp)
   have pl2 : (z4J [[],[49],[120],m] L (b + 1 + 1 + 1)).length ≤ 9:=by
    simp only [List.mem_cons,List.not_mem_nil,or_false] at pm2
    rcases pm2 with e | e | e | e
    ·rw [e]; decide
    ·rw [e]; decide
    ·rw [e]; decide
    ·rw [e]; omega
   have hl : w.length + 1 ≤ z00:=by unfold z00; omega
   generalize hps : z4J [[],[48],w ++ [49]] L (b + 1 + 1) = ps at pl
   generalize hps2 : z4J [[],[49],[120],m] L (b + 1 + 1 + 1) = ps2 at pl2
   simp only [z1t,go_sem,hid,hid',P,hf,hn,hps,hps2,hl]
   exact hK ⟨k,s,cl,bb,ps,ps2⟩ (b + 1 + 1 + 1 + 1) (by omega) (by omega) ⟨q1,q2,q3,by dsimp only; omega,by dsimp only; omega,by dsimp only; omega⟩
 ·simp only [z1t,go_sem,hid,hid',P,hf]
  exact hK ⟨k,s,cl,bb,w,m⟩ (b + 1) (by omega) (by omega) ⟨q1,q2,q3,by dsimp only; omega,by dsimp only; omega,by dsimp only; omega⟩
theorem z4B {l : List Int} {lo hi : Int} (hl : 0 < l.length) (hl2 : l.length < 4611686018427387904) (h : ∀ x ∈ l,lo ≤ x ∧ x ≤ hi) (a : Int) : lo ≤ z3L l L a ∧ z3L l L a ≤ hi:=h _ (z82 hl hl2)
set_option maxHeartbeats 4000000 in
theorem zhw (hp : posN 2000 a) : GenE z9q [] L a (fun v a2=>a ≤ a2 ∧ a2 ≤ a + 60 ∧ ∃ c : Cmd,CmdB 2100 c ∧ v = ACm c):=by
 refine GenE.of fun h id hid=>?_
 rw [c_q02m rfl]
 have hid' : id ≤ h.length:=by omega
 have P:=zga (z1w hp (Int.le_refl a) (by omega))
 obtain ⟨k1,k2⟩:=z4B (L:=L) (l:=[7,7,8,8,8,1,2,3,4,5,6,9,10]) (lo:=1) (hi:=10) (by simp) (by simp) (by simp) a
 generalize hkd : z3L [7,7,8,8,8,1,2,3,4,5,6,9,10] L a = kd at k1 k2
 have hb2 : ∀ o1 o2 : Obj,(h.set id (strm L a) ++ [o1,o2]).length = h.length + 2:=fun o1 o2=>by simp
 have fin : ∀ (c : Cmd) (b : Int),a ≤ b → b ≤ a + 50 → CmdB 8 c → z1t (z0c X) X.gl z4f (.ref id 0) (.ref h.length 0) (.ref (h.length + 1) 0) (h.set id (strm L b) ++ [.box [AI 0,AI 0,AI 0,AS [],AS [],AS []],.box (cmdV c)]) []
  (finR [.cell 2 (some 6)] false h.length fun v1 h1 x1=>∃ a2,(a ≤ a2 ∧ a2 ≤ a + 60 ∧ ∃ c : Cmd,CmdB 2100 c ∧ v1 = ACm c) ∧ h1 = h.set id (strm L a2) ∧ x1 = []):=by
  intro c b hb1 hb2 hc
  refine ac_k4 hid (z1w hp hb1 (by omega)) c hc fun c2 b2 q1 q2 q3=>?_
  simp only [go_sem]
  exact ⟨b2,⟨by omega,by omega,c2,q3,rfl⟩,rfl⟩
 have z : (-1152921504606846976 : Int) ≤ 0 ∧ (0 : Int) ≤ 1152921504606846976:=by omega
 have ck : ∀ k : Int,1 ≤ k → k ≤ 10 → -1152921504606846976 ≤ k ∧ k ≤ 1152921504606846976:=fun k _ _=>by omega
 by_cases hs : kd = 1 ∨ kd = 2 ∨ kd = 10
 ·obtain ⟨s1,s2⟩:=z4B (L:=L) (l:=[0,1,1,6,13]) (lo:=0) (hi:=13) (by simp) (by simp) (by simp) (a + 1)
  generalize hsv : z3L [0,1,1,6,13] L (a + 1) = sv at s1 s2
  have hf:=fin ⟨kd,sv,0,[],[],[]⟩ (a + 1 + 1) (by omega) (by omega) ⟨ck _ k1 k2,by dsimp only; omega,z,Nat.zero_le _,Nat.zero_le _,Nat.zero_le _⟩
  rcases hs with rfl | rfl | rfl
  ·simp only [z3F,go_sem,hid,hid',P,hkd,hsv]
   exact hf
  ·simp only [z3F,go_sem,hid,hid',P,hkd,hsv]
   exact hf
  ·simp only [z3F,go_sem,hid,hid',P,hkd,hsv]
   exact hf
 have n1 : ¬ kd = 1:=fun e=>hs (.inl e)
 have n2 : ¬ kd = 2:=fun e=>hs (.inr (.inl e))
 have n10 : ¬ kd = 10:=fun e=>hs (.inr (.inr e))
 by_cases h9 : kd = 9
 ·obtain ⟨s1,s2⟩:=z4B (L:=L) (l:=[0,0,1,3]) (lo:=0) (hi:=3) (by simp) (by simp) (by simp) (a + 1)
  generalize hsv : z3L [0,0,1,3] L (a + 1) = sv at s1 s2
  have hf:=fin ⟨9,0,sv,[],[],[]⟩ (a + 1 + 1) (by omega) (by omega) ⟨ck 9 (by omega) (by omega),z,by dsimp only; omega,Nat.zero_le _,Nat.zero_le _,Nat.zero_le _⟩
  subst h9
  simp only [z3F,go_sem,hid,hid',P,hkd,hsv]
  exact hf
 by_cases h78 : kd = 7 ∨ kd = 8
 ·obtain ⟨s1,s2⟩:=z4B (L:=L) (l:=[1,2,3,5,8]) (lo:=1) (hi:=8) (by simp) (by simp) (by simp) (a + 1)
  generalize hsv : z3L [1,2,3,5,8] L (a + 1) = sv at s1 s2
  obtain ⟨n,rfl⟩ : ∃ n : Nat,sv = n:=⟨sv.toNat,by omega⟩
  obtain ⟨_,a3,⟨e3,s,sb,sl,rfl⟩,V⟩:=(zfE (L:=L) (a:=a + 1 + 1) n (by omega) (z1w hp (by omega) (by omega))).app (h:=h) (l:=[.box [AI 0,AI 0,AI 0,AS [],AS [],AS []],.box [AI kd,AI 0,AI 0,AS [],AS [],AS []]]) hid
  have P3 : posN 0 a3:=z1w hp (by omega) (by omega)
  have hid2 : id < (h.set id (strm L (a3 + 1)) ++ [Obj.box [AI 0,AI 0,AI 0,AS [],AS [],AS []],.box [AI kd,AI 0,AI 0,AS s,AS [],AS []]]).length:=by simp; omega
  obtain ⟨_,a4,⟨e4,t,tb,tl,rfl⟩,V2⟩:=(zfE (L:=L) (a:=a3 + 1) s.length (by omega) (z1w hp (by omega) (by omega))).app (h:=h) (l:=[.box [AI 0,AI 0,AI 0,AS [],AS [],AS []],.box [AI kd,AI 0,AI 0,AS s,AS [],AS []]]) hid
  obtain ⟨_,a5,⟨e5,u,ub,ul,rfl⟩,V3⟩:=(zfE (L:=L) (a:=a4) s.length (by omega) (z1w hp (by omega) (by omega))).app (h:=h) (l:=[.box [AI 0,AI 0,AI 0,AS [],AS [],AS []],.box [AI kd,AI 0,AI 0,AS s,AS [],AS []]]) hid
  have hf:=fin ⟨kd,0,0,s,[],[]⟩ (a3 + 1) (by omega) (by omega) ⟨ck _ k1 k2,z,z,by dsimp only; omega,Nat.zero_le _,Nat.zero_le _⟩
  have hf2:=fin ⟨kd,0,0,s,t,u⟩ a5 (by omega) (by omega) ⟨ck _ k1 k2,z,z,by dsimp only; omega,by dsimp only; omega,by dsimp only; omega⟩
  by_cases hfl : z1C L a3 2 = 0
  ·rcases h78 with rfl | rfl
   ·simp only [z3F,go_sem,hid,hid',P,P3,hkd,hsv,V,V2,V3,hfl]
    exact hf2
   ·simp only [z3F,go_sem,hid,hid',P,P3,hkd,hsv,V,V2,V3,hfl]
    exact hf2
  ·rcases h78 with rfl | rfl
   ·simp only [z3F,go_sem,hid,hid',P,P3,hkd,hsv,V,hfl]
    exact hf
   ·simp only [z3F,go_sem,hid,hid',P,P3,hkd,hsv,V,hfl]
    exact hf
 ·have n7 : ¬ kd = 7:=fun e=>h78 (.inl e)
  have n8 : ¬ kd = 8:=fun e=>h78 (.inr e)
  obtain ⟨s1,s2⟩:=z4B (L:=L) (l:=[0,0,1,2,3]) (lo:=0) (hi:=3) (by simp) (by simp) (by simp) (a + 1)
  generalize hsv : z3L [0,0,1,2,3] L (a + 1) = sv at s1 s2
  obtain ⟨n,rfl⟩ : ∃ n : Nat,sv = n:=⟨sv.toNat,by omega⟩
  obtain ⟨_,a3,⟨e3,s,sb,sl,rfl⟩,V⟩:=(zfE (L:=L) (a:=a + 1 + 1) n (by omega) (z1w hp (by omega) (by omega))).app (h:=h) (l:=[.box [AI 0,AI 0,AI 0,AS [],AS [],AS []],.box [AI kd,AI 0,AI 0,AS [],AS [],AS []]]) hid
  have hf:=fin ⟨kd,0,0,s,[],[]⟩ a3 (by omega) (by omega) ⟨ck _ k1 k2,z,z,by dsimp only; omega,Nat.zero_le _,Nat.zero_le _⟩
  simp only [z3F,go_sem,hid,hid',P,hkd,hsv,n1,n2,n10,h9,n7,n8,V]
  exact hf
end Go.Am
end
section
/- What is drawn: programs. -/
open Go
set_option linter.all false
namespace Go.Am
variable {L : List Int} {a : Int} {h l : Heap} {id : Nat} {K : Post}
attribute [-go_sem] oEqa
theorem repO_x (n : Int) (h0 : 0 ≤ n) (h1 : n ≤ 1000000) (h : Heap) (K : Post) : z0c X z1g [AS [49],AI n] h K = K (AS (List.replicate n.toNat 49)) h []:=by
 rw [zaN [49] n h0 (by simp; omega) h1,zgp]
set_option maxHeartbeats 4000000 in
theorem zhx (n : Nat) (hn : n ≤ 20) (hp : posN 4000 a) : GenE z9r [AI n] L a (fun v a2=>a ≤ a2 ∧ a2 ≤ a + 1300 ∧ ∃ l : List Cmd,l.length ≤ n + 11 ∧ (∀ c ∈ l,CmdB 2100 c) ∧ v = ACs l):=by
 refine GenE.of fun h id hid=>?_
 rw [c_q02p rfl]
 have hid' : id ≤ h.length:=by omega
 have hz : PV.shp (some 6) (.agg [.int .i64 0,.int .i64 0,.int .i64 0,.str [],.str [],.str []]) = true:=rfl
 simp only [zfd,go_sem]
 refine z0Z (fun t : List Cmd × Int=>⟨[(0,.ref id 0),(5,.own h.length t.1.length 0 t.1.length),(6,AI n),(7,AI t.1.length)],h.set id (strm L t.2) ++ [.row (some 6) (t.1.map cmdP) 0],[]⟩)
  (fun t=>t.1.length ≤ n ∧ (∀ c ∈ t.1,CmdB 2100 c) ∧ a ≤ t.2 ∧ t.2 ≤ a + 60 * t.1.length) (fun t=>n - t.1.length) ([],a) rfl ⟨by simp,by simp,by simp,by simp⟩ ?_
 rintro ⟨cs,b⟩ ⟨q1,q2,q3,q4⟩
 dsimp only at q1 q2 q3 q4 ⊢
 have hcz : ∀ c : Cmd,PV.shp (some 6) (cmdP c) = true:=fun c=>rfl
 rcases Nat.lt_or_ge cs.length n with hlt | hge
 ·have w2 : IntKind.i64.wrap ((cs.length : Int) + 1) = ((cs.length + 1 : Nat) : Int):=z0m _ (by omega) (by omega)
  obtain ⟨_,a3,⟨d1,d2,c,hc,rfl⟩,V⟩:=(zhw (L:=L) (a:=b) (z1w hp (by omega) (by omega))).app (h:=h) (l:=[.row (some 6) (cs.map cmdP) 0]) hid
  have hmx : cs.length + 1 ≤ z0F:=by unfold z0F; omega
  have hc':=hcz c
  have hlt' : (cs.length : Int) < (n : Int):=by omega
  simp only [go_sem,hid,hid',hlt,hlt',V,hmx,hz,hc',w2]
  refine ⟨(cs ++ [c],a3),by simp,⟨by simp; omega,fun g hg=>?_,by dsimp only; omega,by simp; omega⟩,by simp; omega⟩
  rcases List.mem_append.1 hg with hg | hg
  ·exact q2 g hg
  ·rw [List.mem_singleton.1 hg]; exact hc
 ·have hge' : ¬ cs.length < n:=by omega
  have P:=z1w (n:=0) hp q3 (by omega)
  by_cases hf : z1C L b 80 = 0
  ·simp only [go_sem,hid,hid',hge',P,hf]
   refine z0Z (fun t : List Cmd × Int × Nat=>⟨[(0,.ref id 0),(5,.own h.length t.1.length 0 t.1.length),(17,AI t.2.2)],h.set id (strm L t.2.1) ++ [.row (some 6) (t.1.map cmdP) 0],[]⟩)
    (fun t=>t.2.2 ≤ 11 ∧ t.1.length = cs.length + t.2.2 ∧ (∀ c ∈ t.1,CmdB 2100 c) ∧ t.2.1 = b + 1 + t.2.2) (fun t=>11 - t.2.2) (cs,b + 1,0) rfl ⟨by simp,by simp,q2,by simp⟩ ?_
   rintro ⟨ds,b2,k⟩ ⟨r1,r2,r3,r4⟩
   dsimp only at r1 r2 r3 r4 ⊢
   subst r4
   have P2:=z1w (n:=0) (b:=b + 1 + (k : Int)) hp (by omega) (by omega)
   rcases Nat.lt_or_ge k 11 with hk | hk
   ·have w2 : IntKind.i64.wrap ((k : Int) + 1) = ((k + 1 : Nat) : Int):=z0m _ (by omega) (by omega)
    obtain ⟨s1,s2⟩:=z4B (L:=L) (l:=[1800,1830,2000]) (lo:=1800) (hi:=2000) (by simp) (by simp) (by simp) (b + 1 + (k : Int))
    generalize hsv : z3L [1800,1830,2000] L (b + 1 + (k : Int)) = sv at s1 s2
    have r0:=fun (h' : Heap) (K' : Post)=>repO_x sv (by omega) (by omega) h' K'
    have hmx : ds.length + 1 ≤ z0F:=by unfold z0F; omega
    have hk' : (k : Int) < 11:=by omega
    have hc':=hcz ⟨8,0,0,List.replicate sv.toNat 49,[],[]⟩
    simp only [go_sem,hid,hid',hk',P2,hsv,r0,hmx,hz,hc',w2]
    refine ⟨(ds ++ [⟨8,0,0,List.replicate sv.toNat 49,[],[]⟩],b + 1 + (k : Int) + 1,k + 1),by simp,⟨by dsimp only; omega,by simp; omega,fun g hg=>?_,by dsimp only; omega⟩,by dsimp only; omega⟩
    rcases List.mem_append.1 hg with hg | hg
    ·exact r3 g hg
    ·rw [List.mem_singleton.1 hg]
     exact ⟨by dsimp only; omega,by dsimp only; omega,by dsimp only; omega,by simp; omega,Nat.zero_le _,Nat.zero_le _⟩
   ·obtain rfl : k = 11:=by omega
    have hk' : ¬ ((11 : Nat) : Int) < 11:=by omega
    simp only [go_sem,hid,hid',hk']
    refine ⟨b + 1 + ((11 : Nat) : Int),⟨by omega,by omega,ds,by omega,r3,?_⟩,rfl⟩
    exact congrArg (fun x=>AV.p (PV.sl (some 6) x)) (List.take_of_length_le (by simp))
  ·simp only [go_sem,hid,hid',hge',P,hf]
   refine ⟨b + 1,⟨by omega,by omega,cs,by omega,q2,?_⟩,rfl⟩
   exact congrArg (fun x=>AV.p (PV.sl (some 6) x)) (List.take_of_length_le (by simp))
end Go.Am
end
section
/- What is drawn and right: programs. -/
open Go
set_option linter.all false
namespace Go.Am
variable {L : List Int} {a : Int} {h l : Heap} {id : Nat} {K : Post}
theorem z8b (n : Nat) (hn : n ≤ 20) (hp : posN 20000 a) : GenE z9s [AI n] L a (fun v a2=>a ≤ a2 ∧ a2 ≤ a + 7800 ∧ ∃ l : List Cmd,l.length ≤ n ∧ (∀ c ∈ l,CmdB 2100 c) ∧ z1K z0d l = 0 ∧ v = ACs l):=by
 refine GenE.of fun h id hid=>?_
 rw [c_q02v rfl]
 simp only [zfg,go_sem,hid]
 refine z0Z (fun t : Nat × Int=>⟨[(0,.ref id 0),(1,AI n),(6,AI t.1)],h.set id (strm L t.2),[]⟩) (fun t=>t.1 ≤ 6 ∧ a ≤ t.2 ∧ t.2 ≤ a + 1300 * t.1) (fun t=>6 - t.1) (0,a) rfl ⟨by simp,by simp,by simp⟩ ?_
 rintro ⟨k,b⟩ ⟨h1,h2,h3⟩
 dsimp only at h1 h2 h3 ⊢
 rcases Nat.lt_or_ge k 6 with hlt | hge
 ·have hk : (k : Int) < 6:=by omega
  have w1 : IntKind.i64.wrap ((k : Int) + 1) = ((k + 1 : Nat) : Int):=z0m _ (by omega) (by omega)
  obtain ⟨_,a2,⟨c1,c2,l,l1,lb,rfl⟩,V⟩:=(zhx (L:=L) (a:=b) n hn (z1w hp h2 (by omega))).set (h:=h) hid
  have F:=fun h K=>z8D (h:=h) (K:=K) l (fun c hc=>(lb c hc).ok (by omega)) (by omega)
  by_cases hf : z1K z0d l = 0
  ·have hf' : ((z1K z0d l : Nat) : Int) = 0:=by omega
   by_cases hl : l.length ≤ n
   ·have hl' : (l.length : Int) ≤ (n : Int):=by omega
    simp only [go_sem,hid,hk,↓V,V,↓F,F,hf,hf',hl,hl']
    exact ⟨a2,⟨by omega,by omega,l,hl,lb,hf,rfl⟩,rfl⟩
   ·have hl' : ¬ (l.length : Int) ≤ (n : Int):=by omega
    simp only [go_sem,hid,hk,↓V,V,↓F,F,hf,hf',hl,hl',w1]
    exact ⟨(k + 1,a2),rfl,⟨by dsimp only; omega,by dsimp only; omega,by dsimp only; omega⟩,by dsimp only; omega⟩
  ·have hf' : ¬ ((z1K z0d l : Nat) : Int) = 0:=by omega
   simp only [go_sem,hid,hk,↓V,V,↓F,F,hf,hf',w1]
   exact ⟨(k + 1,a2),rfl,⟨by dsimp only; omega,by dsimp only; omega,by dsimp only; omega⟩,by dsimp only; omega⟩
 ·have hk : ¬ (k : Int) < 6:=by omega
  simp only [go_sem,hid,hk]
  exact ⟨b,⟨by omega,by omega,[],by simp,by simp,rfl,rfl⟩,rfl⟩
end Go.Am
end
section
/- ready: a z1s call,computed. -/
open Go
set_option linter.all false
namespace Go.Am
def orcP (f : Nat) (a : List AV) : Option AV:=bif Nat.beq f z3W then match a with
 | [.p (.int .i64 x),.p (.int .i64 y)]=>bif decide (0 ≤ x) && decide (x < 16) && decide (0 ≤ y) && decide (y < 16) then some (.p (.str (z0d x.toNat y.toNat))) else none
 | _=>none else none
theorem zwg : ∀ f a v,orcP f a = some v → ∀ h (K : Post),K v h [] → z0c X0 f a h K:=by
 intro f a v hv h K hK
 unfold orcP at hv
 cases hf : Nat.beq f z3W with
 | false=>rw [hf] at hv; cases hv
 | true=>
  have hf':=Nat.eq_of_beq_eq_true hf
  rw [hf] at hv
  subst hf'
  simp only [cond_true] at hv
  split at hv
  ·rename_i x y
   cases hc : (decide (0 ≤ x) && decide (x < 16) && decide (0 ≤ y) && decide (y < 16)) with
   | false=>rw [hc] at hv; cases hv
   | true=>
    rw [hc] at hv
    simp only [cond_true,Option.some.injEq] at hv
    simp only [Bool.and_eq_true,decide_eq_true_eq] at hc
    obtain ⟨a,rfl⟩:=Int.eq_ofNat_of_zero_le hc.1.1.1
    obtain ⟨b,rfl⟩:=Int.eq_ofNat_of_zero_le hc.1.2
    have:=zuq (h:=h) (K:=K) ze2 ze1 a b (by omega) (by omega)
    rw [this]
    subst hv
    exact hK
  ·cases hv
theorem zrN : z7O X0 orcP 1000 60 z7P [] [] = some (AB true,[],[]):=by kernel_rfl
theorem zwY : z0c X0 z7P [] [] fun v h x=>v = AB true ∧ h = [] ∧ x = []:=(zhY zwg 1000 60 zrN _).2 ⟨rfl,rfl,rfl⟩
theorem zwv {h : Heap} {K : Post} : z0c X z7P [] h K = K (AB true) h []:=z7c (by kernel_rfl) rfl
end Go.Am
end
section
/- What all laws of the keep package use. -/
open Go
set_option linter.all false
namespace Go.Am
variable {h : Heap} {K : Post}
theorem zwu (l : List Int) (hl : l.length ≤ 1000) : z0c X z6K [AL l] h K = K (AI (z45 l)) h []:=by
 refine rule ?_
 rw [c_q02f rfl]
 simp only [zfb,go_sem]
 refine z0Z (fun k : Nat=>⟨[(5,AL l),(6,AI l.length),(7,AI k)],h,[]⟩) (fun k=>k ≤ l.length ∧ z45 (l.drop k) = z45 l) (fun k=>l.length - k) 0 rfl (by simp) ?_
 rintro k ⟨hk,hp⟩
 rcases Nat.lt_or_ge k l.length with hlt | hge
 ·have hg:=z18 eI hlt
  have w2 : IntKind.i64.wrap ((k : Int) + 1) = ((k + 1 : Nat) : Int):=z0m _ (by omega) (by omega)
  rw [List.drop_eq_getElem_cons hlt,z45] at hp
  by_cases he : l[k] = 0
  ·rw [if_pos he] at hp
   simp only [go_sem,hlt,hg,w2,he]
   exact ⟨k + 1,rfl,⟨by omega,hp⟩,by omega⟩
  ·rw [if_neg he] at hp
   simp only [go_sem,hlt,hg,w2,he]
   rw [hp]
 ·have e1 : k = l.length:=by omega
  subst e1
  simp only [go_sem,Nat.lt_irrefl]
  rw [List.drop_length] at hp
  rw [← hp]; rfl
end Go.Am
end
section
/- WithoutIsSame returns true. -/
open Go
set_option linter.all false
set_option maxRecDepth 100000
namespace Go.Am
variable {h : Heap} {K : Post}
set_option maxHeartbeats 4000000 in
theorem law_WS (L : List Int) {K : Post} : z0c X zf4 [AL L] [] K = K (AB true) [] []:=by
 refine rule ?_
 rw [c_q02e rfl]
 have p0 : posN 100000 0:=by unfold posN; omega
 have p00 : posN 0 0:=by unfold posN; omega
 have rb : 0 ≤ z2H 0 10 L 0 ∧ z2H 0 10 L 0 ≤ 10:=z85 L 0 (by omega) (by omega)
 obtain ⟨n,hn⟩ : ∃ n : Nat,z2H 0 10 L 0 = n:=⟨(z2H 0 10 L 0).toNat,by omega⟩
 obtain ⟨_,a2,⟨d1,d2,l,hl,hb,h0,rfl⟩,V⟩:=(z8b (L:=L) (a:=1) n (by omega) (z1w p0 (by omega) (by omega))).hd (l:=[])
 have hok : ∀ c ∈ l,CmdOk c:=fun c hc=>(hb c hc).ok (by omega)
 have hl4 : l.length ≤ 40:=by omega
 obtain ⟨w0,w1,w2,w3,w4⟩:=wo_all h0
 have sub:=zd6 l z22 0
 have wok : ∀ c ∈ wo z22 0 l,CmdOk c:=fun c hc=>hok c (sub.subset hc)
 have wl:=sub.length_le
 have C1:=fun h K=>zdm (h:=h) (K:=K) l hok hl4 h0
 have C2:=fun h K=>zdm (h:=h) (K:=K) (wo z22 0 l) wok (by omega) w0
 rw [w4] at C2
 have C3:=fun h K=>s_Same (h:=h) (K:=K) l (wo z22 0 l) hok wok hl4 (by omega) h0 w0 w1 w2 w3
 have C4:=fun h K=>zrZ (h:=h) (K:=K) (wo z22 0 l) (wo z22 0 l) (by omega)
 have ke:=fun h K=>zwu (h:=h) (K:=K) [0,0,0] (by simp)
 simp only [AL,List.map_cons,List.map_nil] at ke
 have k0 : z45 [0,0,0] = 0:=rfl
 rw [k0] at ke
 generalize wo z22 0 l = w at *
 have hle : (w.length : Int) ≤ (l.length : Int):=by omega
 simp only [decide_true] at C4
 simp only [zkp,go_sem,p00,hn,V,C1,C2,C3,C4,ke,hle,wl,List.length_map,zwv]
end Go.Am
end
section
/- From a law that is true here tov the model's calls at what came in. -/
open Go
namespace Go.Am
variable {P : Program}
theorem law_nil {X : Ctx} (HX : Fits P X) {f : Nat} {F : AFun} (hF : X.fn f = some F) (H : ∀ L : List Int,z0c X f [zrE L] [] fun v _ _=>v = .p (.bool true)) (W : World) (hG : GInv X.gl (imm [] [] W)) :
 Calls P f #[.slice none 0 0] W fun e W'=>e = .returned (.bool true) ∧ RowKit.Below W.heap.size W W':=by
 refine (zeW HX hF (H []) (W:=W) (vs:=[.slice none 0 0]) hG rfl (fun j y v hy hv=>?_)).mono fun e W' he=>?_
 ·cases j with
  | zero=>cases hy; cases hv; exact zq9 W
  | succ j=>cases hy
 ·cases e with
  | returned r=>
   obtain ⟨⟨v,h,x,μ,hk,hr⟩,hb⟩:=he
   subst hk
   exact ⟨by rw [hr.p_bool],hb⟩
  | panicked _=>exact he.elim
  | outgrown=>exact he.elim
theorem law_ints {X : Ctx} (HX : Fits P X) {f : Nat} {F : AFun} (hF : X.fn f = some F) (H : ∀ L : List Int,z0c X f [zrE L] [] fun v _ _=>v = .p (.bool true)) {W : World} (hG : GInv X.gl (imm [] [] W)) {a : Addr} {len cap : Nat} {zs : List Int}
 (hl : len ≤ cap) (hz : len ≤ zs.length) (hc : ∀ i,i < zs.length → W.cell? (a.add i) = some (.int .i64 (zs.getD i 0))) :
 Calls P f #[.slice (some a) len cap] W fun e W'=>e = .returned (.bool true) ∧ RowKit.Below W.heap.size W W':=by
 refine (zeW HX hF (H (zs.take len)) (W:=W) (vs:=[.slice (some a) len cap]) hG rfl (fun j y v hy hv=>?_)).mono fun e W' he=>?_
 ·cases j with
  | zero=>
   cases hy; cases hv
   rcases Nat.eq_zero_or_pos len with h0 | h0
   ·subst h0
    exact .p _ _ (.nils _ _ _)
   ·exact zjU (by simpa [Addr.add] using World.cell?_spot (hc 0 (by omega))) hl hz hc
  | succ j=>cases hy
 ·cases e with
  | returned r=>
   obtain ⟨⟨v,h,x,μ,hk,hr⟩,hb⟩:=he
   subst hk
   exact ⟨by rw [hr.p_bool],hb⟩
  | panicked _=>exact he.elim
  | outgrown=>exact he.elim
end Go.Am
namespace Go.ChangeShapes
open Go.RowKit Go.WideShapes
section
variable {H : Type} {enc : TypeId × Value → H} {P : Program}
end
end Go.ChangeShapes
end
section
/- The abstract machine,part L2: the kit's contracts asv rows. -/
set_option linter.unusedSimpArgs false
set_option linter.unusedVariables false
namespace Go.Am
variable {P : Program} {gl : Nat → Option PV}
open Go.Shelf
end Go.Am
end
section
/- The abstract machine,part L6: scanref2.setting (a range over slices.Backward with a return inside) asv a row,out of what the walk says of it. -/
set_option linter.all false
namespace Go.Am
variable {P : Program} {gl : Nat → Option PV}
theorem zfK {y : PV} (h : zdY y = true) : ∃ a b c s t u,y = .agg [.int .i64 a,.int .i64 b,.int .i64 c,.str s,.str t,.str u]:=by
 unfold zdY at h
 split at h
 ·exact ⟨_,_,_,_,_,_,rfl⟩
 ·cases h
def cmdW (a b c : Int) (s t u : List UInt8) : Value:=.agg #[.int .i64 a,.int .i64 b,.int .i64 c,.string ⟨s.toArray⟩,.string ⟨t.toArray⟩,.string ⟨u.toArray⟩]
theorem zeY (M : Mem) (a b c : Int) (s t u : List UInt8) : RPV M (.agg [.int .i64 a,.int .i64 b,.int .i64 c,.str s,.str t,.str u]) (cmdW a b c s t u):=by
 refine .agg _ [_,_,_,_,_,_] rfl fun j y v h1 h2=>?_
 match j with
 | 0=>cases h1; cases h2; exact .int _ _
 | 1=>cases h1; cases h2; exact .int _ _
 | 2=>cases h1; cases h2; exact .int _ _
 | 3=>cases h1; cases h2; exact .str _
 | 4=>cases h1; cases h2; exact .str _
 | 5=>cases h1; cases h2; exact .str _
 | j + 6=>simp at h1
def z5a (xs : List PV) (j q : Nat) : Value:=match xs[j]? with
 | some (.agg [.int .i64 a,.int .i64 b,.int .i64 c,.str s,.str t,.str u])=>match q with
  | 0=>.int .i64 a | 1=>.int .i64 b | 2=>.int .i64 c | 3=>.string ⟨s.toArray⟩ | 4=>.string ⟨t.toArray⟩ | _=>.string ⟨u.toArray⟩
 | _=>match q with
  | 0=>.int .i64 0 | 1=>.int .i64 1 | 2=>.int .i64 0 | _=>.string ⟨#[]⟩
theorem z3Q {xs : List PV} {j : Nat} {a b c : Int} {s t u : List UInt8} (h : xs[j]? = some (.agg [.int .i64 a,.int .i64 b,.int .i64 c,.str s,.str t,.str u])) (q : Nat) :
 z5a xs j q = match q with
 | 0=>.int .i64 a | 1=>.int .i64 b | 2=>.int .i64 c | 3=>.string ⟨s.toArray⟩ | 4=>.string ⟨t.toArray⟩ | _=>.string ⟨u.toArray⟩:=by
 unfold z5a; rw [h]
theorem zb3 {xs : List PV} {j : Nat} (h : xs[j]? = none) (q : Nat) :
 z5a xs j q = match q with
 | 0=>.int .i64 0 | 1=>.int .i64 1 | 2=>.int .i64 0 | _=>.string ⟨#[]⟩:=by
 unfold z5a; rw [h]
def Cmds (f : Nat → Nat → Value) (kd : Nat → Int) : Prop:=∀ j,∃ b c s t u,f j 0 = .int .i64 (kd j) ∧ f j 1 = .int .i64 b ∧ f j 2 = .int .i64 c ∧ f j 3 = .string s ∧ f j 4 = .string t ∧ f j 5 = .string u
def zuG (P : Program) (fn : Nat) : Prop:=
 (∀ (b off len cap i : Nat) (k : Int) (f : Nat → Nat → Value) (kd : Nat → Int) (w : World),i ≤ len → len ≤ cap → Cmds f kd → len * 200 ≤ 140737488351232 →
  (b < w.heap.size ∧ ∀ j q,j < len → q < 6 → w.cell? ⟨b,off + (6 * j + q),none⟩ = some (f j q)) →
  Calls P fn #[.slice (some ⟨b,off,none⟩) len cap,.int .i64 i,.int .i64 k] w fun e W'=>
   ((∃ j,j < i ∧ e = .returned (.agg #[f j 0,f j 1,f j 2,f j 3,f j 4,f j 5]) ∧ kd j = k ∧ ∀ j',j < j' → j' < i → kd j' ≠ k) ∨
    (e = .returned (.agg #[.int .i64 0,.int .i64 1,.int .i64 0,.string ⟨#[]⟩,.string ⟨#[]⟩,.string ⟨#[]⟩]) ∧ ∀ j,j < i → kd j ≠ k)) ∧ Go.RowKit.Below w.heap.size w W') ∧
 (∀ (a : Option Addr) (cap : Nat) (k : Int) (w : World),Calls P fn #[.slice a 0 cap,.int .i64 0,.int .i64 k] w fun e W'=>
  e = .returned (.agg #[.int .i64 0,.int .i64 1,.int .i64 0,.string ⟨#[]⟩,.string ⟨#[]⟩,.string ⟨#[]⟩]) ∧ Go.RowKit.Below w.heap.size w W')
theorem z77 {xs : List PV} (h : xs.all zdY = true) (j : Nat) :
 (xs.length ≤ j ∧ xs[j]? = none) ∨ (j < xs.length ∧ ∃ a b c s t u,xs[j]? = some (.agg [.int .i64 a,.int .i64 b,.int .i64 c,.str s,.str t,.str u])):=by
 rcases Nat.lt_or_ge j xs.length with h1 | h1
 ·obtain ⟨a,b,c,s,t,u,e⟩:=zfK (List.all_eq_true.1 h _ (List.getElem_mem h1))
  exact .inr ⟨h1,a,b,c,s,t,u,by rw [List.getElem?_eq_getElem h1,e]⟩
 ·exact .inl ⟨h1,List.getElem?_eq_none h1⟩
theorem zke {xs : List PV} (h : xs.all zdY = true) : Cmds (z5a xs) fun j=>zap ((xs[j]?).getD zmC):=fun j=>by
 rcases z77 h j with ⟨_,e⟩ | ⟨_,a,b,c,s,t,u,e⟩
 ·simp only [zb3 e,e]
  exact ⟨_,_,_,_,_,rfl,rfl,rfl,rfl,rfl,rfl⟩
 ·simp only [z3Q e,e]
  exact ⟨_,_,_,_,_,rfl,rfl,rfl,rfl,rfl,rfl⟩
theorem za1 {p : PV → Bool} : ∀ {l : List PV} {j : Nat} {y : PV},l[j]? = some y → p y = true → (∀ j' z,j < j' → l[j']? = some z → p z = false) → l.reverse.find? p = some y:=by
 intro l
 induction l with
 | nil=>intro j y h; simp at h
 | cons a r ih=>
  intro j y h hp hn
  rw [List.reverse_cons,List.find?_append]
  cases j with
  | succ j=>
   rw [ih (j:=j) (by simpa using h) hp (fun j' z h1 h2=>hn (j' + 1) z (by omega) (by simpa using h2))]
   rfl
  | zero=>
   simp only [List.getElem?_cons_zero,Option.some.injEq] at h
   subst h
   have : r.reverse.find? p = none:=by
    rw [List.find?_eq_none]
    intro z hz
    obtain ⟨j',h1⟩:=List.mem_iff_getElem?.1 (List.mem_reverse.1 hz)
    simp [hn (j' + 1) z (by omega) (by simpa using h1)]
   rw [this]
   simp [hp]
theorem zwZ {fn : Nat} (H : zuG P fn) (he : ∀ us w,(callFunc fn us).run P w = .ok (.enter fn us) w) : PureRow P gl fn z4E where
 enter:=he
 run M w vs r us hc hb hG hl hr hs:=by
  unfold z4E at hs
  split at hs
  ·rename_i xs i k
   split at hs
   ·rename_i hcd
    obtain ⟨h0,hi,hlen,hall⟩:=hcd
    simp only [Option.some.injEq] at hs
    subst hs
    match us,hl with
    | [u0,u1,u2],_=>
     have q0:=hr 0 _ u0 rfl rfl
     have q1:=hr 1 _ u1 rfl rfl
     cases q1
     have q2:=hr 2 _ u2 rfl rfl
     cases q2
     obtain ⟨n,rfl⟩ : ∃ n : Nat,i = n:=⟨i.toNat,by omega⟩
     simp only [Int.toNat_natCast]
     have hidle : ∀ M',RAV M' [] [] (.p zmC) (.agg #[.int .i64 0,.int .i64 1,.int .i64 0,.string ⟨#[]⟩,.string ⟨#[]⟩,.string ⟨#[]⟩]):=fun M'=>.p _ _ (zeY M' 0 1 0 [] [] [])
     generalize hsh : (some 6 : Sh) = sh at q0
     cases q0 with
     | nils _ a cap=>
      obtain rfl : n = 0:=by simpa using hi
      refine (H.2 a cap k w).mono fun e w' h=>?_
      obtain ⟨rfl,h⟩:=h
      exact ⟨_,rfl,z3O h,hidle _⟩
     | sl _ _ b o cap f hne hcap hshp hm hrr=>
      have hn6 : ∀ x ∈ xs,x.cells.length = 6:=fun x hx=>by
       obtain ⟨a,b,c,s,t,u,e⟩:=zfK (List.all_eq_true.1 hall x hx)
       rw [e]; rfl
      have hcell : ∀ j q,j < xs.length → q < 6 → w.cell? ⟨b,o + (6 * j + q),none⟩ = some (z5a xs j q):=by
       intro j q hj hq
       rcases z77 hall j with ⟨h1,_⟩ | ⟨_,a,b',c,s,t,u,e⟩
       ·omega
       ·have hf:=z2C hn6 j q hq
        rw [e] at hf
        rw [Nat.mul_comm 6 j]
        rw [z3Q e]
        have hq' : q = 0 ∨ q = 1 ∨ q = 2 ∨ q = 3 ∨ q = 4 ∨ q = 5:=by omega
        rcases hq' with rfl | rfl | rfl | rfl | rfl | rfl <;>
        ·have h1:=hc _ _ _ (hm _ _ hf)
         have h2:=hrr _ _ hf
         revert h1 h2
         generalize f _ = fj
         intro h1 h2
         cases h2
         exact h1
      have hb0 : b < w.heap.size:=z7s (hcell 0 0 (List.length_pos_iff.2 hne) (by omega))
      refine (H.1 b o xs.length cap n k (z5a xs) (fun j=>zap ((xs[j]?).getD zmC)) w (by omega) hcap (zke hall) (by omega) ⟨hb0,hcell⟩).mono fun e w' h=>?_
      obtain ⟨h,hB⟩:=h
      rcases h with ⟨j,hj,rfl,hk,hlast⟩ | ⟨rfl,hnone⟩
      ·rcases z77 hall j with ⟨h1,_⟩ | ⟨_,a,b',c,s,t,u,e⟩
       ·omega
       ·have hfd : z2D (xs.take n) k = .agg [.int .i64 a,.int .i64 b',.int .i64 c,.str s,.str t,.str u]:=by
         unfold z2D
         rw [za1 (j:=j) (y:=.agg [.int .i64 a,.int .i64 b',.int .i64 c,.str s,.str t,.str u]) (by rw [List.getElem?_take,if_pos hj]; exact e) (by rw [e] at hk; simpa using hk) (fun j' z h1 h2=>by
          rw [List.getElem?_take] at h2
          split at h2
          ·rename_i h3
           have:=hlast j' h1 h3
           rw [h2] at this
           simpa using this
          ·cases h2)]
         rfl
        refine ⟨_,rfl,z3O hB,?_⟩
        rw [hfd]
        simp only [z3Q e]
        exact .p _ _ (zeY _ a b' c s t u)
      ·have hfd : z2D (xs.take n) k = zmC:=by
        unfold z2D
        rw [List.find?_eq_none.2]
        ·rfl
        ·intro z hz
         obtain ⟨j',h1⟩:=List.mem_iff_getElem?.1 (List.mem_reverse.1 hz)
         rw [List.getElem?_take] at h1
         split at h1
         ·rename_i h3
          have:=hnone j' h3
          rw [h1] at this
          simpa using this
         ·cases h1
       refine ⟨_,rfl,z3O hB,?_⟩
       rw [hfd]
       exact hidle _
   ·cases hs
  ·cases hs
end Go.Am
end
