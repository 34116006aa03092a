/- Texts of the proof, laid together: SpVec19, SpVec20, PSplit, PTxt, PNum, PFltR, PWrit, SpIdx, AmL4, AmL5, SpSplit, SpLines, SpNum, SpNums, SpQNum, SpWords, SpJoin, SpFltT, SpEach, SpFltR, SpFltR2, SpFltR3, SpChg, SpGenA2, SpDelF, SpGenF2, SpInts, SpFltE, SpLawSM, Bridge, AmX2, AmL2, AmL6. -/
import Derived.Shelf.Strings.Repeat
import Derived.Shelf.Strings.SlTrimAscii
import Derived.Shelf.Spec.TrailingZeros
import Derived.Shelf.Strings.Count
import Derived.Shelf.Strings.OnBuilder
import Derived.ProofKit
import Derived.Shelf.Strconv.Itoa3
import Derived.Lib.LaidTab
import Derived.Test.YtilloflkgbfjfaaDoorlawSM8
set_option linter.all false
section
/- What is drawn: bits,commands. -/
open Go
set_option linter.all false
namespace Go.Am
variable {L : List Int} {a : Int} {h l : Heap} {id : Nat} {K : Post}
attribute [-go_sem] oEqa d_q00d_k4
theorem bit_pick (a : Int) : pickS [[48],[49]] L a = [48] ∨ pickS [[48],[49]] L a = [49]:=by
  have:=pickS_mem (l:=[[48],[49]]) (L:=L) (a:=a) (by simp) (by simp)
  simpa using this
theorem g_bits (n : Nat) (hn : n ≤ 1000) (hp : posN 1200 a) : GenE f_q00l [AI n] L a (fun v a2=>a2 = a + n ∧ ∃ s : List UInt8,bitsB s = true ∧ s.length = n ∧ v = AS s):=by
  refine GenE.of fun h id hid=>?_
  rw [c_q00l rfl]
  simp only [d_q00l,go_sem]
  refine N_loop (fun t : Nat × List UInt8=>⟨[(0,.ref id 0),(5,AS t.2),(6,AI n),(7,AI t.1)],h.set id (strm L (a + t.1)),[]⟩) (fun t=>t.1 ≤ n ∧ t.2.length = t.1 ∧ bitsB t.2 = true) (fun t=>n - t.1) (0,[]) (by simp) ⟨Nat.zero_le _,rfl,rfl⟩ ?_
  rintro ⟨k,s⟩ ⟨hk,hs,hb⟩
  dsimp only at hk hs hb ⊢
  rcases Nat.lt_or_ge k n with hlt | hge
  · have w2 : IntKind.i64.wrap ((k : Int) + 1) = ((k + 1 : Nat) : Int) := i64_wrap _ (by omega) (by omega)
    have P:=posN_le (n:=0) hp (show a ≤ a + (k : Int) by omega) (by omega)
    have hlt' : (k : Int) < (n : Int):=by omega
    have e : a + ((k + 1 : Nat) : Int) = a + (k : Int) + 1:=by omega
    rcases bit_pick (L:=L) (a + (k : Int)) with e1 | e1
    · have hl : s.length + 1 ≤ maxStr := by unfold maxStr; omega
      simp only [go_sem,hlt,hlt',hid,P,w2,e1,hl]
      exact ⟨(k + 1,s ++ [48]),by dsimp only; rw [e],⟨by dsimp only; omega,by simp [hs],by unfold bitsB at *; rw [List.all_append,hb]; rfl⟩,by dsimp only; omega⟩
    · have hl : s.length + 1 ≤ maxStr := by unfold maxStr; omega
      simp only [go_sem,hlt,hlt',hid,P,w2,e1,hl]
      exact ⟨(k + 1,s ++ [49]),by dsimp only; rw [e],⟨by dsimp only; omega,by simp [hs],by unfold bitsB at *; rw [List.all_append,hb]; rfl⟩,by dsimp only; omega⟩
  · obtain rfl : k = n := by omega
    simp only [go_sem,Nat.lt_irrefl,Int.lt_irrefl]
    exact ⟨a + (k : Int),⟨rfl,s,hb,hs,rfl⟩,rfl⟩
structure CmdB (m : Nat) (c : Cmd) : Prop where
  k : -1152921504606846976 ≤ c.k ∧ c.k ≤ 1152921504606846976
  s : -1152921504606846976 ≤ c.s ∧ c.s ≤ 1152921504606846976
  cl : -1152921504606846976 ≤ c.cl ∧ c.cl ≤ 1152921504606846976
  b : c.b.length ≤ m
  w : c.w.length ≤ m
  m : c.m.length ≤ m
theorem CmdB.ok {m : Nat} {c : Cmd} (hm : m ≤ 100000) (H : CmdB m c) : CmdOk c:=⟨by have:=H.b; omega,by have:=H.w; omega,by have:=H.m; omega⟩
abbrev cmdV (c : Cmd) : List AV:=[AI c.k,AI c.s,AI c.cl,AS c.b,AS c.w,AS c.m]
set_option maxHeartbeats 4000000 in
theorem ac_k4 (hid : id < h.length) {b : Int} (hp : posN 60 b) (c : Cmd) (hc : CmdB 8 c) {z1 z2 z3 : Int} {z4 z5 z6 : List UInt8} {Kx : Ex → St → Prop}
    (hK : ∀ (c2 : Cmd) (b2 : Int),b ≤ b2 → b2 ≤ b + 8 → CmdB 2100 c2 → Kx .ret ⟨[(2,.ref h.length 0)],h.set id (strm L b2) ++ [.box (cmdV c2),.box (cmdV c2)],[]⟩) :
    d_q00d_k4 (ACall X) X.gl p_q00d_k3 (.ref id 0) (.ref h.length 0) (.ref (h.length + 1) 0) (h.set id (strm L b) ++ [.box [AI z1,AI z2,AI z3,AS z4,AS z5,AS z6],.box (cmdV c)]) [] Kx:=by
  have hid' : id ≤ h.length:=by omega
  have P:=posAll (posN_le hp (Int.le_refl b) (by omega))
  obtain ⟨k,s,cl,bb,w,m⟩:=c
  obtain ⟨q1,q2,q3,q4,q5,q6⟩:=hc
  dsimp only at q1 q2 q3 q4 q5 q6
  by_cases hf : nextV L b 60 = 0
  · obtain ⟨m1, m2⟩ := nextV_bd L (b + 1) 4 (by omega) (by omega)
    generalize hn : nextV L (b + 1) 4 = nx at m1 m2
    have : nx = 0 ∨ nx = 1 ∨ nx = 2 ∨ nx = 3:=by omega
    rcases this with rfl | rfl | rfl | rfl
    · obtain ⟨kv, a3, c1, c2, c3, c4, O⟩ := g_Odd (L := L) (a := b + 1 + 1) (posN_le hp (by omega) (by omega)) 1 10 (by omega) (by omega) (by omega)
      have O':=fun l K=>O.app (h:=h) (id:=id) (l:=l) (K:=K) hid
      simp only [d_q00d_k4,go_sem,hid,hid',P,hf,hn,O']
      exact hK ⟨kv,s,cl,bb,w,m⟩ a3 (by omega) (by omega) ⟨by dsimp only; omega,q2,q3,by dsimp only; omega,by dsimp only; omega,by dsimp only; omega⟩
    · obtain ⟨kv, a3, c1, c2, c3, c4, O⟩ := g_Odd (L := L) (a := b + 1 + 1) (posN_le hp (by omega) (by omega)) 0 15 (by omega) (by omega) (by omega)
      have O':=fun l K=>O.app (h:=h) (id:=id) (l:=l) (K:=K) hid
      have P3 : posN 0 a3:=posN_le hp (by omega) (by omega)
      have pm:=pickV_mem (l:=[0,1,-1,20000,20001]) (L:=L) (a:=a3) (by simp) (by simp)
      simp only [List.mem_cons,List.not_mem_nil,or_false] at pm
      simp only [d_q00d_k4,go_sem,hid,hid',P,P3,hf,hn,O']
      exact hK ⟨k,kv,pickV [0,1,-1,20000,20001] L a3,bb,w,m⟩ (a3 + 1) (by omega) (by omega) ⟨q1,by dsimp only; omega,by dsimp only; omega,by dsimp only; omega,by dsimp only; omega,by dsimp only; omega⟩
    · have w1 : IntKind.i64.wrap (2000 - (bb.length : Int)) = ((2000 - bb.length : Nat) : Int):=by
        rw [show (2000 : Int) - (bb.length : Int) = ((2000 - bb.length : Nat) : Int) by omega]; exact i64_wrap _ (by omega) (by omega)
      have r1:=fun (h' : Heap) (K' : Post)=>s_RepZ (h:=h') (K:=K') ((2000 - bb.length : Nat) : Int) (by omega) (by omega)
      have r2:=fun (h' : Heap) (K' : Post)=>s_RepZ (h:=h') (K:=K') 2001 (by omega) (by omega)
      simp only [Int.toNat_natCast] at r1
      have pm:=pickS_mem (l:=[[120],[],zs (2000 - bb.length),zs (Int.toNat 2001)]) (L:=L) (a:=b + 1 + 1) (by simp) (by simp)
      have pl : (pickS [[120],[],zs (2000 - bb.length),zs (Int.toNat 2001)] L (b + 1 + 1)).length ≤ 2001:=by
        simp only [List.mem_cons,List.not_mem_nil,or_false] at pm
        rcases pm with e | e | e | e
        · rw [e]; decide
        · rw [e]; decide
        · rw [e]; simp only [zs,List.length_replicate]; omega
        · rw [e]; simp only [zs,List.length_replicate]; omega
      generalize hps : pickS [[120],[],zs (2000 - bb.length),zs (Int.toNat 2001)] L (b + 1 + 1) = ps at pl
      have hl : bb.length + ps.length ≤ maxStr:=by unfold maxStr; omega
      simp only [d_q00d_k4,go_sem,hid,hid',P,hf,hn,w1,r1,r2,hps,hl]
      exact hK ⟨k,s,cl,bb ++ ps,w,m⟩ (b + 1 + 1 + 1) (by omega) (by omega) ⟨q1,q2,q3,by simp; omega,by dsimp only; omega,by dsimp only; omega⟩
    · have pm := pickS_mem (l := [[], [48], w ++ [49]]) (L := L) (a := b + 1 + 1) (by simp) (by simp)
      have pl : (pickS [[],[48],w ++ [49]] L (b + 1 + 1)).length ≤ 9:=by
        simp only [List.mem_cons,List.not_mem_nil,or_false] at pm
        rcases pm with e | e | e
        · rw [e]; decide
        · rw [e]; decide
        · rw [e,List.length_append,List.length_singleton]; omega
      have pm2:=pickS_mem (l:=[[],[49],[120],m]) (L:=L) (a:=b + 1 + 1 + 1) (by simp) (by simp)
      have pl2 : (pickS [[],[49],[120],m] L (b + 1 + 1 + 1)).length ≤ 9:=by
        simp only [List.mem_cons,List.not_mem_nil,or_false] at pm2
        rcases pm2 with e | e | e | e
        · rw [e]; decide
        · rw [e]; decide
        · rw [e]; decide
        · rw [e]; omega
      have hl : w.length + 1 ≤ maxStr:=by unfold maxStr; omega
      generalize hps : pickS [[],[48],w ++ [49]] L (b + 1 + 1) = ps at pl
      generalize hps2 : pickS [[],[49],[120],m] L (b + 1 + 1 + 1) = ps2 at pl2
      simp only [d_q00d_k4,go_sem,hid,hid',P,hf,hn,hps,hps2,hl]
      exact hK ⟨k,s,cl,bb,ps,ps2⟩ (b + 1 + 1 + 1 + 1) (by omega) (by omega) ⟨q1,q2,q3,by dsimp only; omega,by dsimp only; omega,by dsimp only; omega⟩
  · simp only [d_q00d_k4, go_sem, hid, hid', P, hf]
    exact hK ⟨k,s,cl,bb,w,m⟩ (b + 1) (by omega) (by omega) ⟨q1,q2,q3,by dsimp only; omega,by dsimp only; omega,by dsimp only; omega⟩
theorem pick_int {l : List Int} {lo hi : Int} (hl : 0 < l.length) (hl2 : l.length < 4611686018427387904) (h : ∀ x ∈ l,lo ≤ x ∧ x ≤ hi) (a : Int) : lo ≤ pickV l L a ∧ pickV l L a ≤ hi:=h _ (pickV_mem hl hl2)
set_option maxHeartbeats 4000000 in
theorem g_ACommand (hp : posN 2000 a) : GenE f_q00d [] L a (fun v a2=>a ≤ a2 ∧ a2 ≤ a + 60 ∧ ∃ c : Cmd,CmdB 2100 c ∧ v = ACm c):=by
  refine GenE.of fun h id hid=>?_
  rw [c_q00d rfl]
  have hid' : id ≤ h.length:=by omega
  have P:=posAll (posN_le hp (Int.le_refl a) (by omega))
  obtain ⟨k1,k2⟩:=pick_int (L:=L) (l:=[7,7,8,8,8,1,2,3,4,5,6,9,10]) (lo:=1) (hi:=10) (by simp) (by simp) (by simp) a
  generalize hkd : pickV [7,7,8,8,8,1,2,3,4,5,6,9,10] L a = kd at k1 k2
  have hb2 : ∀ o1 o2 : Obj,(h.set id (strm L a) ++ [o1,o2]).length = h.length + 2:=fun o1 o2=>by simp
  have fin : ∀ (c : Cmd) (b : Int),a ≤ b → b ≤ a + 50 → CmdB 8 c → d_q00d_k4 (ACall X) X.gl p_q00d_k3 (.ref id 0) (.ref h.length 0) (.ref (h.length + 1) 0) (h.set id (strm L b) ++ [.box [AI 0,AI 0,AI 0,AS [],AS [],AS []],.box (cmdV c)]) []
      (finR [.cell 2 (some 6)] false h.length fun v1 h1 x1=>∃ a2,(a ≤ a2 ∧ a2 ≤ a + 60 ∧ ∃ c : Cmd,CmdB 2100 c ∧ v1 = ACm c) ∧ h1 = h.set id (strm L a2) ∧ x1 = []):=by
    intro c b hb1 hb2 hc
    refine ac_k4 hid (posN_le hp hb1 (by omega)) c hc fun c2 b2 q1 q2 q3=>?_
    simp only [go_sem]
    exact ⟨b2,⟨by omega,by omega,c2,q3,rfl⟩,rfl⟩
  have z : (-1152921504606846976 : Int) ≤ 0 ∧ (0 : Int) ≤ 1152921504606846976:=by omega
  have ck : ∀ k : Int,1 ≤ k → k ≤ 10 → -1152921504606846976 ≤ k ∧ k ≤ 1152921504606846976:=fun k _ _=>by omega
  by_cases hs : kd = 1 ∨ kd = 2 ∨ kd = 10
  · obtain ⟨s1, s2⟩ := pick_int (L := L) (l := [0, 1, 1, 6, 13]) (lo := 0) (hi := 13) (by simp) (by simp) (by simp) (a + 1)
    generalize hsv : pickV [0,1,1,6,13] L (a + 1) = sv at s1 s2
    have hf:=fin ⟨kd,sv,0,[],[],[]⟩ (a + 1 + 1) (by omega) (by omega) ⟨ck _ k1 k2,by dsimp only; omega,z,Nat.zero_le _,Nat.zero_le _,Nat.zero_le _⟩
    rcases hs with rfl | rfl | rfl
    · simp only [d_q00d, go_sem, hid, hid', P, hkd, hsv]
      exact hf
    · simp only [d_q00d, go_sem, hid, hid', P, hkd, hsv]
      exact hf
    · simp only [d_q00d, go_sem, hid, hid', P, hkd, hsv]
      exact hf
  have n1 : ¬ kd = 1:=fun e=>hs (.inl e)
  have n2 : ¬ kd = 2:=fun e=>hs (.inr (.inl e))
  have n10 : ¬ kd = 10:=fun e=>hs (.inr (.inr e))
  by_cases h9 : kd = 9
  · obtain ⟨s1, s2⟩ := pick_int (L := L) (l := [0, 0, 1, 3]) (lo := 0) (hi := 3) (by simp) (by simp) (by simp) (a + 1)
    generalize hsv : pickV [0,0,1,3] L (a + 1) = sv at s1 s2
    have hf:=fin ⟨9,0,sv,[],[],[]⟩ (a + 1 + 1) (by omega) (by omega) ⟨ck 9 (by omega) (by omega),z,by dsimp only; omega,Nat.zero_le _,Nat.zero_le _,Nat.zero_le _⟩
    subst h9
    simp only [d_q00d,go_sem,hid,hid',P,hkd,hsv]
    exact hf
  by_cases h78 : kd = 7 ∨ kd = 8
  · obtain ⟨s1, s2⟩ := pick_int (L := L) (l := [1, 2, 3, 5, 8]) (lo := 1) (hi := 8) (by simp) (by simp) (by simp) (a + 1)
    generalize hsv : pickV [1,2,3,5,8] L (a + 1) = sv at s1 s2
    obtain ⟨n,rfl⟩ : ∃ n : Nat,sv = n:=⟨sv.toNat,by omega⟩
    obtain ⟨_,a3,⟨e3,s,sb,sl,rfl⟩,V⟩:=(g_bits (L:=L) (a:=a + 1 + 1) n (by omega) (posN_le hp (by omega) (by omega))).app (h:=h) (l:=[.box [AI 0,AI 0,AI 0,AS [],AS [],AS []],.box [AI kd,AI 0,AI 0,AS [],AS [],AS []]]) hid
    have P3 : posN 0 a3:=posN_le hp (by omega) (by omega)
    have hid2 : id < (h.set id (strm L (a3 + 1)) ++ [Obj.box [AI 0,AI 0,AI 0,AS [],AS [],AS []],.box [AI kd,AI 0,AI 0,AS s,AS [],AS []]]).length:=by simp; omega
    obtain ⟨_,a4,⟨e4,t,tb,tl,rfl⟩,V2⟩:=(g_bits (L:=L) (a:=a3 + 1) s.length (by omega) (posN_le hp (by omega) (by omega))).app (h:=h) (l:=[.box [AI 0,AI 0,AI 0,AS [],AS [],AS []],.box [AI kd,AI 0,AI 0,AS s,AS [],AS []]]) hid
    obtain ⟨_,a5,⟨e5,u,ub,ul,rfl⟩,V3⟩:=(g_bits (L:=L) (a:=a4) s.length (by omega) (posN_le hp (by omega) (by omega))).app (h:=h) (l:=[.box [AI 0,AI 0,AI 0,AS [],AS [],AS []],.box [AI kd,AI 0,AI 0,AS s,AS [],AS []]]) hid
    have hf:=fin ⟨kd,0,0,s,[],[]⟩ (a3 + 1) (by omega) (by omega) ⟨ck _ k1 k2,z,z,by dsimp only; omega,Nat.zero_le _,Nat.zero_le _⟩
    have hf2:=fin ⟨kd,0,0,s,t,u⟩ a5 (by omega) (by omega) ⟨ck _ k1 k2,z,z,by dsimp only; omega,by dsimp only; omega,by dsimp only; omega⟩
    by_cases hfl : nextV L a3 2 = 0
    · rcases h78 with rfl | rfl
      · simp only [d_q00d, go_sem, hid, hid', P, P3, hkd, hsv, V, V2, V3, hfl]
        exact hf2
      · simp only [d_q00d, go_sem, hid, hid', P, P3, hkd, hsv, V, V2, V3, hfl]
        exact hf2
    · rcases h78 with rfl | rfl
      · simp only [d_q00d, go_sem, hid, hid', P, P3, hkd, hsv, V, hfl]
        exact hf
      · simp only [d_q00d, go_sem, hid, hid', P, P3, hkd, hsv, V, hfl]
        exact hf
  · have n7 : ¬ kd = 7 := fun e => h78 (.inl e)
    have n8 : ¬ kd = 8:=fun e=>h78 (.inr e)
    obtain ⟨s1,s2⟩:=pick_int (L:=L) (l:=[0,0,1,2,3]) (lo:=0) (hi:=3) (by simp) (by simp) (by simp) (a + 1)
    generalize hsv : pickV [0,0,1,2,3] L (a + 1) = sv at s1 s2
    obtain ⟨n,rfl⟩ : ∃ n : Nat,sv = n:=⟨sv.toNat,by omega⟩
    obtain ⟨_,a3,⟨e3,s,sb,sl,rfl⟩,V⟩:=(g_bits (L:=L) (a:=a + 1 + 1) n (by omega) (posN_le hp (by omega) (by omega))).app (h:=h) (l:=[.box [AI 0,AI 0,AI 0,AS [],AS [],AS []],.box [AI kd,AI 0,AI 0,AS [],AS [],AS []]]) hid
    have hf:=fin ⟨kd,0,0,s,[],[]⟩ a3 (by omega) (by omega) ⟨ck _ k1 k2,z,z,by dsimp only; omega,Nat.zero_le _,Nat.zero_le _⟩
    simp only [d_q00d,go_sem,hid,hid',P,hkd,hsv,n1,n2,n10,h9,n7,n8,V]
    exact hf
end Go.Am
end
section
/- What is drawn: programs. -/
open Go
set_option linter.all false
namespace Go.Am
variable {L : List Int} {a : Int} {h l : Heap} {id : Nat} {K : Post}
attribute [-go_sem] oEqa
theorem repO_x (n : Int) (h0 : 0 ≤ n) (h1 : n ≤ 1000000) (h : Heap) (K : Post) : ACall X f_q01i [AS [49],AI n] h K = K (AS (List.replicate n.toNat 49)) h []:=by
  rw [s_Repeat [49] n h0 (by simp; omega) h1,repL_x]
set_option maxHeartbeats 4000000 in
theorem g_Commands (n : Nat) (hn : n ≤ 20) (hp : posN 4000 a) : GenE f_q00e [AI n] L a (fun v a2=>a ≤ a2 ∧ a2 ≤ a + 1300 ∧ ∃ l : List Cmd,l.length ≤ n + 11 ∧ (∀ c ∈ l,CmdB 2100 c) ∧ v = ACs l):=by
  refine GenE.of fun h id hid=>?_
  rw [c_q00e rfl]
  have hid' : id ≤ h.length:=by omega
  have hz : PV.shp (some 6) (.agg [.int .i64 0,.int .i64 0,.int .i64 0,.str [],.str [],.str []]) = true:=rfl
  simp only [d_q00e,go_sem]
  refine N_loop (fun t : List Cmd × Int=>⟨[(0,.ref id 0),(5,.own h.length t.1.length 0 t.1.length),(6,AI n),(7,AI t.1.length)],h.set id (strm L t.2) ++ [.row (some 6) (t.1.map cmdP) 0],[]⟩)
    (fun t=>t.1.length ≤ n ∧ (∀ c ∈ t.1,CmdB 2100 c) ∧ a ≤ t.2 ∧ t.2 ≤ a + 60 * t.1.length) (fun t=>n - t.1.length) ([],a) rfl ⟨by simp,by simp,by simp,by simp⟩ ?_
  rintro ⟨cs,b⟩ ⟨q1,q2,q3,q4⟩
  dsimp only at q1 q2 q3 q4 ⊢
  have hcz : ∀ c : Cmd,PV.shp (some 6) (cmdP c) = true:=fun c=>rfl
  rcases Nat.lt_or_ge cs.length n with hlt | hge
  · have w2 : IntKind.i64.wrap ((cs.length : Int) + 1) = ((cs.length + 1 : Nat) : Int) := i64_wrap _ (by omega) (by omega)
    obtain ⟨_,a3,⟨d1,d2,c,hc,rfl⟩,V⟩:=(g_ACommand (L:=L) (a:=b) (posN_le hp (by omega) (by omega))).app (h:=h) (l:=[.row (some 6) (cs.map cmdP) 0]) hid
    have hmx : cs.length + 1 ≤ maxSl:=by unfold maxSl; omega
    have hc':=hcz c
    have hlt' : (cs.length : Int) < (n : Int):=by omega
    simp only [go_sem,hid,hid',hlt,hlt',V,hmx,hz,hc',w2]
    refine ⟨(cs ++ [c],a3),by simp,⟨by simp; omega,fun g hg=>?_,by dsimp only; omega,by simp; omega⟩,by simp; omega⟩
    rcases List.mem_append.1 hg with hg | hg
    · exact q2 g hg
    · rw [List.mem_singleton.1 hg]; exact hc
  · have hge' : ¬ cs.length < n := by omega
    have P:=posN_le (n:=0) hp q3 (by omega)
    by_cases hf : nextV L b 80 = 0
    · simp only [go_sem, hid, hid', hge', P, hf]
      refine N_loop (fun t : List Cmd × Int × Nat=>⟨[(0,.ref id 0),(5,.own h.length t.1.length 0 t.1.length),(17,AI t.2.2)],h.set id (strm L t.2.1) ++ [.row (some 6) (t.1.map cmdP) 0],[]⟩)
        (fun t=>t.2.2 ≤ 11 ∧ t.1.length = cs.length + t.2.2 ∧ (∀ c ∈ t.1,CmdB 2100 c) ∧ t.2.1 = b + 1 + t.2.2) (fun t=>11 - t.2.2) (cs,b + 1,0) rfl ⟨by simp,by simp,q2,by simp⟩ ?_
      rintro ⟨ds,b2,k⟩ ⟨r1,r2,r3,r4⟩
      dsimp only at r1 r2 r3 r4 ⊢
      subst r4
      have P2:=posN_le (n:=0) (b:=b + 1 + (k : Int)) hp (by omega) (by omega)
      rcases Nat.lt_or_ge k 11 with hk | hk
      · have w2 : IntKind.i64.wrap ((k : Int) + 1) = ((k + 1 : Nat) : Int) := i64_wrap _ (by omega) (by omega)
        obtain ⟨s1,s2⟩:=pick_int (L:=L) (l:=[1800,1830,2000]) (lo:=1800) (hi:=2000) (by simp) (by simp) (by simp) (b + 1 + (k : Int))
        generalize hsv : pickV [1800,1830,2000] L (b + 1 + (k : Int)) = sv at s1 s2
        have r0:=fun (h' : Heap) (K' : Post)=>repO_x sv (by omega) (by omega) h' K'
        have hmx : ds.length + 1 ≤ maxSl:=by unfold maxSl; omega
        have hk' : (k : Int) < 11:=by omega
        have hc':=hcz ⟨8,0,0,List.replicate sv.toNat 49,[],[]⟩
        simp only [go_sem,hid,hid',hk',P2,hsv,r0,hmx,hz,hc',w2]
        refine ⟨(ds ++ [⟨8,0,0,List.replicate sv.toNat 49,[],[]⟩],b + 1 + (k : Int) + 1,k + 1),by simp,⟨by dsimp only; omega,by simp; omega,fun g hg=>?_,by dsimp only; omega⟩,by dsimp only; omega⟩
        rcases List.mem_append.1 hg with hg | hg
        · exact r3 g hg
        · rw [List.mem_singleton.1 hg]
          exact ⟨by dsimp only; omega,by dsimp only; omega,by dsimp only; omega,by simp; omega,Nat.zero_le _,Nat.zero_le _⟩
      · obtain rfl : k = 11 := by omega
        have hk' : ¬ ((11 : Nat) : Int) < 11:=by omega
        simp only [go_sem,hid,hid',hk']
        refine ⟨b + 1 + ((11 : Nat) : Int),⟨by omega,by omega,ds,by omega,r3,?_⟩,rfl⟩
        exact congrArg (fun x=>AV.p (PV.sl (some 6) x)) (List.take_of_length_le (by simp))
    · simp only [go_sem, hid, hid', hge', P, hf]
      refine ⟨b + 1,⟨by omega,by omega,cs,by omega,q2,?_⟩,rfl⟩
      exact congrArg (fun x=>AV.p (PV.sl (some 6) x)) (List.take_of_length_le (by simp))
end Go.Am
end
section
/- A text split at a byte. -/
set_option linter.all false
namespace Go.Am
end Go.Am
end
section
/- A text read line by line. -/
set_option linter.all false
namespace Go.Am
end Go.Am
end
section
/- Numbers in texts. -/
set_option linter.all false
namespace Go.Am
end Go.Am
end
section
/- Faults read: the program's line and the reference's line agree. -/
set_option linter.all false
namespace Go.Am
end Go.Am
end
section
/- What is written is read: numbers,words,lines. -/
set_option linter.all false
namespace Go.Am
end Go.Am
end
section
/- Where a byte stands in a text. -/
open Go
set_option linter.all false
namespace Go.Am
variable {h : Heap} {K : Post}
end Go.Am
end
section
/- The abstract machine,part L4: strings.Repeat,strings.Trim,math/bits.TrailingZeros64 asv rows. -/
set_option linter.all false
namespace Go.Am
variable {P : Program} {gl : Nat → Option PV}
open Go.Shelf
theorem below_ext {w w' : World} (h : Go.RowKit.Below w.heap.size w w') : WExt w w':=⟨h.size,fun b hb=>h.block b hb,by unfold zed; rw [h.os,h.tape,h.output]⟩
theorem lib_rep (s : List UInt8) : ∀ c,Go.Lib.repeatL s c = repL s c
  | 0=>rfl
  | c + 1=>by rw [Go.Lib.repeatL,repL,lib_rep s c]
theorem repeatRow {ρ : Ren} (L : Go.Proofs.Lays.n105 P ρ) (E : Go.Proofs.Builder.Extra P ρ) (he : ∀ us w,(callFunc (ρ.f 105) us).run P w = .ok (.enter (ρ.f 105) us) w) : PureRow P gl (ρ.f 105) repeatS where
  enter:=he
  run M w vs r us hc hb hG hl hr hs:=by
    unfold repeatS at hs
    split at hs
    · rename_i s c
      split at hs
      · rename_i hbd
        match us,hl with
        | [u,v],_=>
          have q:=hr 0 _ u rfl rfl
          cases q
          have q2:=hr 1 _ v rfl rfl
          cases q2
          simp only [Option.some.injEq] at hs
          subst hs
          obtain ⟨n,rfl⟩:=Int.eq_ofNat_of_zero_le hbd.1
          have hsz : (⟨s.toArray⟩ : ByteArray).size = s.length:=by simp [ByteArray.size]
          simp only [Int.toNat_natCast] at hbd ⊢
          refine (Go.Proofs.Any.strings_Repeat L E ⟨s.toArray⟩ n w (by omega) (by rw [hsz]; omega)).mono fun e w' h=>?_
          obtain ⟨rfl,h⟩:=h
          exact ⟨_,rfl,below_ext h,by rw [lib_rep]; exact .p _ _ (.str _)⟩
      · cases hs
    · cases hs
theorem lib_trim (s cs : List UInt8) : Go.Lib.trimS s cs = trimL s cs:=rfl
theorem trimRow {ρ : Ren} (L : Go.Proofs.Lays.n160 P ρ) (h116 : (P.info? (ρ.t 116)).map (fun i=>(i.zero,i.size)) = some (some (.agg (Array.replicate 256 (.bool false))),256)) (he : ∀ us w,(callFunc (ρ.f 160) us).run P w = .ok (.enter (ρ.f 160) us) w) : PureRow P gl (ρ.f 160) trimS where
  enter:=he
  run M w vs r us hc hb hG hl hr hs:=by
    unfold trimS at hs
    split at hs
    · rename_i s cs
      split at hs
      · rename_i hbd
        match us,hl with
        | [u,v],_=>
          have q:=hr 0 _ u rfl rfl
          cases q
          have q2:=hr 1 _ v rfl rfl
          cases q2
          simp only [Option.some.injEq] at hs
          subst hs
          have hsz : ∀ l : List UInt8,(⟨l.toArray⟩ : ByteArray).size = l.length:=fun l=>by simp [ByteArray.size]
          refine (Go.Proofs.Any.strings_Trim_laid L h116 ⟨s.toArray⟩ ⟨cs.toArray⟩ w (by rw [hsz]; omega) (by rw [hsz]; omega) (Go.Proofs.ascii_of_all hbd.2.2)).mono fun e w' h=>?_
          obtain ⟨rfl,h⟩:=h
          exact ⟨_,rfl,below_ext h,by rw [← lib_trim]; exact .p _ _ (.str _)⟩
      · cases hs
    · cases hs
end Go.Am
end
section
/- The abstract machine,part L5: strings.Count at one byte,strings.Join asv rows. -/
set_option linter.all false
namespace Go.Am
variable {P : Program} {gl : Nat → Option PV}
open Go.Shelf
end Go.Am
end
section
/- Texts split at a byte. -/
open Go
set_option linter.all false
namespace Go.Am
variable {h : Heap} {K : Post}
end Go.Am
end
section
/- Lines of a text. -/
open Go
set_option linter.all false
namespace Go.Am
variable {h : Heap} {K : Post}
end Go.Am
end
section
/- Numbers read. -/
open Go
set_option linter.all false
namespace Go.Am
variable {h : Heap} {K : Post}
end Go.Am
end
section
/- Several numbers read. -/
open Go
set_option linter.all false
namespace Go.Am
variable {h : Heap} {K : Post}
end Go.Am
end
section
/- Numbers read,the reference's way. -/
open Go
set_option linter.all false
namespace Go.Am
variable {h : Heap} {K : Post}
end Go.Am
end
section
/- Where a string stands among strings; words. -/
open Go
set_option linter.all false
namespace Go.Am
variable {h : Heap} {K : Post}
end Go.Am
end
section
/- Numbers written,joined. -/
open Go
set_option linter.all false
namespace Go.Am
variable {h : Heap} {K : Post}
end Go.Am
end
section
/- Faults written. -/
open Go
set_option linter.all false
namespace Go.Am
variable {h : Heap} {K : Post}
end Go.Am
end
section
/- A text taken line by line: base.Each,scanref2.Lines. -/
open Go
set_option linter.all false
namespace Go.Am
variable {h : Heap} {K : Post}
end Go.Am
end
section
/- Faults read. -/
open Go
set_option linter.all false
namespace Go.Am
variable {h : Heap} {K : Post}
end Go.Am
end
section
/- Lists of faults read. -/
open Go
set_option linter.all false
namespace Go.Am
variable {h : Heap} {K : Post}
end Go.Am
end
section
/- fault.Read,scanref2.FaultsRead. -/
open Go
set_option linter.all false
namespace Go.Am
variable {h : Heap} {K : Post}
end Go.Am
end
section
/- A text changed at random. -/
open Go
set_option linter.all false
namespace Go.Am
variable {L : List Int} {a : Int} {h l : Heap} {id : Nat} {K : Post}
end Go.Am
end
section
/- What is drawn: faults. -/
open Go
set_option linter.all false
namespace Go.Am
variable {L : List Int} {a : Int} {h l : Heap} {id : Nat} {K : Post}
end Go.Am
end
section
/- Deleting faults: printed by program. -/
open Go
set_option linter.unusedSimpArgs false
namespace Go.Am
attribute [-go_sem] PV.cells splice
variable {h : Heap} {K : Post}
attribute [-go_sem] AV.cells cut
attribute [go_sem] AV.cells cut
end Go.Am
end
section
/- What is drawn: lists of faults. -/
open Go
set_option linter.all false
namespace Go.Am
variable {L : List Int} {a : Int} {h l : Heap} {id : Nat} {K : Post}
end Go.Am
end
section
/- Stable sorts of numbers: printed by program. -/
open Go
set_option linter.unusedSimpArgs false
namespace Go.Am
attribute [-go_sem] PV.cells splice
variable {h : Heap} {K : Post}
end Go.Am
end
section
/- Faults compared; texts of faults drawn. -/
open Go
set_option linter.all false
namespace Go.Am
variable {L : List Int} {a : Int} {h : Heap} {K : Post}
end Go.Am
end
section
/- SignalsMade returns true. -/
open Go
set_option linter.all false
set_option maxRecDepth 100000
namespace Go.Am
variable {h : Heap} {K : Post}
theorem AIs_AL (l : List Nat) : AIs l = AL (l.map fun n : Nat=>(n : Int)):=by unfold AIs AL; rw [List.map_map]; rfl
theorem s_EqualN (l m : List Nat) (hl : l.length ≤ 1000000000) : ACall X f_q016 [AIs l,AIs m] h K = K (AB (decide (l = m))) h []:=by
  rw [AIs_AL,AIs_AL,s_EqualI _ _ (by simpa using hl)]
  have : (l.map (fun n : Nat=>(n : Int)) = m.map fun n : Nat=>(n : Int)) ↔ l = m:=⟨fun e=>by
    have:=congrArg (List.map Int.toNat) e
    simpa [List.map_map,Function.comp_def] using this,fun e=>by rw [e]⟩
  rw [decide_eq_decide.2 this]
def scan10 : Cmd:=⟨7,0,0,[49,48],[],[]⟩
theorem scan10_F : progF pathV [scan10] = 0:=by kernel_rfl
theorem scan10_n : (sigT (partsC pathV [] 0 [scan10])).length = 9:=by kernel_rfl
theorem clk10 : clkV [scan10] = .tup [AI 9,AI 0]:=by unfold clkV; rw [scan10_F,scan10_n]; rfl
theorem s_shifted : ACall X f_q00b [] h K = K (AB true) h []:=by
  refine rule ?_
  have ck:=fun (h : Heap) (K : Post)=>(s_Clocks (h:=h) (K:=K) [scan10] (fun c hc=>by rw [List.mem_singleton.1 hc]; exact ⟨by decide,by decide,by decide⟩) (by decide)).trans (by rw [clk10])
  simp only [ACs,List.map_cons,List.map_nil,cmdP,scan10] at ck
  rw [c_q00b rfl]
  simp only [d_q00b,go_sem,ck]
set_option maxHeartbeats 4000000 in
theorem law_SM (L : List Int) {K : Post} : ACall X f_q00a [AL L] [] K = K (AB true) [] []:=by
  refine rule ?_
  rw [c_q00a rfl]
  have p0 : posN 100000 0:=by unfold posN; omega
  have p00 : posN 0 0:=by unfold posN; omega
  have rb : 0 ≤ rangeV 0 8 L 0 ∧ rangeV 0 8 L 0 ≤ 8:=rangeV_bd L 0 (by omega) (by omega)
  obtain ⟨n,hn⟩ : ∃ n : Nat,rangeV 0 8 L 0 = n:=⟨(rangeV 0 8 L 0).toNat,by omega⟩
  obtain ⟨_,a2,⟨d1,d2,l,hl,hb,rfl⟩,V⟩:=(g_Commands (L:=L) (a:=1) n (by omega) (posN_le p0 (by omega) (by omega))).hd (l:=[])
  have hok : ∀ c ∈ l,CmdOk c:=fun c hc=>(hb c hc).ok (by omega)
  have hl4 : l.length ≤ 40:=by omega
  have C1:=fun h K=>s_Clocks (h:=h) (K:=K) l hok hl4
  have C2:=fun h K=>s_Signals (h:=h) (K:=K) l hok hl4
  have C3:=fun h K=>s_States (h:=h) (K:=K) l hok hl4
  have C4:=fun h K=>s_VBits (h:=h) (K:=K) l hok hl4
  have C5:=fun h K=>s_CheckCommands (h:=h) (K:=K) l hok hl4
  have C6:=fun h K=>s_CommandsFault (h:=h) (K:=K) l hok hl4
  simp only [clkV,sigV,stsV,bitV] at C1 C2 C3 C4
  by_cases h0 : progF pathV l = 0
  · obtain ⟨hc, hT, h1⟩ := progF_0 h0
    have D1:=fun h K=>s_Sig (h:=h) (K:=K) l hc hl4
    have D2:=fun h K=>s_StatesOf (h:=h) (K:=K) l hc hl4
    have D3:=fun h K=>s_ShiftedBits (h:=h) (K:=K) l hc hl4
    have E1:=fun h K=>s_EqualN (h:=h) (K:=K) ((partsC pathV [] 0 l).map Part.st) ((partsC pathV [] 0 l).map Part.st) (by rw [List.length_map,partsC_len]; omega)
    simp only [h0,if_true] at C1 C2 C3 C4 C5 C6
    generalize partsC pathV [] 0 l = ps at *
    generalize (visL 0 (sigT ps)).count 11 = n1 at *
    generalize (visL 0 (sigT ps)).count 4 = n2 at *
    generalize sigT ps = t1 at *
    generalize sigI ps = t2 at *
    generalize sigW ps = t3 at *
    generalize hss : AIs (ps.map Part.st) = ss at *
    simp (config:={ maxSteps:=4000000 }) only [d_q00a,go_sem,p00,hn,V,C1,C2,C3,C4,C5,C6,D1,D2,D3,E1,s_shifted]
  · simp only [h0, if_false] at C1 C2 C3 C4 C5 C6
    have e0 : AIs [] = .p (.sl none []):=rfl
    have h0' : ¬ ((progF pathV l : Nat) : Int) = 0:=by omega
    have E1:=fun h K=>s_EqualN (h:=h) (K:=K) [] [] (by simp)
    rw [e0] at C3 E1
    simp only [d_q00a,go_sem,p00,hn,V,C1,C2,C3,C4,C5,C6,h0',E1,s_shifted]
end Go.Am
end
section
/- From a law that is true here tov the model's calls at what came in. -/
open Go
namespace Go.Am
variable {P : Program}
theorem law_nil {X : Ctx} (HX : Fits P X) {f : Nat} {F : AFun} (hF : X.fn f = some F) (H : ∀ L : List Int,ACall X f [pints L] [] fun v _ _=>v = .p (.bool true)) (W : World) (hG : GInv X.gl (imm [] [] W)) :
    Calls P f #[.slice none 0 0] W fun e W'=>e = .returned (.bool true) ∧ RowKit.Below W.heap.size W W':=by
  refine (calls_of HX hF (H []) (W:=W) (vs:=[.slice none 0 0]) hG rfl (fun j y v hy hv=>?_)).mono fun e W' he=>?_
  · cases j with
    | zero=>cases hy; cases hv; exact came_nil W
    | succ j=>cases hy
  · cases e with
    | returned r=>
      obtain ⟨⟨v,h,x,μ,hk,hr⟩,hb⟩:=he
      subst hk
      exact ⟨by rw [hr.p_bool],hb⟩
    | panicked _=>exact he.elim
    | outgrown=>exact he.elim
theorem law_ints {X : Ctx} (HX : Fits P X) {f : Nat} {F : AFun} (hF : X.fn f = some F) (H : ∀ L : List Int,ACall X f [pints L] [] fun v _ _=>v = .p (.bool true)) {W : World} (hG : GInv X.gl (imm [] [] W)) {a : Addr} {len cap : Nat} {zs : List Int}
    (hl : len ≤ cap) (hz : len ≤ zs.length) (hc : ∀ i,i < zs.length → W.cell? (a.add i) = some (.int .i64 (zs.getD i 0))) :
    Calls P f #[.slice (some a) len cap] W fun e W'=>e = .returned (.bool true) ∧ RowKit.Below W.heap.size W W':=by
  refine (calls_of HX hF (H (zs.take len)) (W:=W) (vs:=[.slice (some a) len cap]) hG rfl (fun j y v hy hv=>?_)).mono fun e W' he=>?_
  · cases j with
    | zero=>
      cases hy; cases hv
      rcases Nat.eq_zero_or_pos len with h0 | h0
      · subst h0
        exact .p _ _ (.nils _ _ _)
      · exact came_ints (by simpa [Addr.add] using World.cell?_spot (hc 0 (by omega))) hl hz hc
    | succ j=>cases hy
  · cases e with
    | returned r=>
      obtain ⟨⟨v,h,x,μ,hk,hr⟩,hb⟩:=he
      subst hk
      exact ⟨by rw [hr.p_bool],hb⟩
    | panicked _=>exact he.elim
    | outgrown=>exact he.elim
end Go.Am
namespace Go.ChangeShapes
open Go.RowKit Go.WideShapes
section
variable {H : Type} {enc : TypeId × Value → H} {P : Program}
end
end Go.ChangeShapes
end
section
/- The abstract machine,part X2: a program that has no comparison of strings. -/
set_option linter.all false
namespace Go.Am
variable {P : Program}
theorem extF_ok1 {fi : Nat} (h1 : ExtRow P fi Extern.BytealgIndexByte.indexByte) {f : Nat} {vs : List PV} {r : PV} (h : extF fi fi f vs = some r) : ExtOk P f vs r:=by
  intro M w us hM hl hr
  unfold extF at h
  cases e1 : Nat.beq f fi with
  | true=>
    rw [e1] at h
    have e:=Nat.eq_of_beq_eq_true e1
    subst e
    simp only [cond_true] at h
    split at h
    · rename_i s c
      injection h with h
      subst h
      match us,hl with
      | [u,v],_=>
        have q1:=hr 0 _ u rfl rfl
        have q2:=hr 1 _ v rfl rfl
        cases q1; cases q2
        refine ⟨.int .i64 (idxB s (UInt8.ofNat c.toNat)),w,h1.run ?_,WExt.refl w,.int _ _⟩
        rw [← find_idx]
        show (match (List.range (⟨s.toArray⟩ : ByteArray).size).find? fun i=>(⟨s.toArray⟩ : ByteArray)[i]! == UInt8.ofNat c.toNat with | some i=>(pure (goInt i) : Sem Value) | none=>pure (goInt (-1))).run P w = _
        generalize List.find? _ _ = q
        cases q <;> rfl
    · cases h
  | false=>rw [e1] at h; cases h
end Go.Am
end
section
/- The abstract machine,part L2: the kit's contracts asv rows. -/
set_option linter.unusedSimpArgs false
set_option linter.unusedVariables false
namespace Go.Am
variable {P : Program} {gl : Nat → Option PV}
open Go.Shelf
end Go.Am
end
section
/- The abstract machine,part L6: scanref2.setting (a range over slices.Backward with a return inside) asv a row,out of what the walk says of it. -/
set_option linter.all false
namespace Go.Am
variable {P : Program} {gl : Nat → Option PV}
theorem isCmd_eq {y : PV} (h : isCmd y = true) : ∃ a b c s t u,y = .agg [.int .i64 a,.int .i64 b,.int .i64 c,.str s,.str t,.str u]:=by
  unfold isCmd at h
  split at h
  · exact ⟨_,_,_,_,_,_,rfl⟩
  · cases h
def cmdW (a b c : Int) (s t u : List UInt8) : Value:=.agg #[.int .i64 a,.int .i64 b,.int .i64 c,.string ⟨s.toArray⟩,.string ⟨t.toArray⟩,.string ⟨u.toArray⟩]
theorem cmdW_rel (M : Mem) (a b c : Int) (s t u : List UInt8) : RPV M (.agg [.int .i64 a,.int .i64 b,.int .i64 c,.str s,.str t,.str u]) (cmdW a b c s t u):=by
  refine .agg _ [_,_,_,_,_,_] rfl fun j y v h1 h2=>?_
  match j with
  | 0=>cases h1; cases h2; exact .int _ _
  | 1=>cases h1; cases h2; exact .int _ _
  | 2=>cases h1; cases h2; exact .int _ _
  | 3=>cases h1; cases h2; exact .str _
  | 4=>cases h1; cases h2; exact .str _
  | 5=>cases h1; cases h2; exact .str _
  | j + 6=>simp at h1
def cmdCell (xs : List PV) (j q : Nat) : Value:=match xs[j]? with
  | some (.agg [.int .i64 a,.int .i64 b,.int .i64 c,.str s,.str t,.str u])=>match q with
    | 0=>.int .i64 a | 1=>.int .i64 b | 2=>.int .i64 c | 3=>.string ⟨s.toArray⟩ | 4=>.string ⟨t.toArray⟩ | _=>.string ⟨u.toArray⟩
  | _=>match q with
    | 0=>.int .i64 0 | 1=>.int .i64 1 | 2=>.int .i64 0 | _=>.string ⟨#[]⟩
theorem cmdCell_some {xs : List PV} {j : Nat} {a b c : Int} {s t u : List UInt8} (h : xs[j]? = some (.agg [.int .i64 a,.int .i64 b,.int .i64 c,.str s,.str t,.str u])) (q : Nat) :
    cmdCell xs j q = match q with
    | 0=>.int .i64 a | 1=>.int .i64 b | 2=>.int .i64 c | 3=>.string ⟨s.toArray⟩ | 4=>.string ⟨t.toArray⟩ | _=>.string ⟨u.toArray⟩:=by
  unfold cmdCell; rw [h]
theorem cmdCell_none {xs : List PV} {j : Nat} (h : xs[j]? = none) (q : Nat) :
    cmdCell xs j q = match q with
    | 0=>.int .i64 0 | 1=>.int .i64 1 | 2=>.int .i64 0 | _=>.string ⟨#[]⟩:=by
  unfold cmdCell; rw [h]
def Cmds (f : Nat → Nat → Value) (kd : Nat → Int) : Prop:=∀ j,∃ b c s t u,f j 0 = .int .i64 (kd j) ∧ f j 1 = .int .i64 b ∧ f j 2 = .int .i64 c ∧ f j 3 = .string s ∧ f j 4 = .string t ∧ f j 5 = .string u
def SetSaid (P : Program) (fn : Nat) : Prop:=
  (∀ (b off len cap i : Nat) (k : Int) (f : Nat → Nat → Value) (kd : Nat → Int) (w : World),i ≤ len → len ≤ cap → Cmds f kd → len * 200 ≤ 140737488351232 →
    (b < w.heap.size ∧ ∀ j q,j < len → q < 6 → w.cell? ⟨b,off + (6 * j + q),none⟩ = some (f j q)) →
    Calls P fn #[.slice (some ⟨b,off,none⟩) len cap,.int .i64 i,.int .i64 k] w fun e W'=>
      ((∃ j,j < i ∧ e = .returned (.agg #[f j 0,f j 1,f j 2,f j 3,f j 4,f j 5]) ∧ kd j = k ∧ ∀ j',j < j' → j' < i → kd j' ≠ k) ∨
        (e = .returned (.agg #[.int .i64 0,.int .i64 1,.int .i64 0,.string ⟨#[]⟩,.string ⟨#[]⟩,.string ⟨#[]⟩]) ∧ ∀ j,j < i → kd j ≠ k)) ∧ Go.RowKit.Below w.heap.size w W') ∧
  (∀ (a : Option Addr) (cap : Nat) (k : Int) (w : World),Calls P fn #[.slice a 0 cap,.int .i64 0,.int .i64 k] w fun e W'=>
      e = .returned (.agg #[.int .i64 0,.int .i64 1,.int .i64 0,.string ⟨#[]⟩,.string ⟨#[]⟩,.string ⟨#[]⟩]) ∧ Go.RowKit.Below w.heap.size w W')
theorem cmd_shape {xs : List PV} (h : xs.all isCmd = true) (j : Nat) :
    (xs.length ≤ j ∧ xs[j]? = none) ∨ (j < xs.length ∧ ∃ a b c s t u,xs[j]? = some (.agg [.int .i64 a,.int .i64 b,.int .i64 c,.str s,.str t,.str u])):=by
  rcases Nat.lt_or_ge j xs.length with h1 | h1
  · obtain ⟨a, b, c, s, t, u, e⟩ := isCmd_eq (List.all_eq_true.1 h _ (List.getElem_mem h1))
    exact .inr ⟨h1,a,b,c,s,t,u,by rw [List.getElem?_eq_getElem h1,e]⟩
  · exact .inl ⟨h1,List.getElem?_eq_none h1⟩
theorem cmds_cell {xs : List PV} (h : xs.all isCmd = true) : Cmds (cmdCell xs) fun j=>cmdKind ((xs[j]?).getD idleP):=fun j=>by
  rcases cmd_shape h j with ⟨_,e⟩ | ⟨_,a,b,c,s,t,u,e⟩
  · simp only [cmdCell_none e, e]
    exact ⟨_,_,_,_,_,rfl,rfl,rfl,rfl,rfl,rfl⟩
  · simp only [cmdCell_some e, e]
    exact ⟨_,_,_,_,_,rfl,rfl,rfl,rfl,rfl,rfl⟩
theorem find_rev_last {p : PV → Bool} : ∀ {l : List PV} {j : Nat} {y : PV},l[j]? = some y → p y = true → (∀ j' z,j < j' → l[j']? = some z → p z = false) → l.reverse.find? p = some y:=by
  intro l
  induction l with
  | nil=>intro j y h; simp at h
  | cons a r ih=>
    intro j y h hp hn
    rw [List.reverse_cons,List.find?_append]
    cases j with
    | succ j=>
      rw [ih (j:=j) (by simpa using h) hp (fun j' z h1 h2=>hn (j' + 1) z (by omega) (by simpa using h2))]
      rfl
    | zero=>
      simp only [List.getElem?_cons_zero,Option.some.injEq] at h
      subst h
      have : r.reverse.find? p = none:=by
        rw [List.find?_eq_none]
        intro z hz
        obtain ⟨j',h1⟩:=List.mem_iff_getElem?.1 (List.mem_reverse.1 hz)
        simp [hn (j' + 1) z (by omega) (by simpa using h1)]
      rw [this]
      simp [hp]
theorem settingRow {fn : Nat} (H : SetSaid P fn) (he : ∀ us w,(callFunc fn us).run P w = .ok (.enter fn us) w) : PureRow P gl fn settingS where
  enter:=he
  run M w vs r us hc hb hG hl hr hs:=by
    unfold settingS at hs
    split at hs
    · rename_i xs i k
      split at hs
      · rename_i hcd
        obtain ⟨h0,hi,hlen,hall⟩:=hcd
        simp only [Option.some.injEq] at hs
        subst hs
        match us,hl with
        | [u0,u1,u2],_=>
          have q0:=hr 0 _ u0 rfl rfl
          have q1:=hr 1 _ u1 rfl rfl
          cases q1
          have q2:=hr 2 _ u2 rfl rfl
          cases q2
          obtain ⟨n,rfl⟩ : ∃ n : Nat,i = n:=⟨i.toNat,by omega⟩
          simp only [Int.toNat_natCast]
          have hidle : ∀ M',RAV M' [] [] (.p idleP) (.agg #[.int .i64 0,.int .i64 1,.int .i64 0,.string ⟨#[]⟩,.string ⟨#[]⟩,.string ⟨#[]⟩]):=fun M'=>.p _ _ (cmdW_rel M' 0 1 0 [] [] [])
          generalize hsh : (some 6 : Sh) = sh at q0
          cases q0 with
          | nils _ a cap=>
            obtain rfl : n = 0:=by simpa using hi
            refine (H.2 a cap k w).mono fun e w' h=>?_
            obtain ⟨rfl,h⟩:=h
            exact ⟨_,rfl,below_ext h,hidle _⟩
          | sl _ _ b o cap f hne hcap hshp hm hrr=>
            have hn6 : ∀ x ∈ xs,x.cells.length = 6:=fun x hx=>by
              obtain ⟨a,b,c,s,t,u,e⟩:=isCmd_eq (List.all_eq_true.1 hall x hx)
              rw [e]; rfl
            have hcell : ∀ j q,j < xs.length → q < 6 → w.cell? ⟨b,o + (6 * j + q),none⟩ = some (cmdCell xs j q):=by
              intro j q hj hq
              rcases cmd_shape hall j with ⟨h1,_⟩ | ⟨_,a,b',c,s,t,u,e⟩
              · omega
              · have hf := flat_get hn6 j q hq
                rw [e] at hf
                rw [Nat.mul_comm 6 j]
                rw [cmdCell_some e]
                have hq' : q = 0 ∨ q = 1 ∨ q = 2 ∨ q = 3 ∨ q = 4 ∨ q = 5:=by omega
                rcases hq' with rfl | rfl | rfl | rfl | rfl | rfl <;>
                · have h1 := hc _ _ _ (hm _ _ hf)
                  have h2:=hrr _ _ hf
                  revert h1 h2
                  generalize f _ = fj
                  intro h1 h2
                  cases h2
                  exact h1
            have hb0 : b < w.heap.size:=cell_lt (hcell 0 0 (List.length_pos_iff.2 hne) (by omega))
            refine (H.1 b o xs.length cap n k (cmdCell xs) (fun j=>cmdKind ((xs[j]?).getD idleP)) w (by omega) hcap (cmds_cell hall) (by omega) ⟨hb0,hcell⟩).mono fun e w' h=>?_
            obtain ⟨h,hB⟩:=h
            rcases h with ⟨j,hj,rfl,hk,hlast⟩ | ⟨rfl,hnone⟩
            · rcases cmd_shape hall j with ⟨h1, _⟩ | ⟨_, a, b', c, s, t, u, e⟩
              · omega
              · have hfd : lastKind (xs.take n) k = .agg [.int .i64 a,.int .i64 b',.int .i64 c,.str s,.str t,.str u]:=by
                  unfold lastKind
                  rw [find_rev_last (j:=j) (y:=.agg [.int .i64 a,.int .i64 b',.int .i64 c,.str s,.str t,.str u]) (by rw [List.getElem?_take,if_pos hj]; exact e) (by rw [e] at hk; simpa using hk) (fun j' z h1 h2=>by
                    rw [List.getElem?_take] at h2
                    split at h2
                    · rename_i h3
                      have:=hlast j' h1 h3
                      rw [h2] at this
                      simpa using this
                    · cases h2)]
                  rfl
                refine ⟨_,rfl,below_ext hB,?_⟩
                rw [hfd]
                simp only [cmdCell_some e]
                exact .p _ _ (cmdW_rel _ a b' c s t u)
            · have hfd : lastKind (xs.take n) k = idleP:=by
                unfold lastKind
                rw [List.find?_eq_none.2]
                · rfl
                · intro z hz
                  obtain ⟨j',h1⟩:=List.mem_iff_getElem?.1 (List.mem_reverse.1 hz)
                  rw [List.getElem?_take] at h1
                  split at h1
                  · rename_i h3
                    have:=hnone j' h3
                    rw [h1] at this
                    simpa using this
                  · cases h1
              refine ⟨_,rfl,below_ext hB,?_⟩
              rw [hfd]
              exact hidle _
      · cases hs
    · cases hs
end Go.Am
end
