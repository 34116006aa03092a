/- Texts of the proof, laid together: SpGenR, SpMap, SpPath, SpReady, SpArg, SpKeep, SpRight, SpLen, SpSort, SpDel, PTight, SpVal, SpTight, SpTightQ, PTightK, PMerge, SpMrgA, SpLawTT, Bridge, AmL2. -/
import Derived.KernelRfl
import Derived.ProofKit
import Derived.Shelf.Strconv.Itoa3
import Derived.Lib.LaidTab
import Derived.Test.YtdjkfcdognndjaaGreatDoorlawTT7
set_option linter.all false
section
/- What is drawn: records. -/
open Go
set_option linter.unusedSimpArgs false
namespace Go.Am
variable {L : List Int} {a : Int} {h l : Heap} {id : Nat} {K : Post}
theorem close_out {b : Nat} {x : Esc} (hx : ∀ y ∈ x,b ≤ y.1) : ∀ k,close k x b = b:=by
  have hb : bump x b = b:=by
    unfold bump
    induction x with
    | nil=>rfl
    | cons y r ih=>
      simp only [List.foldl_cons]
      rw [if_neg (by have:=hx y (by simp); omega)]
      exact ih (fun z hz=>hx z (by simp [hz]))
  intro k
  induction k with
  | zero=>rfl
  | succ k ih=>unfold close; rw [hb,ih]
theorem trunc_out {b : Nat} {x0 x : Esc} {e : List (Nat × AV)} {h : Heap} (hx : ∀ y ∈ x,b ≤ y.1) : trunc b x0 ⟨e,h,x⟩ = ⟨clean b e,h.take b,x0⟩:=by
  unfold trunc
  simp only [close_out hx]
  have hc : closed x b = true:=by
    unfold closed
    rw [List.all_eq_true]
    intro y hy
    simp [hx y hy]
  have hf : x.filter (fun y=>decide (y.1 < b)) = []:=by
    rw [List.filter_eq_nil_iff]
    intro y hy
    have:=hx y hy
    simp; omega
  rw [if_pos hc,hf,List.nil_append]
theorem trunc_one {b i t : Nat} {x0 : Esc} {e : List (Nat × AV)} {h : Heap} (hi : i < b) : trunc b x0 ⟨e,h,[(i,t)]⟩ = ⟨clean (max b t) e,h.take (max b t),(i,t) :: x0⟩:=by
  unfold trunc
  have hb : close [(i,t)].length [(i,t)] b = max b t:=by simp [close,bump,hi]
  simp only [hb]
  have hc : closed [(i,t)] (max b t) = true:=by simp [closed]; omega
  have hf : [(i,t)].filter (fun y=>decide (y.1 < max b t)) = [(i,t)]:=by simp; omega
  rw [if_pos hc,hf]; rfl
theorem frz3 {o0 o1 o2 : Obj} {sh : Sh} {xs : List PV} {fz k : Nat} : frz [o0,o1,o2,.row sh xs fz] 3 k = [o0,o1,o2,.row sh xs (max fz k)]:=rfl
set_option maxHeartbeats 2000000 in
theorem rec_k5 (hid : id < h.length) (hp : posN 30 a) (rs : List Rec) (hrs : rs.length ≤ 1000) (u s : List UInt8) (hu : u.length ≤ 1000) (hs : s.length ≤ 1000) (t : Int) (ns : List Int) (hns : ns.length ≤ 100) (G : Obj) (v1 v8 v13 v14 : AV) (x : Esc) (hx : ∀ y ∈ x,h.length + 1 ≤ y.1) (K : Ex → St → Prop)
    (hK : ∀ (r' : Rec) (a' : Int) (J : Heap) (x' : Esc),RecOk r' → a ≤ a' → a' ≤ a + 8 → (∀ y ∈ x',h.length + 1 ≤ y.1) →
      K .normal ⟨[(0,.ref id 0),(1,v1),(7,.own h.length (rs.length + 1) 0 (rs.length + 1)),(8,v8),(13,v13),(14,v14)],h.set id (strm L a') ++ .row (some 4) (rs.map Rec.pv ++ [r'.pv]) 0 :: J,x'⟩) :
    d_q044_k5 (ACall X) X.gl p_q044_k4 (.ref id 0) v1 (.own h.length rs.length 0 rs.length) v8 (.ref (h.length + 1) 0) v13 v14
      (h.set id (strm L a) ++ [.row (some 4) (rs.map Rec.pv) 0,.box [AS u,AI t,AS s,.own (h.length + 3) ns.length 0 ns.length],G,.row none (ns.map eI) 0]) x K:=by
  have P:=posAll (posN_le hp (Int.le_refl a) (by omega))
  have hmx : rs.length + 1 ≤ maxSl:=by unfold maxSl; omega
  have hmn : ns.length + 1 ≤ maxSl:=by unfold maxSl; omega
  have e1 : h.length + 1 < h.length + 3 + 1:=by omega
  by_cases hf : nextV L a 60 = 0
  · by_cases h0 : nextV L (a + 1) 3 = 0
    · obtain ⟨kv, a3, c1, c2, _, _, O⟩ := g_Odd (L := L) (a := a + 1 + 1 + 1 + 1) (posN_le hp (by omega) (by omega)) 0 50 (by omega) (by omega) (by omega)
      have O':=fun l K=>O.app (h:=h) (id:=id) (l:=l) (K:=K) hid
      have p1:=pickS_mem (l:=[[],[117,49]]) (L:=L) (a:=a + 1 + 1) (by simp) (by simp)
      have p2:=pickS_mem (l:=[[65],[115,49]]) (L:=L) (a:=a + 1 + 1 + 1) (by simp) (by simp)
      simp only [List.mem_cons,List.not_mem_nil,or_false] at p1 p2
      simp only [d_q044_k5,go_sem,hid,P,hf,h0,↓O',O',hmx,frz3]
      rw [win_full (by simp)]
      exact hK ⟨pickS [[],[117,49]] L (a + 1 + 1),kv,pickS [[65],[115,49]] L (a + 1 + 1 + 1),ns⟩ a3 _ _ ⟨by rcases p1 with p1 | p1 <;> simp [p1],by rcases p2 with p2 | p2 <;> simp [p2],by dsimp only; omega⟩ (by omega) (by omega) hx
    · by_cases h1 : nextV L (a + 1) 3 = 1
      · simp only [d_q044_k5, go_sem, hid, P, hf, h0, h1, hmx, hmn, escOf, e1, frz3]
        rw [win_full (by simp)]
        have e : List.map eI ns ++ [PV.int .i64 (pickV [0,100001,-100001] L (a + 1 + 1))] = (ns ++ [pickV [0,100001,-100001] L (a + 1 + 1)]).map eI:=by simp
        rw [e]
        refine hK ⟨u,t,s,ns ++ [pickV [0,100001,-100001] L (a + 1 + 1)]⟩ (a + 1 + 1 + 1) _ _ ⟨hu,hs,by simp; omega⟩ (by omega) (by omega) (fun y hy=>?_)
        rcases List.mem_cons.1 hy with rfl | hy
        · exact Nat.le_refl _
        · exact hx y hy
      · obtain ⟨m1, m2⟩ := nextV_bd L (a + 1 + 1) (ns.length + 1) (by omega) (by omega)
        obtain ⟨m,hm⟩:=Int.eq_ofNat_of_zero_le m1
        have w1 : IntKind.i64.wrap ((ns.length : Int) + 1) = (ns.length : Int) + 1:=i64_wrap _ (by omega) (by omega)
        have hml : m ≤ ns.length:=by omega
        simp only [d_q044_k5,go_sem,hid,P,hf,h0,h1,w1,hm,hml,hmx,escOf,e1,frz3]
        rw [win_map]
        refine hK ⟨u,t,s,win ns 0 m⟩ (a + 1 + 1 + 1) _ _ ⟨hu,hs,by simp [win]; omega⟩ (by omega) (by omega) (fun y hy=>?_)
        rcases List.mem_cons.1 hy with rfl | hy
        · exact Nat.le_refl _
        · exact hx y hy
  · simp only [d_q044_k5, go_sem, hid, P, hf, hmx, frz3]
    rw [win_full (by simp)]
    exact hK ⟨u,t,s,ns⟩ (a + 1) _ _ ⟨hu,hs,by dsimp only; omega⟩ (by omega) (by omega) hx
attribute [-go_sem] d_q044_k5
def unRec : PV → Rec
  | .agg [.str u,.int _ t,.str s,.sl _ xs]=>⟨u,t,s,xs.map unI⟩
  | _=>⟨[],0,[],[]⟩
theorem unRec_pv (r : Rec) : unRec r.pv = r:=by
  cases r with | mk u t s ns=>
  have : (ns.map eI).map unI = ns:=by
    rw [List.map_map]
    have : (unI ∘ eI) = id:=by funext n; rfl
    rw [this,List.map_id]
  simp only [Rec.pv,unRec,this]
theorem recs_of {P : Rec → Prop} : ∀ {xs : List PV},(∀ x ∈ xs,∃ r,P r ∧ x = Rec.pv r) → ∃ rs : List Rec,(∀ r ∈ rs,P r) ∧ xs = rs.map Rec.pv
  | [],_=>⟨[],by simp,rfl⟩
  | x :: xs,h=>by
    obtain ⟨r,h1,h2⟩:=h x (by simp)
    obtain ⟨rs,h3,h4⟩:=recs_of (xs:=xs) (fun y hy=>h y (List.mem_cons_of_mem _ hy))
    refine ⟨r :: rs,fun z hz=>?_,by rw [h2,h4]; rfl⟩
    rcases List.mem_cons.1 hz with rfl | hz
    · exact h1
    · exact h3 z hz
theorem s_rec1 (a b : Rec) : ACall X f_q045 [.p a.pv,.p b.pv] h K = K (AI (recCmp a b)) h []:=by
  refine rule ?_
  rw [c_q045 rfl]
  have o:=fun h K=>s_cmpOr (h:=h) (K:=K) [cmp3 a.time b.time,cmpL a.unit b.unit] (by simp)
  simp only [AL,List.map_cons,List.map_nil] at o
  have e : orL [cmp3 a.time b.time,cmpL a.unit b.unit] = recCmp a b:=by
    unfold recCmp orL
    split
    · rfl
    · unfold orL
      split
      · rfl
      · rename_i h; simp only [ne_eq,Decidable.not_not] at h; rw [h]; rfl
  rw [e] at o
  simp only [d_q045,Rec.pv,go_sem,s_cmpCompare,s_strCompare,o]
def sameAt (a b : Rec) : Bool:=decide (a.time = b.time) && decide (a.unit = b.unit)
theorem s_rec2 (a b : Rec) : ACall X f_q046 [.p a.pv,.p b.pv] h K = K (AB (sameAt a b)) h []:=by
  refine rule ?_
  rw [c_q046 rfl]
  unfold sameAt
  by_cases h1 : a.time = b.time
  · simp only [d_q046,Rec.pv,go_sem,h1]
  · simp only [d_q046,Rec.pv,go_sem,h1]
set_option maxHeartbeats 4000000 in
theorem g_Records (hp : posN 4000 a) (l : List Lim) (hl1 : 1 ≤ l.length) (hl2 : l.length ≤ 3) (n : Nat) (hn : n ≤ 19) :
    GenE f_q044 [ALim l,AI n] L a (fun v a2=>a ≤ a2 ∧ a2 ≤ a + 2000 ∧ ∃ rs : List Rec,rs.length ≤ n ∧ (∀ r ∈ rs,RecOk r) ∧ v = ARec rs):=by
  refine GenE.of fun h id hid=>?_
  rw [c_q044 rfl]
  simp only [d_q044,go_sem,hid]
  refine N_loop (fun t : List Rec × Int × Int=>⟨[(0,.ref id 0),(1,ALim l),(7,.own h.length t.1.length 0 t.1.length),(8,AI t.2.1),(13,AI n),(14,AI t.1.length)],h.set id (strm L t.2.2) ++ [.row (some 4) (t.1.map Rec.pv) 0],[]⟩)
    (fun t=>t.1.length ≤ n ∧ (∀ r ∈ t.1,RecOk r) ∧ a ≤ t.2.2 ∧ t.2.2 ≤ a + 40 * t.1.length) (fun t=>n - t.1.length) ([],0,a) rfl ⟨by simp,by simp,by simp,by simp⟩ ?_
  rintro ⟨rs,t,b⟩ ⟨q1,q2,q3,q4⟩
  dsimp only at q1 q2 q3 q4
  rcases Nat.lt_or_ge rs.length n with hlt | hge
  · have P := posAll (posN_le hp q3 (show b + 14 ≤ a + 4000 by omega))
    have w1 : IntKind.i64.wrap ((rs.length : Int) + 1) = ((rs.length + 1 : Nat) : Int):=i64_wrap _ (by omega) (by omega)
    have p1:=pickS_mem (l:=[[117,49],[117,50],[117,51],[117,52]]) (L:=L) (a:=b + 1) (by simp) (by simp)
    have p2:=pickS_mem (l:=[[115,49],[115,49],[115,50]]) (L:=L) (a:=b + 1 + 1) (by simp) (by simp)
    have pu : (pickS [[117,49],[117,50],[117,51],[117,52]] L (b + 1)).length ≤ 1000:=by
      simp only [List.mem_cons,List.not_mem_nil,or_false] at p1
      rcases p1 with p1 | p1 | p1 | p1 <;> simp [p1]
    have ps : (pickS [[115,49],[115,49],[115,50]] L (b + 1 + 1)).length ≤ 1000:=by
      simp only [List.mem_cons,List.not_mem_nil,or_false] at p2
      rcases p2 with p2 | p2 | p2 <;> simp [p2]
    simp only [go_sem,hid,P,hlt]
    generalize pickS [[117,49],[117,50],[117,51],[117,52]] L (b + 1) = u at *
    generalize pickS [[115,49],[115,49],[115,50]] L (b + 1 + 1) = s at *
    generalize IntKind.i64.wrap (t + pickV [1,1,5,0] L b) = t' at *
    have hb3 : b + 1 + 1 + 1 + 14 ≤ a + 4000:=by omega
    have fin : ∀ (c : Int) (ns : List Int) (G : Obj) (x : Esc),ns.length ≤ 100 → b + 3 ≤ c → c ≤ b + 3 + 9 → (∀ y ∈ x,h.length + 1 ≤ y.1) →
        d_q044_k5 (ACall X) X.gl p_q044_k4 (.ref id 0) (ALim l) (.own h.length rs.length 0 rs.length) (AI t') (.ref (h.length + 1) 0) (AI n) (AI rs.length)
          (h.set id (strm L c) ++ [.row (some 4) (rs.map Rec.pv) 0,.box [AS u,AI t',AS s,.own (h.length + 3) ns.length 0 ns.length],G,.row none (ns.map eI) 0]) x
          (blockN 1 (seqN (ACall X) X.gl p_q044_k6 (scopeK (h.length + 1) [] (loopK
            (fun t : List Rec × Int × Int=>⟨[(0,.ref id 0),(1,ALim l),(7,.own h.length t.1.length 0 t.1.length),(8,AI t.2.1),(13,AI n),(14,AI t.1.length)],h.set id (strm L t.2.2) ++ [.row (some 4) (t.1.map Rec.pv) 0],[]⟩)
            (fun t=>t.1.length ≤ n ∧ (∀ r ∈ t.1,RecOk r) ∧ a ≤ t.2.2 ∧ t.2.2 ≤ a + 40 * t.1.length) (fun t=>n - t.1.length)
            (blockN 0 (seqN (ACall X) X.gl p_q044_k8 (finR [.t 6] false h.length (fun v1 h1 x1=>∃ a2,(a ≤ a2 ∧ a2 ≤ a + 2000 ∧ ∃ rs : List Rec,rs.length ≤ n ∧ (∀ r ∈ rs,RecOk r) ∧ v1 = ARec rs) ∧ h1 = h.set id (strm L a2) ∧ x1 = [])))) (rs,t,b))))):=by
      intro c ns G x h1 h2 h3 h4
      refine rec_k5 hid (posN_le hp (by omega) (by omega)) rs (by omega) u s pu ps t' ns h1 G (ALim l) (AI t') (AI n) (AI rs.length) x h4 _ (fun r' a' J x' r1 r2 r3 r4=>?_)
      have f1 : id + 1 ≤ h.length + 1:=by omega
      simp only [go_sem,w1,trunc_out r4,f1]
      refine ⟨(rs ++ [r'],t',a'),?_,⟨by simp; omega,fun r hr=>?_,by dsimp only; omega,by simp; omega⟩,by simp; omega⟩
      · simp only [List.length_append,List.length_cons,List.length_nil,List.map_append,List.map_cons,List.map_nil]
      · rcases List.mem_append.1 hr with hr | hr
        · exact q2 r hr
        · rw [List.mem_singleton] at hr; rw [hr]; exact r1
    generalize hc0 : b + 1 + 1 + 1 = c0 at *
    refine N_loop (fun o : Option (List Int × Int × Obj × Esc)=>match o with
        | none=>⟨[(0,.ref id 0),(1,ALim l),(7,.own h.length rs.length 0 rs.length),(8,AI t'),(9,.ref (h.length + 1) 0),(13,AI n),(14,AI rs.length),(29,ALim l),(30,AI l.length),(31,AI 0)],h.set id (strm L c0) ++ [.row (some 4) (rs.map Rec.pv) 0,.box [AS u,AI t',AS s,.sl0 none]],[]⟩
        | some (ns,c,G,x)=>⟨[(0,.ref id 0),(1,ALim l),(7,.own h.length rs.length 0 rs.length),(8,AI t'),(9,.ref (h.length + 1) 0),(13,AI n),(14,AI rs.length),(29,ALim l),(30,AI l.length),(31,AI ns.length)],h.set id (strm L c) ++ [.row (some 4) (rs.map Rec.pv) 0,.box [AS u,AI t',AS s,.own (h.length + 3) ns.length 0 ns.length],G,.row none (ns.map eI) 0],x⟩)
      (fun o=>match o with
        | none=>True
        | some (ns,c,G,x)=>1 ≤ ns.length ∧ ns.length ≤ l.length ∧ c0 ≤ c ∧ c ≤ c0 + 3 * ns.length ∧ ∀ y ∈ x,h.length + 1 ≤ y.1)
      (fun o=>match o with
        | none=>l.length + 1
        | some (ns,c,G,x)=>l.length - ns.length) none rfl trivial ?_
    rintro (_ | ⟨ns,c,G,x⟩) hP
    · have P := posAll (posN_le hp (show a ≤ c0 by omega) (show c0 + 14 ≤ a + 4000 by omega))
      have hl0 : (0 : Int) < l.length:=by omega
      have hg:=map_get Lim.pv (show 0 < l.length by omega)
      have cx : cutP (some 4) 0 (l[0].pv) = some l[0].pv:=rfl
      generalize l[0] = y at *
      have e2 : h.length + 1 < h.length + 2:=by omega
      have e3 : max (h.length + 2) (h.length + 3 + 1) = h.length + 4:=by omega
      have eo : escOf (h.length + 1) (.own (h.length + 3) 1 0 1) = [(h.length + 1,h.length + 3 + 1)]:=by unfold escOf; rw [if_pos (by simp [AV.top]),top_own]
      have e4 : id + 1 ≤ h.length + 4:=by omega
      have e5 : h.length + 1 ≤ h.length + 4:=by omega
      have e6 : h.length + 1 + 1 ≤ h.length + 4:=by omega
      have hmx : 1 ≤ maxSl:=by unfold maxSl; omega
      have hnb : Nat.beq 2 3 = false:=rfl
      have wk : IntKind.i64.wrap 1 = 1:=rfl
      have tr : ∀ (x0 : Esc) (e : List (Nat × AV)) (H : Heap),trunc (h.length + 2) x0 ⟨e,H,[(h.length + 1,h.length + 3 + 1)]⟩ = ⟨clean (h.length + 4) e,H.take (h.length + 4),(h.length + 1,h.length + 3 + 1) :: x0⟩:=fun x0 e H=>by rw [trunc_one e2,e3]
      by_cases hf : nextV L (c0 + 1) 5 = 0
      · obtain ⟨v, hv⟩ : ∃ v, pickV [IntKind.i64.wrap (y.lo - 1), IntKind.i64.wrap (y.hi + 1), IntKind.i64.wrap (y.hi + 7)] L (c0 + 1 + 1) = v := ⟨_, rfl⟩
        by_cases b1 : v < y.lo
        · simp only [go_sem, hid, P, hl0, hg, cx, Lim.pv, hf, eo, hv, b1, hmx, hnb, tr, e4, e5, e6]
          refine fin (c0 + 1 + 1 + 1) [v] _ _ (by simp) (by omega) (by omega) (by simp)
        · by_cases b2 : y.hi < v
          · simp only [go_sem, hid, P, hl0, hg, cx, Lim.pv, hf, eo, hv, b1, b2, hmx, hnb, tr, e4, e5, e6]
            refine fin (c0 + 1 + 1 + 1) [v] _ _ (by simp) (by omega) (by omega) (by simp)
          · simp only [go_sem, hid, P, hl0, hg, cx, Lim.pv, hf, eo, hv, b1, b2, hmx, hnb, tr, e4, e5, e6, wk]
            exact ⟨some ([v],c0 + 1 + 1 + 1,_,_),rfl,⟨by simp,by simpa using hl1,by omega,by simp; omega,by simp⟩,by show l.length - [v].length < l.length + 1; simp only [List.length_cons,List.length_nil]; omega⟩
      · obtain ⟨v, hv⟩ : ∃ v, pickV [y.lo, y.hi, IntKind.i64.wrap ((IntKind.i64.wrap (y.lo + y.hi)).tdiv 2), IntKind.i64.wrap ((IntKind.i64.wrap (y.lo + y.hi)).tdiv 2), IntKind.i64.wrap (y.lo + 1)] L c0 = v := ⟨_, rfl⟩
        by_cases b1 : v < y.lo
        · simp only [go_sem, hid, P, hl0, hg, cx, Lim.pv, hf, eo, hv, b1, hmx, hnb, tr, e4, e5, e6]
          refine fin (c0 + 1 + 1) [v] _ _ (by simp) (by omega) (by omega) (by simp)
        · by_cases b2 : y.hi < v
          · simp only [go_sem, hid, P, hl0, hg, cx, Lim.pv, hf, eo, hv, b1, b2, hmx, hnb, tr, e4, e5, e6]
            refine fin (c0 + 1 + 1) [v] _ _ (by simp) (by omega) (by omega) (by simp)
          · simp only [go_sem, hid, P, hl0, hg, cx, Lim.pv, hf, eo, hv, b1, b2, hmx, hnb, tr, e4, e5, e6, wk]
            exact ⟨some ([v],c0 + 1 + 1,_,_),rfl,⟨by simp,by simpa using hl1,by omega,by simp; omega,by simp⟩,by show l.length - [v].length < l.length + 1; simp only [List.length_cons,List.length_nil]; omega⟩
    · obtain ⟨r1, r2, r3, r4, r5⟩ := hP
      rcases Nat.lt_or_ge ns.length l.length with hlt2 | hge2
      · have P := posAll (posN_le hp (show a ≤ c by omega) (show c + 14 ≤ a + 4000 by omega))
        have hg:=map_get Lim.pv hlt2
        have cx : cutP (some 4) 0 (l[ns.length].pv) = some l[ns.length].pv:=rfl
        generalize l[ns.length] = y at *
        have e2 : h.length + 1 < h.length + 4:=by omega
        have e3 : max (h.length + 4) (h.length + 3 + 1) = h.length + 4:=by omega
        have eo : escOf (h.length + 1) (.own (h.length + 3) (ns.length + 1) 0 (ns.length + 1)) = [(h.length + 1,h.length + 3 + 1)]:=by unfold escOf; rw [if_pos (by simp [AV.top]),top_own]
        have e4 : id + 1 ≤ h.length + 4:=by omega
        have e5 : h.length + 1 ≤ h.length + 4:=by omega
        have e6 : h.length + 1 + 1 ≤ h.length + 4:=by omega
        have e7 : h.length + 3 + 1 ≤ h.length + 4:=by omega
        have e8 : h.length + 4 ≤ h.length + 4:=by omega
        have hmx : ns.length + 1 ≤ maxSl:=by unfold maxSl; omega
        have hnb : Nat.beq 2 3 = false:=rfl
        have wi : IntKind.i64.wrap ((ns.length : Int) + 1) = ((ns.length + 1 : Nat) : Int):=i64_wrap _ (by omega) (by omega)
        have tr : ∀ (x0 : Esc) (e : List (Nat × AV)) (H : Heap),trunc (h.length + 4) x0 ⟨e,H,[(h.length + 1,h.length + 3 + 1)]⟩ = ⟨clean (h.length + 4) e,H.take (h.length + 4),(h.length + 1,h.length + 3 + 1) :: x0⟩:=fun x0 e H=>by rw [trunc_one e2,e3]
        by_cases hf : nextV L (c + 1) 5 = 0
        · obtain ⟨v, hv⟩ : ∃ v, pickV [IntKind.i64.wrap (y.lo - 1), IntKind.i64.wrap (y.hi + 1), IntKind.i64.wrap (y.hi + 7)] L (c + 1 + 1) = v := ⟨_, rfl⟩
          have ev : ns.map eI ++ [PV.int .i64 v] = (ns ++ [v]).map eI:=by simp
          have el : (ns ++ [v]).length = ns.length + 1:=by simp
          have hx2 : ∀ z ∈ (h.length + 1,h.length + 3 + 1) :: x,h.length + 1 ≤ z.1:=fun z hz=>by
            rcases List.mem_cons.1 hz with rfl | hz
            · exact Nat.le_refl _
            · exact r5 z hz
          by_cases b1 : v < y.lo
          · simp only [go_sem, hid, P, hlt2, hg, cx, Lim.pv, hf, eo, hv, b1, hmx, hnb, tr, e4, e5, e6, e7, e8]
            rw [ev,← el]
            exact fin (c + 1 + 1 + 1) (ns ++ [v]) _ _ (by omega) (by omega) (by omega) hx2
          · by_cases b2 : y.hi < v
            · simp only [go_sem, hid, P, hlt2, hg, cx, Lim.pv, hf, eo, hv, b1, b2, hmx, hnb, tr, e4, e5, e6, e7, e8]
              rw [ev,← el]
              exact fin (c + 1 + 1 + 1) (ns ++ [v]) _ _ (by omega) (by omega) (by omega) hx2
            · simp only [go_sem, hid, P, hlt2, hg, cx, Lim.pv, hf, eo, hv, b1, b2, hmx, hnb, tr, e4, e5, e6, e7, e8, wi]
              rw [ev]
              refine ⟨some (ns ++ [v],c + 1 + 1 + 1,G,(h.length + 1,h.length + 3 + 1) :: x),?_,⟨by omega,by omega,by omega,by rw [el]; omega,hx2⟩,by show l.length - (ns ++ [v]).length < l.length - ns.length; omega⟩
              simp only [el]
        · obtain ⟨v, hv⟩ : ∃ v, pickV [y.lo, y.hi, IntKind.i64.wrap ((IntKind.i64.wrap (y.lo + y.hi)).tdiv 2), IntKind.i64.wrap ((IntKind.i64.wrap (y.lo + y.hi)).tdiv 2), IntKind.i64.wrap (y.lo + 1)] L c = v := ⟨_, rfl⟩
          have ev : ns.map eI ++ [PV.int .i64 v] = (ns ++ [v]).map eI:=by simp
          have el : (ns ++ [v]).length = ns.length + 1:=by simp
          have hx2 : ∀ z ∈ (h.length + 1,h.length + 3 + 1) :: x,h.length + 1 ≤ z.1:=fun z hz=>by
            rcases List.mem_cons.1 hz with rfl | hz
            · exact Nat.le_refl _
            · exact r5 z hz
          by_cases b1 : v < y.lo
          · simp only [go_sem, hid, P, hlt2, hg, cx, Lim.pv, hf, eo, hv, b1, hmx, hnb, tr, e4, e5, e6, e7, e8]
            rw [ev,← el]
            exact fin (c + 1 + 1) (ns ++ [v]) _ _ (by omega) (by omega) (by omega) hx2
          · by_cases b2 : y.hi < v
            · simp only [go_sem, hid, P, hlt2, hg, cx, Lim.pv, hf, eo, hv, b1, b2, hmx, hnb, tr, e4, e5, e6, e7, e8]
              rw [ev,← el]
              exact fin (c + 1 + 1) (ns ++ [v]) _ _ (by omega) (by omega) (by omega) hx2
            · simp only [go_sem, hid, P, hlt2, hg, cx, Lim.pv, hf, eo, hv, b1, b2, hmx, hnb, tr, e4, e5, e6, e7, e8, wi]
              rw [ev]
              refine ⟨some (ns ++ [v],c + 1 + 1,G,(h.length + 1,h.length + 3 + 1) :: x),?_,⟨by omega,by omega,by omega,by rw [el]; omega,hx2⟩,by show l.length - (ns ++ [v]).length < l.length - ns.length; omega⟩
              simp only [el]
      · have hb2 : ¬ (ns.length < l.length) := by omega
        have e4 : id + 1 ≤ h.length + 4:=by omega
        have e5 : h.length + 1 ≤ h.length + 4:=by omega
        have e6 : h.length + 1 + 1 ≤ h.length + 4:=by omega
        simp only [go_sem,hb2,e4,e5,e6]
        exact fin c ns G x (by omega) (by omega) (by omega) r5
  · have en : rs.length = n := by omega
    have hb2 : ¬ (rs.length < n):=by omega
    have hh : (h.set id (strm L b) ++ [Obj.row (some 4) (rs.map Rec.pv) 0])[h.length]? = some (.row (some 4) (rs.map Rec.pv) 0):=by rw [List.getElem?_append_right (by simp)]; simp
    have st:=fun K=>stable_api_Record (h:=h.set id (strm L b) ++ [Obj.row (some 4) (rs.map Rec.pv) 0]) (K:=K) h.length (rs.map Rec.pv) rec_shps (by simp; omega) hh (g:=f_q045) (caps:=[]) (c:=fun x y=>recCmp (unRec x) (unRec y))
      (fun o x hx y hy K=>by
        obtain ⟨p,_,rfl⟩:=List.mem_map.1 hx
        obtain ⟨q,_,rfl⟩:=List.mem_map.1 hy
        dsimp only
        rw [unRec_pv,unRec_pv]
        exact s_rec1 p q)
    have so:=isort_perm (ltC fun x y=>recCmp (unRec x) (unRec y)) (rs.map Rec.pv)
    have hsm : ∀ x ∈ isort (ltC fun x y=>recCmp (unRec x) (unRec y)) (rs.map Rec.pv),∃ r,RecOk r ∧ x = Rec.pv r:=fun x hx=>by
      obtain ⟨r,hr,rfl⟩:=List.mem_map.1 (isort_mem.1 hx)
      exact ⟨r,q2 r hr,rfl⟩
    obtain ⟨ss,s1,s2⟩:=recs_of hsm
    have hsl : ss.length = rs.length:=by have:=congrArg List.length s2; simp [isort_len] at this; omega
    simp only [List.length_map,s2] at st
    have hh2 : (h.set id (strm L b) ++ [Obj.row (some 4) (ss.map Rec.pv) 0])[h.length]? = some (.row (some 4) (ss.map Rec.pv) 0):=by rw [List.getElem?_append_right (by simp)]; simp
    have cp:=fun K=>CompactFunc_Record (h:=h.set id (strm L b) ++ [Obj.row (some 4) (ss.map Rec.pv) 0]) (K:=K) h.length (ss.map Rec.pv) rec_shps (by simp; omega) hh2 (g:=f_q046) (caps:=[]) (q:=fun x y=>sameAt (unRec x) (unRec y))
      (fun o x hx y hy K=>by
        obtain ⟨p,_,rfl⟩:=List.mem_map.1 hx
        obtain ⟨q,_,rfl⟩:=List.mem_map.1 hy
        dsimp only
        rw [unRec_pv,unRec_pv]
        exact s_rec2 p q)
    have hcm : ∀ x ∈ compactL (fun x y=>sameAt (unRec x) (unRec y)) (ss.map Rec.pv),∃ r,RecOk r ∧ x = Rec.pv r:=fun x hx=>by
      obtain ⟨r,hr,rfl⟩:=List.mem_map.1 (compactL_mem hx)
      exact ⟨r,s1 r hr,rfl⟩
    obtain ⟨cs,c1,c2⟩:=recs_of hcm
    have hcl : cs.length ≤ ss.length:=by
      have h1:=congrArg List.length c2
      have h2:=compactL_len (fun x y=>sameAt (unRec x) (unRec y)) (ss.map Rec.pv)
      simp at h1 h2; omega
    simp only [List.length_map,c2,hsl] at cp
    have e0 : ∀ o,(h.set id (strm L b) ++ [Obj.row (some 4) (rs.map Rec.pv) 0]).set h.length o = h.set id (strm L b) ++ [o]:=fun o=>by rw [List.set_append_right _ _ (by simp)]; simp
    have e1 : ∀ o,(h.set id (strm L b) ++ [Obj.row (some 4) (ss.map Rec.pv) 0]).set h.length o = h.set id (strm L b) ++ [o]:=fun o=>by rw [List.set_append_right _ _ (by simp)]; simp
    simp only [e0] at st
    simp only [e1] at cp
    have rl : (cs.map Rec.pv ++ List.replicate (rs.length - cs.length) (PV.agg [.str [],.int .i64 0,.str [],.sl none []])).length = rs.length:=by simp; omega
    have hw : win (cs.map Rec.pv ++ List.replicate (rs.length - cs.length) (PV.agg [.str [],.int .i64 0,.str [],.sl none []])) 0 cs.length = cs.map Rec.pv:=by simp [win]
    have hcr : cs.length ≤ rs.length:=by omega
    generalize cs.map Rec.pv ++ List.replicate (rs.length - cs.length) (PV.agg [.str [],.int .i64 0,.str [],.sl none []]) = row at *
    simp only [go_sem,hb2,↓st,st,↓cp,cp,rl,hw,hcr]
    exact ⟨b,⟨q3,by omega,cs,by omega,c1,rfl⟩,rfl⟩
end Go.Am
end
section
/- Maps,asv lists of keys with values. -/
open Go
set_option linter.all false
namespace Go.Am
section
variable {α β : Type} [DecidableEq α]
def mesF (key : α → PV) (val : β → AV) : Nat → List (α × β) → List ME
  | _,[]=>[]
  | n,e :: r=>⟨key e.1,val e.2,n⟩ :: mesF key val (n + 1) r
def mobj (key : α → PV) (val : β → AV) (l : List (α × β)) : Obj:=.amap (mesF key val 0 l) l.length
def whereM (k : α) : List (α × β) → Option Nat
  | []=>none
  | e :: r=>if k = e.1 then some 0 else (whereM k r).map (· + 1)
def getM (k : α) : List (α × β) → Option β
  | []=>none
  | e :: r=>if k = e.1 then some e.2 else getM k r
def updM (k : α) (v : β) : List (α × β) → List (α × β)
  | []=>[(k,v)]
  | e :: r=>if k = e.1 then (k,v) :: r else e :: updM k v r
def KeyI (key : α → PV) : Prop:=∀ a b,PV.eqv (key a) (key b) = some (decide (a = b))
theorem keyI_int : KeyI (fun n : Int=>PV.int .i64 n):=fun a b=>by simp [PV.eqv,PV.eq1]
theorem keyOf_int {n : Int} {k : IntKind} : keyOf (none,[0]) (.p (.int k n)) = some (.int k n):=by simp [keyOf,PV.key,PV.shp,PV.sc,PV.cells,PV.kind]
variable {key : α → PV} {val : β → AV}
theorem mfind_mes (hk : KeyI key) (k : α) : ∀ (l : List (α × β)) (n : Nat),mfind (key k) (mesF key val n l) = some (whereM k l)
  | [],n=>rfl
  | e :: r,n=>by
    simp only [mesF,mfind,hk k e.1,whereM]
    by_cases h : k = e.1
    · simp [h]
    · simp [h,mfind_mes hk k r (n + 1)]
theorem mes_get : ∀ (l : List (α × β)) (n i : Nat),(mesF key val n l)[i]? = (l[i]?).map fun e=>⟨key e.1,val e.2,n + i⟩
  | [],n,i=>rfl
  | e :: r,n,0=>rfl
  | e :: r,n,i + 1=>by simp only [mesF,List.getElem?_cons_succ,mes_get r (n + 1) i]; rw [show n + 1 + i = n + (i + 1) by omega]
theorem where_lt {k : α} : ∀ {l : List (α × β)} {i : Nat},whereM k l = some i → i < l.length
  | [],i,h=>by cases h
  | e :: r,i,h=>by
    unfold whereM at h
    split at h
    · cases h; simp
    · obtain ⟨j, hj, e2⟩ := Option.map_eq_some_iff.1 h
      have:=where_lt hj
      simp; omega
theorem where_get {k : α} : ∀ {l : List (α × β)} {i : Nat},whereM k l = some i → l[i]? = (getM k l).map fun v=>(k,v)
  | [],i,h=>by cases h
  | e :: r,i,h=>by
    unfold whereM at h
    unfold getM
    split at h
    · rename_i hk; cases h; simp [hk]
    · rename_i hk
      obtain ⟨j,hj,e2⟩:=Option.map_eq_some_iff.1 h
      subst e2
      rw [if_neg hk,List.getElem?_cons_succ]
      exact where_get hj
theorem where_none {k : α} : ∀ {l : List (α × β)},whereM k l = none → getM k l = none
  | [],h=>rfl
  | e :: r,h=>by
    unfold whereM at h
    unfold getM
    split at h
    · cases h
    · rename_i hk
      rw [if_neg hk]
      exact where_none (by simpa using h)
theorem where_some {k : α} : ∀ {l : List (α × β)} {i : Nat},whereM k l = some i → (getM k l).isSome = true
  | [],i,h=>by cases h
  | e :: r,i,h=>by
    unfold whereM at h
    unfold getM
    split at h
    · rename_i hk; simp [hk]
    · rename_i hk
      obtain ⟨j,hj,e2⟩:=Option.map_eq_some_iff.1 h
      rw [if_neg hk]
      exact where_some hj
theorem look_val {k : α} {l : List (α × β)} {n : Nat} : ((whereM k l).bind fun i=>(mesF key val n l)[i]?).map ME.val = (getM k l).map val:=by
  cases h : whereM k l with
  | none=>rw [where_none h]; rfl
  | some i=>
    simp only [Option.bind_some,mes_get,where_get h]
    cases getM k l <;> rfl
theorem upd_none {k : α} {v : β} : ∀ {l : List (α × β)},whereM k l = none → updM k v l = l ++ [(k,v)]
  | [],h=>rfl
  | e :: r,h=>by
    unfold whereM at h
    unfold updM
    split at h
    · cases h
    · rename_i hk
      rw [if_neg hk,upd_none (by simpa using h)]; rfl
theorem upd_some {k : α} {v : β} : ∀ {l : List (α × β)} {i : Nat},whereM k l = some i → updM k v l = l.set i (k,v)
  | [],i,h=>by cases h
  | e :: r,i,h=>by
    unfold whereM at h
    unfold updM
    split at h
    · rename_i hk; cases h; simp [hk]
    · rename_i hk
      obtain ⟨j,hj,e2⟩:=Option.map_eq_some_iff.1 h
      subst e2
      rw [if_neg hk,upd_some hj]; rfl
theorem mes_snoc (k : α) (v : β) : ∀ (l : List (α × β)) (n : Nat),mesF key val n (l ++ [(k,v)]) = mesF key val n l ++ [⟨key k,val v,n + l.length⟩]
  | [],n=>rfl
  | e :: r,n=>by simp only [List.cons_append,mesF,mes_snoc k v r (n + 1),List.length_cons]; rw [show n + 1 + r.length = n + (r.length + 1) by omega]
theorem mes_modify {k : α} {v : β} {l : List (α × β)} {i n : Nat} (h : whereM k l = some i) : (mesF key val n l).modify i (fun e=>{ e with val:=val v }) = mesF key val n (l.set i (k,v)):=by
  apply List.ext_getElem?
  intro j
  rw [List.getElem?_modify,mes_get,mes_get,List.getElem?_set]
  have hi:=where_lt h
  have hg:=where_get h
  by_cases hij : i = j
  · subst hij
    rw [hg]
    simp only [if_true,hi]
    obtain ⟨w,hw⟩:=Option.isSome_iff_exists.1 (where_some h)
    rw [hw]; rfl
  · simp [hij]
variable {h : Heap} {id : Nat} {l : List (α × β)} {kk : Sh × List Nat} {k : α}
theorem mget_mes (hh : h[id]? = some (mobj key val l)) : mget h (.mp id) = some (id,mesF key val 0 l,l.length):=by
  simp only [mget,hh,mobj]
theorem look_mes (hk : KeyI key) (hh : h[id]? = some (mobj key val l)) (hq : keyOf kk (.p (key k)) = some (key k)) {ok : Bool} {z : AV} :
    oLook kk ok z (.mp id) (.p (key k)) h = some (bif ok then .tup [((getM k l).map val).getD z,AV.p (.bool (getM k l).isSome)] else ((getM k l).map val).getD z):=by
  simp only [oLook,hq,mget_mes hh,Option.map_some,mfind_mes hk,look_val,Option.isSome_map]
  rfl
theorem mupd_mes (hk : KeyI key) (hh : h[id]? = some (mobj key val l)) (hq : keyOf kk (.p (key k)) = some (key k)) {v : β} (hv : okIn (val v) = true) :
    oMupd kk (.mp id) (.p (key k)) (val v) h = some (.und,h.set id (mobj key val (updM k v l)),escOf id (val v)):=by
  simp only [oMupd,hq,mget_mes hh,hv,mfind_mes hk]
  cases hw : whereM k l with
  | none=>
    simp only [mobj,upd_none hw,mes_snoc,List.length_append,List.length_cons,List.length_nil,Nat.zero_add]
  | some i=>
    simp only [mobj,upd_some hw,mes_modify hw,List.length_set]
end
end Go.Am
end
section
/- The shortest way between two states of a test access port: a search over a queue. -/
open Go
set_option linter.all false
namespace Go.Am
variable {h : Heap} {K : Post}
attribute [-go_sem] oLook oMupd oMentry oMrange
def nxtT : List (List Nat):=[[1,0],[1,2],[3,9],[4,5],[4,5],[6,8],[6,7],[4,8],[1,2],[10,0],[11,12],[11,12],[13,15],[13,14],[11,15],[1,2]]
def nxt (s t : Nat) : Nat:=(nxtT.getD s []).getD t 0
theorem nxt_get {s t : Nat} (hs : s < 16) (ht : t < 2) : ([AI 1,AI 0,AI 1,AI 2,AI 3,AI 9,AI 4,AI 5,AI 4,AI 5,AI 6,AI 8,AI 6,AI 7,AI 4,AI 8,AI 1,AI 2,AI 10,AI 0,AI 11,AI 12,AI 11,AI 12,AI 13,AI 15,AI 13,AI 14,AI 11,AI 15,AI 1,AI 2] : List AV)[s * 2 + t * 1]? = some (AI (nxt s t)):=by
  have hs' : s = 0 ∨ s = 1 ∨ s = 2 ∨ s = 3 ∨ s = 4 ∨ s = 5 ∨ s = 6 ∨ s = 7 ∨ s = 8 ∨ s = 9 ∨ s = 10 ∨ s = 11 ∨ s = 12 ∨ s = 13 ∨ s = 14 ∨ s = 15:=by omega
  have ht' : t = 0 ∨ t = 1:=by omega
  rcases hs' with rfl | rfl | rfl | rfl | rfl | rfl | rfl | rfl | rfl | rfl | rfl | rfl | rfl | rfl | rfl | rfl <;> rcases ht' with rfl | rfl <;> rfl
theorem g_tapnext {Y : Ctx} (hY : Y.fn f_q08f = some a_q08f) (s t : Nat) (hs : s < 16) (ht : t < 2) : ACall Y f_q08f [AI s,AI t] h K = K (AI (nxt s t)) h []:=by
  refine rule ?_
  rw [call_val hY rfl (show puras h [AI s,AI t] = some ([AI s,AI t],h) from rfl) rfl,e_q08f]
  show d_q08f _ _ _ _ _ _ (finR [.t 4] false _ _)
  have g:=nxt_get hs ht
  simp only [d_q08f,go_sem,hs,ht,g]
abbrev Ways:=List (Int × List UInt8)
def keyP (n : Int) : PV:=.int .i64 n
def valP (s : List UInt8) : AV:=.p (.str s)
def bit1 (t : Nat) : List UInt8:=[UInt8.ofNat (48 + t)]
def visit (at_ t : Nat) (s : Ways × List Nat) : Ways × List Nat:=
  if (getM (nxt at_ t : Int) s.1).isSome then s else (updM (nxt at_ t : Int) ((getM (at_ : Int) s.1).getD [] ++ bit1 t) s.1,s.2 ++ [nxt at_ t])
def visits (at_ : Nat) : Nat → Ways × List Nat → Ways × List Nat
  | 0,s=>s
  | t + 1,s=>visit at_ t (visits at_ t s)
def popS (s : Ways × List Nat) : Ways × List Nat:=match s.2 with
  | []=>s
  | a :: r=>visits a 2 (s.1,r)
def bfs (a : Nat) : Nat → Ways × List Nat
  | 0=>([((a : Int),[])],[a])
  | k + 1=>popS (bfs a k)
def pathV (a b : Nat) : List UInt8:=(getM (b : Int) (bfs a 16).1).getD []
def fineS (s : Ways × List Nat) : Bool:=decide (s.1.length ≤ 16) && decide (s.2.length ≤ 16) && s.2.all (fun x=>decide (x < 16)) && s.1.all (fun e=>decide (e.2.length ≤ 16))
theorem bfs_all : (List.range 16).all (fun a=>(List.range 16).all (fun k=>fineS (bfs a k) && !(bfs a k).2.isEmpty) && fineS (bfs a 16) && (bfs a 16).2.isEmpty) = true:=by kernel_rfl
theorem bfs_fine {a k : Nat} (ha : a < 16) (hk : k < 16) : fineS (bfs a k) = true ∧ (bfs a k).2 ≠ []:=by
  have h1:=List.all_eq_true.1 bfs_all a (List.mem_range.2 ha)
  simp only [Bool.and_eq_true] at h1
  have h2:=List.all_eq_true.1 h1.1.1 k (List.mem_range.2 hk)
  simp only [Bool.and_eq_true,Bool.not_eq_true',List.isEmpty_eq_false_iff] at h2
  exact h2
theorem bfs_end {a : Nat} (ha : a < 16) : fineS (bfs a 16) = true ∧ (bfs a 16).2 = []:=by
  have h1:=List.all_eq_true.1 bfs_all a (List.mem_range.2 ha)
  simp only [Bool.and_eq_true,List.isEmpty_iff] at h1
  exact ⟨h1.1.2,h1.2⟩
theorem fine_inv {s : Ways × List Nat} (hf : fineS s = true) : s.1.length ≤ 16 ∧ s.2.length ≤ 16 ∧ (∀ x ∈ s.2,x < 16) ∧ ∀ e ∈ s.1,e.2.length ≤ 16:=by
  unfold fineS at hf
  simp only [Bool.and_eq_true,decide_eq_true_eq,List.all_eq_true] at hf
  exact ⟨hf.1.1.1,hf.1.1.2,hf.1.2,hf.2⟩
theorem lookP {hp : Heap} {id : Nat} {m : Ways} {b : Int} (hh : hp[id]? = some (mobj keyP valP m)) : oLook (none,[0]) false (.p (.str [])) (.mp id) (AI b) hp = some (.p (.str ((getM b m).getD []))):=by
  have:=look_mes (key:=keyP) (val:=valP) (fun a b=>keyI_int a b) hh (kk:=(none,[0])) (k:=b) keyOf_int (ok:=false) (z:=.p (.str []))
  rw [cond_false] at this
  refine this.trans ?_
  cases getM b m <;> rfl
theorem lookQ {hp : Heap} {id : Nat} {m : Ways} {b : Int} (hh : hp[id]? = some (mobj keyP valP m)) : oLook (none,[0]) true (.p (.str [])) (.mp id) (AI b) hp = some (.tup [.p (.str ((getM b m).getD [])),AB (getM b m).isSome]):=by
  have:=look_mes (key:=keyP) (val:=valP) (fun a b=>keyI_int a b) hh (kk:=(none,[0])) (k:=b) keyOf_int (ok:=true) (z:=.p (.str []))
  rw [cond_true] at this
  refine this.trans ?_
  cases getM b m <;> rfl
theorem updP {hp : Heap} {id : Nat} {m : Ways} {b : Int} {v : List UInt8} (hh : hp[id]? = some (mobj keyP valP m)) : oMupd (none,[0]) (.mp id) (AI b) (.p (.str v)) hp = some (.und,hp.set id (mobj keyP valP (updM b v m)),[]):=
  mupd_mes (key:=keyP) (val:=valP) (fun a b=>keyI_int a b) hh (kk:=(none,[0])) (k:=b) keyOf_int (v:=v) rfl
structure Que (R : Heap) (i : Nat) (xs : List Nat) (off : Nat) (q : List Nat) : Prop where
  get : R[i]? = some (.row none (xs.map fun n : Nat=>eI n) 0)
  le : off ≤ xs.length
  eq : xs.drop off = q
theorem nq_one {hp : Heap} {id : Nat} {xs : List Nat} {off : Nat} {n : Int} {k : AV → Heap → Esc → Prop} (hh : hp[id]? = some (.row none (xs.map fun n : Nat=>eI n) 0)) (ho : off ≤ xs.length) (hm : xs.length ≤ 1000000)
    (k1 : k (.own id (xs.length + 1) off (xs.length - off + 1)) (hp.set id (.row none (xs.map (fun n : Nat=>eI n) ++ [eI n]) 0)) [])
    (k2 : k (.own hp.length (xs.length - off + 1) 0 (xs.length - off + 1)) (hp ++ [.row none ((xs.drop off).map (fun n : Nat=>eI n) ++ [eI n]) 0]) []) :
    nqK (some none) [.own id xs.length off (xs.length - off),.p (.sl none [eI n])] hp k:=by
  have hx : xs.length - off + 1 ≤ maxSl:=by unfold maxSl; omega
  have hr : rds hp (.p (.sl none [eI n])) = some (none,[eI n]):=rfl
  have hw : win (xs.map fun n : Nat=>eI n) off (xs.length - off) = (xs.drop off).map fun n : Nat=>eI n:=by
    unfold win
    rw [← List.map_drop]
    exact List.take_of_length_le (by simp)
  unfold nqK choices appq
  simp only [hr,if_true,hh,List.length_map,List.length_cons,List.length_nil,Nat.zero_add]
  rw [if_pos ⟨trivial,trivial,by omega,hx⟩,hw]
  refine ⟨by simp,fun y hy=>?_⟩
  simp only [List.mem_cons,List.not_mem_nil,or_false] at hy
  rcases hy with rfl | rfl
  · exact k1
  · exact k2
theorem mem_updM {α β : Type} [DecidableEq α] {k : α} {v : β} : ∀ {l : List (α × β)} {e : α × β},e ∈ updM k v l → e ∈ l ∨ e = (k,v)
  | [],e,h=>by simp [updM] at h; exact .inr h
  | x :: r,e,h=>by
    unfold updM at h
    split at h
    · rcases List.mem_cons.1 h with h | h
      · exact .inr h
      · exact .inl (List.mem_cons_of_mem _ h)
    · rcases List.mem_cons.1 h with h | h
      · exact .inl (h ▸ List.mem_cons_self)
      · rcases mem_updM h with h | h
        · exact .inl (List.mem_cons_of_mem _ h)
        · exact .inr h
theorem getM_mem {α β : Type} [DecidableEq α] {k : α} {v : β} : ∀ {l : List (α × β)},getM k l = some v → (k,v) ∈ l
  | [],h=>by cases h
  | x :: r,h=>by
    unfold getM at h
    split at h
    · rename_i he; cases h; subst he; simp
    · exact List.mem_cons_of_mem _ (getM_mem h)
theorem ways_len {n : Nat} {w : Ways} (hw : ∀ e ∈ w,e.2.length ≤ n) (k : Int) : ((getM k w).getD []).length ≤ n:=by
  cases hg : getM k w with
  | none=>simp
  | some v=>exact hw _ (getM_mem hg)
theorem visit_len {n at_ t : Nat} {s : Ways × List Nat} (hw : ∀ e ∈ s.1,e.2.length ≤ n) : ∀ e ∈ (visit at_ t s).1,e.2.length ≤ n + 1:=by
  unfold visit
  split
  · intro e he; have:=hw e he; omega
  · intro e he
    rcases mem_updM he with h | h
    · have:=hw e h; omega
    · subst h
      have:=ways_len hw (at_ : Int)
      simp [bit1]; omega
theorem visits_len {n at_ : Nat} {s : Ways × List Nat} (hw : ∀ e ∈ s.1,e.2.length ≤ n) : ∀ (t : Nat),∀ e ∈ (visits at_ t s).1,e.2.length ≤ n + t
  | 0=>hw
  | t + 1=>visit_len (visits_len hw t)
set_option maxHeartbeats 1000000 in
theorem g_path {Y : Ctx} (hY1 : Y.fn f_q08g = some a_q08g) (hY2 : Y.fn f_q08f = some a_q08f) (a b : Nat) (ha : a < 16) (hb : b < 16) : ACall Y f_q08g [AI a,AI b] h K = K (.p (.str (pathV a b))) h []:=by
  refine rule ?_
  rw [call_val_det hY1 rfl (show puras h [AI a,AI b] = some ([AI a,AI b],h) from rfl) rfl]
  simp only [e_q08g]
  show ∃ v h' x,_ ∧ d_q08g _ _ _ _ _ _ _ _ (finR [.t 4] false _ _)
  simp only [d_q08g]
  refine ⟨_,_,_,⟨rfl,rfl,rfl⟩,?_⟩
  have em : mobj keyP valP [((a : Int),([] : List UInt8))] = .amap [⟨.int .i64 a,.p (.str []),0⟩] 1:=rfl
  have u0:=fun (hp : Heap) (hh : hp[h.length]? = some (mobj keyP valP []))=>updP (b:=(a : Int)) (v:=[]) hh
  have e0 : updM (a : Int) [] ([] : Ways) = [((a : Int),[])]:=rfl
  have em0 : mobj keyP valP ([] : Ways) = .amap [] 0:=rfl
  rw [e0] at u0
  simp only [em0] at u0
  simp only [go_sem,u0]
  refine N_loop (fun t : Nat × Heap × Nat × List Nat × Nat × Option Nat=>⟨[(1,AI b),(5,.mp h.length),(6,.own (h.length + (t.2.2.1 + 1)) t.2.2.2.1.length t.2.2.2.2.1 (t.2.2.2.1.length - t.2.2.2.2.1))] ++ (match t.2.2.2.2.2 with | none=>[] | some q=>[(7,AI q),(25,AI 2),(26,AB false)]),h ++ mobj keyP valP (bfs a t.1).1 :: t.2.1,[]⟩)
    (fun t=>t.1 ≤ 16 ∧ Que t.2.1 t.2.2.1 t.2.2.2.1 t.2.2.2.2.1 (bfs a t.1).2 ∧ t.2.2.2.1.length ≤ 1 + 2 * t.1) (fun t=>16 - t.1) (0,[.row none [eI a] 0],0,[a],0,none) (by simp [bfs]) ⟨by simp,⟨rfl,by simp,rfl⟩,by simp⟩ ?_
  rintro ⟨k,R,i,xs,off,oq⟩ ⟨h1,hq,h2⟩
  dsimp only at h1 hq h2 ⊢
  have hqg:=hq.get
  have hle:=hq.le
  have heq:=hq.eq
  have hln : xs.length - off = (bfs a k).2.length:=by rw [← heq]; simp
  by_cases hk : k < 16
  · obtain ⟨hf, hne⟩ := bfs_fine ha hk
    obtain ⟨f1,f2,f3,f4⟩:=fine_inv hf
    have hpos : 0 < xs.length - off:=by rw [hln]; exact List.length_pos_iff.2 hne
    have hoff : off < xs.length:=by omega
    obtain ⟨q0,qr,hqe⟩ : ∃ q0 qr,(bfs a k).2 = q0 :: qr:=by
      cases hb2 : (bfs a k).2 with
      | nil=>exact absurd hb2 hne
      | cons x y=>exact ⟨x,y,rfl⟩
    have hx0 : xs[off]? = some q0:=by
      have : (xs.drop off)[0]? = some q0:=by rw [heq,hqe]; rfl
      rwa [List.getElem?_drop,Nat.add_zero] at this
    have hdr : xs.drop (off + 1) = qr:=by
      rw [← List.drop_drop,heq,hqe]; rfl
    have hq0 : q0 < 16:=f3 q0 (by rw [hqe]; simp)
    have hgq : (xs.map fun n : Nat=>eI n)[off]? = some (eI q0):=by rw [List.getElem?_map,hx0]; rfl
    have hpi : (0 : Int) < ((xs.length - off : Nat) : Int):=by omega
    have hl1 : 1 ≤ xs.length - off:=by omega
    have hbn : bfs a (k + 1) = visits q0 2 ((bfs a k).1,qr):=by show popS _ = _; unfold popS; rw [hqe]
    have e3 : xs.length - off - 1 = xs.length - (off + 1):=by omega
    have hcond : off + (xs.length - off) ≤ xs.length:=by omega
    have hNL : ∀ (e : List (Nat × AV)),prune (some [1,5,6,7,25]) e = prune (some [1,5,6,7,25]) e:=fun _=>rfl
    rcases oq with _ | oq
    all_goals
    simp only [List.append_nil,List.cons_append,List.nil_append,go_sem,List.getElem?_cons_succ,hqg,hpi,hpos,hgq,hl1,hcond]
    all_goals
    clear u0 em em0 e0
    generalize hw0 : ((bfs a k).1,qr) = s0 at *
    have es1 : (bfs a k).1 = s0.1:=by rw [← hw0]
    have es2 : qr = s0.2:=by rw [← hw0]
    rw [es1,e3]
    refine N_loop (fun t : Nat × Heap × Nat × List Nat × Nat=>⟨[(1,AI b),(5,.mp h.length),(6,.own (h.length + (t.2.2.1 + 1)) t.2.2.2.1.length t.2.2.2.2 (t.2.2.2.1.length - t.2.2.2.2)),(7,AI q0),(25,AI t.1)],h ++ mobj keyP valP (visits q0 t.1 s0).1 :: t.2.1,[]⟩)
      (fun t=>t.1 ≤ 2 ∧ Que t.2.1 t.2.2.1 t.2.2.2.1 t.2.2.2.2 (visits q0 t.1 s0).2 ∧ t.2.2.2.1.length ≤ 1 + 2 * k + t.1) (fun t=>2 - t.1) (0,R,i,xs,off + 1) rfl ⟨by simp,⟨hqg,hoff,by rw [hdr,es2]; rfl⟩,by simp; omega⟩ ?_
    rintro ⟨j,R',i',ys,of'⟩ ⟨j1,jq,j2⟩
    dsimp only at j1 jq j2 ⊢
    have jg:=jq.get
    have jle:=jq.le
    have jeq:=jq.eq
    by_cases hj : j < 2
    · have hji : (j : Int) < 2 := by omega
      have qn:=fun h K=>g_tapnext (h:=h) (K:=K) hY2 q0 j hq0 hj
      have hvis : visits q0 (j + 1) s0 = visit q0 j (visits q0 j s0):=rfl
      generalize hsj : visits q0 j s0 = s at *
      have lq:=fun (hp : Heap) (hh : hp[h.length]? = some (mobj keyP valP s.1))=>lookQ (b:=(nxt q0 j : Int)) hh
      have lp:=fun (hp : Heap) (hh : hp[h.length]? = some (mobj keyP valP s.1))=>lookP (b:=(q0 : Int)) hh
      have up:=fun (hp : Heap) (v : List UInt8) (hh : hp[h.length]? = some (mobj keyP valP s.1))=>updP (b:=(nxt q0 j : Int)) (v:=v) hh
      have w1 : IntKind.i64.wrap ((j : Int) + 1) = ((j + 1 : Nat) : Int):=i64_wrap _ (by omega) (by omega)
      cases hs : (getM (nxt q0 j : Int) s.1).isSome with
      | true=>
        have hv : visit q0 j s = s:=by unfold visit; rw [if_pos hs]
        rw [hv] at hvis
        simp only [go_sem,hji,↓qn,qn,lq,hs,w1]
        exact ⟨(j + 1,R',i',ys,of'),by dsimp only; rw [hvis],⟨by dsimp only; omega,by dsimp only; rw [hvis]; exact jq,by dsimp only; omega⟩,by dsimp only; omega⟩
      | false=>
        have hv : visit q0 j s = (updM (nxt q0 j : Int) ((getM (q0 : Int) s.1).getD [] ++ bit1 j) s.1,s.2 ++ [nxt q0 j]):=by unfold visit; rw [hs]; rfl
        rw [hv] at hvis
        have w2 : IntKind.i64.wrap (48 + (j : Int)) = ((48 + j : Nat) : Int):=i64_wrap _ (by omega) (by omega)
        have w3 : IntKind.i32.wrap ((48 + j : Nat) : Int) = ((48 + j : Nat) : Int):=by
          have : j = 0 ∨ j = 1:=by omega
          rcases this with rfl | rfl <;> rfl
        have w4 : (0 : Int) ≤ ((48 + j : Nat) : Int) ∧ ((48 + j : Nat) : Int) < 128:=by omega
        have hln2:=ways_len (visits_len (n:=16) (at_:=q0) (s:=s0) (by rw [← es1]; exact f4) j) (q0 : Int)
        rw [hsj] at hln2
        have w5 : ((getM (q0 : Int) s.1).getD []).length + (bit1 j).length ≤ maxStr:=by have : (bit1 j).length = 1:=rfl; unfold maxStr; omega
        have w6 : [UInt8.ofNat ((48 + j : Nat) : Int).toNat] = bit1 j:=rfl
        simp only [go_sem,hji,↓qn,qn,lq,hs,lp,up,w1,w2,w3,w4,w5,w6]
        have hh1 : (h ++ mobj keyP valP (updM (nxt q0 j : Int) ((getM (q0 : Int) s.1).getD [] ++ bit1 j) s.1) :: R')[h.length + (i' + 1)]? = some (.row none (ys.map fun n : Nat=>eI n) 0):=by
          rw [List.getElem?_append_right (by omega)]; simpa using jg
        have hi' : i' < R'.length:=lt_of_get jg
        refine nq_one hh1 jle (by omega) ?_ ?_
        · refine ⟨(j + 1, R'.set i' (.row none (ys.map (fun n : Nat => eI n) ++ [eI (nxt q0 j)]) 0), i', ys ++ [nxt q0 j], of'), ?_, ⟨by dsimp only; omega, ⟨?_, ?_, ?_⟩, ?_⟩, by dsimp only; omega⟩
          · dsimp only
            rw [hvis,List.set_append_right _ _ (by omega)]
            simp only [List.length_append,List.length_cons,List.length_nil,Nat.add_sub_cancel_left,List.set_cons_succ]
            rw [show ys.length + 1 - of' = ys.length - of' + 1 by omega]
          · dsimp only
            rw [List.getElem?_set_self hi']; simp
          · simp; omega
          · dsimp only
            rw [hvis,List.drop_append_of_le_length jle,jeq]
          · simp; omega
        · refine ⟨(j + 1, R' ++ [.row none ((ys.drop of').map (fun n : Nat => eI n) ++ [eI (nxt q0 j)]) 0], R'.length, ys.drop of' ++ [nxt q0 j], 0), ?_, ⟨by dsimp only; omega, ⟨?_, ?_, ?_⟩, ?_⟩, by dsimp only; omega⟩
          · dsimp only
            rw [hvis]
            simp
          · simp
          · simp
          · dsimp only
            rw [hvis,jeq,List.drop_zero]
          · simp; omega
    · have hj2 : j = 2 := by omega
      subst hj2
      simp only [go_sem]
      refine ⟨(k + 1,R',i',ys,of',some q0),?_,⟨by dsimp only; omega,by dsimp only; rw [hbn]; exact jq,by dsimp only; omega⟩,by dsimp only; omega⟩
      dsimp only
      rw [hbn]
  · have hk16 : k = 16 := by omega
    subst hk16
    obtain ⟨_,hne⟩:=bfs_end ha
    have hz : xs.length - off = 0:=by rw [hln,hne]; rfl
    have lk:=fun (hp : Heap) (hh : hp[h.length]? = some (mobj keyP valP (bfs a 16).1))=>lookP (b:=(b : Int)) hh
    have hpv : (getM (b : Int) (bfs a 16).1).getD [] = pathV a b:=rfl
    rcases oq with _ | oq <;> simp only [List.append_nil,List.cons_append,List.nil_append,go_sem,hz,lk,hpv]
end Go.Am
end
section
/- ready: a closed call,computed. -/
open Go
set_option linter.all false
namespace Go.Am
def orcP (f : Nat) (a : List AV) : Option AV:=bif Nat.beq f f_q08g then match a with
  | [.p (.int .i64 x),.p (.int .i64 y)]=>bif decide (0 ≤ x) && decide (x < 16) && decide (0 ≤ y) && decide (y < 16) then some (.p (.str (pathV x.toNat y.toNat))) else none
  | _=>none else none
theorem orcP_ok : ∀ f a v,orcP f a = some v → ∀ h (K : Post),K v h [] → ACall X0 f a h K:=by
  intro f a v hv h K hK
  unfold orcP at hv
  cases hf : Nat.beq f f_q08g with
  | false=>rw [hf] at hv; cases hv
  | true=>
    have hf':=Nat.eq_of_beq_eq_true hf
    rw [hf] at hv
    subst hf'
    simp only [cond_true] at hv
    split at hv
    · rename_i x y
      cases hc : (decide (0 ≤ x) && decide (x < 16) && decide (0 ≤ y) && decide (y < 16)) with
      | false=>rw [hc] at hv; cases hv
      | true=>
        rw [hc] at hv
        simp only [cond_true,Option.some.injEq] at hv
        simp only [Bool.and_eq_true,decide_eq_true_eq] at hc
        obtain ⟨a,rfl⟩:=Int.eq_ofNat_of_zero_le hc.1.1.1
        obtain ⟨b,rfl⟩:=Int.eq_ofNat_of_zero_le hc.1.2
        have:=g_path (h:=h) (K:=K) x0_tap_path x0_tap_next a b (by omega) (by omega)
        rw [this]
        subst hv
        exact hK
    · cases hv
theorem ready_ev : evCallO X0 orcP 1000 60 f_q03p [] [] = some (AB true,[],[]):=by kernel_rfl
theorem ready_true : ACall X0 f_q03p [] [] fun v h x=>v = AB true ∧ h = [] ∧ x = []:=(ACall_evO orcP_ok 1000 60 ready_ev _).2 ⟨rfl,rfl,rfl⟩
theorem s_ready {h : Heap} {K : Post} : ACall X f_q03p [] h K = K (AB true) h []:=lib_call (by kernel_rfl) rfl
end Go.Am
end
section
/- Rows that are handed to a function: it sees their values. -/
open Go
namespace Go.Am
theorem arg_pur {X : Ctx} {f : Nat} {F : AFun} {a : List AV} {vs : List PV} {h h1 : Heap} {P : Post} (hf : X.fn f = some F) (hr : F.byref = false) (hp : puras h a = some (vs.map .p,h1)) (hq : puras h1 (vs.map .p) = some (vs.map .p,h1)) (hl : vs.length = F.nparams) (hlen : h1.length = h.length) : ACall X f a h P = ACall X f (vs.map .p) h1 P:=by
  cases hd : F.isDet with
  | false=>rw [call_val hf hr hp (by simpa using hl) hd,call_val hf hr hq (by simpa using hl) hd,hlen]
  | true=>rw [call_val_det hf hr hp (by simpa using hl) hd,call_val_det hf hr hq (by simpa using hl) hd,hlen]
theorem frz_len {h : Heap} {id k : Nat} : (frz h id k).length = h.length:=by
  unfold frz
  split <;> simp
end Go.Am
end
section
/- What all laws of the keep package use. -/
open Go
set_option linter.all false
namespace Go.Am
variable {h : Heap} {K : Post}
theorem s_errsK (l : List Int) (hl : l.length ≤ 1000) : ACall X f_q03n [AL l] h K = K (AI (firstErr l)) h []:=by
  refine rule ?_
  rw [c_q03n rfl]
  simp only [d_q03n,go_sem]
  refine N_loop (fun k : Nat=>⟨[(5,AL l),(6,AI l.length),(7,AI k)],h,[]⟩) (fun k=>k ≤ l.length ∧ firstErr (l.drop k) = firstErr l) (fun k=>l.length - k) 0 rfl (by simp) ?_
  rintro k ⟨hk,hp⟩
  rcases Nat.lt_or_ge k l.length with hlt | hge
  · have hg := map_get eI hlt
    have w2 : IntKind.i64.wrap ((k : Int) + 1) = ((k + 1 : Nat) : Int):=i64_wrap _ (by omega) (by omega)
    rw [List.drop_eq_getElem_cons hlt,firstErr] at hp
    by_cases he : l[k] = 0
    · rw [if_pos he] at hp
      simp only [go_sem,hlt,hg,w2,he]
      exact ⟨k + 1,rfl,⟨by omega,hp⟩,by omega⟩
    · rw [if_neg he] at hp
      simp only [go_sem,hlt,hg,w2,he]
      rw [hp]
  · have e1 : k = l.length := by omega
    subst e1
    simp only [go_sem,Nat.lt_irrefl]
    rw [List.drop_length] at hp
    rw [← hp]; rfl
end Go.Am
end
section
/- What is drawn and right: limits,records. -/
open Go
set_option linter.all false
namespace Go.Am
variable {L : List Int} {a : Int} {h l : Heap} {id : Nat} {K : Post}
theorem limOk_bd {l : List Lim} (h2 : l.length ≤ 3) (hb : ∀ x ∈ l,LimBd x) : LimOk l:=⟨by omega,fun x hx=>(hb x hx).k⟩
theorem g_RightLimits (hp : posN 200 a) : GenE f_q047 [] L a (fun v a2=>a ≤ a2 ∧ a2 ≤ a + 72 ∧ ∃ l : List Lim,1 ≤ l.length ∧ l.length ≤ 3 ∧ (∀ x ∈ l,LimBd x) ∧ limsFault l = 0 ∧ v = ALim l):=by
  refine GenE.of fun h id hid=>?_
  rw [c_q047 rfl]
  simp only [d_q047,go_sem,hid]
  refine N_loop (fun t : Nat × Int=>⟨[(0,.ref id 0),(4,AI t.1)],h.set id (strm L t.2),[]⟩) (fun t=>t.1 ≤ 6 ∧ a ≤ t.2 ∧ t.2 ≤ a + 12 * t.1) (fun t=>6 - t.1) (0,a) rfl ⟨by simp,by simp,by simp⟩ ?_
  rintro ⟨k,b⟩ ⟨h1,h2,h3⟩
  dsimp only at h1 h2 h3 ⊢
  rcases Nat.lt_or_ge k 6 with hlt | hge
  · have hk : (k : Int) < 6 := by omega
    have w1 : IntKind.i64.wrap ((k : Int) + 1) = ((k + 1 : Nat) : Int):=i64_wrap _ (by omega) (by omega)
    obtain ⟨_,a2,⟨c1,c2,l,l1,l2,lb,rfl⟩,V⟩:=(g_LimitList (L:=L) (a:=b) (posN_le hp h2 (by omega))).set (h:=h) hid
    have F:=fun h K=>s_LimitsFault (h:=h) (K:=K) l (limOk_bd l2 lb).k (by omega)
    by_cases hf : limsFault l = 0
    · simp only [go_sem, hid, hk, ↓V, V, ↓F, F, hf]
      exact ⟨a2,⟨by omega,by omega,l,l1,l2,lb,hf,rfl⟩,rfl⟩
    · simp only [go_sem, hid, hk, ↓V, V, ↓F, F, hf, w1]
      exact ⟨(k + 1,a2),rfl,⟨by dsimp only; omega,by dsimp only; omega,by dsimp only; omega⟩,by dsimp only; omega⟩
  · have hk : ¬ (k : Int) < 6 := by omega
    simp only [go_sem,hid,hk]
    refine ⟨b,⟨by omega,by omega,[⟨[118,111,108,116],0,10,5⟩],by simp,by simp,fun x hx=>?_,by decide,rfl⟩,rfl⟩
    rw [List.mem_singleton] at hx
    subst hx
    exact ⟨by simp,by simp,by simp⟩
theorem g_RightRecords (hp : posN 20000 a) (l : List Lim) (hl1 : 1 ≤ l.length) (hl2 : l.length ≤ 3) (hl : LimOk l) (hz : limsFault l = 0) (n : Nat) (hn : n ≤ 19) :
    GenE f_q048 [ALim l,AI n] L a (fun v a2=>a ≤ a2 ∧ a2 ≤ a + 12000 ∧ ∃ rs : List Rec,rs.length ≤ n ∧ (∀ r ∈ rs,RecOk r) ∧ recsFault l rs = 0 ∧ v = ARec rs):=by
  refine GenE.of fun h id hid=>?_
  rw [c_q048 rfl]
  simp only [d_q048,go_sem,hid]
  refine N_loop (fun t : Nat × Int=>⟨[(0,.ref id 0),(1,ALim l),(2,AI n),(8,AI t.1)],h.set id (strm L t.2),[]⟩) (fun t=>t.1 ≤ 6 ∧ a ≤ t.2 ∧ t.2 ≤ a + 2000 * t.1) (fun t=>6 - t.1) (0,a) rfl ⟨by simp,by simp,by simp⟩ ?_
  rintro ⟨k,b⟩ ⟨h1,h2,h3⟩
  dsimp only at h1 h2 h3 ⊢
  rcases Nat.lt_or_ge k 6 with hlt | hge
  · have hk : (k : Int) < 6 := by omega
    have w1 : IntKind.i64.wrap ((k : Int) + 1) = ((k + 1 : Nat) : Int):=i64_wrap _ (by omega) (by omega)
    obtain ⟨_,a2,⟨c1,c2,rs,r1,r2,rfl⟩,V⟩:=(g_Records (L:=L) (a:=b) (posN_le hp h2 (by omega)) l hl1 hl2 n hn).set (h:=h) hid
    have F:=fun h K=>s_RecordsFault (h:=h) (K:=K) l rs hl r2 (by omega)
    by_cases hf : recsFault l rs = 0
    · simp only [go_sem, hid, hk, ↓V, V, ↓F, F, hf]
      exact ⟨a2,⟨by omega,by omega,rs,r1,r2,hf,rfl⟩,rfl⟩
    · simp only [go_sem, hid, hk, ↓V, V, ↓F, F, hf, w1]
      exact ⟨(k + 1,a2),rfl,⟨by dsimp only; omega,by dsimp only; omega,by dsimp only; omega⟩,by dsimp only; omega⟩
  · have hk : ¬ (k : Int) < 6 := by omega
    simp only [go_sem,hid,hk]
    refine ⟨b,⟨by omega,by omega,[],by simp,by simp,?_,rfl⟩,rfl⟩
    unfold recsFault
    rw [if_neg (by simp [hz])]
    rfl
end Go.Am
end
section
/- Lengths of numbers in bits,and comparisons of plain values. -/
open Go
namespace Go.Am
variable {h : Heap} {K : Post}
set_option maxRecDepth 20000
theorem tab_get (k : Nat) (hk : k < 256) : ∃ b,([0,1,2,2,3,3,3,3,4,4,4,4,4,4,4,4,5,5,5,5,5,5,5,5,5,5,5,5,5,5,5,5,6,6,6,6,6,6,6,6,6,6,6,6,6,6,6,6,6,6,6,6,6,6,6,6,6,6,6,6,6,6,6,6,7,7,7,7,7,7,7,7,7,7,7,7,7,7,7,7,7,7,7,7,7,7,7,7,7,7,7,7,7,7,7,7,7,7,7,7,7,7,7,7,7,7,7,7,7,7,7,7,7,7,7,7,7,7,7,7,7,7,7,7,7,7,7,7,8,8,8,8,8,8,8,8,8,8,8,8,8,8,8,8,8,8,8,8,8,8,8,8,8,8,8,8,8,8,8,8,8,8,8,8,8,8,8,8,8,8,8,8,8,8,8,8,8,8,8,8,8,8,8,8,8,8,8,8,8,8,8,8,8,8,8,8,8,8,8,8,8,8,8,8,8,8,8,8,8,8,8,8,8,8,8,8,8,8,8,8,8,8,8,8,8,8,8,8,8,8,8,8,8,8,8,8,8,8,8,8,8,8,8,8,8,8,8,8,8,8,8,8,8,8,8,8] : List UInt8)[k]? = some b:=⟨_,List.getElem?_eq_getElem (Nat.lt_of_lt_of_eq hk (by kernel_rfl))⟩
theorem len_any (x : Int) (h0 : 0 ≤ x) (h1 : x < 256) : ∃ m : Int,∀ (h : Heap) (K : Post),ACall X f_q039 [AU x] h K = K (AI m) h []:=by
  obtain ⟨b,hb⟩:=tab_get x.toNat (by omega)
  refine ⟨IntKind.i64.wrap (0 + IntKind.i64.wrap b.toNat),fun h K=>?_⟩
  have w : IntKind.u8.wrap x = x:=by simp [IntKind.wrap,IntKind.bits,IntKind.signed]; omega
  have b1 : ¬ (4294967296 ≤ x):=by omega
  have b2 : ¬ (65536 ≤ x):=by omega
  have b3 : ¬ (256 ≤ x):=by omega
  have hn:=natOf_int (k:=.u8) h0
  have key : ∀ (h : Heap) (K : Post),ACall X f_q03b [AU x] h K = K (AI (IntKind.i64.wrap (0 + IntKind.i64.wrap b.toNat))) h []:=by
    intro h K
    refine rule ?_
    rw [c_q03b rfl]
    simp only [d_q03b,go_sem,b1,b2,b3,w,hn,hb]
  refine rule ?_
  rw [c_q039 rfl]
  simp only [d_q039,go_sem,key]
theorem s_Less (a b : Int) : ACall X f_q00t [AI a,AI b] h K = K (AB (decide (a < b))) h []:=by
  refine rule ?_
  rw [c_q00t rfl]
  simp only [d_q00t,go_sem,s_isNaN]
def ltI (a b : Int) : Bool:=decide (a < b)
def ltP (a b : PV) : Bool:=match a,b with
  | .int _ a,.int _ b=>decide (a < b)
  | _,_=>false
theorem ltP_eI (a b : Int) : ltP (eI a) (eI b) = ltI a b:=rfl
theorem less_eI {l : List Int} : ∀ x ∈ l.map eI,∀ y ∈ l.map eI,∀ (h : Heap) (K : Post),ACall X f_q00t [.p x,.p y] h K = K (AB (ltP x y)) h []:=by
  intro x hx y hy h K
  obtain ⟨a,_,rfl⟩:=List.mem_map.1 hx
  obtain ⟨b,_,rfl⟩:=List.mem_map.1 hy
  exact s_Less a b
theorem shps_eI {l : List Int} : shps none (l.map eI):=fun x hx=>by obtain ⟨n,_,rfl⟩:=List.mem_map.1 hx; rfl
end Go.Am
end
section
/- Sorting numbers: printed by program. -/
open Go
set_option linter.unusedSimpArgs false
namespace Go.Am
attribute [-go_sem] PV.cells splice
variable {h : Heap} {K : Post}
theorem insOrd_int (id n : Nat) (l tl : List PV) (hn : n = l.length + tl.length) (hs : shps none l) (hl : l.length ≤ 1000) (hh : h[id]? = some (.row none (l ++ tl) 0)) {lt : PV → PV → Bool} (hc : ∀ x ∈ l,∀ y ∈ l,∀ (h : Heap) (K : Post),ACall X f_q00t [.p x,.p y] h K = K (AB (lt x y)) h []) :
    ACall X f_q067 [.own id n 0 l.length,AI 0,AI l.length] h K = K (.tup []) (h.set id (.row none (isort lt l ++ tl) 0)) []:=by
  refine rule ?_
  rw [c_q067]
  have hid:=get_lt hh
  have hst : ∀ o,(h.set id o)[id]? = some o:=fun o=>set_get' hid
  simp only [d_q067,go_sem,show IntKind.i64.wrap 1 = 1 from rfl]
  refine N_loop (fun i : Nat=>⟨[(0,.own id n 0 l.length),(1,AI 0),(2,AI l.length),(6,AI i)],h.set id (.row none ((isortR lt (l.take i)).reverse ++ (l.drop i ++ tl)) 0),[]⟩) (fun i=>1 ≤ i ∧ (i ≤ l.length ∨ i = 1)) (fun i=>l.length - i) 1 ?_ (by simp) ?_
  · have : (isortR lt (l.take 1)).reverse ++ (l.drop 1 ++ tl) = l ++ tl := by cases l <;> rfl
    rw [this,set_self hh]; rfl
  rintro i ⟨hi1,hi2⟩
  rcases Nat.lt_or_ge i l.length with hlt | hge
  · simp only [go_sem, hlt]
    have hxl : l[i] ∈ l:=List.getElem_mem hlt
    generalize hx : l[i] = x at *
    generalize hR : isortR lt (l.take i) = R
    have hRl : R.length = i:=by rw [← hR,isortR_len]; simp; omega
    have hRm : ∀ z ∈ R,z ∈ l:=fun z hz=>List.mem_of_mem_take ((isortR_perm lt (l.take i)).mem_iff.1 (by rw [hR]; exact hz))
    have hdrop : l.drop i = x :: l.drop (i + 1):=by rw [← hx]; exact List.drop_eq_getElem_cons hlt
    have hnext : isortR lt (l.take (i + 1)) = insR lt x R:=by rw [isortR_take_succ _ _ _ hlt,hR,hx]
    refine N_loop (fun t : List PV × List PV=>⟨[(0,.own id n 0 l.length),(1,AI 0),(2,AI l.length),(6,AI i),(7,AI t.1.length)],h.set id (.row none (t.1.reverse ++ x :: t.2) 0),[]⟩)
      (fun t=>∃ B,R = B ++ t.1 ∧ t.2 = B.reverse ++ (l.drop (i + 1) ++ tl) ∧ ∀ b ∈ B,lt x b = true) (fun t=>t.1.length) (R,l.drop (i + 1) ++ tl) (by rw [hdrop,hRl]; rfl) ⟨[],rfl,rfl,by simp⟩ ?_
    rintro ⟨A,C⟩ ⟨B,q1,q2,q3⟩
    dsimp only at q1 q2 q3
    have hlen : (A.reverse ++ x :: C).length = n:=by
      have : R.length = B.length + A.length:=by rw [q1]; simp
      rw [q2]; simp; omega
    have hBA : B.length + A.length < l.length:=by
      have : R.length = B.length + A.length:=by rw [q1]; simp
      omega
    have hln : l.length ≤ n:=by omega
    have w1 : IntKind.i64.wrap ((i : Int) + 1) = ((i + 1 : Nat) : Int):=i64_wrap _ (by omega) (by omega)
    cases A with
    | nil=>
      have hd : insR lt x R = B ++ [x]:=by rw [q1]; exact ins_done lt x [] B q3 (fun y r h=>by cases h)
      simp only [go_sem,Int.lt_irrefl,w1]
      refine ⟨i + 1,?_,by omega,by omega⟩
      simp only [hnext,hd,q2,List.reverse_append,List.reverse_nil,List.nil_append,List.reverse_cons,List.append_assoc,List.cons_append]
    | cons y A=>
      have hyl : y ∈ l:=hRm y (by rw [q1]; simp)
      have g1:=ins_get (y :: A) C x
      have g2:=ins_get1 A C x y
      have sw:=ins_swap A C x y
      simp only [List.length_cons] at hBA
      generalize hrow : (y :: A).reverse ++ x :: C = row at *
      simp only [List.length_cons] at g1
      have w2 : IntKind.i64.wrap (((A.length + 1 : Nat) : Int) - 1) = (A.length : Int):=by rw [i64_wrap _ (by omega) (by omega)]; omega
      have p1 : (0 : Int) < ((A.length + 1 : Nat) : Int):=by omega
      have b1 : A.length + 1 < l.length:=by omega
      have b2 : A.length < l.length:=by omega
      have cx:=shp_cut (hs x hxl)
      have cy:=shp_cut (hs y hyl)
      have hcc:=fun h K=>hc x hxl y hyl h K
      cases hxy : lt x y with
      | false=>
        have hd : insR lt x R = B ++ x :: y :: A:=by rw [q1]; exact ins_done lt x (y :: A) B q3 (fun z r h=>by cases h; exact hxy)
        simp only [go_sem,hst,p1,hlen,g1,g2,w2,b1,b2,hln,cx,cy,hcc,hxy,w1]
        refine ⟨i + 1,?_,by omega,by omega⟩
        simp only [hnext,hd,← hrow,q2,List.reverse_append,List.reverse_cons,List.append_assoc,List.cons_append,List.nil_append]
      | true=>
        have g3 : (row.set (A.length + 1) y)[A.length]? = some y:=by rw [List.getElem?_set_ne (by omega),g2]
        have lx:=shp_len (hs x hxl)
        have ly:=shp_len (hs y hyl)
        have sx:=shp_all (hs x hxl)
        have sy:=shp_all (hs y hyl)
        simp only [shSize] at lx ly
        have t1:=fun i xs h1=>shp_st (hs x hxl) (hs y hyl) id i 0 xs h1
        have t2:=fun i xs h1=>shp_st (hs y hyl) (hs x hxl) id i 0 xs h1
        simp only [go_sem,hst,p1,hlen,g1,g2,g3,w2,b1,b2,hln,cx,cy,hcc,hxy,lx,ly,sx,sy,t1,t2,sw]
        refine ⟨(A,y :: C),rfl,⟨B ++ [y],by simp [q1],by simp [q2],fun b hb=>?_⟩,by simp⟩
        rw [List.mem_append,List.mem_singleton] at hb
        rcases hb with hb | rfl
        · exact q3 b hb
        · exact hxy
  · have hge' : ¬ i < l.length := by omega
    have e1 : l.take i = l:=List.take_of_length_le hge
    have e2 : l.drop i = []:=List.drop_of_length_le hge
    simp only [go_sem,hge',e1,e2]
    rfl
theorem Sort_int (id n : Nat) (l tl : List PV) (hn : n = l.length + tl.length) (hs : shps none l) (hl : l.length ≤ 12) (hh : h[id]? = some (.row none (l ++ tl) 0)) {lt : PV → PV → Bool} (hc : ∀ x ∈ l,∀ y ∈ l,∀ (h : Heap) (K : Post),ACall X f_q00t [.p x,.p y] h K = K (AB (lt x y)) h []) :
    ACall X f_q05u [.own id n 0 l.length] h K = K (.tup []) (h.set id (.row none (isort lt l ++ tl) 0)) []:=by
  refine rule ?_
  rw [c_q05u]
  have w0 : IntKind.u64.wrap (l.length : Int) = l.length:=u64_wrap _ (by omega) (by omega)
  obtain ⟨m,hm⟩:=len_any (l.length : Int) (by omega) (by omega)
  have is:=fun h' (hq : h' = h) K=>insOrd_int (h:=h) (K:=K) id n l tl hn hs (by omega) hh hc
  have key : ∀ K : Post,ACall X f_q06t [.own id n 0 l.length,AI 0,AI l.length,AI m] h K = K (.tup []) (h.set id (.row none (isort lt l ++ tl) 0)) []:=by
    intro K
    refine rule ?_
    rw [c_q06t]
    simp only [d_q06t,go_sem]
    refine N_loop (fun _ : Unit=>⟨[(0,.own id n 0 l.length),(1,AI 0),(2,AI l.length),(3,AI m),(8,AB true),(9,AB true)],h,[]⟩) (fun _=>True) (fun _=>0) () rfl trivial ?_
    intro _ _
    have w1 : IntKind.i64.wrap ((l.length : Int) - 0) = l.length:=by rw [i64_wrap _ (by omega) (by omega)]; omega
    have b1 : ((l.length : Int) ≤ 12):=by omega
    simp only [go_sem,w1,b1,is _ rfl]
  simp only [d_q05u,go_sem,w0,hm,key]
end Go.Am
end
section
/- Deleting values: printed by program. -/
open Go
set_option linter.unusedSimpArgs false
namespace Go.Am
attribute [-go_sem] PV.cells splice
variable {h : Heap} {K : Post}
theorem DeleteFunc_int (id : Nat) (l : List PV) (hs : shps none l) (hl : l.length ≤ 100000) (hh : h[id]? = some (.row none l 0)) {g : Nat} {caps : List AV} {p : PV → Bool} (hp : TellsS g caps p l id h) :
    ACall X f_q05c [.own id l.length 0 l.length,.fn g caps] h K = K (.own id l.length 0 (l.filter fun x=>!p x).length) (h.set id (.row none ((l.filter fun x=>!p x) ++ List.replicate (l.length - (l.filter fun x=>!p x).length) (PV.int .i64 0)) 0)) []:=by
  refine rule ?_
  rw [c_q05c]
  have hid:=get_lt hh
  have hst : ∀ o,(h.set id o)[id]? = some o:=fun o=>set_get' hid
  have hi:=fun K=>IndexFunc_int (h:=h) (K:=K) (shows_full hs hh) (fun x hx K=>by have:=hp (.row none l 0) x hx K; rwa [set_self hh] at this) (by omega)
  simp only [d_q05c,go_sem,hi]
  by_cases hf : l.findIdx p < l.length
  · have e1 : idxP p l = (l.findIdx p : Int) := by simp [idxP, hf]
    have e2 : ¬ ((l.findIdx p : Int) = -1):=by omega
    have w0 : IntKind.i64.wrap ((l.findIdx p : Int) + 1) = ((l.findIdx p + 1 : Nat) : Int):=i64_wrap _ (by omega) (by omega)
    simp only [go_sem,e1,e2,w0]
    have hF0 : ((l.take (l.findIdx p + 1)).filter fun x=>!p x) = l.take (l.findIdx p):=by
      rw [List.take_succ_eq_append_getElem hf,List.filter_append]
      have q1 : (l.take (l.findIdx p)).filter (fun x=>!p x) = l.take (l.findIdx p):=by
        rw [List.filter_eq_self]
        intro x hx
        obtain ⟨j,hj,rfl⟩:=List.mem_take_iff_getElem.1 hx
        have:=List.not_of_lt_findIdx (show j < l.findIdx p by omega)
        simpa using this
      rw [q1]
      have : p l[l.findIdx p] = true:=List.findIdx_getElem (w:=hf)
      simp [this]
    refine N_loop (fun t : List PV × Nat × Nat=>⟨[(0,.own id l.length 0 l.length),(1,.fn g caps),(5,AI t.2.1),(6,AI t.2.2)],h.set id (.row none t.1 0),[]⟩)
      (fun t=>t.1.length = l.length ∧ shps none t.1 ∧ t.2.1 < t.2.2 ∧ t.2.2 ≤ l.length ∧ t.1.take t.2.1 = ((l.take t.2.2).filter fun x=>!p x) ∧ t.1.drop t.2.2 = l.drop t.2.2) (fun t=>l.length - t.2.2)
      (l,l.findIdx p,l.findIdx p + 1) (by rw [set_self hh]) ⟨rfl,hs,by simp,hf,by rw [hF0],rfl⟩ ?_
    rintro ⟨row,i,j⟩ ⟨r1,r2,r3,r4,r5,r6⟩
    dsimp only at r1 r2 r3 r4 r5 r6
    have w1 : IntKind.i64.wrap ((j : Int) + 1) = ((j + 1 : Nat) : Int):=i64_wrap _ (by omega) (by omega)
    have w2 : IntKind.i64.wrap ((i : Int) + 1) = ((i + 1 : Nat) : Int):=i64_wrap _ (by omega) (by omega)
    rcases Nat.lt_or_ge j l.length with hlt | hge
    · have g1 : row[j]? = some l[j]:=by
        have:=congrArg (·[0]?) r6
        simp only [List.getElem?_drop,Nat.add_zero] at this
        rw [this,List.getElem?_eq_getElem hlt]
      have hsj:=shps_get hs hlt
      have cx:=shp_cut hsj
      have hil : i < l.length:=by omega
      have g2 : row[i]? = some row[i]:=List.getElem?_eq_getElem (by omega)
      have hsi:=shps_get r2 (show i < row.length by omega)
      have t1:=fun xs h1=>shp_st hsj hsi id i 0 xs h1
      have lx:=shp_len hsj
      have sx:=shp_all hsj
      simp only [shSize] at lx
      have hpj:=fun o K=>hp o _ (List.getElem_mem hlt) K
      cases hpx : p l[j] with
      | true=>
        simp only [go_sem,hst,r1,hlt,g1,cx,hpj,hpx,w1]
        refine ⟨(row,i,j + 1),rfl,⟨r1,r2,by dsimp only; omega,by dsimp only; omega,?_,?_⟩,by dsimp only; omega⟩
        · rw [List.take_succ_eq_append_getElem hlt, List.filter_append]
          simp [hpx,r5]
        · rw [← List.drop_drop,r6,List.drop_drop]
      | false=>
        simp only [go_sem,hst,r1,hlt,hil,g1,g2,cx,hpj,hpx,w1,w2,lx,sx,t1]
        refine ⟨(row.set i l[j],i + 1,j + 1),rfl,⟨by simpa using r1,fun x hx=>?_,by dsimp only; omega,by dsimp only; omega,?_,?_⟩,by dsimp only; omega⟩
        · rcases List.mem_or_eq_of_mem_set hx with hx | rfl
          · exact r2 x hx
          · exact hsj
        · dsimp only
          rw [List.take_succ_eq_append_getElem hlt,List.filter_append,← r5,List.take_succ_eq_append_getElem (by simp; omega)]
          simp [hpx,List.take_set_of_le]
        · dsimp only
          rw [List.drop_set_of_lt (by omega),← List.drop_drop,r6,List.drop_drop]
    · have ej : j = l.length := by omega
      subst ej
      rw [List.take_length] at r5
      have hm : (l.filter fun x=>!p x).length = i:=by rw [← r5]; simp; omega
      have hil : i ≤ l.length:=by omega
      have e3 : l.length - i + i = l.length:=by omega
      have sp : splice row i (List.replicate (l.length - i) (PV.int .i64 0)) = (l.filter fun x=>!p x) ++ List.replicate (l.length - i) (PV.int .i64 0):=by
        unfold splice
        rw [r5,List.length_replicate,List.drop_of_length_le (by omega),List.append_nil]
      have rl : ((l.filter fun x=>!p x) ++ List.replicate (l.length - i) (PV.int .i64 0)).length = l.length:=by simp only [List.length_append,hm,List.length_replicate]; omega
      rw [hm]
      generalize (l.filter fun x=>!p x) ++ List.replicate (l.length - i) (PV.int .i64 0) = row' at *
      have hb : ¬ h.length ≤ id:=by omega
      have hb2 : max h.length (id + 1) = h.length:=by omega
      have hb3 : id + 1 ≤ h.length:=hid
      simp only [go_sem,Nat.lt_irrefl,hst,r1,rl,hil,sp,show i + (l.length - i) = l.length by omega,hb,hb2,hb3]
  · have e1 : idxP p l = -1 := by simp [idxP, hf]
    have hF : (l.filter fun x=>!p x) = l:=by
      rw [List.filter_eq_self]
      intro x hx
      cases hpx : p x with
      | false=>rfl
      | true=>exact absurd (List.findIdx_lt_length_of_exists ⟨x,hx,hpx⟩) hf
    have hb : ¬ h.length ≤ id:=by omega
    have hb2 : max h.length (id + 1) = h.length:=by omega
    have hb3 : id + 1 ≤ h.length:=hid
    simp only [go_sem,e1,hF,Nat.sub_self,List.replicate_zero,List.append_nil,hb,hb2,hb3]
    rw [set_self hh]
end Go.Am
end
section
/- Plain lists: the narrowest window of a sorted list,and the narrowest of all pairs that leave few values outside. -/
namespace Go.Am
def better (acc : Option (Int × Int)) (p : Int × Int) : Option (Int × Int):=match acc with
  | none=>some p
  | some q=>if p.2 - p.1 < q.2 - q.1 then some p else some q
def fstMin (l : List (Int × Int)) : Option (Int × Int):=l.foldl better none
theorem fstMin_aux : ∀ (l : List (Int × Int)) (q : Int × Int),∃ x,l.foldl better (some q) = some x ∧
    ((x = q ∧ ∀ y ∈ l,q.2 - q.1 ≤ y.2 - y.1) ∨ (∃ a b,l = a ++ x :: b ∧ x.2 - x.1 < q.2 - q.1 ∧ (∀ y ∈ a,x.2 - x.1 < y.2 - y.1) ∧ ∀ y ∈ b,x.2 - x.1 ≤ y.2 - y.1))
  | [],q=>⟨q,rfl,.inl ⟨rfl,fun y hy=>by cases hy⟩⟩
  | p :: l,q=>by
    simp only [List.foldl_cons,better]
    by_cases h : p.2 - p.1 < q.2 - q.1
    · rw [if_pos h]
      obtain ⟨x,e,h1 | ⟨a,b,e1,h1,h2,h3⟩⟩:=fstMin_aux l p
      · obtain ⟨rfl, h2⟩ := h1
        exact ⟨x,e,.inr ⟨[],l,rfl,h,fun y hy=>(by cases hy),h2⟩⟩
      · refine ⟨x, e, .inr ⟨p :: a, b, by rw [e1]; rfl, by omega, fun y hy => ?_, h3⟩⟩
        rcases List.mem_cons.1 hy with rfl | hy
        · exact h1
        · exact h2 y hy
    · rw [if_neg h]
      obtain ⟨x,e,h1 | ⟨a,b,e1,h1,h2,h3⟩⟩:=fstMin_aux l q
      · obtain ⟨rfl, h2⟩ := h1
        refine ⟨x,e,.inl ⟨rfl,fun y hy=>?_⟩⟩
        rcases List.mem_cons.1 hy with rfl | hy
        · omega
        · exact h2 y hy
      · refine ⟨x, e, .inr ⟨p :: a, b, by rw [e1]; rfl, h1, fun y hy => ?_, h3⟩⟩
        rcases List.mem_cons.1 hy with rfl | hy
        · omega
        · exact h2 y hy
theorem fstMin_spec {l : List (Int × Int)} (hl : l ≠ []) : ∃ x a b,fstMin l = some x ∧ l = a ++ x :: b ∧ (∀ y ∈ a,x.2 - x.1 < y.2 - y.1) ∧ ∀ y ∈ b,x.2 - x.1 ≤ y.2 - y.1:=by
  cases l with
  | nil=>exact absurd rfl hl
  | cons q l=>
    unfold fstMin
    simp only [List.foldl_cons,better]
    obtain ⟨x,e,h1 | ⟨a,b,e1,h1,h2,h3⟩⟩:=fstMin_aux l q
    · obtain ⟨rfl, h2⟩ := h1
      exact ⟨x,[],l,e,rfl,fun y hy=>(by cases hy),h2⟩
    · refine ⟨x, q :: a, b, e, by rw [e1]; rfl, fun y hy => ?_, h3⟩
      rcases List.mem_cons.1 hy with rfl | hy
      · exact h1
      · exact h2 y hy
theorem sorted_idx : ∀ {g : List Int},g.Pairwise (· ≤ ·) → ∀ (v : Int) (k : Nat) (hk : k < g.length),g[k] ≤ v ↔ k < g.countP (fun x=>decide (x ≤ v))
  | [],_,v,k,hk=>absurd hk (by simp)
  | x :: r,hs,v,k,hk=>by
    rw [List.pairwise_cons] at hs
    rw [List.countP_cons]
    by_cases hx : x ≤ v
    · rw [if_pos (by simpa using hx)]
      cases k with
      | zero=>simp only [List.getElem_cons_zero]; omega
      | succ k=>
        simp only [List.getElem_cons_succ]
        rw [sorted_idx hs.2 v k (by simpa using hk)]; omega
    · rw [if_neg (by simpa using hx)]
      have h0 : r.countP (fun x=>decide (x ≤ v)) = 0:=by
        rw [List.countP_eq_zero]
        intro y hy
        have:=hs.1 y hy
        simp; omega
      rw [h0]
      cases k with
      | zero=>simp only [List.getElem_cons_zero]; omega
      | succ k=>
        have:=hs.1 _ (List.getElem_mem (show k < r.length by simpa using hk))
        simp only [List.getElem_cons_succ]; omega
def outN (g : List Int) (u v : Int) : Nat:=g.countP fun n=>!(decide (u ≤ n) && decide (n ≤ v))
def wins (g : List Int) (m : Nat) : List (Int × Int):=(List.range (g.length - m + 1)).map fun i=>(g.getD i 0,g.getD (i + m - 1) 0)
theorem getD_le {g : List Int} (hs : g.Pairwise (· ≤ ·)) {i j : Nat} (hij : i ≤ j) (hj : j < g.length) : g.getD i 0 ≤ g.getD j 0:=by
  rw [List.getD_eq_getElem?_getD,List.getD_eq_getElem?_getD,List.getElem?_eq_getElem (by omega),List.getElem?_eq_getElem hj]
  simp only [Option.getD_some]
  rcases Nat.lt_or_eq_of_le hij with h | h
  · exact List.pairwise_iff_getElem.1 hs i j (by omega) hj h
  · subst h; exact Int.le_refl _
theorem cnt_split (g : List Int) (u v : Int) (huv : u ≤ v) : g.countP (fun x=>decide (x ≤ v)) + outN g u v = g.length + g.countP (fun x=>decide (x ≤ u - 1)):=by
  unfold outN
  induction g with
  | nil=>rfl
  | cons x r ih=>
    simp only [List.countP_cons,List.length_cons]
    by_cases h1 : x ≤ u - 1
    · rw [if_pos (by simp; omega),if_pos (by simp; omega),if_pos (by simp; omega)]; omega
    · by_cases h2 : x ≤ v
      · rw [if_pos (by simp; omega),if_neg (by simp; omega),if_neg (by simp; omega)]; omega
      · rw [if_neg (by simp; omega),if_pos (by simp; omega),if_neg (by simp; omega)]; omega
end Go.Am
end
section
/- Values of a test; limits asv narrow asv can be: package lot. -/
open Go
set_option linter.unusedSimpArgs false
namespace Go.Am
variable {h : Heap} {K : Post}
def valsAt (k : Nat) (r : List Rec) : List Int:=r.filterMap fun x=>x.res[k]?
theorem valsAt_succ (k : Nat) (r : List Rec) (i : Nat) (hi : i < r.length) : valsAt k (r.take (i + 1)) = valsAt k (r.take i) ++ (match r[i].res[k]? with | some v=>[v] | none=>[]):=by
  unfold valsAt
  rw [List.take_succ_eq_append_getElem hi,List.filterMap_append]
  congr 1
  simp only [List.filterMap_cons,List.filterMap_nil]
  cases r[i].res[k]? <;> rfl
theorem valsAt_len (k : Nat) (r : List Rec) : (valsAt k r).length ≤ r.length:=List.length_filterMap_le _ _
theorem s_values (r : List Rec) (k : Nat) (hk : k ≤ 1000000) (hn : r.length ≤ 1000000) : ACall X f_q034 [ARec r,AI k] h K = K (.own h.length (valsAt k r).length 0 (valsAt k r).length) (h ++ [.row none ((valsAt k r).map eI) 0]) []:=by
  refine rule ?_
  rw [c_q034 rfl]
  simp only [d_q034,go_sem]
  refine N_loop (fun i : Nat=>⟨[(1,AI k),(5,.own h.length (valsAt k (r.take i)).length 0 (valsAt k (r.take i)).length),(8,ARec r),(9,AI r.length),(10,AI i)],h ++ [.row none ((valsAt k (r.take i)).map eI) 0],[]⟩) (fun i=>i ≤ r.length) (fun i=>r.length - i) 0 rfl (by omega) ?_
  intro i hi
  rcases Nat.lt_or_ge i r.length with hlt | hge
  · have hg := map_get Rec.pv hlt
    have w2 : IntKind.i64.wrap ((i : Int) + 1) = ((i + 1 : Nat) : Int):=i64_wrap _ (by omega) (by omega)
    have hs:=valsAt_succ k r i hlt
    have hl:=valsAt_len k (r.take i)
    have hmx : (valsAt k (r.take i)).length + 1 ≤ maxSl:=by unfold maxSl; simp at hl; omega
    rcases Nat.lt_or_ge k r[i].res.length with hk1 | hk1
    · have g2 := map_get eI hk1
      rw [List.getElem?_eq_getElem hk1] at hs
      simp only [go_sem,hlt,hg,Rec.pv,hk1,g2,hmx,w2]
      refine ⟨i + 1,?_,by omega,by omega⟩
      simp only [hs,List.map_append,List.map_cons,List.map_nil,List.length_append,List.length_cons,List.length_nil]
    · have hk1' : ¬ k < r[i].res.length := by omega
      rw [List.getElem?_eq_none hk1,List.append_nil] at hs
      simp only [go_sem,hlt,hg,Rec.pv,hk1',w2]
      exact ⟨i + 1,by simp only [hs],by omega,by omega⟩
  · have : i = r.length := by omega
    subst this
    simp only [go_sem,Nat.lt_irrefl,List.take_length,show max h.length (h.length + 1) = h.length + 1 by omega]
def valuesV (l : List Lim) (r : List Rec) (t : List UInt8) : AV:=if recsFault l r ≠ 0 then .tup [AL [],AI (recsFault l r)] else if findK l t < 0 then .tup [AL [],AI 8] else .tup [AL (valsAt (findK l t).toNat r),AI 0]
theorem findK_bd (l : List Lim) (t : List UInt8) : -1 ≤ findK l t ∧ findK l t < l.length:=by
  unfold findK idxP
  split
  · rename_i h; simp at h ⊢; omega
  · omega
theorem s_Values (l : List Lim) (r : List Rec) (t : List UInt8) (hl : LimOk l) (hr : ∀ x ∈ r,RecOk x) (hn : r.length ≤ 1000000) : ACall X f_q02f [ALim l,ARec r,AS t] h K = K (valuesV l r t) h []:=by
  refine rule ?_
  rw [c_q02f rfl]
  have cr:=fun h K=>s_CheckRecords (h:=h) (K:=K) l r hl hr hn
  have fk:=fun h K=>s_find (h:=h) (K:=K) l t (by have:=hl.n; omega)
  have hb:=findK_bd l t
  have hln:=hl.n
  unfold valuesV
  by_cases h1 : recsFault l r = 0
  · rw [if_neg (by simp [h1])]
    by_cases h2 : findK l t < 0
    · simp only [d_q02f, go_sem, cr, h1, fk, h2]
      rfl
    · obtain ⟨k, hk⟩ := Int.eq_ofNat_of_zero_le (show 0 ≤ findK l t by omega)
      have vs:=fun h K=>s_values (h:=h) (K:=K) r k (by omega) hn
      rw [hk]
      have hlt : ¬ ((k : Int) < 0):=by omega
      simp only [d_q02f,go_sem,cr,h1,fk,h2,hk,hlt,vs,Int.toNat_natCast]
      rw [win_full (by simp)]
  · rw [if_pos h1]
    simp only [d_q02f,go_sem,cr,h1]
    rfl
def ordB (x : Rec) : Option Rec → Bool
  | some q=>decide (recCmp x q ≤ 0)
  | none=>false
theorem recsFaultFrom_cons' {l : List Lim} {p : Option Rec} {x : Rec} {r : List Rec} : recsFaultFrom l p (x :: r) = if recFault l x ≠ 0 then recFault l x else if ordB x p = true then 7 else recsFaultFrom l (some x) r:=by cases p <;> rfl
theorem recsFaultFrom_all {l : List Lim} : ∀ {r : List Rec} {p : Option Rec},recsFaultFrom l p r = 0 → ∀ x ∈ r,recFault l x = 0
  | [],_,_,x,hx=>by cases hx
  | y :: r,p,h,x,hx=>by
    rw [recsFaultFrom_cons'] at h
    by_cases h1 : recFault l y = 0
    · rw [if_neg (by simp [h1])] at h
      by_cases h2 : ordB y p = true
      · rw [if_pos h2] at h
        exact absurd h (by decide)
      · rw [if_neg h2] at h
        rcases List.mem_cons.1 hx with rfl | hx
        · exact h1
        · exact recsFaultFrom_all h x hx
    · rw [if_pos h1] at h
      exact absurd h h1
theorem recsFault_all {l : List Lim} {r : List Rec} (h : recsFault l r = 0) : ∀ x ∈ r,recFault l x = 0:=by
  unfold recsFault recsFault0 at h
  split at h
  · rename_i h1; exact absurd h h1
  · split at h
    · cases h
    · exact recsFaultFrom_all h
theorem recFault_meas {l : List Lim} {r : Rec} (hf : recFault l r = 0) : ∀ n ∈ r.res,-100000 ≤ n ∧ n ≤ 100000:=by
  unfold recFault at hf
  split at hf
  · cases hf
  · split at hf
    · cases hf
    · split at hf
      · cases hf
      · rename_i h
        intro n hn
        have:=List.all_eq_true.1 (by simpa using h) n hn
        simpa [isM] using this
theorem valsAt_meas {l : List Lim} {r : List Rec} (h : recsFault l r = 0) (k : Nat) : ∀ n ∈ valsAt k r,-100000 ≤ n ∧ n ≤ 100000:=by
  intro n hn
  obtain ⟨x,hx,e⟩:=List.mem_filterMap.1 hn
  exact recFault_meas (recsFault_all h x hx) n (List.mem_of_getElem? e)
end Go.Am
end
section
/- Limits asv narrow asv can be,both ways. -/
open Go
set_option linter.unusedSimpArgs false
namespace Go.Am
variable {h : Heap} {K : Post}
def goodOf (x : Lim) (vs : List Int) : List Int:=vs.filter (good x)
def sortedOf (x : Lim) (vs : List Int) : List Int:=isort ltI (goodOf x vs)
theorem weakI : Weak ltI:=⟨fun a b h=>by simp [ltI] at *; omega,fun a b c h1 h2=>by simp [ltI] at *; omega⟩
theorem sortedOf_le (x : Lim) (vs : List Int) : (sortedOf x vs).Pairwise (· ≤ ·):=by
  refine (isort_sorted weakI (goodOf x vs)).imp (fun {a b} h=>?_)
  simp [ltI] at h; omega
theorem sortedOf_len (x : Lim) (vs : List Int) : (sortedOf x vs).length = (goodOf x vs).length:=isort_len _ _
theorem goodOf_len (x : Lim) (vs : List Int) : (goodOf x vs).length ≤ vs.length:=List.length_filter_le _ _
def tightV (g : List Int) (most : Int) : Int × Int × Bool:=if g.length = 0 then (0,0,false) else match fstMin (wins g (max 1 (g.length - most)).toNat) with
  | some p=>(p.1,p.2,true)
  | none=>(0,0,false)
def badP (x : Lim) : PV → Bool:=fun v=>match v with | .int _ n=>!good x n | _=>false
theorem filter_bad (x : Lim) (vs : List Int) : (vs.map eI).filter (fun v=>!badP x v) = (goodOf x vs).map eI:=by
  unfold goodOf
  rw [List.filter_map]
  congr 1
  apply List.filter_congr
  intro n _
  simp [badP]
theorem s_tight1 (l : List Lim) (k : Nat) (hk : k < l.length) (n : Int) (b1 b2 : Nat) (h1 : h[b1]? = some (.box [ALim l])) (h2 : h[b2]? = some (.box [AI k])) : ACall X f_q02e [AI n,.ref b1 0,.ref b2 0] h K = K (AB (!good l[k] n)) h []:=by
  refine rule ?_
  rw [c_q02e rfl]
  have hg:=map_get Lim.pv hk
  have cx : cutP (some 4) 0 (l[k].pv) = some l[k].pv:=rfl
  simp only [d_q02e,go_sem,h1,h2,hg,cx,s_good]
theorem wins_take_succ (g : List Int) (M i : Nat) (hi : i < g.length - M + 1) : (wins g M).take (i + 1) = (wins g M).take i ++ [(g.getD i 0,g.getD (i + M - 1) 0)]:=by
  unfold wins
  rw [List.take_succ_eq_append_getElem (by simpa using hi)]
  simp
theorem fstMin_snoc (l : List (Int × Int)) (p : Int × Int) : fstMin (l ++ [p]) = better (fstMin l) p:=by
  unfold fstMin; rw [List.foldl_append]; rfl
set_option maxHeartbeats 1000000 in
theorem s_Tighter (l : List Lim) (r : List Rec) (t : List UInt8) (most : Int) (hl : LimOk l) (hr : ∀ x ∈ r,RecOk x) (hn : r.length ≤ 12) (hm : -1000000 ≤ most ∧ most ≤ 1000000) :
    ACall X f_q02d [ALim l,ARec r,AS t,AI most] h K = K (if recsFault l r ≠ 0 then .tup [AI 0,AI 0,AB false,AI (recsFault l r)] else if findK l t < 0 then .tup [AI 0,AI 0,AB false,AI 8] else if inB 0 most 5000 = false then .tup [AI 0,AI 0,AB false,AI 1]
      else .tup [AI (tightV (sortedOf (l.getD (findK l t).toNat ⟨[],0,0,0⟩) (valsAt (findK l t).toNat r)) most).1,AI (tightV (sortedOf (l.getD (findK l t).toNat ⟨[],0,0,0⟩) (valsAt (findK l t).toNat r)) most).2.1,AB (tightV (sortedOf (l.getD (findK l t).toNat ⟨[],0,0,0⟩) (valsAt (findK l t).toNat r)) most).2.2,AI 0]) h []:=by
  refine rule ?_
  rw [c_q02d rfl]
  have cr:=fun h K=>s_CheckRecords (h:=h) (K:=K) l r hl hr (by omega)
  have fk:=fun h K=>s_find (h:=h) (K:=K) l t (by have:=hl.n; omega)
  have hb:=findK_bd l t
  have hln:=hl.n
  by_cases h1 : recsFault l r = 0
  case neg=>simp only [d_q02d,go_sem,cr,h1]
  by_cases h2 : findK l t < 0
  · simp only [d_q02d,go_sem,cr,h1,fk,h2]
  obtain ⟨k,hk⟩:=Int.eq_ofNat_of_zero_le (show 0 ≤ findK l t by omega)
  have hk' : findK l t = (k : Int):=hk
  rw [hk'] at fk hb ⊢
  have hlt : ¬ ((k : Int) < 0):=by omega
  cases h3 : inB 0 most 5000 with
  | false=>simp only [d_q02d,go_sem,cr,h1,fk,hlt,s_OutB,h3]
  | true=>
    have hkl : k < l.length:=by omega
    have hmm : 0 ≤ most ∧ most ≤ 5000:=by simpa [inB] using h3
    have hD : l.getD k ⟨[],0,0,0⟩ = l[k]:=by rw [List.getD_eq_getElem?_getD,List.getElem?_eq_getElem hkl]; rfl
    simp only [h1,ne_eq,not_true_eq_false,if_false,hlt,reduceCtorEq,Int.toNat_natCast,hD]
    have hvl:=valsAt_len k r
    have hvm:=valsAt_meas h1 k
    generalize hvs : valsAt k r = vs at *
    have vsp:=fun h K=>s_values (h:=h) (K:=K) r k (by omega) (by omega)
    rw [hvs] at vsp
    -- the deletion
    have hgl:=goodOf_len l[k] vs
    have dl:=fun K=>DeleteFunc_int (h:=h ++ [.box [ALim l],.box [AI k],.row none (vs.map eI) 0]) (K:=K) (h.length + 2) (vs.map eI) shps_eI (by simp; omega) (by simp) (g:=f_q02e) (caps:=[.ref h.length 0,.ref (h.length + 1) 0]) (p:=badP l[k])
      (fun o x hx K=>by
        obtain ⟨n,_,rfl⟩:=List.mem_map.1 hx
        rw [app_set]
        exact s_tight1 l k hkl n h.length (h.length + 1) (by simp) (by simp))
    simp only [filter_bad,List.length_map,app_set,List.set_cons_succ,List.set_cons_zero] at dl
    by_cases hg0 : (goodOf l[k] vs).length = 0
    · have hg0' : ((goodOf l[k] vs).length : Int) = 0 := by omega
      have : tightV (sortedOf l[k] vs) most = (0,0,false):=by unfold tightV; rw [if_pos (by rw [sortedOf_len]; exact hg0)]
      rw [this]
      simp only [d_q02d,go_sem,cr,h1,fk,hlt,s_OutB,h3,vsp,↓dl,dl,hg0']
    · have hg0' : ¬ ((goodOf l[k] vs).length : Int) = 0 := by omega
      have hsl:=sortedOf_len l[k] vs
      have hgm : ∀ n ∈ sortedOf l[k] vs,-100000 ≤ n ∧ n ≤ 100000:=fun n hn=>hvm n (List.mem_filter.1 (isort_mem.1 hn)).1
      have so:=fun K=>Sort_int (h:=h ++ [.box [ALim l],.box [AI k],.row none ((goodOf l[k] vs).map eI ++ List.replicate (vs.length - (goodOf l[k] vs).length) (PV.int .i64 0)) 0]) (K:=K) (h.length + 2) vs.length ((goodOf l[k] vs).map eI) (List.replicate (vs.length - (goodOf l[k] vs).length) (PV.int .i64 0)) (by simp; omega) shps_eI (by simp; omega) (by simp) (lt:=ltP) less_eI
      simp only [isort_map eI (fun a b=>ltP_eI a b),List.length_map,app_set,List.set_cons_succ,List.set_cons_zero] at so
      have hGS : isort ltI (goodOf l[k] vs) = sortedOf l[k] vs:=rfl
      rw [hGS] at so
      generalize hg : sortedOf l[k] vs = g at *
      generalize hG : goodOf l[k] vs = G at *
      generalize hT : List.replicate (vs.length - G.length) (PV.int .i64 0) = T at *
      have hTl : T.length = vs.length - G.length:=by rw [← hT]; simp
      have w1 : IntKind.i64.wrap ((G.length : Int) - most) = (G.length : Int) - most:=i64_wrap _ (by omega) (by omega)
      obtain ⟨M,hM⟩:=Int.eq_ofNat_of_zero_le (show 0 ≤ max 1 ((G.length : Int) - most) by omega)
      have hM1 : 1 ≤ M:=by omega
      have hM2 : M ≤ G.length:=by omega
      have w2 : IntKind.i64.wrap ((G.length : Int) - M) = ((G.length - M : Nat) : Int):=by rw [i64_wrap _ (by omega) (by omega)]; omega
      have w3 : IntKind.i64.wrap (((G.length - M : Nat) : Int) + 1) = ((G.length - M + 1 : Nat) : Int):=by rw [i64_wrap _ (by omega) (by omega)]; omega
      have rowget : ∀ j,j < G.length → (g.map eI ++ T)[j]? = some (eI (g.getD j 0)):=fun j hj=>by
        rw [List.getElem?_append_left (by simp; omega),List.getElem?_map,List.getD_eq_getElem?_getD,List.getElem?_eq_getElem (by omega)]; rfl
      have rowlen : (g.map eI ++ T).length = vs.length:=by simp; omega
      have gbd : ∀ j,-100000 ≤ g.getD j 0 ∧ g.getD j 0 ≤ 100000:=fun j=>by
        rw [List.getD_eq_getElem?_getD]
        cases hq : g[j]? with
        | none=>simp
        | some v=>exact hgm v (List.mem_of_getElem? hq)
      have htv : tightV g most = (match fstMin (wins g M) with | some p=>(p.1,p.2,true) | none=>(0,0,false)):=by
        unfold tightV
        rw [if_neg (by omega),hsl,hM]; rfl
      rw [htv]
      generalize hrow : g.map eI ++ T = row at *
      simp only [d_q02d,go_sem,cr,h1,fk,hlt,s_OutB,h3,vsp,↓dl,dl,hg0',↓so,so,w1,hM,w2,w3]
      refine N_loop (fun u : Nat × Nat=>⟨[(14,.own (h.length + 2) vs.length 0 G.length),(15,AI M),(16,AI u.2),(52,AI ((G.length - M + 1 : Nat) : Int)),(53,AI u.1)],h ++ [.box [ALim l],.box [AI k],.row none row 0],[]⟩)
        (fun u=>u.1 ≤ G.length - M + 1 ∧ u.2 < G.length - M + 1 ∧ (u.1 = 0 → u.2 = 0) ∧ (0 < u.1 → fstMin ((wins g M).take u.1) = some (g.getD u.2 0,g.getD (u.2 + M - 1) 0))) (fun u=>G.length - M + 1 - u.1) (0,0) rfl ⟨by simp,by simp,fun _=>rfl,fun h=>absurd h (by simp)⟩ ?_
      rintro ⟨i,b⟩ ⟨q1,q2,q3,q4⟩
      dsimp only at q1 q2 q3 q4
      have v1 : IntKind.i64.wrap ((b : Int) + M) = ((b + M : Nat) : Int):=by rw [i64_wrap _ (by omega) (by omega)]; omega
      have v2 : IntKind.i64.wrap (((b + M : Nat) : Int) - 1) = ((b + M - 1 : Nat) : Int):=by rw [i64_wrap _ (by omega) (by omega)]; omega
      have r3:=rowget b (by omega)
      have r4:=rowget (b + M - 1) (by omega)
      have p3 : b < G.length:=by omega
      have p4 : b + M - 1 < G.length:=by omega
      have pG : G.length ≤ vs.length:=hgl
      rcases Nat.lt_or_ge i (G.length - M + 1) with hlt2 | hge2
      · have u1 : IntKind.i64.wrap ((i : Int) + M) = ((i + M : Nat) : Int) := by rw [i64_wrap _ (by omega) (by omega)]; omega
        have u2 : IntKind.i64.wrap (((i + M : Nat) : Int) - 1) = ((i + M - 1 : Nat) : Int):=by rw [i64_wrap _ (by omega) (by omega)]; omega
        have u3 : IntKind.i64.wrap ((i : Int) + 1) = ((i + 1 : Nat) : Int):=i64_wrap _ (by omega) (by omega)
        have r1:=rowget i (by omega)
        have r2:=rowget (i + M - 1) (by omega)
        have p1 : i < G.length:=by omega
        have p2 : i + M - 1 < G.length:=by omega
        have d1:=gbd i
        have d2:=gbd (i + M - 1)
        have d3:=gbd b
        have d4:=gbd (b + M - 1)
        have hts:=wins_take_succ g M i (by omega)
        have hfm : fstMin ((wins g M).take (i + 1)) = better (fstMin ((wins g M).take i)) (g.getD i 0,g.getD (i + M - 1) 0):=by rw [hts,fstMin_snoc]
        generalize hgi : g.getD i 0 = gi at *
        generalize hgim : g.getD (i + M - 1) 0 = gim at *
        generalize hgb : g.getD b 0 = gb at *
        generalize hgbm : g.getD (b + M - 1) 0 = gbm at *
        have z1 : IntKind.i64.wrap (gim - gi) = gim - gi:=i64_wrap _ (by omega) (by omega)
        have z2 : IntKind.i64.wrap (gbm - gb) = gbm - gb:=i64_wrap _ (by omega) (by omega)
        by_cases hw : gim - gi < gbm - gb
        · simp only [go_sem, hlt2, u1, u2, v1, v2, r1, r2, r3, r4, p1, p2, p3, p4, pG, rowlen, z1, z2, hw, u3]
          refine ⟨(i + 1,i),rfl,⟨by dsimp only; omega,by dsimp only; omega,fun h=>absurd h (by simp),fun _=>?_⟩,by dsimp only; omega⟩
          dsimp only
          rw [hgi,hgim,hfm]
          rcases Nat.eq_zero_or_pos i with h0 | h0
          · have := q3 h0
            subst h0; subst this
            exfalso; rw [← hgi,← hgim,← hgb,← hgbm] at hw; omega
          · rw [q4 h0,better,if_pos hw]
        · simp only [go_sem, hlt2, u1, u2, v1, v2, r1, r2, r3, r4, p1, p2, p3, p4, pG, rowlen, z1, z2, hw, u3]
          refine ⟨(i + 1,b),rfl,⟨by dsimp only; omega,by dsimp only; omega,fun h=>absurd h (by simp),fun _=>?_⟩,by dsimp only; omega⟩
          dsimp only
          rw [hgb,hgbm,hfm]
          rcases Nat.eq_zero_or_pos i with h0 | h0
          · have := q3 h0
            subst h0; subst this
            rw [← hgi,← hgim,← hgb,← hgbm]; rfl
          · rw [q4 h0,better,if_neg hw]
      · have ei : i = G.length - M + 1 := by omega
        have hq:=q4 (by omega)
        have ew : (wins g M).take i = wins g M:=List.take_of_length_le (by simp [wins]; omega)
        rw [ew] at hq
        rw [hq]
        have hb2 : ¬ i < G.length - M + 1:=by omega
        simp only [go_sem,hb2,v1,v2,r3,r4,p3,p4,pG,rowlen]
end Go.Am
end
section
/- Limits asv narrow asv can be: the reference,all pairs. -/
open Go
set_option linter.unusedSimpArgs false
namespace Go.Am
variable {h : Heap} {K : Post}
end Go.Am
end
section
/- Tighter limits: within the limits,asv few outside asv asked,the least and greatest when none may be outside. Plain lists. -/
open Go
set_option linter.all false
namespace Go.Am
theorem findK_none {pre : List Lim} {k : List UInt8} (h : ¬ 0 ≤ findK pre k) : ∀ x ∈ pre,x.key ≠ k:=by
  intro x hx e
  unfold findK at h
  have:=idxP_any (keyIs k) (pre.map Lim.pv)
  rw [decide_eq_false h] at this
  have h2:=List.any_eq_false.1 this.symm x.pv (List.mem_map.2 ⟨x,hx,rfl⟩)
  apply h2
  unfold keyIs Lim.pv
  simp [e]
theorem limsFrom_nodup : ∀ {l pre : List Lim},limsFaultFrom pre l = 0 → (pre.map Lim.key).Nodup → ((pre ++ l).map Lim.key).Nodup
  | [],pre,_,hn=>by simpa using hn
  | x :: l,pre,hf,hn=>by
    unfold limsFaultFrom at hf
    split at hf
    · cases hf
    · split at hf
      · cases hf
      · rename_i hk
        split at hf
        · cases hf
        · have:=limsFrom_nodup hf (by
            rw [List.map_append,List.nodup_append]
            refine ⟨hn,by simp,fun a ha b hb=>?_⟩
            obtain ⟨y,hy,rfl⟩:=List.mem_map.1 ha
            simp at hb
            subst hb
            exact findK_none hk y hy)
          simpa using this
theorem lims_nodup {l : List Lim} (h : limsFault l = 0) : (l.map Lim.key).Nodup:=by
  unfold limsFault at h
  split at h
  · cases h
  · split at h
    · cases h
    · simpa using limsFrom_nodup h (by simp)
theorem findK_at {l : List Lim} (h : limsFault l = 0) {j : Nat} (hj : j < l.length) : findK l l[j].key = j:=by
  have hn:=lims_nodup h
  have hi : (l.map Lim.pv).findIdx (keyIs l[j].key) = j:=by
    apply (List.findIdx_eq (by simpa using hj)).2
    refine ⟨by simp [keyIs,Lim.pv],fun i hij=>?_⟩
    simp only [List.getElem_map,Lim.pv,keyIs,decide_eq_false_iff_not]
    intro e
    have hil : i < l.length:=by omega
    have:=(List.getElem_inj (i:=i) (j:=j) (h₀:=by simpa using hil) (h₁:=by simpa using hj) hn).1 (by simpa using e)
    omega
  unfold findK idxP
  rw [hi,if_pos (by simpa using hj)]
theorem wins_mem {g : List Int} {m : Nat} {p : Int × Int} (h : p ∈ wins g m) (hm : 1 ≤ m) (hmg : m ≤ g.length) : ∃ i,i + m ≤ g.length ∧ p = (g.getD i 0,g.getD (i + m - 1) 0):=by
  unfold wins at h
  obtain ⟨i,hi,rfl⟩:=List.mem_map.1 h
  have:=List.mem_range.1 hi
  exact ⟨i,by omega,rfl⟩
theorem win_out {g : List Int} (hs : g.Pairwise (· ≤ ·)) {i m : Nat} (hm : 1 ≤ m) (hi : i + m ≤ g.length) : outN g (g.getD i 0) (g.getD (i + m - 1) 0) ≤ g.length - m:=by
  have hle:=getD_le hs (show i ≤ i + m - 1 by omega) (by omega)
  have h1:=cnt_split g (g.getD i 0) (g.getD (i + m - 1) 0) hle
  have e1 : g.getD (i + m - 1) 0 = g[i + m - 1]'(by omega):=by simp [List.getD_eq_getElem?_getD,List.getElem?_eq_getElem (show i + m - 1 < g.length by omega)]
  have e2 : g.getD i 0 = g[i]'(by omega):=by simp [List.getD_eq_getElem?_getD,List.getElem?_eq_getElem (show i < g.length by omega)]
  have h2:=(sorted_idx hs (g.getD (i + m - 1) 0) (i + m - 1) (by omega)).1 (by rw [e1]; exact Int.le_refl _)
  have h3 : ¬ i < g.countP (fun x=>decide (x ≤ g.getD i 0 - 1)):=fun hc=>by
    have:=(sorted_idx hs (g.getD i 0 - 1) i (by omega)).2 hc
    rw [e2] at this
    omega
  omega
theorem tight_win {g : List Int} {most : Int} (hg : g.length ≠ 0) (h0 : 0 ≤ most) : ∃ i m,1 ≤ m ∧ i + m ≤ g.length ∧ (g.length : Int) - m ≤ most ∧ (m = g.length ∨ (most ≠ 0)) ∧ tightV g most = (g.getD i 0,g.getD (i + m - 1) 0,true):=by
  have hm1 : 1 ≤ (max 1 ((g.length : Int) - most)).toNat:=by omega
  have hm2 : (max 1 ((g.length : Int) - most)).toNat ≤ g.length:=by omega
  have hm3 : (g.length : Int) - ((max 1 ((g.length : Int) - most)).toNat : Nat) ≤ most:=by omega
  have hm4 : (max 1 ((g.length : Int) - most)).toNat = g.length ∨ most ≠ 0:=by omega
  unfold tightV
  rw [if_neg hg]
  generalize (max 1 ((g.length : Int) - most)).toNat = m at *
  have hne : wins g m ≠ []:=by unfold wins; simp
  obtain ⟨x,a,b,hx,hl,_⟩:=fstMin_spec hne
  have hmem : x ∈ wins g m:=by rw [hl]; simp
  obtain ⟨i,hi,rfl⟩:=wins_mem hmem hm1 hm2
  rw [hx]
  exact ⟨i,m,hm1,hi,hm3,hm4,rfl⟩
def outs (v : List Int) (a b : Int) : Nat:=v.countP fun n=>decide (n < a) || decide (b < n)
theorem outs_eq (v : List Int) (a b : Int) : outs v a b = outN v a b:=by
  unfold outs outN
  refine List.countP_congr fun n _=>?_
  simp only [Bool.or_eq_true,decide_eq_true_eq,Bool.not_eq_true',Bool.and_eq_false_iff,decide_eq_false_iff_not]
  omega
theorem outN_perm {v w : List Int} (h : v.Perm w) (a b : Int) : outN v a b = outN w a b:=by unfold outN; exact h.countP_eq _
theorem getD_mem {g : List Int} {i : Nat} (hi : i < g.length) : g.getD i 0 ∈ g:=by
  simp [List.getD_eq_getElem?_getD,List.getElem?_eq_getElem hi]
theorem foldmin_le : ∀ (l : List Int) (x : Int),(l.foldl min x ≤ x) ∧ ∀ y ∈ l,l.foldl min x ≤ y
  | [],x=>⟨Int.le_refl _,by simp⟩
  | y :: l,x=>by
    obtain ⟨h1,h2⟩:=foldmin_le l (min x y)
    simp only [List.foldl_cons]
    refine ⟨by omega,fun z hz=>?_⟩
    rcases List.mem_cons.1 hz with rfl | hz
    · omega
    · exact h2 z hz
theorem foldmax_le : ∀ (l : List Int) (x : Int),(x ≤ l.foldl max x) ∧ ∀ y ∈ l,y ≤ l.foldl max x
  | [],x=>⟨Int.le_refl _,by simp⟩
  | y :: l,x=>by
    obtain ⟨h1,h2⟩:=foldmax_le l (max x y)
    simp only [List.foldl_cons]
    refine ⟨by omega,fun z hz=>?_⟩
    rcases List.mem_cons.1 hz with rfl | hz
    · omega
    · exact h2 z hz
theorem minL_le {l : List Int} {y : Int} (hy : y ∈ l) : minL l ≤ y:=by
  cases l with
  | nil=>cases hy
  | cons x l=>
    unfold minL
    simp only [List.tail_cons,List.headD_cons]
    obtain ⟨h1,h2⟩:=foldmin_le l x
    rcases List.mem_cons.1 hy with rfl | hy
    · exact h1
    · exact h2 y hy
theorem le_maxL {l : List Int} {y : Int} (hy : y ∈ l) : y ≤ maxL l:=by
  cases l with
  | nil=>cases hy
  | cons x l=>
    unfold maxL
    simp only [List.tail_cons,List.headD_cons]
    obtain ⟨h1,h2⟩:=foldmax_le l x
    rcases List.mem_cons.1 hy with rfl | hy
    · exact h1
    · exact h2 y hy
theorem tight_law (x : Lim) (vs : List Int) (most : Int) (h0 : 0 ≤ most) (hv : goodOf x vs ≠ []) : ∃ a b c d,tightV (sortedOf x vs) most = (a,b,true) ∧ tightV (sortedOf x vs) 0 = (c,d,true) ∧
    ((outs (goodOf x vs) a b : Nat) : Int) ≤ most ∧ x.lo ≤ a ∧ b ≤ x.hi ∧ a ≤ b ∧ b - a ≤ d - c ∧ c = minL (goodOf x vs) ∧ d = maxL (goodOf x vs) ∧ (a ∈ goodOf x vs) ∧ (b ∈ goodOf x vs) ∧ (c ∈ goodOf x vs) ∧ (d ∈ goodOf x vs):=by
  have hs:=sortedOf_le x vs
  have hp : (sortedOf x vs).Perm (goodOf x vs):=isort_perm _ _
  have hlen : (sortedOf x vs).length ≠ 0:=by
    rw [sortedOf_len]
    intro e
    exact hv (List.length_eq_zero_iff.1 e)
  obtain ⟨i,m,m1,m2,m3,m4,e1⟩:=tight_win hlen h0
  obtain ⟨i',m',n1,n2,n3,n4,e2⟩:=tight_win (most:=0) hlen (by omega)
  have hm' : m' = (sortedOf x vs).length:=by omega
  have hi' : i' = 0:=by omega
  subst hi'
  have ho:=win_out hs m1 m2
  rw [outN_perm hp] at ho
  generalize hg : sortedOf x vs = g at *
  have ga : g.getD i 0 ∈ goodOf x vs:=hp.mem_iff.1 (getD_mem (by omega))
  have gb : g.getD (i + m - 1) 0 ∈ goodOf x vs:=hp.mem_iff.1 (getD_mem (by omega))
  have gc : g.getD 0 0 ∈ goodOf x vs:=hp.mem_iff.1 (getD_mem (by omega))
  have gd : g.getD (0 + m' - 1) 0 ∈ goodOf x vs:=hp.mem_iff.1 (getD_mem (by omega))
  have hab:=getD_le hs (show i ≤ i + m - 1 by omega) (by omega)
  have hca:=getD_le hs (show 0 ≤ i by omega) (by omega)
  have hbd:=getD_le hs (show i + m - 1 ≤ 0 + m' - 1 by omega) (by omega)
  have hgood : ∀ y ∈ goodOf x vs,x.lo ≤ y ∧ y ≤ x.hi:=fun y hy=>by
    have:=(List.mem_filter.1 hy).2
    unfold good inB at this
    simpa using this
  have hmn : g.getD 0 0 = minL (goodOf x vs):=by
    have h1:=minL_le gc
    have h2 : minL (goodOf x vs) ∈ g:=hp.mem_iff.2 (minL_mem hv)
    obtain ⟨j,hj,ej⟩:=List.getElem_of_mem h2
    have:=getD_le hs (show 0 ≤ j by omega) hj
    have e : g.getD j 0 = g[j]:=by simp [List.getD_eq_getElem?_getD,List.getElem?_eq_getElem hj]
    omega
  have hmx : g.getD (0 + m' - 1) 0 = maxL (goodOf x vs):=by
    have h1:=le_maxL gd
    have h2 : maxL (goodOf x vs) ∈ g:=hp.mem_iff.2 (maxL_mem hv)
    obtain ⟨j,hj,ej⟩:=List.getElem_of_mem h2
    have:=getD_le hs (show j ≤ 0 + m' - 1 by omega) (by omega)
    have e : g.getD j 0 = g[j]:=by simp [List.getD_eq_getElem?_getD,List.getElem?_eq_getElem hj]
    omega
  refine ⟨_,_,_,_,e1,e2,?_,(hgood _ ga).1,(hgood _ gb).2,hab,by omega,hmn,hmx,ga,gb,gc,gd⟩
  rw [outs_eq]
  omega
end Go.Am
end
section
/- Merging two ordered lists: by sorting and leaving out what is alike,and by looking each one up. Plain lists. -/
namespace Go.Am
variable {α : Type}
structure Ordr (c : α → α → Int) : Prop where
  neg : ∀ a b,c b a = - c a b
  trans : ∀ a b d,c a b ≤ 0 → c b d ≤ 0 → c a d ≤ 0
theorem Ordr.refl {c : α → α → Int} (o : Ordr c) (a : α) : c a a = 0:=by have:=o.neg a a; omega
variable {c : α → α → Int} {q : α → α → Bool} {a b : List α}
end Go.Am
end
section
/- Records alike; copies; bins. -/
open Go
set_option linter.unusedSimpArgs false
namespace Go.Am
variable {h : Heap} {K : Post}
theorem s_CloneI (l : List Int) (hl : l.length ≤ 1000000) : ACall X f_q052 [AL l] h K = K (.own h.length l.length 0 l.length) (h ++ [.row none (l.map eI) 0]) []:=by
  refine rule ?_
  rw [c_q052 rfl]
  simp only [d_q052]
  refine ⟨_,_,_,⟨rfl,rfl,rfl⟩,?_⟩
  cases l with
  | nil=>
    simp only [AL,ARec,List.map_nil,List.length_nil,go_sem]
    exact List.take_of_length_le (by simp)
  | cons x r=>
    have hm : r.length + 1 ≤ maxSl:=by simp only [List.length_cons] at hl; unfold maxSl; omega
    simp only [AL,ARec,List.map_cons,List.length_cons,go_sem,hm]
    exact List.take_of_length_le (by simp)
end Go.Am
end
section
/- TighterIsTight returns true. -/
open Go
set_option linter.all false
namespace Go.Am
variable {h : Heap} {K : Post}
theorem s_tt1 (x : Lim) (n : Int) (b1 : Nat) (h1 : h[b1]? = some (.box [AS x.key,AI x.lo,AI x.hi,AI x.bin])) : ACall X f_q03l [AI n,.ref b1 0] h K = K (AB (!good x n)) h []:=by
  refine rule ?_
  rw [c_q03l rfl]
  by_cases h2 : n < x.lo
  · have e : good x n = false := by unfold good inB; simp; omega
    simp only [d_q03l,go_sem,h1,h2,e]
  · by_cases h3 : x.hi < n
    · have e : good x n = false := by unfold good inB; simp; omega
      simp only [d_q03l,go_sem,h1,h2,h3,e]
    · have e : good x n = true := by unfold good inB; simp; omega
      simp only [d_q03l,go_sem,h1,h2,h3,e]
theorem own_win {G : List Int} {T : List PV} : win (G.map eI ++ T) 0 G.length = G.map eI:=by unfold win; simp
theorem s_MinOwn (G : List Int) (T : List PV) (id fz N : Nat) (hN : N = (G.map eI ++ T).length) (h1 : 1 ≤ G.length) (hl : G.length ≤ 1000000) (hh : h[id]? = some (.row none (G.map eI ++ T) fz)) : ACall X f_q05q [.own id N 0 G.length] h K = K (AI (minL G)) (frz h id G.length) []:=by
  subst hN
  have e:=arg_pur (X:=X) (f:=f_q05q) (F:=a_q05q) (a:=[.own id (G.map eI ++ T).length 0 G.length]) (vs:=[.sl none (G.map eI)]) (h:=h) (h1:=frz h id G.length) (P:=K) x_q05q rfl
    (by simp [puras,pur,rd,hh,own_win]) rfl rfl frz_len
  rw [e]
  exact s_Min G h1 (by omega)
theorem s_MaxOwn (G : List Int) (T : List PV) (id fz N : Nat) (hN : N = (G.map eI ++ T).length) (h1 : 1 ≤ G.length) (hl : G.length ≤ 1000000) (hh : h[id]? = some (.row none (G.map eI ++ T) fz)) : ACall X f_q05p [.own id N 0 G.length] h K = K (AI (maxL G)) (frz h id G.length) []:=by
  subst hN
  have e:=arg_pur (X:=X) (f:=f_q05p) (F:=a_q05p) (a:=[.own id (G.map eI ++ T).length 0 G.length]) (vs:=[.sl none (G.map eI)]) (h:=h) (h1:=frz h id G.length) (P:=K) x_q05p rfl
    (by simp [puras,pur,rd,hh,own_win]) rfl rfl frz_len
  rw [e]
  exact s_Max G h1 (by omega)
theorem frzC {o0 o1 : Obj} {sh : Sh} {xs : List PV} {fz k : Nat} : frz [o0,o1,.row sh xs fz] 2 k = [o0,o1,.row sh xs (max fz k)]:=rfl
attribute [-go_sem] e_q03k_k3 d_q03k_k3
theorem tt_k3 (x : Lim) (G : List Int) (T : List PV) (most a b c d : Int) (o : Obj) (N : Nat) (hN : N = (G.map eI ++ T).length) (h1 : 1 ≤ G.length) (hl : G.length ≤ 1000000)
    (l1 : ((outs G a b : Nat) : Int) ≤ most) (l2 : x.lo ≤ a) (l3 : b ≤ x.hi) (l4 : a ≤ b) (l5 : b - a ≤ d - c) (l6 : c = minL G) (l7 : d = maxL G) (hb : ∀ n,(n = a ∨ n = b ∨ n = c ∨ n = d) → -100000 ≤ n ∧ n ≤ 100000)
    (K : Ex → St → Prop) (hK : ∀ h x,x = [] → K .ret ⟨[(2,AB true)],h,x⟩) :
    d_q03k_k3 (ACall X) X.gl (AI most) (.ref 1 0) (.own 2 N 0 G.length) (AI a) (AI b) (AB true) (AI c) (AI d) (AI (outs G a b : Nat)) [o,.box [AS x.key,AI x.lo,AI x.hi,AI x.bin],.row none (G.map eI ++ T) 0] [] K:=by
  have ba:=hb a (by simp)
  have bb:=hb b (by simp)
  have bc:=hb c (by simp)
  have bd:=hb d (by simp)
  have w1 : IntKind.i64.wrap (b - a) = b - a:=i64_wrap _ (by omega) (by omega)
  have w2 : IntKind.i64.wrap (d - c) = d - c:=i64_wrap _ (by omega) (by omega)
  have M1:=fun (o0 o1 : Obj) (fz : Nat) (K : Post)=>s_MinOwn (h:=[o0,o1,.row none (G.map eI ++ T) fz]) (K:=K) G T 2 fz N hN h1 hl rfl
  have M2:=fun (o0 o1 : Obj) (fz : Nat) (K : Post)=>s_MaxOwn (h:=[o0,o1,.row none (G.map eI ++ T) fz]) (K:=K) G T 2 fz N hN h1 hl rfl
  rw [← l6] at M1
  rw [← l7] at M2
  simp only [d_q03k_k3,go_sem,l1,l2,l3,l4,l5,w1,w2,↓M1,M1,↓M2,M2,frzC,s_ready]
  exact hK _ _ rfl
theorem outs_take_succ (v : List Int) (a b : Int) (k : Nat) (hk : k < v.length) : outs (v.take (k + 1)) a b = outs (v.take k) a b + if v[k] < a ∨ b < v[k] then 1 else 0:=by
  unfold outs
  rw [List.take_succ_eq_append_getElem hk,List.countP_append]
  simp [List.countP_cons]
theorem law_TT (L : List Int) {K : Post} : ACall X f_q03k [AL L] [] K = K (AB true) [] []:=by
  refine rule ?_
  rw [c_q03k rfl]
  obtain ⟨_,a1,⟨b1,b2,l,hl1,hl2,hlb,hlz,rfl⟩,V⟩:=(g_RightLimits (L:=L) (a:=0) (by unfold posN; omega)).hd (l:=[])
  have hl:=limOk_bd hl2 hlb
  have P1 : posN 0 a1:=by unfold posN; omega
  obtain ⟨n1,n2⟩:=rangeV_bd (u:=0) (v:=10) L a1 (by omega) (by omega)
  obtain ⟨n,hn⟩:=Int.eq_ofNat_of_zero_le n1
  obtain ⟨_,a2,⟨b3,b4,r,hr1,hr2,hrz,rfl⟩,R⟩:=(g_RightRecords (L:=L) (a:=a1 + 1) (by unfold posN; omega) l hl1 hl2 hl hlz n (by omega)).hd (l:=[])
  have P2 : posN 0 a2:=by unfold posN; omega
  have P3 : posN 0 (a2 + 1):=by unfold posN; omega
  obtain ⟨m1,m2⟩:=rangeV_bd (u:=0) (v:=4) L a2 (by omega) (by omega)
  obtain ⟨j1,j2⟩:=nextV_bd L (a2 + 1) l.length (by omega) (by omega)
  obtain ⟨j,hj⟩:=Int.eq_ofNat_of_zero_le j1
  have hjl : j < l.length:=by omega
  have hg:=map_get Lim.pv hjl
  have cx : cutP (some 4) 0 (l[j].pv) = some l[j].pv:=rfl
  have hfk:=findK_at hlz hjl
  have hD : l.getD j ⟨[],0,0,0⟩ = l[j]:=by rw [List.getD_eq_getElem?_getD,List.getElem?_eq_getElem hjl]; rfl
  have hvl:=valsAt_len j r
  have hvm:=valsAt_meas hrz j
  have S1:=fun h K=>s_Values (h:=h) (K:=K) l r l[j].key hl hr2 (by omega)
  have S2:=fun h K=>s_Tighter (h:=h) (K:=K) l r l[j].key (rangeV 0 4 L a2) hl hr2 (by omega) (by omega)
  have S3:=fun h K=>s_Tighter (h:=h) (K:=K) l r l[j].key 0 hl hr2 (by omega) (by omega)
  have S4:=fun h K=>s_errsK (h:=h) (K:=K) [0,0,0] (by simp)
  have e3 : firstErr [0,0,0] = 0:=rfl
  simp only [AL,List.map_cons,List.map_nil,e3] at S4
  have hin1 : inB 0 (rangeV 0 4 L a2) 5000 = true:=by unfold inB; simp; omega
  have hin2 : inB 0 0 5000 = true:=rfl
  have hnf : ¬ ((j : Int) < 0):=by omega
  unfold valuesV at S1
  simp only [hrz,hfk,hnf,ne_eq,not_true_eq_false,if_false,Int.toNat_natCast] at S1
  simp only [hrz,hfk,hnf,ne_eq,not_true_eq_false,if_false,Int.toNat_natCast,hin1,hin2,reduceCtorEq,hD] at S2 S3
  generalize hvs : valsAt j r = vs at *
  generalize hmo : rangeV 0 4 L a2 = most at *
  generalize hx : l[j] = x at *
  have S5:=fun (h : Heap) (K : Post)=>s_CloneI (h:=h) (K:=K) vs (by omega)
  have dl:=fun (o : Obj) (K : Post)=>DeleteFunc_int (h:=[o,.box [AS x.key,AI x.lo,AI x.hi,AI x.bin],.row none (vs.map eI) 0]) (K:=K) 2 (vs.map eI) shps_eI (by simp; omega) (by simp) (g:=f_q03l) (caps:=[.ref 1 0]) (p:=badP x)
    (fun o x1 hx1 K=>by
      obtain ⟨n,_,rfl⟩:=List.mem_map.1 hx1
      exact s_tt1 x n 1 (by simp))
  simp only [filter_bad,List.length_map,List.set_cons_succ,List.set_cons_zero] at dl
  simp only [Lim.pv] at hg cx
  have e2:=@e_q03k_k3
  by_cases hG0 : goodOf x vs = []
  · have hgl : (goodOf x vs).length = 0 := by rw [hG0]; rfl
    have ht : ∀ most,tightV (sortedOf x vs) most = (0,0,false):=fun most=>by unfold tightV; rw [if_pos (by rw [sortedOf_len]; exact hgl)]
    rw [ht] at S2 S3
    rw [hG0] at dl
    simp only [d_q03k,go_sem,↓V,V,P1,hn,↓R,R,P2,P3,hmo,hj,hjl,hg,cx,↓S1,S1,↓S2,S2,↓S3,S3,↓S4,S4,↓S5,S5,↓dl,dl,s_ready]
  · obtain ⟨a, b, c, d, t1, t2, l1, l2, l3, l4, l5, l6, l7, ga, gb, gc, gd⟩ := tight_law x vs most (by omega) hG0
    rw [t1] at S2
    rw [t2] at S3
    have hgl:=goodOf_len x vs
    have hgp : 0 < (goodOf x vs).length:=List.length_pos_iff.2 hG0
    have hgm : ∀ n ∈ goodOf x vs,-100000 ≤ n ∧ n ≤ 100000:=fun n hn=>hvm n (List.mem_filter.1 hn).1
    have hbb : ∀ n,(n = a ∨ n = b ∨ n = c ∨ n = d) → -100000 ≤ n ∧ n ≤ 100000:=fun n hn=>by
      rcases hn with rfl | rfl | rfl | rfl
      · exact hgm _ ga
      · exact hgm _ gb
      · exact hgm _ gc
      · exact hgm _ gd
    generalize goodOf x vs = G at *
    generalize hT : List.replicate (vs.length - G.length) (PV.int .i64 0) = T at *
    have hTl : T.length = vs.length - G.length:=by rw [← hT]; simp
    have hN : vs.length = (G.map eI ++ T).length:=by simp; omega
    have hg0' : ¬ ((G.length : Int) = 0):=by omega
    simp only [d_q03k,go_sem,↓V,V,P1,hn,↓R,R,P2,P3,hmo,hj,hjl,hg,cx,↓S1,S1,↓S2,S2,↓S3,S3,↓S4,S4,↓S5,S5,↓dl,dl,hg0']
    refine N_loop (fun k : Nat=>⟨[(6,AI most),(7,.ref 1 0),(8,.own 2 vs.length 0 G.length),(10,AI a),(11,AI b),(12,AB true),(14,AI c),(15,AI d),(18,AI (outs (G.take k) a b : Nat)),(92,.own 2 vs.length 0 G.length),(93,AI G.length),(94,AI k)],[strm L (a2 + 1 + 1),.box [AS x.key,AI x.lo,AI x.hi,AI x.bin],.row none (G.map eI ++ T) 0],[]⟩)
      (fun k=>k ≤ G.length) (fun k=>G.length - k) 0 rfl (by omega) ?_
    intro k hk
    rcases Nat.lt_or_ge k G.length with hlt | hge
    · have hgk : (G.map eI ++ T)[k]? = some (eI G[k]) := by rw [List.getElem?_append_left (by simpa using hlt)]; simp [hlt]
      have w1 : IntKind.i64.wrap ((k : Int) + 1) = ((k + 1 : Nat) : Int):=i64_wrap _ (by omega) (by omega)
      have hos:=outs_take_succ G a b k hlt
      have hol : outs (G.take k) a b ≤ (G.take k).length:=List.countP_le_length
      simp only [List.length_take] at hol
      generalize outs (G.take k) a b = oc at *
      generalize G[k] = y at *
      have w2 : IntKind.i64.wrap ((oc : Int) + 1) = ((oc + 1 : Nat) : Int):=i64_wrap _ (by omega) (by omega)
      have hNl : (G.map eI ++ T).length = vs.length:=hN.symm
      have hoff : G.length ≤ vs.length:=by omega
      by_cases h1 : y < a
      · rw [if_pos (.inl h1)] at hos
        simp only [go_sem,hlt,hNl,hoff,hgk,h1,w1,w2]
        exact ⟨k + 1,by rw [hos],by omega,by omega⟩
      · by_cases h2 : b < y
        · rw [if_pos (.inr h2)] at hos
          simp only [go_sem,hlt,hNl,hoff,hgk,h1,h2,w1,w2]
          exact ⟨k + 1,by rw [hos],by omega,by omega⟩
        · rw [if_neg (by omega)] at hos
          have hos : outs (G.take (k + 1)) a b = oc:=hos
          simp only [go_sem,hlt,hNl,hoff,hgk,h1,h2,w1,w2]
          exact ⟨k + 1,by rw [hos],by omega,by omega⟩
    · have ek : k = G.length := by omega
      subst ek
      rw [List.take_length]
      simp only [go_sem,Nat.lt_irrefl]
      rw [e2]
      simp only [aget,Nat.reduceEqDiff,if_true,if_false]
      refine tt_k3 x G T most a b c d _ vs.length hN hgp (by omega) l1 l2 l3 l4 l5 l6 l7 hbb _ fun h y hy=>?_
      subst hy
      simp only [go_sem]
end Go.Am
end
section
/- From a law that is true here to the model's calls at what came in. -/
open Go
namespace Go.Am
variable {P : Program}
theorem law_nil {X : Ctx} (HX : Fits P X) {f : Nat} {F : AFun} (hF : X.fn f = some F) (H : ∀ L : List Int,ACall X f [pints L] [] fun v _ _=>v = .p (.bool true)) (W : World) (hG : GInv X.gl (imm [] [] W)) :
    Calls P f #[.slice none 0 0] W fun e W'=>e = .returned (.bool true) ∧ RowKit.Below W.heap.size W W':=by
  refine (calls_of HX hF (H []) (W:=W) (vs:=[.slice none 0 0]) hG rfl (fun j y v hy hv=>?_)).mono fun e W' he=>?_
  · cases j with
    | zero=>cases hy; cases hv; exact came_nil W
    | succ j=>cases hy
  · cases e with
    | returned r=>
      obtain ⟨⟨v,h,x,μ,hk,hr⟩,hb⟩:=he
      subst hk
      exact ⟨by rw [hr.p_bool],hb⟩
    | panicked _=>exact he.elim
    | outgrown=>exact he.elim
theorem law_ints {X : Ctx} (HX : Fits P X) {f : Nat} {F : AFun} (hF : X.fn f = some F) (H : ∀ L : List Int,ACall X f [pints L] [] fun v _ _=>v = .p (.bool true)) {W : World} (hG : GInv X.gl (imm [] [] W)) {a : Addr} {len cap : Nat} {zs : List Int}
    (hl : len ≤ cap) (hz : len ≤ zs.length) (hc : ∀ i,i < zs.length → W.cell? (a.add i) = some (.int .i64 (zs.getD i 0))) :
    Calls P f #[.slice (some a) len cap] W fun e W'=>e = .returned (.bool true) ∧ RowKit.Below W.heap.size W W':=by
  refine (calls_of HX hF (H (zs.take len)) (W:=W) (vs:=[.slice (some a) len cap]) hG rfl (fun j y v hy hv=>?_)).mono fun e W' he=>?_
  · cases j with
    | zero=>
      cases hy; cases hv
      rcases Nat.eq_zero_or_pos len with h0 | h0
      · subst h0
        exact .p _ _ (.nils _ _ _)
      · exact came_ints (by simpa [Addr.add] using World.cell?_spot (hc 0 (by omega))) hl hz hc
    | succ j=>cases hy
  · cases e with
    | returned r=>
      obtain ⟨⟨v,h,x,μ,hk,hr⟩,hb⟩:=he
      subst hk
      exact ⟨by rw [hr.p_bool],hb⟩
    | panicked _=>exact he.elim
    | outgrown=>exact he.elim
end Go.Am
namespace Go.ChangeShapes
open Go.RowKit Go.WideShapes
section
variable {H : Type} {enc : TypeId × Value → H} {P : Program}
end
end Go.ChangeShapes
end
section
/- The abstract machine,part L2: the kit's contracts asv rows. -/
set_option linter.unusedSimpArgs false
set_option linter.unusedVariables false
namespace Go.Am
variable {P : Program} {gl : Nat → Option PV}
open Go.Shelf
end Go.Am
end
